/- The walk of WearPlays at what New takes. -/
import Derived.Test.YtpflhgidcjlcjaaP4
import Derived.Test.YtpflhgidcjlcjaaP5
namespace Go.Proofs.Ytpflhgidcjlcjaa
open Go.RowKit
set_option linter.unusedVariables false
set_option linter.unusedSimpArgs false

section
variable {P : Program} {ops : Array Oper} {S : World → Prop} {op : Oper} {a : Act}
theorem run_loadAt_row {w : World} {g : Nat} {t ty : TypeId} {cs : Array Value} {d : TypeDesc} (hg : Blk w g t cs) (hu : P.underlying ty = some d) (hd : (match d with | .struct _ | .array _ _ => true | _ => false) = true)
    (hi : (P.info? ty).map (·.size) = some cs.size) : (Instr.loadAt ty (.pointer (some ⟨g, 0, none⟩))).run P w = .ok (.agg cs) w := by
  have h := run_load_sub 0 cs.size hg hu hd hi (by omega)
  rw [Nat.zero_add, Array.extract_size] at h
  simp only [Instr.loadAt, Instr.sureAddr, Sem.run_bind, Sem.run_pure, Result.andThen_ok, h]
theorem yields_load_row {g : Nat} {t ty : TypeId} {cs : Array Value} {d : TypeDesc} (hw : Region.wanted op (yielded ops a.tmps) = true) (x : Operand) (ho : op.op = .load ty x)
    (hx : a.eval x = .pointer (some ⟨g, 0, none⟩)) (hS : ∀ w, S w → Blk w g t cs) (hu : P.underlying ty = some d) (hd : (match d with | .struct _ | .array _ _ => true | _ => false) = true)
    (hi : (P.info? ty).map (·.size) = some cs.size) : YieldsIf P ops S op (.agg cs) a :=
  .inl ⟨hw, fun w hw' => by
    unfold execOp
    simp only [ho, hx, run_loadAt_row (hS w hw') hu hd hi, Sem.run_bind, Sem.run_pure, Result.andThen_ok]⟩
theorem yields_move (v : Value) (hw : Region.wanted op (yielded ops a.tmps) = true) (x : Operand) (ho : op.op = .move x ∨ op.op = .assign x) (hv : a.eval x = v) : YieldsIf P ops S op v a :=
  .inl ⟨hw, fun w hw' => by
    unfold execOp
    rcases ho with ho | ho <;> simp only [ho, hv, Sem.run_bind, Sem.run_pure, Result.andThen_ok]⟩
theorem oper_store_row {w : World} {g : Nat} {t ty : TypeId} {cs cur : Array Value} {K : Act → World → Prop} {Q : Exit → Act → World → Prop} (x y : Operand) (ho : op.op = .store ty x y)
    (hx : a.eval x = .pointer (some ⟨g, 0, none⟩)) (hy : a.eval y = .agg cs) (hg : Blk w g t cur) (hi : (P.info? ty).map (·.size) = some cs.size) (hs : cs.size = cur.size)
    (h1 : ∀ v ∈ cs.toList, v.oneCell' = true) (h : ∀ w', Blk w' g t cs → Mod w w' (fun k => k = g) → K (a.put op.dst undef) w') : Oper.wp P op a w K Q := by
  unfold Oper.wp execOp
  simp only [ho, hx, hy, Instr.storeAt, Instr.sureAddr, Sem.run_bind, Sem.run_pure, Result.andThen_ok, run_store_row hg hi hs h1]
  exact h _ (hg.setRow cs) (mod_setRow w g cs)
end

/-- Where the law stands: the leveller at gl, the document's at g9. -/
structure WP (w0 W : World) (gl gw g9 : Nat) (A B : Option Addr) (cap capb : Nat) (s : Lv) : Prop where
  be : Below w0.heap.size w0 W
  lat : LAt W gl gw s
  lo : Blk W g9 40 (rcells A B (s.N + 1) cap (s.N + 1) capb s.K s.W s.M)
  at_ : Rd W 1 A (s.N + 1) (ivals (ats s))
  wo : Rd W 1 B (s.N + 1) (icells s.worn)
  oA : ∀ a, A = some a → a.block ≠ gl ∧ a.block ≠ gw ∧ a.block ≠ g9
  oB : ∀ a, B = some a → a.block ≠ gl ∧ a.block ≠ gw ∧ a.block ≠ g9
  o9 : g9 ≠ gl ∧ g9 ≠ gw
  old : w0.heap.size ≤ gl ∧ w0.heap.size ≤ gw ∧ w0.heap.size ≤ g9
theorem WP.below {w0 w w' : World} {gl gw g9 B0 : Nat} {A B : Option Addr} {cap capb : Nat} {s : Lv} (h : WP w0 w gl gw g9 A B cap capb s) (hb : Below B0 w w') (hB : w.heap.size ≤ B0) : WP w0 w' gl gw g9 A B cap capb s :=
  ⟨h.be.trans (hb.mono (Nat.le_trans h.be.size hB)), h.lat.below hb hB, h.lo.below hb (Nat.lt_of_lt_of_le h.lo.lt hB), h.at_.below hb hB, h.wo.below hb hB, h.oA, h.oB, h.o9, h.old⟩
theorem WP.drewN {w0 w : World} {gl gw g9 : Nat} {A B : Option Addr} {cap capb : Nat} {s : Lv} (h : WP w0 w gl gw g9 A B cap capb s) (q : Nat) : WP w0 (w.drewN q) gl gw g9 A B cap capb s :=
  ⟨below_drewN h.be q, h.lat.drewN q, h.lo.drewN q, h.at_.drewN q, h.wo.drewN q, h.oA, h.oB, h.o9, h.old⟩


theorem LAt.mod {w w' : World} {gl gw : Nat} {s : Lv} {S : Nat → Prop} (h : LAt w gl gw s) (m : Mod w w' S) (h1 : ¬ S gl) (h2 : ¬ S gw) : LAt w' gl gw s := ⟨m.blk h.l h1, m.blk h.w h2⟩
theorem wpList_load_row_g {P : Program} {ops : Array Oper} {rest : List Oper} {op : Oper} {a : Act} {w : World} {Q : Exit → Act → World → Prop} {g : Nat} {t ty : TypeId} {cs : Array Value} {d : TypeDesc} (hw : Region.wanted op (yielded ops a.tmps) = true) (x : Operand) (ho : op.op = .load ty x)
    (hx : a.eval x = .pointer (some ⟨g, 0, none⟩)) (hg : Blk w g t cs) (hu : P.underlying ty = some d) (hd : (match d with | .struct _ | .array _ _ => true | _ => false) = true)
    (hi : (P.info? ty).map (·.size) = some cs.size) (h : wpList P ops Q rest (a.put op.dst (.agg cs)) w) : wpList P ops Q (op :: rest) a w := by
  refine wpList_step fun K hK => ?_
  simp only [hw, if_true]
  unfold Oper.wp execOp
  simp only [ho, hx, run_loadAt_row hg hu hd hi, Sem.run_bind, Sem.run_pure, Result.andThen_ok]
  exact hK _ _ h
theorem rd_lt {w : World} {A : Option Addr} {n sz : Nat} {vs : List Value} (h : Rd w sz A n vs) (hn : 0 < n) : ∀ a, A = some a → a.block < w.heap.size := by
  rintro a rfl
  obtain ⟨g, off, e, hg, _⟩ := h.2 hn
  cases e
  exact hg
/-- Where the law stands behind a good write: the leveller is at s', the document's still at s; m's box at gm. -/
structure WS (w0 W : World) (gl gw g9 gm : Nat) (A B : Option Addr) (cap capb : Nat) (s s' : Lv) (mcs : Array Value) (b a : Nat) (X : Int) : Prop where
  be : Below w0.heap.size w0 W
  lat : LAt W gl gw s'
  lo : Blk W g9 40 (rcells A B (s.N + 1) cap (s.N + 1) capb s.K s.W s.M)
  at_ : Rd W 1 A (s.N + 1) (ivals (ats s))
  wo : Rd W 1 B (s.N + 1) (icells s.worn)
  mb : Blk W gm 28 mcs
  x : W.cell? ⟨b, a, none⟩ = some (.int .i64 X)
theorem WS.below {w0 w w' : World} {gl gw g9 gm B0 : Nat} {A B : Option Addr} {cap capb : Nat} {s s' : Lv} {mcs : Array Value} {b a : Nat} {X : Int} (h : WS w0 w gl gw g9 gm A B cap capb s s' mcs b a X) (hb : Below B0 w w') (hB : w.heap.size ≤ B0) : WS w0 w' gl gw g9 gm A B cap capb s s' mcs b a X :=
  ⟨h.be.trans (hb.mono (Nat.le_trans h.be.size hB)), h.lat.below hb hB, h.lo.below hb (Nat.lt_of_lt_of_le h.lo.lt hB), h.at_.below hb hB, h.wo.below hb hB, h.mb.below hb (Nat.lt_of_lt_of_le h.mb.lt hB), (hb.cell (p := ⟨b, a, none⟩) (Nat.lt_of_lt_of_le (cell_lt h.x) hB)).trans h.x⟩
theorem WS.alloc {w0 w : World} {gl gw g9 gm : Nat} {A B : Option Addr} {cap capb : Nat} {s s' : Lv} {mcs : Array Value} {b a : Nat} {X : Int} (h : WS w0 w gl gw g9 gm A B cap capb s s' mcs b a X) (o : Obj) : WS w0 (w.alloc o) gl gw g9 gm A B cap capb s s' mcs b a X :=
  h.below ((Below.refl w.heap.size w).alloc (Nat.le_refl _) o) (Nat.le_refl _)
theorem WS.drewN {w0 w : World} {gl gw g9 gm : Nat} {A B : Option Addr} {cap capb : Nat} {s s' : Lv} {mcs : Array Value} {b a : Nat} {X : Int} (h : WS w0 w gl gw g9 gm A B cap capb s s' mcs b a X) (q : Nat) : WS w0 (w.drewN q) gl gw g9 gm A B cap capb s s' mcs b a X :=
  ⟨below_drewN h.be q, h.lat.drewN q, h.lo.drewN q, h.at_.drewN q, h.wo.drewN q, h.mb.drewN q, h.x⟩

/-- Behind the document's write: the new leveller's box at h. -/
structure TS (w0 W : World) (gl gw g9 gm h : Nat) (A B : Option Addr) (cap capb : Nat) (A6 B6 : Option Addr) (cap6 capb6 : Nat) (s s' : Lv) (mcs : Array Value) (b a : Nat) (X : Int) : Prop where
  ws : WS w0 W gl gw g9 gm A B cap capb s s' mcs b a X
  hl : Blk W h 40 (rcells A6 B6 (s.N + 1) cap6 (s.N + 1) capb6 s.K (s.W + 1 : Nat) s'.M)
  a6 : Rd W 1 A6 (s.N + 1) (ivals (ats s'))
  b6 : Rd W 1 B6 (s.N + 1) (icells s'.worn)
  oA : ∀ a, A6 = some a → a.block ≠ gl ∧ a.block ≠ gw ∧ a.block ≠ g9
  oB : ∀ a, B6 = some a → a.block ≠ gl ∧ a.block ≠ gw ∧ a.block ≠ g9

set_option maxRecDepth 100000 in
set_option maxHeartbeats 2000000 in
theorem wp_in (n k : Nat) (A : Option Addr) (m cap : Nat) (zs : List Int) (w : World) (h1 : 1 ≤ n) (h2 : n ≤ 40) (k1 : 1 ≤ k) (k2 : k ≤ 65536) (hm : m ≤ 300) (hz : ∀ i, i < m → -9223372036854775808 ≤ zs.getD i 0 ∧ zs.getD i 0 ≤ 9223372036854775807) (hrow : Row w A m 1 (fun i => [.int .i64 (zs.getD i 0)])) :
    Calls Try.prog 5 #[.int .i64 n, .int .i64 k, .slice A m cap] w fun e w' => e = .returned (.bool true) ∧ Below w.heap.size w w' := by
  have Hrow := Lib.hid hrow
  have Hz := Lib.hid hz
  clear hrow hz
  go_enter Try.func5, Try.ntmps5
  go_wp2_with fail
  refine (awake_any _).mono ?_
  rintro e w1 ⟨rfl, hb1⟩
  have Hb1 := Lib.hid hb1
  clear hb1
  have hlt : ¬ 40 < n := by omega
  go_wp2_with fail
  refine (new_ok n k w1 h1 (by omega) k1 k2).mono ?_
  rintro e w2 ⟨gl, gw, rfl, hl, hgl, hgw, hb2⟩
  have HL2 := Lib.hid hl
  have Hb2 := Lib.hid (Hb1.out.trans (hb2.mono Hb1.out.size))
  have hgl0 : w.heap.size ≤ gl := Nat.le_trans Hb1.out.size hgl
  have hgw0 : w.heap.size ≤ gw := Nat.le_trans Hb1.out.size hgw
  clear hl hgl hgw hb2 Hb1
  go_wp2_with fail
  refine (newr_any n k w2 h1 (by omega)).mono ?_
  rintro e w3 ⟨A3, B3, cap3, rfl, hA3, hB3, hoA, hoB, hb3⟩
  have HL3 := Lib.hid (HL2.out.below hb3 (Nat.le_refl _))
  have Hb3 := Lib.hid (Hb2.out.trans (hb3.mono Hb2.out.size))
  have HA3 := Lib.hid hA3
  have HB3 := Lib.hid hB3
  have hgl3 := HL2.out.l.lt
  have hgw3 := HL2.out.w.lt
  have HoA : Hid (∀ a, A3 = some a → a.block ≠ gl ∧ a.block ≠ gw) := fun a ha => by have := hoA a ha; omega
  have HoB : Hid (∀ a, B3 = some a → a.block ≠ gl ∧ a.block ≠ gw) := fun a ha => by have := hoB a ha; omega
  clear hA3 hB3 hb3 hoA hoB Hb2 HL2
  go_wp2_with (refine wpList_store_row rfl (.tmp 9) (.tmp 73) rfl rfl rfl (Blk.new _ _ _) size40 rfl (rcells_one _ _ _ _ _ _ _ _ _) ?_)
  intro w4 hB4 hM4
  obtain ⟨g9, Hg9⟩ : ∃ g9, Hid (w3.heap.size = g9) := ⟨_, rfl⟩
  have HP0 : Hid (WP w w4 gl gw g9 A3 B3 cap3 (n + 1) (new n k)) := by
    rw [← Hg9.out]
    have hb4 : Below w3.heap.size w3 w4 := Below.mod ((Below.refl w3.heap.size w3).alloc (Nat.le_refl _) _) hM4 (by simp) (fun k _ h => by omega)
    exact ⟨Hb3.out.trans (hb4.mono Hb3.out.size), HL3.out.below hb4 (Nat.le_refl _), hB4, HA3.out.below hb4 (Nat.le_refl _), HB3.out.below hb4 (Nat.le_refl _), fun a ha => ⟨(HoA.out a ha).1, (HoA.out a ha).2, by have := rd_lt HA3.out (by omega) a ha; omega⟩, fun a ha => ⟨(HoB.out a ha).1, (HoB.out a ha).2, by have := rd_lt HB3.out (by omega) a ha; omega⟩, by have := HL3.out.l.lt; have := HL3.out.w.lt; omega, by have := Hb3.out.size; omega⟩
  rw [Hg9.out]
  clear hB4 hM4 HL3 Hb3 HA3 HB3 HoA HoB
  go_wp2_with fail
  go_loopw [10] (fun v10 wr => ∃ (i : Nat) (s : Lv) (A B : Option Addr) (cap capb : Nat), v10 = .int .i64 i ∧ i ≤ m ∧ WP w wr gl gw g9 A B cap capb s ∧ Fine s ∧ s.N = n ∧ s.W ≤ i) (fun v10 _ => m - (intOf v10).toNat)
  case atStart => exact ⟨0, new n k, A3, B3, cap3, n + 1, rfl, Nat.zero_le _, HP0.out, new_fine n k h1 (by omega) k1 k2, rfl, Nat.le_refl _⟩
  case round =>
    clear HP0
    obtain ⟨i, s, A5, B5, cap5, capb5, rfl, hi, hP, hF, hN, hW⟩ := hrel
    have HP := Lib.hid hP
    have HF := Lib.hid hF
    have HN := Lib.hid hN
    clear hP hF hN
    by_cases hlt : i < m
    · obtain ⟨b, off, hA, hbl, hcell⟩ := Hrow.out (by omega)
      subst hA
      have hz0 := Hz.out i hlt
      have x0 : wr.cell? ⟨b, off + i, none⟩ = some (.int .i64 (zs.getD i 0)) := (HP.out.be.cell (p := ⟨b, off + i, none⟩) hbl).trans (by have := hcell i hlt 0 _ rfl; rwa [Nat.mul_one, Nat.add_zero] at this)
      clear hcell
      generalize zs.getD i 0 = x at *
      by_cases hx : x < 0 ∨ (n : Int) ≤ x
      · go_wp2_with fail
        refine (write_no gl gw x s wr HF.out (by rw [HN.out]; exact hx) HP.out.lat).mono ?_
        rintro e w5 ⟨rfl, hb5⟩
        have HP5 := Lib.hid (HP.out.below hb5 (Nat.le_refl _))
        have x1 : w5.cell? ⟨b, off + i, none⟩ = some (.int .i64 x) := (HP5.out.be.cell (p := ⟨b, off + i, none⟩) hbl).trans ((HP.out.be.cell (p := ⟨b, off + i, none⟩) hbl).symm.trans x0)
        have hbl5 : b < w5.heap.size := cell_lt x1
        clear hb5 HP x0
        have hx3 : x < 0 ∨ (0 ≤ x ∧ (n : Int) ≤ x) := by omega
        clear hx
        rcases hx3 with hx | ⟨hx, hx2⟩
        all_goals
          go_wp2_with fail
          exact ⟨⟨i + 1, s, A5, B5, cap5, capb5, by go_num, by omega, HP5.out.below ((Below.refl w5.heap.size w5).alloc (Nat.le_refl _) _) (Nat.le_refl _), HF.out, HN.out, by omega⟩, by simp [intOf]; omega⟩
      · obtain ⟨X, rfl⟩ : ∃ X : Nat, x = X := ⟨x.toNat, by omega⟩
        have hXn : X < n := by omega
        clear hx
        go_wp2_with fail
        refine (write_yes gl gw X s wr HF.out (by omega) (by rw [HN.out]; exact hXn) HP.out.lat).mono ?_
        rintro e w5 ⟨rfl, hl5, hm5⟩
        have HF5 := Lib.hid (HF.out.wr X)
        have hgl := HP.out.old
        have HM5 := Lib.hid hm5
        have HL5 := Lib.hid hl5
        have H95 := Lib.hid (hm5.blk HP.out.lo (fun h => by have := HP.out.o9; omega))
        have HA5 := Lib.hid (HP.out.at_.mod hm5 (fun a ha h => by have := HP.out.oA a ha; omega))
        have HB5 := Lib.hid (HP.out.wo.mod hm5 (fun a ha h => by have := HP.out.oB a ha; omega))
        have Hb5 := Lib.hid (Below.mod HP.out.be hm5 HP.out.be.size (fun k _ h => by omega))
        have x1 : w5.cell? ⟨b, off + i, none⟩ = some (.int .i64 (X : Nat)) := (Hb5.out.cell (p := ⟨b, off + i, none⟩) hbl).trans ((HP.out.be.cell (p := ⟨b, off + i, none⟩) hbl).symm.trans x0)
        have hbl5 : b < w5.heap.size := cell_lt x1
        clear hl5 hm5 x0
        obtain ⟨f, g, mv, hsd, hsr⟩ : ∃ (f g : Int) (mv : Bool), said s = .tuple #[.agg #[.int .i64 f, .int .i64 g], .bool mv, .bool true] ∧ ∀ v, saidr s v = .tuple #[v, .int .i64 f, .int .i64 g, .bool mv] := by
          by_cases h : mvd s
          · exact ⟨_, _, _, if_pos h, fun v => if_pos h⟩
          · exact ⟨_, _, _, if_neg h, fun v => if_neg h⟩
        obtain ⟨s', Hs'⟩ : ∃ s', Hid (Go.Proofs.Ytpflhgidcjlcjaa.wr s X = s') := ⟨_, rfl⟩
        rw [Hs'.out] at HF5 HL5
        have HS' : Hid (s'.N = s.N ∧ s'.K = s.K ∧ s'.W = s.W + 1) := by rw [← Hs'.out]; exact ⟨wr_N s X, wr_K s X, wr_W s X⟩
        rw [hsd]
        have Hsr := Lib.hid hsr
        clear hsd hsr
        go_wp2_with fail
        have HW := Lib.hid (WS.mk (w0 := w) (((Below.refl w5.heap.size w5).alloc (Nat.le_refl _) (.cells #[.int .i64 f, .int .i64 g] 28)) |> fun h => Hb5.out.trans (h.mono Hb5.out.size)) (HL5.out.below ((Below.refl w5.heap.size w5).alloc (Nat.le_refl _) (.cells #[.int .i64 f, .int .i64 g] 28)) (Nat.le_refl _)) (H95.out.alloc (.cells #[.int .i64 f, .int .i64 g] 28)) (HA5.out.alloc (.cells #[.int .i64 f, .int .i64 g] 28)) (HB5.out.alloc (.cells #[.int .i64 f, .int .i64 g] 28)) (Blk.new w5 28 _) (((Below.refl w5.heap.size w5).alloc (Nat.le_refl _) (.cells #[.int .i64 f, .int .i64 g] 28)).cell (p := ⟨b, off + i, none⟩) hbl5 |>.trans x1))
        obtain ⟨gm, Hgm⟩ : ∃ gm, Hid (w5.heap.size = gm) := ⟨_, rfl⟩
        have hgm := Hgm.out
        have hl1 := HL5.out.l.lt
        have hl2 := HL5.out.w.lt
        have hl3 := H95.out.lt
        rw [Hgm.out] at HW ⊢
        refine wp_region_noPanic ?_
        refine wp_region_held_drew (S := fun W => WS w W gl gw g9 gm A5 B5 cap5 capb5 s s' #[.int .i64 f, .int .i64 g] b (off + i) X) (by kernel_rfl) (HW.out.drewN 1) (fun hHeld => ?_)
        refine wpAnyH_take (i := 0) (oi := _) (v := _) rfl (by kernel_rfl) (by kernel_rfl) (by kernel_rfl) (fun _ _ _ h => h) (yields_load_row (by rfl) _ rfl rfl (fun w' h => WS.lo h) Try.underlying40 rfl size40) hHeld ?_
        try simp only [Act.put, List.setIfInBounds_toArray, List.set_cons_zero, List.set_cons_succ, List.getElem_toArray, List.getElem_cons_zero, List.getElem_cons_succ]
        refine wpAnyH_take (i := 1) (oi := _) (v := _) rfl (by kernel_rfl) (by kernel_rfl) (by kernel_rfl) (fun _ _ _ h => h) (yields_move _ (by rfl) _ (.inl rfl) rfl) hHeld ?_
        try simp only [Act.put, List.setIfInBounds_toArray, List.set_cons_zero, List.set_cons_succ, List.getElem_toArray, List.getElem_cons_zero, List.getElem_cons_succ]
        refine wpAnyH_take (i := 2) (oi := _) (v := _) rfl (by kernel_rfl) (by kernel_rfl) (by kernel_rfl) (fun _ _ _ h => h) (yields_move _ (by rfl) _ (.inl rfl) rfl) hHeld ?_
        try simp only [Act.put, List.setIfInBounds_toArray, List.set_cons_zero, List.set_cons_succ, List.getElem_toArray, List.getElem_cons_zero, List.getElem_cons_succ]
        refine wpAnyH_take (i := 3) (oi := _) (v := .pointer (some ⟨b, off + i, none⟩)) rfl (by kernel_rfl) (by kernel_rfl) (by kernel_rfl) (fun _ _ _ h => h) (Or.inl ⟨by rfl, (by intro w hSw; go_simp; try with_reducible rfl)⟩) hHeld ?_
        try simp only [Act.put, List.setIfInBounds_toArray, List.set_cons_zero, List.set_cons_succ, List.getElem_toArray, List.getElem_cons_zero, List.getElem_cons_succ]
        refine wpAnyH_take (i := 4) (oi := _) (v := .int .i64 X) rfl (by kernel_rfl) (by kernel_rfl) (by kernel_rfl) (fun _ _ _ h => h) (Or.inl ⟨by rfl, (by intro w hSw; have hx := hSw.x; go_simp; try with_reducible rfl)⟩) hHeld ?_
        try simp only [Act.put, List.setIfInBounds_toArray, List.set_cons_zero, List.set_cons_succ, List.getElem_toArray, List.getElem_cons_zero, List.getElem_cons_succ]
        refine wpAnyH_ready (rs := [5, 11]) (by kernel_rfl) (by simp) ?_
        refine AllReadyH.cons (o := _) rfl (fun K1 hK1 => ?_) (AllReadyH.cons (o := _) rfl (fun K1 hK1 => ?_) AllReadyH.nil)
        · go_simp
          refine (writer_any A5 B5 cap5 capb5 X s _ HF.out (by have := HN.out; omega) (by rw [HN.out]; exact hXn) hHeld.at_ hHeld.wo).mono ?_
          rintro e w6 ⟨A6, B6, cap6, capb6, rfl, hA6, hB6, hoA6, hoB6, hb6⟩
          rw [Hsr.out, Hs'.out]
          rw [Hs'.out] at hA6 hB6
          have HX6 := Lib.hid (hHeld.below hb6 (Nat.le_refl _))
          go_wp2_with fail
          refine hK1.out _ _ HX6.out (fun hHeld => ?_)
          clear hK1 K1
          try simp only [Act.put, List.setIfInBounds_toArray, List.set_cons_zero, List.set_cons_succ, List.getElem_toArray, List.getElem_cons_zero, List.getElem_cons_succ]
          refine wpAnyH_take (i := 6) (oi := _) (v := _) rfl (by kernel_rfl) (by kernel_rfl) (by kernel_rfl) (fun _ _ _ h => h) (yields_move _ (by rfl) _ (.inl rfl) rfl) hHeld ?_
          try simp only [Act.put, List.setIfInBounds_toArray, List.set_cons_zero, List.set_cons_succ, List.getElem_toArray, List.getElem_cons_zero, List.getElem_cons_succ]
          refine wpAnyH_take (i := 7) (oi := _) (v := _) rfl (by kernel_rfl) (by kernel_rfl) (by kernel_rfl) (fun _ _ _ h => h) (Or.inl ⟨by rfl, (by intro w hSw; go_simp; try with_reducible rfl)⟩) hHeld ?_
          try simp only [Act.put, List.setIfInBounds_toArray, List.set_cons_zero, List.set_cons_succ, List.getElem_toArray, List.getElem_cons_zero, List.getElem_cons_succ]
          refine wpAnyH_take (i := 8) (oi := _) (v := _) rfl (by kernel_rfl) (by kernel_rfl) (by kernel_rfl) (fun _ _ _ h => h) (Or.inl ⟨by rfl, (by intro w hSw; go_simp; try with_reducible rfl)⟩) hHeld ?_
          try simp only [Act.put, List.setIfInBounds_toArray, List.set_cons_zero, List.set_cons_succ, List.getElem_toArray, List.getElem_cons_zero, List.getElem_cons_succ]
          refine wpAnyH_take (i := 9) (oi := _) (v := _) rfl (by kernel_rfl) (by kernel_rfl) (by kernel_rfl) (fun _ _ _ h => h) (Or.inl ⟨by rfl, (by intro w hSw; go_simp; try with_reducible rfl)⟩) hHeld ?_
          try simp only [Act.put, List.setIfInBounds_toArray, List.set_cons_zero, List.set_cons_succ, List.getElem_toArray, List.getElem_cons_zero, List.getElem_cons_succ]
          refine wpAnyH_take (i := 10) (oi := _) (v := _) rfl (by kernel_rfl) (by kernel_rfl) (by kernel_rfl) (fun _ _ _ h => h) (Or.inl ⟨by rfl, (by intro w hSw; go_simp; try with_reducible rfl)⟩) hHeld ?_
          try simp only [Act.put, List.setIfInBounds_toArray, List.set_cons_zero, List.set_cons_succ, List.getElem_toArray, List.getElem_cons_zero, List.getElem_cons_succ]
          refine wpAnyH_ready (rs := [11]) (by kernel_rfl) (by simp) ?_
          refine AllReadyH.cons (o := _) rfl (fun K1 hK1 => ?_) AllReadyH.nil
          go_simp
          refine hK1.out _ _ (hHeld.alloc _) (fun hHeld => ?_)
          clear hK1 K1
          try simp only [Act.put, List.setIfInBounds_toArray, List.set_cons_zero, List.set_cons_succ, List.getElem_toArray, List.getElem_cons_zero, List.getElem_cons_succ]
          refine wpAnyH_ready (rs := [12]) (by kernel_rfl) (by simp) ?_
          refine AllReadyH.cons (o := _) rfl (fun K1 hK1 => ?_) AllReadyH.nil
          rw [if_pos (by rfl)]
          refine oper_store_row (.tmp 14) (.tmp 119) rfl rfl rfl (Blk.new _ _ _) size40 rfl (rcells_one _ _ _ _ _ _ _ _ _) ?_
          intro w7 hB7 hM7
          have HT : Hid (TS w w7 gl gw g9 gm w6.heap.size A5 B5 cap5 capb5 A6 B6 cap6 capb6 s s' #[.int .i64 f, .int .i64 g] b (off + i) X) :=
            ⟨HX6.out.below (Below.mod ((Below.refl w6.heap.size w6).alloc (Nat.le_refl _) _) hM7 (by simp) (fun k _ e => by omega)) (Nat.le_refl _), hB7, (hA6.alloc _).mod hM7 (fun a ha e => by have := rd_lt hA6 (by omega) a ha; omega), (hB6.alloc _).mod hM7 (fun a ha e => by have := rd_lt hB6 (by omega) a ha; omega),
             fun a ha => by
               rcases hoA6 a ha with h | h
               · simp at h; omega
               · exact HP.out.oA a h,
             fun a ha => by have h := hoB6 a ha; simp at h; omega⟩
          refine hK1.out _ _ HT.out.ws (fun hHeld => ?_)
          clear hK1 K1
          try simp only [Act.put, List.setIfInBounds_toArray, List.set_cons_zero, List.set_cons_succ, List.getElem_toArray, List.getElem_cons_zero, List.getElem_cons_succ]
          refine wpAnyH_take (i := 13) (oi := _) (v := .int .i64 f) rfl (by kernel_rfl) (by kernel_rfl) (by kernel_rfl) (fun _ _ _ h => h) (yields_move _ (by rfl) _ (.inr rfl) rfl) hHeld ?_
          try simp only [Act.put, List.setIfInBounds_toArray, List.set_cons_zero, List.set_cons_succ, List.getElem_toArray, List.getElem_cons_zero, List.getElem_cons_succ]
          refine wpAnyH_take (i := 14) (oi := _) (v := .int .i64 g) rfl (by kernel_rfl) (by kernel_rfl) (by kernel_rfl) (fun _ _ _ h => h) (yields_move _ (by rfl) _ (.inr rfl) rfl) hHeld ?_
          try simp only [Act.put, List.setIfInBounds_toArray, List.set_cons_zero, List.set_cons_succ, List.getElem_toArray, List.getElem_cons_zero, List.getElem_cons_succ]
          refine wpAnyH_take (i := 15) (oi := _) (v := .bool mv) rfl (by kernel_rfl) (by kernel_rfl) (by kernel_rfl) (fun _ _ _ h => h) (yields_move _ (by rfl) _ (.inr rfl) rfl) hHeld ?_
          try simp only [Act.put, List.setIfInBounds_toArray, List.set_cons_zero, List.set_cons_succ, List.getElem_toArray, List.getElem_cons_zero, List.getElem_cons_succ]
          refine wpAnyH_done (by kernel_rfl) ?_ _
          refine NoPanic.normal ?_
          clear hHeld
          obtain ⟨h, Hh⟩ : ∃ h, Hid (w6.heap.size = h) := ⟨_, rfl⟩
          rw [Hh.out] at HT ⊢
          clear hA6 hB6 hoA6 hoB6 hb6 HX6 hB7 hM7
          go_wp2_with (first
            | (refine wpList_load_row rfl 40 (.tmp 14) rfl h rfl 40 _ (0, 0) _ HT.out.hl Try.underlying40 rfl size40 ?_)
            | (refine wpList_store_row rfl (.tmp 9) (.tmp 123) rfl rfl rfl HT.out.ws.lo size40 rfl (rcells_one _ _ _ _ _ _ _ _ _) ?_))
          intro w8 hB8 hM8
          have hb8 : Blk w8 g9 40 (rcells A6 B6 (s'.N + 1) cap6 (s'.N + 1) capb6 s'.K s'.W s'.M) := by rw [HS'.out.1, HS'.out.2.1, HS'.out.2.2]; exact hB8
          have ho := HP.out.old
          have HP8 : Hid (WP w w8 gl gw g9 A6 B6 cap6 capb6 s') :=
            ⟨Below.mod HT.out.ws.be hM8 HT.out.ws.be.size (fun k _ e => by omega), HT.out.ws.lat.mod hM8 (fun e => by have := HP.out.o9; omega) (fun e => by have := HP.out.o9; omega), hb8, by rw [HS'.out.1]; exact HT.out.a6.mod hM8 (fun a ha e => (HT.out.oA a ha).2.2 e), by rw [HS'.out.1]; exact HT.out.b6.mod hM8 (fun a ha e => (HT.out.oB a ha).2.2 e), HT.out.oA, HT.out.oB, HP.out.o9, HP.out.old⟩
          have HM8 := Lib.hid (hM8.blk HT.out.ws.mb (show ¬ gm = g9 by omega))
          have m0 := HM8.out.cell 0
          have m1 := HM8.out.cell 1
          simp only [List.getElem?_toArray, List.getElem?_cons_zero, List.getElem?_cons_succ] at m0 m1
          clear hb8 hB8 hM8 HT
          have hmvb : (mv != mv) = false := by simp
          go_wp2_with (refine wpList_load_row_g (by rfl) (.tmp 9) rfl rfl HP8.out.lo Try.underlying40 rfl size40 ?_)
          refine (shows_any gl gw A6 B6 cap6 capb6 s' w8 HF5.out HP8.out.lat HP8.out.at_ HP8.out.wo).mono ?_
          rintro e w9 ⟨rfl, hb9⟩
          have HP9 := Lib.hid (HP8.out.below hb9 (Nat.le_refl _))
          clear hb9 HP8 HM8 m0 m1
          go_wp2_with fail
          exact ⟨⟨i + 1, s', A6, B6, cap6, capb6, by go_num, by omega, HP9.out, HF5.out, by rw [HS'.out.1, HN.out], by rw [HS'.out.2.2]; omega⟩, by simp [intOf]; omega⟩
        · go_simp
          refine hK1.out _ _ (hHeld.alloc _) (fun hHeld => ?_)
          clear hK1 K1
          try simp only [Act.put, List.setIfInBounds_toArray, List.set_cons_zero, List.set_cons_succ, List.getElem_toArray, List.getElem_cons_zero, List.getElem_cons_succ]
          refine wpAnyH_ready (rs := [5]) (by kernel_rfl) (by simp) ?_
          refine AllReadyH.cons (o := _) rfl (fun K1 hK1 => ?_) AllReadyH.nil
          go_simp
          refine (writer_any A5 B5 cap5 capb5 X s _ HF.out (by have := HN.out; omega) (by rw [HN.out]; exact hXn) hHeld.at_ hHeld.wo).mono ?_
          rintro e w6 ⟨A6, B6, cap6, capb6, rfl, hA6, hB6, hoA6, hoB6, hb6⟩
          rw [Hsr.out, Hs'.out]
          rw [Hs'.out] at hA6 hB6
          have HX6 := Lib.hid (hHeld.below hb6 (Nat.le_refl _))
          have HZ : Hid (Blk w6 (gm + 1) 40 (rcells none none 0 0 0 0 0 0 0)) := by
            refine Blk.below (Blk.conv (g := gm + 1) ?_ rfl) hb6 (by simp; omega)
            have hn := Blk.new (w5.alloc (.cells #[.int .i64 f, .int .i64 g] 28)) 40 (rcells none none 0 0 0 0 0 0 0)
            simp [Hgm.out] at hn
            exact hn
          go_wp2_with fail
          refine hK1.out _ _ HX6.out (fun hHeld => ?_)
          clear hK1 K1
          try simp only [Act.put, List.setIfInBounds_toArray, List.set_cons_zero, List.set_cons_succ, List.getElem_toArray, List.getElem_cons_zero, List.getElem_cons_succ]
          refine wpAnyH_take (i := 6) (oi := _) (v := _) rfl (by kernel_rfl) (by kernel_rfl) (by kernel_rfl) (fun _ _ _ h => h) (yields_move _ (by rfl) _ (.inl rfl) rfl) hHeld ?_
          try simp only [Act.put, List.setIfInBounds_toArray, List.set_cons_zero, List.set_cons_succ, List.getElem_toArray, List.getElem_cons_zero, List.getElem_cons_succ]
          refine wpAnyH_take (i := 7) (oi := _) (v := _) rfl (by kernel_rfl) (by kernel_rfl) (by kernel_rfl) (fun _ _ _ h => h) (Or.inl ⟨by rfl, (by intro w hSw; go_simp; try with_reducible rfl)⟩) hHeld ?_
          try simp only [Act.put, List.setIfInBounds_toArray, List.set_cons_zero, List.set_cons_succ, List.getElem_toArray, List.getElem_cons_zero, List.getElem_cons_succ]
          refine wpAnyH_take (i := 8) (oi := _) (v := _) rfl (by kernel_rfl) (by kernel_rfl) (by kernel_rfl) (fun _ _ _ h => h) (Or.inl ⟨by rfl, (by intro w hSw; go_simp; try with_reducible rfl)⟩) hHeld ?_
          try simp only [Act.put, List.setIfInBounds_toArray, List.set_cons_zero, List.set_cons_succ, List.getElem_toArray, List.getElem_cons_zero, List.getElem_cons_succ]
          refine wpAnyH_take (i := 9) (oi := _) (v := _) rfl (by kernel_rfl) (by kernel_rfl) (by kernel_rfl) (fun _ _ _ h => h) (Or.inl ⟨by rfl, (by intro w hSw; go_simp; try with_reducible rfl)⟩) hHeld ?_
          try simp only [Act.put, List.setIfInBounds_toArray, List.set_cons_zero, List.set_cons_succ, List.getElem_toArray, List.getElem_cons_zero, List.getElem_cons_succ]
          refine wpAnyH_take (i := 10) (oi := _) (v := _) rfl (by kernel_rfl) (by kernel_rfl) (by kernel_rfl) (fun _ _ _ h => h) (Or.inl ⟨by rfl, (by intro w hSw; go_simp; try with_reducible rfl)⟩) hHeld ?_
          try simp only [Act.put, List.setIfInBounds_toArray, List.set_cons_zero, List.set_cons_succ, List.getElem_toArray, List.getElem_cons_zero, List.getElem_cons_succ]
          refine wpAnyH_ready (rs := [12]) (by kernel_rfl) (by simp) ?_
          refine AllReadyH.cons (o := _) rfl (fun K1 hK1 => ?_) AllReadyH.nil
          rw [if_pos (by rfl)]
          refine oper_store_row (.tmp 14) (.tmp 119) rfl rfl rfl HZ.out size40 rfl (rcells_one _ _ _ _ _ _ _ _ _) ?_
          intro w7 hB7 hM7
          have hsz : (w5.alloc (.cells #[.int .i64 f, .int .i64 g] 28)).heap.size = gm + 1 := by simp; omega
          have hb7 : Below (gm + 1) (w5.alloc (.cells #[.int .i64 f, .int .i64 g] 28)) w7 := by
            refine Below.mod ((below_drewN ((Below.refl (gm + 1) (w5.alloc (.cells #[.int .i64 f, .int .i64 g] 28))).alloc (by omega) (.cells (rcells none none 0 0 0 0 0 0 0) 40)) 1).trans (hb6.mono ?_)) hM7 (by have := hb6.size; simp at this; omega) (fun k _ e => by omega)
            simp; omega
          have HT : Hid (TS w w7 gl gw g9 gm (gm + 1) A5 B5 cap5 capb5 A6 B6 cap6 capb6 s s' #[.int .i64 f, .int .i64 g] b (off + i) X) :=
            ⟨HW.out.below hb7 (by omega), hB7, hA6.mod hM7 (fun a ha e => by
               rcases hoA6 a ha with h | h
               · simp at h; omega
               · have := rd_lt HA5.out (by omega) a h; omega), hB6.mod hM7 (fun a ha e => by have h := hoB6 a ha; simp at h; omega),
             fun a ha => by
               rcases hoA6 a ha with h | h
               · simp at h; omega
               · exact HP.out.oA a h,
             fun a ha => by have h := hoB6 a ha; simp at h; omega⟩
          refine hK1.out _ _ HT.out.ws (fun hHeld => ?_)
          clear hK1 K1
          try simp only [Act.put, List.setIfInBounds_toArray, List.set_cons_zero, List.set_cons_succ, List.getElem_toArray, List.getElem_cons_zero, List.getElem_cons_succ]
          refine wpAnyH_take (i := 13) (oi := _) (v := .int .i64 f) rfl (by kernel_rfl) (by kernel_rfl) (by kernel_rfl) (fun _ _ _ h => h) (yields_move _ (by rfl) _ (.inr rfl) rfl) hHeld ?_
          try simp only [Act.put, List.setIfInBounds_toArray, List.set_cons_zero, List.set_cons_succ, List.getElem_toArray, List.getElem_cons_zero, List.getElem_cons_succ]
          refine wpAnyH_take (i := 14) (oi := _) (v := .int .i64 g) rfl (by kernel_rfl) (by kernel_rfl) (by kernel_rfl) (fun _ _ _ h => h) (yields_move _ (by rfl) _ (.inr rfl) rfl) hHeld ?_
          try simp only [Act.put, List.setIfInBounds_toArray, List.set_cons_zero, List.set_cons_succ, List.getElem_toArray, List.getElem_cons_zero, List.getElem_cons_succ]
          refine wpAnyH_take (i := 15) (oi := _) (v := .bool mv) rfl (by kernel_rfl) (by kernel_rfl) (by kernel_rfl) (fun _ _ _ h => h) (yields_move _ (by rfl) _ (.inr rfl) rfl) hHeld ?_
          try simp only [Act.put, List.setIfInBounds_toArray, List.set_cons_zero, List.set_cons_succ, List.getElem_toArray, List.getElem_cons_zero, List.getElem_cons_succ]
          refine wpAnyH_done (by kernel_rfl) ?_ _
          refine NoPanic.normal ?_
          clear hHeld
          obtain ⟨h, Hh⟩ : ∃ h, Hid (gm + 1 = h) := ⟨_, rfl⟩
          rw [Hh.out] at HT ⊢
          clear hA6 hB6 hoA6 hoB6 hb6 HX6 hB7 hM7 HZ
          go_wp2_with (first
            | (refine wpList_load_row rfl 40 (.tmp 14) rfl h rfl 40 _ (0, 0) _ HT.out.hl Try.underlying40 rfl size40 ?_)
            | (refine wpList_store_row rfl (.tmp 9) (.tmp 123) rfl rfl rfl HT.out.ws.lo size40 rfl (rcells_one _ _ _ _ _ _ _ _ _) ?_))
          intro w8 hB8 hM8
          have hb8 : Blk w8 g9 40 (rcells A6 B6 (s'.N + 1) cap6 (s'.N + 1) capb6 s'.K s'.W s'.M) := by rw [HS'.out.1, HS'.out.2.1, HS'.out.2.2]; exact hB8
          have ho := HP.out.old
          have HP8 : Hid (WP w w8 gl gw g9 A6 B6 cap6 capb6 s') :=
            ⟨Below.mod HT.out.ws.be hM8 HT.out.ws.be.size (fun k _ e => by omega), HT.out.ws.lat.mod hM8 (fun e => by have := HP.out.o9; omega) (fun e => by have := HP.out.o9; omega), hb8, by rw [HS'.out.1]; exact HT.out.a6.mod hM8 (fun a ha e => (HT.out.oA a ha).2.2 e), by rw [HS'.out.1]; exact HT.out.b6.mod hM8 (fun a ha e => (HT.out.oB a ha).2.2 e), HT.out.oA, HT.out.oB, HP.out.o9, HP.out.old⟩
          have HM8 := Lib.hid (hM8.blk HT.out.ws.mb (show ¬ gm = g9 by omega))
          have m0 := HM8.out.cell 0
          have m1 := HM8.out.cell 1
          simp only [List.getElem?_toArray, List.getElem?_cons_zero, List.getElem?_cons_succ] at m0 m1
          clear hb8 hB8 hM8 HT
          have hmvb : (mv != mv) = false := by simp
          go_wp2_with (refine wpList_load_row_g (by rfl) (.tmp 9) rfl rfl HP8.out.lo Try.underlying40 rfl size40 ?_)
          refine (shows_any gl gw A6 B6 cap6 capb6 s' w8 HF5.out HP8.out.lat HP8.out.at_ HP8.out.wo).mono ?_
          rintro e w9 ⟨rfl, hb9⟩
          have HP9 := Lib.hid (HP8.out.below hb9 (Nat.le_refl _))
          clear hb9 HP8 HM8 m0 m1
          go_wp2_with fail
          exact ⟨⟨i + 1, s', A6, B6, cap6, capb6, by go_num, by omega, HP9.out, HF5.out, by rw [HS'.out.1, HN.out], by rw [HS'.out.2.2]; omega⟩, by simp [intOf]; omega⟩
    · obtain rfl : i = m := by omega
      have hlt2 : ¬ i < i := by omega
      go_wp2_with (refine wpList_load_row rfl 40 (.tmp 9) rfl g9 rfl 40 _ (0, 0) _ HP.out.lo Try.underlying40 rfl size40 ?_)
      refine (shows_any gl gw A5 B5 cap5 capb5 s wr HF.out HP.out.lat HP.out.at_ HP.out.wo).mono ?_
      rintro e w6 ⟨rfl, hb6⟩
      have HP6 := Lib.hid (HP.out.below hb6 (Nat.le_refl _))
      clear hb6 HP
      go_wp2_with fail
      refine (place_noq gl gw (-1) s w6 HF.out (.inl (by omega)) HP6.out.lat).mono ?_
      rintro e w7 ⟨rfl, q7, hq7⟩
      have HP7 : Hid (WP w w7 gl gw g9 A5 B5 cap5 capb5 s) := by rw [hq7]; exact HP6.out.drewN q7
      clear hq7 HP6
      go_wp2_with fail
      refine (place_noq gl gw n s w7 HF.out (.inr (by rw [HN.out]; omega)) HP7.out.lat).mono ?_
      rintro e w8 ⟨rfl, q8, hq8⟩
      have HP8 : Hid (WP w w8 gl gw g9 A5 B5 cap5 capb5 s) := by rw [hq8]; exact HP7.out.drewN q8
      clear hq8 HP7
      go_wp2_with fail
      refine (line_no gl gw (-1) s w8 HF.out (.inl (by omega)) HP8.out.lat).mono ?_
      rintro e w9 ⟨rfl, q9, hq9⟩
      have HP9 : Hid (WP w w9 gl gw g9 A5 B5 cap5 capb5 s) := by rw [hq9]; exact HP8.out.drewN q9
      clear hq9 HP8
      go_wp2_with fail
      refine (line_no gl gw ((n : Int) + 1) s w9 HF.out (.inr (by rw [HN.out]; omega)) HP9.out.lat).mono ?_
      rintro e w10 ⟨rfl, q10, hq10⟩
      have HP10 : Hid (WP w w10 gl gw g9 A5 B5 cap5 capb5 s) := by rw [hq10]; exact HP9.out.drewN q10
      clear hq10 HP9
      go_wp2_with fail
      go_ret
      exact ⟨rfl, HP10.out.be⟩
end Go.Proofs.Ytpflhgidcjlcjaa
