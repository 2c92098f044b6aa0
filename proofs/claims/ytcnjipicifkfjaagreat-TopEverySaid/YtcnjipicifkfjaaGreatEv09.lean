/- regs: All. -/
import Derived.Test.YtcnjipicifkfjaaGreatEv08
import Derived.Test.YtcnjipicifkfjaaGreatEv02
import Derived.Test.YtcnjipicifkfjaaGreatEv05

namespace Go.Proofs.YtcnjipicifkfjaaGreat
open Go.RowKit
set_option linter.unusedVariables false
set_option linter.unusedSimpArgs false

/-- What is gathered of numbers: the row that the call owns. -/
def GotN (l : List Nat) (B : Nat) (w0 : World) (v : Value) (wr : World) : Prop :=
  ∃ A n cap, v = .slice A n cap ∧ n = l.length ∧ Own wr B 3 1 A n cap (ncells l) ∧ Below B w0 wr ∧ B ≤ wr.heap.size
theorem GotN.same {l l' : List Nat} {B : Nat} {w0 wr : World} {v : Value} (h : GotN l B w0 v wr) (e : l' = l) : GotN l' B w0 v wr := by
  rw [e]; exact h
theorem ncells_snoc (l : List Nat) (x : Nat) : ncells (l ++ [x]) = ncells l ++ [.int .i64 (x : Nat)] := by simp [ncells]
/-- Where the first k registers lead that lead somewhere. -/
def alls (fs : List Nat) : Nat → List Nat
  | 0 => []
  | k + 1 => if fs.getD k 0 = 0 then alls fs k else alls fs k ++ [fs.getD k 0]
theorem alls_le (fs : List Nat) (k : Nat) : (alls fs k).length ≤ k := by
  induction k with
  | zero => exact Nat.le_refl _
  | succ k ih =>
    rw [alls]
    split
    · omega
    · rw [List.length_append]; simp; omega
theorem size3 : (Tryz.prog.info? 3).map (·.size) = some 1 := by kernel_rfl
theorem size81 : (Tryz.prog.info? 81).map (·.size) = some 32 := by kernel_rfl
set_option maxRecDepth 100000 in
set_option maxHeartbeats 1000000 in
theorem rall_any (g : Nat) (t : TypeId) (cs : Array Value) (rg : List Nat) (w : World) (hf : rg.length = 32) (hB : Blk w g t cs) (hs : 35 ≤ cs.size) (he : cs.extract 3 (3 + 32) = (ncells rg).toArray) :
    Calls Tryz.prog 65 #[.pointer (some ⟨g, 3, none⟩)] w fun e w' => ∃ v, e = .returned v ∧ GotN (alls rg 32) w.heap.size w v w' := by
  obtain ⟨i0, hi0, hz0, hz1, hz2⟩ := info3s
  have Hs := Lib.hid hs
  have Hf := Lib.hid hf
  have HB := Lib.hid hB
  have He := Lib.hid he
  have HC : Hid (∀ j, j < 32 → ((ncells rg).toArray)[j]? = some (.int .i64 (rg.getD j 0 : Nat))) := fun j hj => by rw [List.getElem?_toArray]; exact ncells_at rg j (by rw [hf]; exact hj)
  have Hsz : Hid ((ncells rg).toArray.size = 32) := by show (ncells rg).toArray.size = 32; rw [List.size_toArray, ncells_len, hf]
  clear hs hf hB he
  go_enter Tryz.func65, Tryz.ntmps65
  go_wp2_with (refine wpList_load_sub rfl (.tmp 10) rfl 3 32 rfl HB.out Tryz.underlying81 rfl size81 Hs.out ?_)
  rw [He.out]
  generalize (ncells rg).toArray = C at *
  go_loopw [3, 12] (fun v3 v12 wr => ∃ m : Nat, v12 = .int .i64 m ∧ m ≤ 4 ∧ GotN (alls rg (m * 8)) w.heap.size w v3 wr) (fun _ v12 _ => (4 - (intOf v12).toNat))
  case atStart => exact ⟨0, rfl, by omega, none, 0, 0, rfl, rfl, Own.nil _ _ _ _, Below.refl _ _, Nat.le_refl _⟩
  case round =>
    obtain ⟨m, rfl, hm, hgot⟩ := hrel
    have Hgot := Lib.hid hgot
    clear hgot
    by_cases hlt : m < 4
    · have hix : ∀ w, Sem.run Tryz.prog (Instr.index 81 (.agg C) (.int .i64 (m : Int))) w = .ok (.agg (C.extract (m * 8) (m * 8 + 8))) w :=
        fun w => run_index_sub 4 8 m Tryz.underlying81 Tryz.underlying80 rfl size80 hlt w
      have HR : Hid (∀ r, r < 8 → (C.extract (m * 8) (m * 8 + 8))[r]? = some (.int .i64 (rg.getD (m * 8 + r) 0 : Nat))) := by
        intro r hr
        rw [Array.getElem?_extract, if_pos (by rw [Hsz.out]; omega), HC.out _ (by omega)]
      have HRs : Hid ((C.extract (m * 8) (m * 8 + 8)).size = 8) := by
        show (C.extract (m * 8) (m * 8 + 8)).size = 8
        rw [Array.size_extract, Hsz.out]; omega
      have HR1 : Hid (∀ v ∈ (C.extract (m * 8) (m * 8 + 8)).toList, v.oneCell' = true) := by
        intro v hv
        obtain ⟨j, hj, rfl⟩ := List.mem_iff_getElem.1 hv
        have hj8 : j < 8 := by rw [Array.length_toList, HRs.out] at hj; exact hj
        have := HR.out j hj8
        rw [Array.getElem?_eq_getElem (by rw [HRs.out]; exact hj8)] at this
        simp only [Array.getElem_toList]
        rw [Option.some.inj this]
        rfl
      generalize C.extract (m * 8) (m * 8 + 8) = R at *
      obtain ⟨A, n, cap, rfl, hn, hO, hb, hB⟩ := Hgot.out
      have HO := Lib.hid hO
      have Hn := Lib.hid hn
      have Hb := Lib.hid hb
      clear hn hO hb Hgot
      go_wp2_with (refine wpList_store_row rfl (.tmp 5) (.tmp 14) rfl rfl rfl (Blk.new _ _ _) (by rw [HRs.out]; exact size80) (by rw [HRs.out]; rfl) HR1.out ?_)
      intro w2 hB2 hM2
      have HB2 := Lib.hid hB2
      have HO2 := Lib.hid ((HO.out.alloc _).mod hM2 (fun a ha h => by have := (HO.out.lt a ha).2; omega))
      have Hb2 := Lib.hid (Below.mod (Hb.out.alloc Hb.out.size _) hM2 (by simp; exact Nat.le_succ_of_le Hb.out.size) (fun k _ hk => by rw [hk]; exact Hb.out.size))
      have hB2s : w.heap.size ≤ w2.heap.size := Hb2.out.size
      clear hB2 hM2 HO Hb hix
      go_wp2_with (refine wpList_load_row rfl 80 (.tmp 5) rfl _ rfl 80 R (0, 0) _ HB2.out Tryz.underlying80 rfl (by rw [HRs.out]; exact size80) ?_)
      have HG : Hid (GotN (alls rg (m * 8 + 0)) w.heap.size w (.slice A n cap) w2) := ⟨A, n, cap, rfl, Hn.out, HO2.out, Hb2.out, hB2s⟩
      clear HO2 Hb2 hB2s HB2 Hn
      go_loopw [3, 16] (fun v3 v16 wr => ∃ r : Nat, v16 = .int .i64 r ∧ r ≤ 8 ∧ GotN (alls rg (m * 8 + r)) w.heap.size w v3 wr) (fun _ v16 _ => (8 - (intOf v16).toNat))
      case atStart => exact ⟨0, rfl, by omega, HG.out⟩
      case round =>
        clear HG
        obtain ⟨r, rfl, hr, hgot⟩ := hrel
        have Hgot := Lib.hid hgot
        clear hgot
        by_cases hlr : r < 8
        · have hix : ∀ w, Sem.run Tryz.prog (Instr.index 80 (.agg R) (.int .i64 (r : Int))) w = .ok (.int .i64 (rg.getD (m * 8 + r) 0 : Nat)) w :=
            fun w => run_index_one 8 r _ Tryz.underlying80 Tryz.underlying3 rfl size3 hlr (HR.out r hlr) w
          have HS : Hid (alls rg (m * 8 + (r + 1)) = if rg.getD (m * 8 + r) 0 = 0 then alls rg (m * 8 + r) else alls rg (m * 8 + r) ++ [rg.getD (m * 8 + r) 0]) := rfl
          have hle := alls_le rg (m * 8 + r)
          generalize rg.getD (m * 8 + r) 0 = y at *
          by_cases hy : y = 0
          · have HS2 : Hid (alls rg (m * 8 + (r + 1)) = alls rg (m * 8 + r)) := by show _ = _; rw [HS.out, if_pos hy]
            subst hy
            clear HS
            go_wp2_with fail
            exact ⟨⟨r + 1, by go_num, by omega, Hgot.out.same HS2.out⟩, by simp [intOf]; omega⟩
          · have HS2 : Hid (alls rg (m * 8 + (r + 1)) = alls rg (m * 8 + r) ++ [y]) := by show _ = _; rw [HS.out, if_neg hy]
            have hb0 : ((y : Int) != 0) = true := by simpa using hy
            have hb1 : (y != 0) = true := by simpa using hy
            clear hy HS
            obtain ⟨A3, n3, cap3, rfl, hn, hO, hb, hB⟩ := Hgot.out
            rw [← hn] at hle
            have HO := Lib.hid hO
            have Hn := Lib.hid hn
            have Hb := Lib.hid hb
            clear hn hO hb Hgot
            go_wp2_with (at_builtin; (refine append_elem rfl (.tmp 21) (.tmp 23) 60 rfl w.heap.size 3 i0 _ 1 8 Tryz.underlying60 hi0 hz0 hz1 hz2 rfl (by omega) A3 n3 cap3 _ rfl HO.out [.int .i64 y] rfl rfl (by simp [Value.oneCell']) (by unfold maxLen; omega) (by omega) hB ?_))
            intro A4 cap4 w4 hO4 hM4 hat4
            have HO4 := Lib.hid hO4
            have Hb4 := Lib.hid (Below.mod Hb.out hM4 hB (fun k _ ⟨a, ha, e⟩ => by rw [← e]; exact (HO.out.lt a ha).1))
            clear hO4 hM4 hat4
            go_wp2_with fail
            refine ⟨⟨r + 1, by go_num, by omega, A4, n3 + 1, cap4, rfl, ?_, ?_, Hb4.out, Hb4.out.size⟩, by simp [intOf]; omega⟩
            · rw [HS2.out, List.length_append, ← Hn.out]; rfl
            · rw [HS2.out, ncells_snoc]; exact HO4.out
        · obtain rfl : r = 8 := by omega
          go_wp2_with fail
          exact ⟨⟨m + 1, by go_num, by omega, by rw [show (m + 1) * 8 = m * 8 + 8 by omega]; exact Hgot.out⟩, by simp [intOf]; omega⟩
    · obtain rfl : m = 4 := by omega
      obtain ⟨A, n, cap, rfl, hn, hO, hb, hB⟩ := Hgot.out
      have HO := Lib.hid hO
      have Hn := Lib.hid hn
      have Hb := Lib.hid hb
      clear hn hO hb Hgot
      go_wp2
      go_ret
      exact ⟨_, rfl, A, n, cap, rfl, Hn.out, HO.out, Hb.out, hB⟩
end Go.Proofs.YtcnjipicifkfjaaGreat

/- nvm.Dirty. -/
namespace Go.Proofs.YtcnjipicifkfjaaGreat
open Go.RowKit
set_option linter.unusedVariables false
set_option linter.unusedSimpArgs false

/-- The lines that are dirty, of the first i. -/
def dirtyL (D : List Bool) (i : Nat) : List Nat := (List.range i).filter fun l => D.getD l false
theorem dirtyL_yes {D : List Bool} {i : Nat} (h : D.getD i false = true) : dirtyL D (i + 1) = dirtyL D i ++ [i] := by
  unfold dirtyL
  rw [List.range_succ, List.filter_append, List.filter_cons_of_pos (by exact h), List.filter_nil]
theorem dirtyL_no {D : List Bool} {i : Nat} (h : D.getD i false = false) : dirtyL D (i + 1) = dirtyL D i := by
  unfold dirtyL
  rw [List.range_succ, List.filter_append, List.filter_cons_of_neg (by rw [h]; decide), List.filter_nil, List.append_nil]
theorem dirtyL_le (D : List Bool) (i : Nat) : (dirtyL D i).length ≤ i := by
  unfold dirtyL
  exact Nat.le_trans (List.length_filter_le _ _) (by rw [List.length_range]; exact Nat.le_refl _)
set_option maxRecDepth 100000 in
set_option maxHeartbeats 1000000 in
theorem dirty_any (B : Nat) (b : DB) (m : Nat) (s : DS) (w : World) (h : Dev B w b m s) (hm : m ≤ 1000) :
    Calls Tryz.prog 37 #[.pointer (some ⟨b.d, 0, none⟩)] w fun e w' => ∃ A cap, e = .returned (.slice A (dirtyL s.D m).length cap) ∧ Own w' w.heap.size 3 1 A (dirtyL s.D m).length cap (ncells (dirtyL s.D m)) ∧ Below w.heap.size w w' := by
  obtain ⟨_, _, _, d3, _⟩ := h.cells
  obtain ⟨i0, hi0, hz0, hz1, hz2⟩ := info3s
  have HDb : Hid (∀ wr, Below w.heap.size w wr → Dev B wr b m s) := fun wr hb => h.below hb (Nat.le_refl _)
  clear h
  go_enter Tryz.func37, Tryz.ntmps37
  go_wp2_with omega
  go_loopw [3, 11] (fun v3 v11 wr => ∃ i : Nat, v11 = .int .i64 i ∧ i ≤ m ∧ GotN (dirtyL s.D i) w.heap.size w v3 wr) (fun _ v11 _ => (m - (intOf v11).toNat))
  case atStart => exact ⟨0, rfl, by omega, none, 0, 0, rfl, rfl, Own.nil _ _ _ _, Below.refl _ _, Nat.le_refl _⟩
  case round =>
    clear d3
    obtain ⟨i, rfl, hi, hgot⟩ := hrel
    obtain ⟨A3, n3, cap3, rfl, hn, hO, hb, hB⟩ := hgot
    have hle := dirtyL_le s.D i
    rw [← hn] at hle
    have HO := Lib.hid hO
    have Hn := Lib.hid hn
    have Hb := Lib.hid hb
    have HD := Lib.hid (HDb.out wr hb)
    clear hn hO hb
    by_cases hlr : i < m
    · obtain ⟨_, e, _, hgp, _, _, hz, hfz⟩ := HD.out.d.at_ (by omega)
      cases e
      have z0 := hz i _ (blcells_at _ i (by rw [HD.out.fits.d]; exact hlr))
      clear hz hfz
      cases hP : s.D.getD i false with
      | false =>
        have HS : Hid (dirtyL s.D (i + 1) = dirtyL s.D i) := dirtyL_no hP
        rw [hP] at z0
        clear hP
        go_wp2_with omega
        exact ⟨⟨i + 1, by go_num, by omega, A3, n3, cap3, rfl, by rw [HS.out]; exact Hn.out, by rw [HS.out]; exact HO.out, Hb.out, hB⟩, by simp [intOf]; omega⟩
      | true =>
        have HS : Hid (dirtyL s.D (i + 1) = dirtyL s.D i ++ [i]) := dirtyL_yes hP
        rw [hP] at z0
        clear hP
        go_wp2_with (at_builtin; (refine append_elem rfl (.tmp 17) (.tmp 19) 60 rfl w.heap.size 3 i0 _ 1 8 Tryz.underlying60 hi0 hz0 hz1 hz2 rfl (by omega) A3 n3 cap3 _ rfl HO.out [.int .i64 (i : Nat)] rfl rfl (by simp [Value.oneCell']) (by unfold maxLen; omega) (by omega) hB ?_))
        intro A4 cap4 w4 hO4 hM4 hat4
        have HO4 := Lib.hid hO4
        have Hb4 := Lib.hid (Below.mod Hb.out hM4 hB (fun k _ ⟨a, ha, e⟩ => by rw [← e]; exact (HO.out.lt a ha).1))
        clear hO4 hM4 hat4
        go_wp2_with omega
        refine ⟨⟨i + 1, by go_num, by omega, A4, n3 + 1, cap4, rfl, ?_, ?_, Hb4.out, Hb4.out.size⟩, by simp [intOf]; omega⟩
        · rw [HS.out, List.length_append, ← Hn.out]; rfl
        · rw [HS.out, ncells_snoc]; exact HO4.out
    · obtain rfl : i = m := by omega
      go_wp2_with omega
      go_ret
      have hn := Hn.out
      subst hn
      exact ⟨A3, cap3, rfl, HO.out, Hb.out⟩
end Go.Proofs.YtcnjipicifkfjaaGreat

/- nvm.Crash. -/
namespace Go.Proofs.YtcnjipicifkfjaaGreat
open Go.RowKit
set_option linter.unusedVariables false
set_option linter.unusedSimpArgs false

/-- What a crash leaves: the lasting words, and of the dirty lines those that are chosen as they are now. -/
def crashTo (s : DS) (ls cs : List Nat) : Nat → List Nat
  | 0 => s.L
  | i + 1 => if cs.getD i 0 = 2 then splice (crashTo s ls cs i) (8 * ls.getD i 0) (lineOf s.C (ls.getD i 0)) else crashTo s ls cs i
theorem dirtyL_lt {D : List Bool} {m i : Nat} (h : i < (dirtyL D m).length) : (dirtyL D m).getD i 0 < m := by
  have : (dirtyL D m).getD i 0 ∈ dirtyL D m := by
    rw [List.getD_eq_getElem?_getD, List.getElem?_eq_getElem h, Option.getD_some]; exact List.getElem_mem h
  unfold dirtyL at this
  exact List.mem_range.1 (List.mem_filter.1 this).1
set_option maxRecDepth 100000 in
set_option maxHeartbeats 4000000 in
theorem crash_any (B : Nat) (b : DB) (m : Nat) (s : DS) (A : Option Addr) (n cap : Nat) (cs : List Nat) (w : World) (h : Dev B w b m s) (hr : Rd w 1 A n (bcells cs)) (hcs : ∀ x ∈ cs, x = 0 ∨ x = 2) (hn : n = (dirtyL s.D m).length) (hl : cs.length = n) (hm : m ≤ 1000) (hm0 : 0 < m) :
    Calls Tryz.prog 39 #[.pointer (some ⟨b.d, 0, none⟩), .slice A n cap] w fun e w' => ∃ b2 : DB, e = .returned (.pointer (some ⟨b2.d, 0, none⟩)) ∧ Dev w.heap.size w' b2 m (fresh (crashTo s (dirtyL s.D m) cs n) m) ∧ (∀ k, b2.has k → w.heap.size ≤ k) ∧ Below w.heap.size w w' := by
  obtain ⟨ls, hls⟩ : ∃ ls, dirtyL s.D m = ls := ⟨_, rfl⟩
  have Hlt : Hid (∀ i, i < n → ls.getD i 0 < m) := fun i hi => by rw [← hls]; exact dirtyL_lt (by omega)
  obtain ⟨d0, d1, _, _, _, _⟩ := h.cells
  have HDb : Hid (∀ wr, Below w.heap.size w wr → Dev B wr b m s) := fun wr hb => h.below hb (Nat.le_refl _)
  have HRb : Hid (∀ wr, Below w.heap.size w wr → Rd wr 1 A n (bcells cs)) := fun wr hb => hr.below hb (Nat.le_refl _)
  have Hcl : Hid (∀ wr, Below w.heap.size w wr → Calls Tryz.prog 90 #[.slice (some ⟨b.gl, 0, none⟩) (8 * m) b.cl] wr fun e w' => ∃ g' cap', e = .returned (.slice (some ⟨g', 0, none⟩) (8 * m) cap') ∧ Own w' wr.heap.size 28 1 (some ⟨g', 0, none⟩) (8 * m) cap' (wcells s.L) ∧ Below wr.heap.size wr w') := fun wr hb => clone_any b.gl (8 * m) b.cl s.L wr (by omega) (by omega) ((h.below hb (Nat.le_refl _)).l.rd)
  have Hdi : Hid (∀ wr, Below w.heap.size w wr → Calls Tryz.prog 37 #[.pointer (some ⟨b.d, 0, none⟩)] wr fun e w' => ∃ A cap, e = .returned (.slice A n cap) ∧ Own w' wr.heap.size 3 1 A n cap (ncells ls) ∧ Below wr.heap.size wr w') := fun wr hb => by
    have := dirty_any B b m s wr (h.below hb (Nat.le_refl _)) hm
    rw [hls] at this hn
    rw [hn]
    exact this
  have Hcs : Hid (∀ i, i < n → ∃ c, cs.getD i 0 = c ∧ (c = 0 ∨ c = 2)) := fun i hi => ⟨_, rfl, hcs _ (by rw [List.getD_eq_getElem?_getD, List.getElem?_eq_getElem (by omega), Option.getD_some]; exact List.getElem_mem _)⟩
  have hnm : n ≤ 1000 := by rw [hn]; exact Nat.le_trans (dirtyL_le _ _) hm
  rw [hls] at hn ⊢
  have HnL : Hid (ls.length = n ∧ cs.length = n) := ⟨hn.symm, hl⟩
  clear h hr hcs hn hls hl
  go_enter Tryz.func39, Tryz.ntmps39
  go_wp2_with omega
  refine (Hcl.out _ (Below.refl _ _)).mono ?_
  rintro e w1 ⟨g, capg, rfl, hO1, hb1⟩
  have HO1 := Lib.hid hO1
  have HB1 := Lib.hid hb1
  have Hgw : Hid (w.heap.size ≤ g ∧ g < w1.heap.size) := HO1.out.lt _ rfl
  clear hO1 hb1 d0 d1
  go_wp2_with omega
  refine (Hdi.out _ HB1.out).mono ?_
  rintro e w2 ⟨A2, cap2, rfl, hO2, hb2⟩
  have HG2 : Hid (Own w2 w.heap.size 28 1 (some ⟨g, 0, none⟩) (8 * m) capg (wcells s.L)) := HO1.out.below hb2 (Nat.le_refl _)
  have HL2 := Lib.hid hO2
  have HB2 : Hid (Below w.heap.size w w2) := HB1.out.trans (hb2.mono HB1.out.size)
  clear hO2 hb2 HO1 HB1 Hcl Hdi
  go_wp2_with omega
  go_loopw [16] (fun v16 wr => ∃ i : Nat, v16 = .int .i64 i ∧ i ≤ n ∧ Own wr w.heap.size 28 1 (some ⟨g, 0, none⟩) (8 * m) capg (wcells (crashTo s ls cs i)) ∧ Own wr w1.heap.size 3 1 A2 n cap2 (ncells ls) ∧ Below w.heap.size w wr) (fun v16 _ => (n - (intOf v16).toNat))
  case atStart => exact ⟨0, rfl, by omega, HG2.out, HL2.out, HB2.out⟩
  case round =>
    clear HG2 HL2 HB2
    obtain ⟨i, rfl, hi, hO, hL, hB⟩ := hrel
    have HG := Lib.hid hO
    have HL := Lib.hid hL
    have HB := Lib.hid hB
    have HD := Lib.hid (HDb.out wr hB)
    have HR := Lib.hid (HRb.out wr hB)
    clear hO hL hB
    by_cases hin : i < n
    · obtain ⟨gA, rfl, _, hgA, _, _, hz, hfz⟩ := HL.out.at_ (by omega)
      have z0 : wr.cell? ⟨gA, i, none⟩ = some (.int .i64 (ls.getD i 0 : Nat)) := hz i _ (by simp [ncells, List.getD_eq_getElem?_getD, HnL.out.1, hin])
      obtain ⟨gR, oR, rfl, _, hzr⟩ := HR.out.2 (by omega)
      have x0 : wr.cell? ⟨gR, oR + i, none⟩ = some (.int .u8 (cs.getD i 0 : Nat)) := hzr i _ (by simp [bcells, List.getD_eq_getElem?_getD, HnL.out.2, hin])
      clear hz hfz hzr
      have him := Hlt.out i hin
      have HS : Hid (crashTo s ls cs (i + 1) = if cs.getD i 0 = 2 then splice (crashTo s ls cs i) (8 * ls.getD i 0) (lineOf s.C (ls.getD i 0)) else crashTo s ls cs i) := rfl
      obtain ⟨c, hc, hc2⟩ := Hcs.out i hin
      rw [hc] at HS x0
      clear hc
      obtain ⟨y, hy⟩ : ∃ y, ls.getD i 0 = y := ⟨_, rfl⟩
      rw [hy] at HS z0 him
      clear hy
      rcases hc2 with rfl | rfl
      · have HS2 : Hid (crashTo s ls cs (i + 1) = crashTo s ls cs i) := HS.out
        clear HS
        go_wp2_with omega
        exact ⟨⟨i + 1, by go_num, by omega, by rw [HS2.out]; exact HG.out, HL.out, HB.out⟩, by simp [intOf]; omega⟩
      · have HS2 : Hid (crashTo s ls cs (i + 1) = splice (crashTo s ls cs i) (8 * y) (lineOf s.C y)) := HS.out
        clear HS
        obtain ⟨X, HX⟩ : ∃ X, Hid (crashTo s ls cs i = X) := ⟨_, rfl⟩
        rw [HX.out] at HG HS2
        have hi8 : 8 * y + 8 ≤ 8 * m := by omega
        have ht8 : y ≤ 1000000 := by omega
        obtain ⟨_, d1, _⟩ := HD.out.cells
        have Hpart : Hid (∀ (w : World) (p : Value) (g cap : Nat), 8 * m ≤ cap → cap ≤ maxLen → Calls Tryz.prog 91 #[p, .slice (some ⟨g, 0, none⟩) (8 * m) cap, .int .i64 y] w fun e w' => e = .returned (.slice (some ⟨g, 8 * y, none⟩) 8 (cap - 8 * y)) ∧ w = w') :=
          fun w p g cap h1 h2 => part_any p g (8 * m) cap y w hi8 h1 h2 ht8
        obtain ⟨_, e, _, hgl, hl1, hl2, _⟩ := HG.out.at_ (by omega)
        cases e
        obtain ⟨_, e, _, _, hc1, hc2, _⟩ := HD.out.c.at_ (by omega)
        cases e
        have na : ¬ b.d = g := fun e => by have h1 := (HG.out.lt _ rfl).1; have h2 := HDb.out w (Below.refl _ _) |>.o.lt; simp only at h1; omega
        have nb : ¬ gA = g := fun e => by have h1 := (HL.out.lt _ rfl).1; have h2 := Hgw.out.2; simp only at h1; omega
        clear hgl
        go_wp2_with omega
        have HG0 : Hid (Own wr.drew w.heap.size 28 1 (some ⟨g, 0, none⟩) (8 * m) capg (wcells X)) := HG.out.drewN 1
        have HC0 : Hid (Rd wr.drew 1 (some ⟨b.gc, 8 * y, none⟩) 8 (wcells (lineOf s.C y))) := (HD.out.c.line y rfl him).drewN 1
        have k1 : wr.drew.cell? ⟨b.d, 1, none⟩ = some (.slice (some ⟨b.gc, 0, none⟩) (8 * m) b.cc) := d1
        go_region_held3 (fun w' => w'.cell? ⟨b.d, 1, none⟩ = some (.slice (some ⟨b.gc, 0, none⟩) (8 * m) b.cc))
          (first | exact k1 | exact cell_mod hM3 k1 na)
          (first
            | (refine step_copy_rd (by rfl) _ _ 22 22 (by rfl) 28 Tryz.underlying22 size28 w.heap.size g (8 * y) (8 * m) capg 8 _ _ (by rfl) HG0.out b.gc (8 * y) 8 _ _ (by rfl) HC0.out (by omega) (by omega) (by omega) wcells_one ?_; intro w3 hO3 hM3)
            | (go_at_call 91; refine (Hpart.out _ _ _ _ (by assumption) (by assumption)).mono ?_; rintro e w' ⟨rfl, rfl⟩))
        have hM3' : Mod wr w3 (fun k => k = g) := ⟨hM3.os, hM3.tape, hM3.output, hM3.size, hM3.block⟩
        rw [wcells_splice] at hO3
        have HG3 : Hid (Own w3 w.heap.size 28 1 (some ⟨g, 0, none⟩) (8 * m) capg (wcells (crashTo s ls cs (i + 1)))) := by rw [HS2.out]; exact hO3
        have HL3 : Hid (Own w3 w1.heap.size 3 1 (some ⟨gA, 0, none⟩) n cap2 (ncells ls)) := HL.out.mod hM3' (fun a ha => by cases ha; exact nb)
        have HB3 : Hid (Below w.heap.size w w3) := Below.mod HB.out hM3' HB.out.size (fun k _ e => by rw [e]; exact Hgw.out.1)
        clear hO3 hM3 hM3' HG0 HC0 k1 z0 x0
        go_wp2_with omega
        exact ⟨⟨i + 1, by go_num, by omega, HG3.out, HL3.out, HB3.out⟩, by simp [intOf]; omega⟩
    · obtain rfl : i = n := by omega
      go_wp2_with omega
      refine (load_any w.heap.size g capg m _ wr hm0 (by omega) HG.out HB.out.size).mono ?_
      rintro e w4 ⟨b2, rfl, hd, _, _, hh, hb4⟩
      have hlo := (HG.out.lt _ rfl).1
      have hsz := HB.out.size
      have HD4 := Lib.hid hd
      have HH4 : Hid (∀ k, b2.has k → w.heap.size ≤ k) := fun k hk => by
        rcases hh k hk with h1 | h1
        · rw [h1]; exact hlo
        · omega
      have HB4 : Hid (Below w.heap.size w w4) := HB.out.trans (hb4.mono hsz)
      clear hd hh hb4
      go_wp2_with omega
      go_ret
      exact ⟨b2, rfl, HD4.out, HH4.out, HB4.out⟩
end Go.Proofs.YtcnjipicifkfjaaGreat

/- Plain law: what a crash leaves, word by word. -/
namespace Go.Proofs.YtcnjipicifkfjaaGreat
open Go.RowKit
set_option linter.unusedVariables false
set_option linter.unusedSimpArgs false

theorem dirtyL_D {D : List Bool} {m i : Nat} (h : i < (dirtyL D m).length) : D.getD ((dirtyL D m).getD i 0) false = true := by
  have : (dirtyL D m).getD i 0 ∈ dirtyL D m := by
    rw [List.getD_eq_getElem?_getD, List.getElem?_eq_getElem h, Option.getD_some]; exact List.getElem_mem h
  unfold dirtyL at this ⊢
  exact (List.mem_filter.1 this).2
/-- An image: each line as it was, or (of the lines T) as it is now. -/
structure Img (I : List Nat) (m : Nat) (L0 C : List Nat) (T : Nat → Prop) (ch : Nat → Bool) : Prop where
  t : ∀ l, ch l = true → T l
  len : I.length = 8 * m
  at_ : ∀ j, I.getD j 0 = if ch (j / 8) then C.getD j 0 else L0.getD j 0
theorem crash_img {s : DS} {m : Nat} {L0 C : List Nat} {T : Nat → Prop} (h : Ph s m L0 C T) (cs : List Nat) : ∀ i, i ≤ (dirtyL s.D m).length → ∃ ch, Img (crashTo s (dirtyL s.D m) cs i) m L0 C T ch := by
  intro i
  induction i with
  | zero => exact fun _ => ⟨fun _ => false, ⟨fun l hl => (by cases hl), h.f.l, fun j => (by show s.L.getD j 0 = _; rw [h.l]; rfl)⟩⟩
  | succ i ih =>
    intro hi
    obtain ⟨ch, g⟩ := ih (by omega)
    have hlt := dirtyL_lt (D := s.D) (m := m) (i := i) (by omega)
    have hD := dirtyL_D (D := s.D) (m := m) (i := i) (by omega)
    have hs : crashTo s (dirtyL s.D m) cs (i + 1) = if cs.getD i 0 = 2 then splice (crashTo s (dirtyL s.D m) cs i) (8 * (dirtyL s.D m).getD i 0) (lineOf s.C ((dirtyL s.D m).getD i 0)) else crashTo s (dirtyL s.D m) cs i := rfl
    generalize (dirtyL s.D m).getD i 0 = y at *
    rw [hs]
    by_cases hc : cs.getD i 0 = 2
    · rw [if_pos hc]
      refine ⟨fun l => ch l || decide (l = y), ⟨fun l hl => ?_, splice_len _ _ m y g.len h.f.c hlt, fun j => ?_⟩⟩
      · rcases Bool.or_eq_true_iff.1 hl with h1 | h1
        · exact g.t l h1
        · rw [of_decide_eq_true h1]; exact h.dT y hD
      · rw [splice_line _ _ m y j g.len h.f.c hlt, g.at_ j, h.c]
        by_cases e : j / 8 = y
        · rw [if_pos e]; simp [e]
        · rw [if_neg e]; simp [e]
    · rw [if_neg hc]; exact ⟨ch, g⟩
theorem crash_rest {s : DS} {m : Nat} (h : Rest s m) (cs : List Nat) : (dirtyL s.D m).length = 0 ∧ crashTo s (dirtyL s.D m) cs 0 = s.C := by
  refine ⟨?_, h.e⟩
  rcases Nat.eq_zero_or_pos (dirtyL s.D m).length with h1 | h1
  · exact h1
  · have := dirtyL_D (D := s.D) (m := m) (i := 0) h1
    rw [h.d] at this
    cases this
theorem fresh_rest (L : List Nat) (m : Nat) (h : L.length = 8 * m) : Rest (fresh L m) m :=
  ⟨⟨h, h, by show (zerosN (8 * m)).length = _; simp [zerosN], by show (falsesN m).length = m; simp [falsesN], by show (falsesN m).length = m; simp [falsesN]⟩, rfl, fun l => (by show (falsesN m).getD l false = false; unfold falsesN; rw [List.getD_eq_getElem?_getD, List.getElem?_replicate]; split <;> rfl), fun l => (by show (falsesN m).getD l false = false; unfold falsesN; rw [List.getD_eq_getElem?_getD, List.getElem?_replicate]; split <;> rfl)⟩
/-- What stores leave of a word. -/
theorem cR_len (ps : List (Nat × Nat)) : ∀ C, (cR C ps).length = C.length := by
  induction ps with
  | nil => intro C; rfl
  | cons p ps ih => intro C; show (cR (C.set p.1 p.2) ps).length = _; rw [ih, List.length_set]
theorem cR_append (C : List Nat) (a b : List (Nat × Nat)) : cR C (a ++ b) = cR (cR C a) b := List.foldl_append ..
theorem cR_out (ps : List (Nat × Nat)) : ∀ C j, (∀ p ∈ ps, p.1 ≠ j) → (cR C ps).getD j 0 = C.getD j 0 := by
  induction ps with
  | nil => intro C j _; rfl
  | cons p ps ih =>
    intro C j h
    show (cR (C.set p.1 p.2) ps).getD j 0 = _
    rw [ih _ j (fun q hq => h q (List.mem_cons_of_mem _ hq)), getD_set, if_neg (fun e => h p List.mem_cons_self e.1)]
/-- Stores at addresses all unlike: each word is as its store says. -/
theorem cR_at (ps : List (Nat × Nat)) : ∀ C p, p ∈ ps → (ps.map (·.1)).Nodup → p.1 < C.length → (cR C ps).getD p.1 0 = p.2 := by
  induction ps with
  | nil => intro C p h; cases h
  | cons q ps ih =>
    intro C p h hn hl
    have hn2 := List.nodup_cons.1 hn
    show (cR (C.set q.1 q.2) ps).getD p.1 0 = _
    rcases List.mem_cons.1 h with rfl | h1
    · rw [cR_out ps _ _ (fun x hx e => hn2.1 (by have := List.mem_map_of_mem (f := (·.1)) hx; rwa [e] at this)), getD_set, if_pos ⟨rfl, hl⟩]
    · exact ih _ p h1 hn2.2 (by rw [List.length_set]; exact hl)
end Go.Proofs.YtcnjipicifkfjaaGreat
