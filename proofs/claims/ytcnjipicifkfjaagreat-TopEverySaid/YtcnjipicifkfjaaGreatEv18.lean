/- bman: Open, Geometry. -/
import Derived.Test.YtcnjipicifkfjaaGreatEv17
import Derived.Test.YtcnjipicifkfjaaGreatEv13
import Derived.Lib.SliceRun
import Derived.Test.YtcnjipicifkfjaaGreatEv03
import Derived.Test.YtcnjipicifkfjaaGreatEv08
import Derived.Test.YtcnjipicifkfjaaGreatEv14
import Derived.LoopN

namespace Go.Proofs.YtcnjipicifkfjaaGreat
open Go.RowKit
set_option linter.unusedVariables false
set_option linter.unusedSimpArgs false

/-- A block manager: its table, and its index of free runs. -/
def BmanR (w : World) (F : Nat → Prop) (mp d K : Nat) (hs : List (Nat × Nat)) (o : Option (Nat × Nat)) : Prop :=
  ∃ t x T X, Blk w mp 122 #[.pointer (some ⟨t, 0, none⟩), .pointer (some ⟨x, 0, none⟩), .int .i64 K] ∧ TabR w T t d K hs ∧ IdxR w X x K o ∧ (∀ k, T k → ¬ X k) ∧ (∀ k, T k → F k) ∧ (∀ k, X k → F k) ∧ F mp ∧ ¬ T mp ∧ ¬ X mp
section
variable {w w' : World} {F F' S : Nat → Prop} {mp d K : Nat} {hs : List (Nat × Nat)} {o : Option (Nat × Nat)}
theorem BmanR.mod (h : BmanR w F mp d K hs o) (m : Mod w w' S) (hs' : ∀ k, F k → ¬ S k) : BmanR w' F mp d K hs o := by
  obtain ⟨t, x, T, X, hb, h1, h2, h3, h4, h5, h6, h7, h8⟩ := h
  exact ⟨t, x, T, X, m.blk hb (hs' _ h6), h1.mod m (fun k hk => hs' _ (h4 k hk)), h2.mod m (fun k hk => hs' _ (h5 k hk)), h3, h4, h5, h6, h7, h8⟩
theorem BmanR.weak (h : BmanR w F mp d K hs o) (hF : ∀ k, k < w.heap.size → F k → F' k) : BmanR w F' mp d K hs o := by
  obtain ⟨t, x, T, X, hb, h1, h2, h3, h4, h5, h6, h7, h8⟩ := h
  exact ⟨t, x, fun k => T k ∧ k < w.heap.size, fun k => X k ∧ k < w.heap.size, hb, h1.weak (fun k a b => ⟨b, a⟩), h2.weak (fun k a b => ⟨b, a⟩), fun k a b => h3 k a.1 b.1, fun k a => hF k a.2 (h4 k a.1), fun k a => hF k a.2 (h5 k a.1), hF _ hb.lt h6, fun a => h7 a.1, fun a => h8 a.1⟩
theorem BmanR.below {B : Nat} (h : BmanR w F mp d K hs o) (hb : Below B w w') (hB : w.heap.size ≤ B) : BmanR w' F mp d K hs o := by
  have h2 := (h.weak (F' := fun k => F k ∧ k < w.heap.size) (fun k h1 h2 => ⟨h2, h1⟩)).mod (Mod.of_below hb) (fun k hk => Nat.not_le.2 (Nat.lt_of_lt_of_le hk.2 hB))
  exact h2.weak (fun k _ hk => hk.1)
end
theorem size64 : (Tryz.prog.info? 64).map (·.size) = some 1 := by kernel_rfl
set_option maxRecDepth 100000 in
set_option maxHeartbeats 2000000 in
theorem bmgeo_any (F : Nat → Prop) (mp d K : Nat) (hs : List (Nat × Nat)) (o : Option (Nat × Nat)) (w : World) (h : BmanR w F mp d K hs o) :
    Calls Tryz.prog 49 #[.pointer (some ⟨mp, 0, none⟩)] w fun e w' => e = .returned (.agg #[.int .i64 K]) ∧ Below w.heap.size w w' := by
  obtain ⟨t, x, T, X, hb, _⟩ := h
  have c2 : (w.alloc (.cells #[.int .i64 0] 64)).cell? ⟨mp, 2, none⟩ = some (.int .i64 K) := (hb.alloc _).cell 2
  have HB := Lib.hid ((Below.refl w.heap.size w).alloc (Nat.le_refl _) (.cells #[.int .i64 0] 64))
  obtain ⟨q, Hq⟩ : ∃ q, Hid (w.heap.size = q) := ⟨_, rfl⟩
  have hN : Hid (Blk (w.alloc (.cells #[.int .i64 0] 64)) q 64 #[.int .i64 0]) := by rw [← Hq.out]; exact Blk.new w 64 _
  clear hb
  go_enter Tryz.func49, Tryz.ntmps49
  go_wp2_with fail
  rw [Hq.out]
  have HN2 : Hid (Blk (w.alloc (.cells #[.int .i64 K] 64)) q 64 #[.int .i64 K]) := by rw [← Hq.out]; exact Blk.new w 64 _
  have HB2 := Lib.hid ((Below.refl w.heap.size w).alloc (Nat.le_refl _) (.cells #[.int .i64 K] 64))
  refine bodyPost_ret (results_cell_row rfl _ _ q 64 _ _ _ rfl HN2.out Tryz.underlying64 rfl size64) rfl ?_
  rw [← Hq.out]
  exact ⟨rfl, HB2.out⟩
theorem bm_join {w w' : World} {n0 t d K x : Nat} {hs : List (Nat × Nat)} {o : Option (Nat × Nat)} (hT : TabR w (fun k => n0 < k) t d K hs) (hI : IdxR w' (fun b => w.heap.size ≤ b) x K o) (hb : Below w.heap.size w w') (hn : n0 < w.heap.size) :
    ∃ q, TabR w' (fun k => n0 < k ∧ k < q) t d K hs ∧ IdxR w' (fun k => q ≤ k) x K o ∧ n0 < q ∧ q ≤ w'.heap.size :=
  ⟨w.heap.size, (hT.weak (fun k h1 h2 => ⟨h2, h1⟩)).below hb (Nat.le_refl _), hI, hn, hb.size⟩
set_option maxRecDepth 100000 in
set_option maxHeartbeats 2000000 in
theorem bmopen_any (B : Nat) (b : DB) (m : Nat) (s : DS) (K a : Nat) (hs : List (Nat × Nat)) (w : World) (h : Dev B w b m s) (hH : HdrsIn s K hs) (hK : 2 ≤ K) (hK2 : K ≤ 200) (hm : m = K * 64)
    (ha1 : 1 ≤ a) (ha : a < K) (hk : ∀ b, (hs.getD b (0, 0)).1 ≤ 1) (h1 : ∀ b, 1 ≤ b → b < a → (hs.getD b (0, 0)).1 ≠ 0) (h2 : ∀ b, a ≤ b → b < K → (hs.getD b (0, 0)).1 = 0) :
    Calls Tryz.prog 95 #[.pointer (some ⟨b.d, 0, none⟩), .agg #[.int .i64 K]] w fun e w' => ∃ mp, e = .returned (.tuple #[.pointer (some ⟨mp, 0, none⟩), .int .i64 0]) ∧ BmanR w' (fun k => w.heap.size ≤ k) mp b.d K hs (some (a, K - a)) ∧ Below w.heap.size w w' := by
  have Hr := Lib.hid (fun w h => bopen_any B b m s K hs w h hH hK hK2 hm)
  obtain ⟨n0, Hn0⟩ : ∃ n, Hid (w.heap.size = n) := ⟨_, rfl⟩
  have L0 := Lib.hid ((Loc.nil Nob w).box 64 #[.int .i64 K] n0 Hn0.out)
  have HD := Lib.hid (h.below (below_box w (.cells #[.int .i64 K] 64)) (Nat.le_refl _))
  have Ha := Lib.hid (fun (t : Nat) (T : Nat → Prop) (w : World) (h : TabR w T t b.d K hs) => tall_any T t b.d K hs w h (by omega) (by omega))
  have Hso := Lib.hid (fun (g cap : Nat) (w : World) (h : Own w 0 178 3 (some ⟨g, 0, none⟩) K cap (hcells hs)) => sound_any g K cap hs w h (by omega) (by omega) hk)
  have Hsp := Lib.hid (fun (t : Nat) (T : Nat → Prop) (w : World) (h : TabR w T t b.d K hs) => tspans_any T t b.d K a hs w h ha1 ha (by omega) h1 h2)
  have Hfi := Lib.hid (fun (g cap B : Nat) (w : World) (h : Own w B 165 2 (some ⟨g, 0, none⟩) 1 cap (spcells a (K - a))) => fill_any K a g cap B w h ha1 ha (by omega))
  clear h hH hk h1 h2
  go_enter Tryz.func95, Tryz.ntmps95
  go_wp2_with fail
  rw [Hn0.out]
  refine (Hr.out _ HD.out).mono ?_
  rintro e w2 ⟨t, g, rfl, htt, hT, hO, hb⟩
  rw [World.size_alloc, Hn0.out] at htt
  have L2 := Lib.hid (L0.out.call hb (Nat.le_refl _))
  have HT2 : Hid (TabR w2 (fun k => n0 < k) t b.d K hs) := by
    refine ⟨g, K, hT, hO.base_ (Nat.zero_le _), htt, ?_, ?_⟩
    · have := (hO.lt _ rfl).1
      rw [World.size_alloc, Hn0.out] at this
      exact this
    · rintro rfl
      exact hO.ne hT (by decide) _ rfl rfl
  clear hT hO hb L0 HD Hr
  go_wp2_with fail
  refine (Ha.out t _ w2 HT2.out).mono ?_
  rintro e w3 ⟨g3, cap3, rfl, hO3, hB3⟩
  have L3 := Lib.hid (L2.out.call hB3 (Nat.le_refl _))
  have HT3 := Lib.hid (HT2.out.below hB3 (Nat.le_refl _))
  have hc := Hso.out g3 cap3 w3 (hO3.base_ (Nat.zero_le _))
  clear hO3 hB3 L2 HT2
  go_wp2_with fail
  refine hc.mono ?_
  rintro e _ ⟨rfl, rfl⟩
  clear hc
  go_wp2_with fail
  have LC := Lib.hid L3.out.drew
  have HT : Hid (TabR w3.drew (fun k => n0 < k) t b.d K hs) := HT3.out.mod ((Mod.refl w3 Nob).drewN 1) (fun _ _ h => h)
  clear L3 HT3
  go_region_held3 (fun w' => w'.cell? ⟨n0, 0, none⟩ = some (.int .i64 K))
    (exact LC.out.b0.cell 0)
    (first
      | (go_at_call 139; refine (Hsp.out t _ _ HT.out).mono ?_; rintro e w' ⟨g4, cap4, rfl, hO4, hb⟩; replace LC := Lib.hid (LC.out.call hb (Nat.le_refl _)); replace HT := Lib.hid (HT.out.below hb (Nat.le_refl _)); have HO := Lib.hid hO4; clear hO4 hb)
      | (go_at_call 138; refine (Hfi.out _ _ _ _ HO.out).mono ?_; rintro e w' ⟨x, rfl, hI, hb⟩; have HF := Lib.hid (bm_join HT.out hI hb LC.out.b0.lt); replace LC := Lib.hid (LC.out.call hb (Nat.le_refl _)); clear hI hb))
  all_goals
    obtain ⟨q, hT5, hI5, hq1, hq2⟩ := HF.out
    obtain ⟨mp, Hmp⟩ : ∃ n, Hid (w'.heap.size = n) := ⟨_, rfl⟩
    have LE := Lib.hid (LC.out.box 122 #[.pointer (some ⟨t, 0, none⟩), .pointer (some ⟨x, 0, none⟩), .int .i64 K] mp Hmp.out)
    have HBM : Hid (BmanR (w'.alloc (.cells #[.pointer (some ⟨t, 0, none⟩), .pointer (some ⟨x, 0, none⟩), .int .i64 K] 122)) (fun k => n0 ≤ k) mp b.d K hs (some (a, K - a))) := by
      have hm5 := (Mod.refl w' Nob).alloc (.cells #[.pointer (some ⟨t, 0, none⟩), .pointer (some ⟨x, 0, none⟩), .int .i64 K] 122)
      have hI6 := hI5.weak (F' := fun k => q ≤ k ∧ k < w'.heap.size) (fun k h1 h2 => ⟨h2, h1⟩)
      refine ⟨t, x, _, _, LE.out.b0, hT5.mod hm5 (fun _ _ h => h), hI6.mod hm5 (fun _ _ h => h), fun k h1 h2 => ?_, fun k h1 => ?_, fun k h1 => ?_, ?_, fun h1 => ?_, fun h1 => ?_⟩
      · omega
      · show n0 ≤ k; omega
      · show n0 ≤ k; omega
      · show n0 ≤ mp; have := Hmp.out; omega
      · have := Hmp.out; omega
      · have := Hmp.out; omega
    clear hT5 hI5 HF HT HO
    go_wp2_with fail
    rw [Hmp.out]
    refine bodyPost_ret (results_tmp2 rfl _ _ _) rfl ?_
    rw [Hn0.out]
    exact ⟨mp, rfl, HBM.out, Hn0.out ▸ LE.out.below⟩
end Go.Proofs.YtcnjipicifkfjaaGreat

/- bitmap: Clear, Next; bits: Count, Lowest. -/
namespace Go.Proofs.YtcnjipicifkfjaaGreat
open Go.RowKit
set_option linter.unusedVariables false
set_option linter.unusedSimpArgs false

theorem run_clear_row {P : Program} (w : World) (t e ty : TypeId) (z : Value) (ht : P.underlying t = some (.slice e)) (hv : ∀ w, (zeroValue e).run P w = .ok z w) (hz : z.cells = #[z]) (h1 : z.oneCell' = true) (g n c : Nat) (hn : 0 < n)
    (cur : Array Value) (te : TypeId) (hg : w.heap[g]? = some (.cells cur te (0, 0))) (hfit : n ≤ cur.size) :
    (Builtin.clear_ #[t] ty #[.slice (some ⟨g, 0, none⟩) n c]).run P w = .ok (.tuple #[]) (w.setRow g (List.replicate n z ++ cur.toList.drop n).toArray) := by
  have hzc : (Builtin.zeroCells z.cells n).toList = List.replicate n z := by
    rw [hz]
    simp [Builtin.zeroCells]
    apply List.ext_getElem
    · simp
    · intro i h1 h2
      simp [Nat.mod_one]
  have hst := run_storeCells_at P g 0 te (List.replicate n z) 0 cur w hg (by simpa using hfit) (by intro v hv'; rw [List.eq_of_mem_replicate hv']; exact h1)
  simp only [Nat.add_zero, List.take_zero, List.nil_append, List.length_replicate, Nat.zero_add] at hst
  obtain ⟨m, rfl⟩ : ∃ m, n = m + 1 := ⟨n - 1, by omega⟩
  simp [Builtin.clear_, run_underlying ht, hv, hzc, hst]
theorem clear_own {P : Program} {ops : Array Oper} {rest : List Oper} {o : Oper} {a : Act} {w : World} {Q : Exit → Act → World → Prop} (hgd : o.guard = none) (x : Operand) (t e : TypeId) (z : Value)
    (ho : o.op = .call { callee := .builtin .clear, args := #[x], argTypes := #[t] }) (ht : P.underlying t = some (.slice e)) (hv : ∀ w, (zeroValue e).run P w = .ok z w) (hz : z.cells = #[z]) (h1 : z.oneCell' = true)
    (g n cap : Nat) (xs : List Value) (hx : a.eval x = .slice (some ⟨g, 0, none⟩) n cap) (hn : 0 < n) (B : Nat) (hown : Own w B e 1 (some ⟨g, 0, none⟩) n cap xs)
    (h : ∀ w', Own w' B e 1 (some ⟨g, 0, none⟩) n cap (List.replicate n z) → Mod w w' (fun k => k = g) → wpList P ops Q rest (a.put o.dst (.tuple #[])) w') :
    wpList P ops Q (o :: rest) a w := by
  refine wpList_plain hgd fun K hK => ?_
  rcases hown.form with ⟨h0, _⟩ | ⟨g', cur, e', hB, hblk, h3, h4, h5, h6⟩
  · cases h0
  · cases e'
    have hrun := run_clear_row (P := P) w t e o.type z ht hv hz h1 g n cap hn cur e hblk (by omega)
    unfold Oper.wp execOp
    simp only [ho, resolve, invoke, builtin, Sem.run_bind, Sem.run_pure, Result.andThen_ok, List.map_toArray, List.map_cons, List.map_nil, hx, hrun]
    refine hK _ _ (h _ ⟨by simp, .inr ⟨g, _, rfl, hB, hblk.setRow _, h3, h4, ?_, ?_⟩⟩ (mod_setRow w g _))
    · simp; omega
    · simp [List.take_append]
theorem zeroValue28 : ∀ w, (zeroValue 28).run Tryz.prog w = .ok (.int .u64 0) w := fun w => by kernel_rfl

theorem bclear_any (F : Nat → Prop) (p n : Nat) (s : Nat → Bool) (w : World) (h : SetR w F p n s) (hn0 : 0 < n) (hn : n ≤ 100000) :
    Calls Tryz.prog 100 #[.pointer (some ⟨p, 0, none⟩)] w fun e w' => (∃ v, e = .returned v) ∧ SetR w' F p n (fun _ => false) ∧ Mod w w' F := by
  obtain ⟨g, cap, L, many, hb, ho, hlt, hs, hF1, hF2⟩ := h
  have c0 : w.cell? ⟨p, 0, none⟩ = some (.slice (some ⟨g, 0, none⟩) n cap) := hb.cell 0
  have c2 : w.cell? ⟨p, 2, none⟩ = some (.int .i64 many) := hb.cell 2
  have f2 := hb.frozen 2
  have hgp : g ≠ p := ho.ne hb (by decide) _ rfl
  have HO := Lib.hid ho
  have Hb := Lib.hid hb
  clear hb ho hs
  go_enter Tryz.func100, Tryz.ntmps100
  go_wp2_with (refine clear_own rfl (.tmp 5) 22 28 _ rfl Tryz.underlying22 zeroValue28 rfl rfl g n cap _ rfl hn0 0 HO.out ?_; intro w1 hO1 hM1; have HO1 := Lib.hid hO1; have HM1 := Lib.hid hM1; have Hb1 := Lib.hid (hM1.blk Hb.out (fun e => hgp e.symm)); have d0 : w1.cell? ⟨p, 2, none⟩ = some (.int .i64 many) := Hb1.out.cell 2; have d1 := Hb1.out.frozen 2; clear hO1 hM1)
  go_end0
  refine ⟨⟨_, rfl⟩, ?_, ?_⟩
  · have m2 : Mod w1 (w1.setCell ⟨p, 2, none⟩ (.int .i64 0)) (fun k => k = p) := Mod.set (p := ⟨p, 2, none⟩) (Mod.refl _ (fun k => k = p)) (.inr rfl) _
    refine ⟨g, cap, zerosN n, 0, Blk.conv (Hb1.out.set_ 2 (.int .i64 0)) (by simp), ?_, lt64.zeros n, fun i => ?_, hF1, hF2⟩
    · have := HO1.out.mod m2 (fun a ha => by cases ha; exact hgp)
      have e : wcells (zerosN n) = List.replicate n (.int .u64 0) := by simp [wcells, zerosN]
      rw [e]
      exact this
    · unfold bitAt zerosN
      rw [List.getD_eq_getElem?_getD, List.getElem?_replicate]
      split <;> simp
  · have m2 : Mod w1 (w1.setCell ⟨p, 2, none⟩ (.int .i64 0)) F := Mod.set (p := ⟨p, 2, none⟩) (Mod.refl _ F) (.inr hF1) _
    exact (HM1.out.mono (S' := F) (fun k _ e => by rw [e]; exact hF2)).trans m2 (fun k _ hk => hk)

def cnt1 (x : Int) : Int := IntKind.u64.wrap (x - bits .and .u64 (x / 2) 6148914691236517205)
def cnt2 (x : Int) : Int := IntKind.u64.wrap (bits .and .u64 x 3689348814741910323 + bits .and .u64 (x / 4) 3689348814741910323)
def cnt3 (x : Int) : Int := bits .and .u64 (IntKind.u64.wrap (x + x / 16)) 1085102592571150095
def cntI (x : Int) : Int := wrap64 (IntKind.u64.wrap (cnt3 (cnt2 (cnt1 x)) * 72340172838076673) / 72057594037927936)
theorem count_any (x : Int) (w : World) : Calls Tryz.prog 263 #[.int .u64 x] w fun e w' => e = .returned (.int .i64 (cntI x)) ∧ w = w' := by
  go_enter Tryz.func263, Tryz.ntmps263
  go_wp2_with fail
  go_ret
  exact ⟨rfl, rfl⟩
theorem cnt_lows : (List.range 64).all (fun i => cntI ((2 ^ i - 1 : Nat) : Int) == (i : Int)) = true := by kernel_rfl
theorem cnt_low (i : Nat) (h : i < 64) : cntI ((2 ^ i - 1 : Nat) : Int) = (i : Int) := by
  have := List.all_eq_true.1 cnt_lows i (List.mem_range.2 h)
  simpa using this
theorem lowest_any (i q : Nat) (w : World) (h : 2 ^ i * (2 * q + 1) < 18446744073709551616) :
    Calls Tryz.prog 237 #[.int .u64 ((2 ^ i * (2 * q + 1) : Nat) : Int)] w fun e w' => e = .returned (.int .i64 (i : Int)) ∧ w = w' := by
  obtain ⟨hi, hi2⟩ := low_lt i q h
  have hx0 : 0 < 2 ^ i * (2 * q + 1) := Nat.mul_pos (Nat.two_pow_pos i) (by omega)
  have hneg := neg_u64 _ hx0 h
  have hand := bits_and64 (2 ^ i * (2 * q + 1)) (18446744073709551616 - 2 ^ i * (2 * q + 1)) h (by omega)
  rw [low_and i q h] at hand
  have hsub : IntKind.u64.wrap (((2 ^ i : Nat) : Int) - 1) = ((2 ^ i - 1 : Nat) : Int) := by
    have := Nat.two_pow_pos i
    rw [IntKind.wrap_u64]
    generalize 2 ^ i = y at *
    omega
  have Hc : Hid (∀ w, Calls Tryz.prog 263 #[.int .u64 ((2 ^ i - 1 : Nat) : Int)] w fun e w' => e = .returned (.int .i64 (i : Int)) ∧ w = w') := fun w => by
    have := count_any ((2 ^ i - 1 : Nat) : Int) w
    rw [cnt_low i hi] at this
    exact this
  generalize 18446744073709551616 - 2 ^ i * (2 * q + 1) = nx at *
  generalize 2 ^ i * (2 * q + 1) = x at *
  generalize 2 ^ i - 1 = pm at *
  generalize 2 ^ i = pw at *
  go_enter Tryz.func237, Tryz.ntmps237
  go_wp2_with (go_at_call 263; refine (Hc.out _).mono ?_; rintro e w' ⟨rfl, rfl⟩)
  go_ret
  exact ⟨rfl, rfl⟩

/-- What Next answers. -/
def NextR (s : Nat → Bool) (a : Nat) (w : World) (e : Ending) (w' : World) : Prop := (∃ (x : Nat) (ok : Bool), e = .returned (.tuple #[.int .i64 x, .bool ok]) ∧ NextS s a x ok) ∧ w = w'
theorem bnext_any (F : Nat → Prop) (p n a : Nat) (s : Nat → Bool) (w : World) (h : SetR w F p n s) (hn0 : 0 < n) (hn : n ≤ 100000) (ha : a ≤ 1000000000000000) :
    Calls Tryz.prog 206 #[.pointer (some ⟨p, 0, none⟩), .int .i64 a] w (NextR s a w) := by
  have hout := h.out
  obtain ⟨g, cap, L, many, hb, ho, hlt, hs, hF1, hF2⟩ := h
  have c0 : w.cell? ⟨p, 0, none⟩ = some (.slice (some ⟨g, 0, none⟩) n cap) := hb.cell 0
  have c1 : w.cell? ⟨p, 1, none⟩ = some (.int .i64 ((64 * n : Nat) : Int)) := hb.cell 1
  have hl : L.length = n := by have := ho.len; rw [wcells_len] at this; omega
  obtain ⟨_, e2, _, _, hnc, _, hx, _⟩ := ho.at_ (by omega)
  cases e2
  have Hx : Hid (∀ i, i < n → w.cell? ⟨g, i, none⟩ = some (.int .u64 (L.getD i 0 : Nat))) := fun i hi => hx i _ (wcells_at L i (by omega))
  have hmax : max (a : Int) 0 = (a : Int) := by omega
  clear hb ho hx
  by_cases hal : a < 64 * n
  · have hge : ¬ ((a : Int) ≥ ((64 * n : Nat) : Int)) := by omega
    have x0 := Hx.out (a / 64) (by omega)
    have hv := hlt (a / 64)
    have hd : a / 64 < n := by omega
    have hr : a % 64 < 64 := Nat.mod_lt _ (by decide)
    have hmask := mask_u64 (L.getD (a / 64) 0) (a % 64) hv
    have hquo : (a : Int) / 64 = ((a / 64 : Nat) : Int) := by omega
    have hrem : (a : Int) % 64 = ((a % 64 : Nat) : Int) := by omega
    have hw : IntKind.u64.wrap ((a % 64 : Nat) : Int) = ((a % 64 : Nat) : Int) := by rw [IntKind.wrap_u64]; omega
    have HA : Hid (∀ b, b < 64 → (L.getD (a / 64) 0 / 2 ^ (a % 64) * 2 ^ (a % 64)).testBit b = (decide (a ≤ 64 * (a / 64) + b) && s (64 * (a / 64) + b))) := by
      intro b hb
      rw [mask_bit, hs]
      unfold bitAt
      rw [show (64 * (a / 64) + b) / 64 = a / 64 by omega, show (64 * (a / 64) + b) % 64 = b by omega]
      congr 1
      rw [decide_eq_decide]
      omega
    have HB := Lib.hid (by omega : a / 64 * 64 ≤ a ∧ a < 64 * (a / 64) + 64)
    have hml := mask_lt (L.getD (a / 64) 0) (a % 64) hv
    have Hs := Lib.hid hs
    have Hlt := Lib.hid hlt
    generalize hM : L.getD (a / 64) 0 / 2 ^ (a % 64) * 2 ^ (a % 64) = M at *
    clear hM hs hlt hout
    generalize L.getD (a / 64) 0 = v at *
    generalize a / 64 = d at *
    generalize a % 64 = r at *
    generalize h64 : 64 * n = N at *
    have H64 := Lib.hid h64
    have hN : N ≤ 6400000 := by omega
    clear h64
    go_enter Tryz.func206, Tryz.ntmps206
    go_wp2_with fail
    go_loop [6, 7] (fun v6 v7 => ∃ i u : Nat, v6 = .int .i64 i ∧ v7 = .int .u64 u ∧ i < n ∧ a < 64 * i + 64 ∧ u < 18446744073709551616 ∧ (∀ j, a ≤ j → j < 64 * i → s j = false) ∧ ∀ b, b < 64 → u.testBit b = (decide (a ≤ 64 * i + b) && s (64 * i + b))) (fun v6 _ => n - (intOf v6).toNat)
    case atStart => exact ⟨d, M, rfl, rfl, hd, HB.out.2, hml, fun j h1 h2 => by have := HB.out.1; omega, HA.out⟩
    case round =>
      clear x0 hv hmask hquo hrem hw HA HB hml hal hge hr
      obtain ⟨i, u, rfl, rfl, hi, hai, hu, hnone, hbits⟩ := hrel
      by_cases hu0 : u = 0
      · subst hu0
        have HN : Hid (∀ j, a ≤ j → j < 64 * (i + 1) → s j = false) := by
          intro j h1 h2
          rcases Nat.lt_or_ge j (64 * i) with h3 | h3
          · exact hnone j h1 h3
          · have := hbits (j - 64 * i) (by omega)
            rw [Nat.zero_testBit, show 64 * i + (j - 64 * i) = j by omega, decide_eq_true h1, Bool.true_and] at this
            exact this.symm
        clear hnone hbits
        by_cases hi1 : i + 1 < n
        · have x0 := Hx.out (i + 1) hi1
          have hv := Hlt.out (i + 1)
          have HA : Hid (∀ b, b < 64 → (L.getD (i + 1) 0).testBit b = (decide (a ≤ 64 * (i + 1) + b) && s (64 * (i + 1) + b))) := by
            intro b hb
            rw [Hs.out, decide_eq_true (by omega), Bool.true_and]
            unfold bitAt
            rw [show (64 * (i + 1) + b) / 64 = i + 1 by omega, show (64 * (i + 1) + b) % 64 = b by omega]
          generalize L.getD (i + 1) 0 = v at *
          have hge : ¬ ((i : Int) + 1 ≥ (n : Int)) := by omega
          go_wp2_with fail
          exact ⟨⟨i + 1, v, by go_num, rfl, hi1, by omega, hv, HN.out, HA.out⟩, by simp [intOf]; omega⟩
        · have hge : (i : Int) + 1 ≥ (n : Int) := by omega
          have HZ : Hid (NextS s a 0 false) := .inr ⟨rfl, rfl, fun j hj => by
            rcases Nat.lt_or_ge j (64 * (i + 1)) with h3 | h3
            · exact HN.out j hj h3
            · rw [Hs.out]; exact bitAt_out L j (by omega)⟩
          go_wp2_with fail
          go_ret2
          exact ⟨⟨0, false, by simp, HZ.out⟩, rfl⟩
      · have hub : ((u : Int) == 0) = false := by rw [beq_eq_false_iff_ne]; omega
        obtain ⟨k, q, hkq⟩ := low_form u (by omega)
        have hlo := lowest_any k q
        rw [← hkq] at hlo
        have Hlo := Lib.hid (fun w => hlo w hu)
        have hk64 := (low_lt k q (by rw [← hkq]; exact hu)).1
        have HZ : Hid (NextS s a (64 * i + k) true) := by
          have h1 := hbits k hk64
          rw [hkq, low_at] at h1
          have h2 := h1.symm
          rw [Bool.and_eq_true, decide_eq_true_eq] at h2
          refine .inl ⟨rfl, h2.1, h2.2, fun j h3 h4 => ?_⟩
          rcases Nat.lt_or_ge j (64 * i) with h5 | h5
          · exact hnone j h3 h5
          · have := hbits (j - 64 * i) (by omega)
            rw [hkq, low_before k q _ (by omega), show 64 * i + (j - 64 * i) = j by omega, decide_eq_true h3, Bool.true_and] at this
            exact this.symm
        clear hnone hbits hkq hlo hu0
        go_wp2_with (go_at_call 237; refine (Hlo.out _).mono ?_; rintro e w' ⟨rfl, rfl⟩)
        go_ret2
        exact ⟨⟨64 * i + k, true, by simp; omega, HZ.out⟩, rfl⟩
  · have hge : ((a : Int) ≥ ((64 * n : Nat) : Int)) := by omega
    have HN : Hid (NextS s a 0 false) := .inr ⟨rfl, rfl, fun j hj => hout j (by omega)⟩
    clear hs hlt hout
    generalize h64 : 64 * n = N at *
    clear h64
    go_enter Tryz.func206, Tryz.ntmps206
    go_wp2_with fail
    go_ret2
    exact ⟨⟨0, false, by simp, HN.out⟩, rfl⟩
end Go.Proofs.YtcnjipicifkfjaaGreat

/- regs: Right, Get, Need, Set. -/
namespace Go.Proofs.YtcnjipicifkfjaaGreat
open Go.RowKit
set_option linter.unusedVariables false
set_option linter.unusedSimpArgs false

theorem mod_b {w w' : World} {F : Nat → Prop} (h : Below w.heap.size w w') : Mod w w' F := (Mod.of_below h).mono (fun k h1 h2 => absurd h2 (Nat.not_le.2 h1))
theorem nright_any (m r : Nat) (w : World) (hm : m < 4) (hr : r < 8) :
    Calls Tryz.prog 59 #[.agg #[.int .i64 m, .int .i64 r]] w fun e w' => e = .returned (.bool true) ∧ Below w.heap.size w w' := by
  have HB := Lib.hid (below_box w (.cells #[.int .i64 m, .int .i64 r] 59))
  have g1 : decide ((m : Int) < 4) = true := by rw [decide_eq_true_eq]; omega
  have g2 : decide ((r : Int) < 8) = true := by rw [decide_eq_true_eq]; omega
  have g3 : decide (m < 4) = true := by rw [decide_eq_true_eq]; omega
  have g4 : decide (r < 8) = true := by rw [decide_eq_true_eq]; omega
  go_enter Tryz.func59, Tryz.ntmps59
  go_wp2_with fail
  go_ret
  exact ⟨rfl, HB.out⟩
/-- A register's cell, in a block whose cells 3 to 34 are the registers. -/
theorem nget_any (g m r v : Nat) (t : TypeId) (cs : Array Value) (w : World) (hb : Blk w g t cs) (hm : m < 4) (hr : r < 8) (hc : cs[3 + m * 8 + r]? = some (.int .i64 v)) :
    Calls Tryz.prog 75 #[.pointer (some ⟨g, 3, none⟩), .agg #[.int .i64 m, .int .i64 r]] w fun e w' => e = .returned (.tuple #[.int .i64 v, .int .i64 0]) ∧ Below w.heap.size w w' := by
  have Hr := Lib.hid (fun w => nright_any m r w hm hr)
  obtain ⟨n1, Hn1⟩ : ∃ n, Hid (w.heap.size = n) := ⟨_, rfl⟩
  have L1 := Lib.hid ((Loc.nil Nob w).box 59 #[.int .i64 m, .int .i64 r] n1 Hn1.out)
  have HB := Lib.hid hb
  have Hc := Lib.hid hc
  clear hb hc
  go_enter Tryz.func75, Tryz.ntmps75
  go_wp2_with fail
  rw [Hn1.out]
  generalize w.alloc _ = w1 at *
  refine (Hr.out _).mono ?_
  rintro e w2 ⟨rfl, hb2⟩
  have L2 := Lib.hid (L1.out.call hb2 (Nat.le_refl _))
  have x0 : w2.cell? ⟨n1, 0, none⟩ = some (.int .i64 m) := L2.out.b0.cell 0
  have x1 : w2.cell? ⟨n1, 1, none⟩ = some (.int .i64 r) := L2.out.b0.cell 1
  have y0 : w2.cell? ⟨g, 3 + m * 8 + r, none⟩ = some (.int .i64 v) := ((HB.out.below L2.out.below HB.out.lt).cell _).trans Hc.out
  have g1 : decide ((m : Int) < 4) = true := by rw [decide_eq_true_eq]; omega
  have g2 : decide ((r : Int) < 8) = true := by rw [decide_eq_true_eq]; omega
  have g3 : decide (m < 4) = true := by rw [decide_eq_true_eq]; omega
  have g4 : decide (r < 8) = true := by rw [decide_eq_true_eq]; omega
  clear hb2 L1
  go_wp2_with fail
  go_region
  go_wp2_with fail
  go_ret2
  exact ⟨rfl, below_drewN L2.out.below 1⟩
/-- A register that leads somewhere. -/
theorem nneed_any (g m r v : Nat) (t : TypeId) (cs : Array Value) (w : World) (hb : Blk w g t cs) (hm : m < 4) (hr : r < 8) (hc : cs[3 + m * 8 + r]? = some (.int .i64 v)) (hv : 0 < v) :
    Calls Tryz.prog 121 #[.pointer (some ⟨g, 3, none⟩), .agg #[.int .i64 m, .int .i64 r]] w fun e w' => e = .returned (.tuple #[.int .i64 v, .int .i64 0]) ∧ Below w.heap.size w w' := by
  obtain ⟨n1, Hn1⟩ : ∃ n, Hid (w.heap.size = n) := ⟨_, rfl⟩
  have L1 := Lib.hid ((Loc.nil Nob w).box 59 #[.int .i64 m, .int .i64 r] n1 Hn1.out)
  have Hg : Hid (∀ w', Below w.heap.size w w' → Calls Tryz.prog 75 #[.pointer (some ⟨g, 3, none⟩), .agg #[.int .i64 m, .int .i64 r]] w' fun e w'' => e = .returned (.tuple #[.int .i64 v, .int .i64 0]) ∧ Below w'.heap.size w' w'') :=
    fun w' h => nget_any g m r v t cs w' (hb.below h hb.lt) hm hr hc
  have hv1 : decide ((v : Int) = 0) = false := by rw [decide_eq_false_iff_not]; omega
  have hv2 : decide (v = 0) = false := by rw [decide_eq_false_iff_not]; omega
  have hv3 : ((v : Int) == 0) = false := by rw [beq_eq_false_iff_ne]; omega
  clear hb hc hv
  go_enter Tryz.func121, Tryz.ntmps121
  go_wp2_with fail
  rw [Hn1.out]
  refine (Hg.out _ L1.out.below).mono ?_
  generalize w.alloc _ = w1 at *
  rintro e w2 ⟨rfl, hb2⟩
  have L2 := Lib.hid (L1.out.call hb2 (Nat.le_refl _))
  clear hb2 L1 Hg
  go_wp2_with fail
  go_ret2
  exact ⟨rfl, L2.out.below⟩
theorem nset_any (g m r v : Nat) (t : TypeId) (cs : Array Value) (w : World) (hb : Blk w g t cs) (hm : m < 4) (hr : r < 8) (hc : 35 ≤ cs.size) (hv : v < 1000000000) :
    Calls Tryz.prog 63 #[.pointer (some ⟨g, 3, none⟩), .agg #[.int .i64 m, .int .i64 r], .int .i64 v] w fun e w' => e = .returned (.int .i64 0) ∧ Blk w' g t (cs.setIfInBounds (3 + m * 8 + r) (.int .i64 v)) ∧ Mod w w' (fun k => k = g) := by
  have Hr := Lib.hid (fun w => nright_any m r w hm hr)
  obtain ⟨n1, Hn1⟩ : ∃ n, Hid (w.heap.size = n) := ⟨_, rfl⟩
  have L1 := Lib.hid ((Loc.nil Nob w).box 59 #[.int .i64 m, .int .i64 r] n1 Hn1.out)
  have HB := Lib.hid hb
  have hlt : 3 + m * 8 + r < cs.size := by omega
  have Hc : Hid (∃ u, cs[3 + m * 8 + r]? = some u) := ⟨_, Array.getElem?_eq_getElem hlt⟩
  clear hb hc hlt
  go_enter Tryz.func63, Tryz.ntmps63
  go_wp2_with fail
  rw [Hn1.out]
  generalize w.alloc _ = w1 at *
  refine (Hr.out _).mono ?_
  rintro e w2 ⟨rfl, hb2⟩
  have L2 := Lib.hid (L1.out.call hb2 (Nat.le_refl _))
  have x0 : w2.cell? ⟨n1, 0, none⟩ = some (.int .i64 m) := L2.out.b0.cell 0
  have x1 : w2.cell? ⟨n1, 1, none⟩ = some (.int .i64 r) := L2.out.b0.cell 1
  obtain ⟨u, hu⟩ := Hc.out
  have HB2 := Lib.hid (HB.out.below L2.out.below HB.out.lt)
  have y0 : w2.cell? ⟨g, 3 + m * 8 + r, none⟩ = some u := (HB2.out.cell _).trans hu
  have yf : w2.frozen? ⟨g, 3 + m * 8 + r, none⟩ = false := HB2.out.frozen _
  have g1 : decide ((m : Int) < 4) = true := by rw [decide_eq_true_eq]; omega
  have g2 : decide ((r : Int) < 8) = true := by rw [decide_eq_true_eq]; omega
  have g3 : decide (m < 4) = true := by rw [decide_eq_true_eq]; omega
  have g4 : decide (r < 8) = true := by rw [decide_eq_true_eq]; omega
  have g5 : decide ((v : Int) < 0) = false := by rw [decide_eq_false_iff_not]; omega
  clear hb2 L1 hu
  go_wp2_with fail
  go_region
  all_goals go_wp2_with fail
  all_goals go_ret
  all_goals exact ⟨rfl, (HB2.out.set_ _ _).drew, Mod.drewN (Mod.set (S := fun k => k = g) (p := ⟨g, 3 + m * 8 + r, none⟩) (mod_b L2.out.below) (.inr rfl) _) 1⟩
end Go.Proofs.YtcnjipicifkfjaaGreat

/- object: Ptrs. -/
namespace Go.Proofs.YtcnjipicifkfjaaGreat
open Go.RowKit
set_option linter.unusedVariables false
set_option linter.unusedSimpArgs false

/-- Where an object's pointers lead. -/
def ptrsL (s : DS) (a p : Nat) : List Nat := if p = 0 then [] else [s.C.getD (a + 1) 0]
set_option maxRecDepth 100000 in
set_option maxHeartbeats 1000000 in
theorem ptrs_any (B : Nat) (b : DB) (m : Nat) (s : DS) (a p d : Nat) (w : World) (h : Dev B w b m s) (ho : ObjAt s m a p d) (hv : p = 1 → s.C.getD (a + 1) 0 ≤ 1099511627776) (hm : m ≤ 10000) :
    Calls Tryz.prog 126 #[.pointer (some ⟨b.d, 0, none⟩), .int .i64 a] w fun e w' => ∃ A' cap', e = .returned (.tuple #[.slice A' (ptrsL s a p).length cap', .int .i64 0]) ∧ Own w' w.heap.size 3 1 A' (ptrsL s a p).length cap' (ncells (ptrsL s a p)) ∧ Below w.heap.size w w' := by
  have Hh := Lib.hid (head_any B b m s a p d w h ho hm)
  obtain ⟨i0, hi0, hz0, hz1, hz2⟩ := info3s
  have hp : p = 0 ∨ (p = 1 ∧ d = 1) := by rcases ho.o with h | h <;> omega
  rcases hp with rfl | ⟨rfl, rfl⟩
  · clear h ho hv
    go_enter Tryz.func126, Tryz.ntmps126
    go_wp2_with fail
    refine Hh.out.mono ?_
    rintro e w1 ⟨rfl, hb1⟩
    have L1 := Lib.hid ((Loc.nil Nob w).call hb1 (Nat.le_refl _))
    clear hb1
    go_wp2_with fail
    refine wp_loop_rounds 1 ?_
    rw [rounds_succ]
    go_wp2_with fail
    have L2 := L1.out.box 51 #[.int .i64 (0 : Nat), .int .i64 (d : Nat)] w1.heap.size rfl
    refine bodyPost_ret (results_tmp2 rfl _ _ _) rfl ?_
    exact ⟨none, 0, rfl, Own.nil _ _ _ _, L2.below⟩
  · have Hv := Lib.hid (hv rfl)
    obtain ⟨v, HV⟩ : ∃ v, Hid (s.C.getD (a + 1) 0 = v) := ⟨_, rfl⟩
    have Hp : Hid (∀ w', Below w.heap.size w w' → Calls Tryz.prog 76 #[.pointer (some ⟨b.d, 0, none⟩), .int .i64 a, .int .i64 0] w' fun e w'' => e = .returned (.tuple #[.int .i64 v, .int .i64 0]) ∧ Below w'.heap.size w' w'') :=
      fun w' hb => optrOf_any B b m s a v w' (h.below hb (Nat.le_refl _)) ho HV.out (HV.out ▸ Hv.out) hm
    have HL : Hid (ptrsL s a 1 = [v]) := by show _ = _; unfold ptrsL; rw [HV.out]; rfl
    rw [HL.out]
    clear h ho hv Hv HV
    go_enter Tryz.func126, Tryz.ntmps126
    go_wp2_with fail
    refine Hh.out.mono ?_
    rintro e w1 ⟨rfl, hb1⟩
    have L1 := Lib.hid ((Loc.nil Nob w).call hb1 (Nat.le_refl _))
    clear hb1
    obtain ⟨n1, Hn1⟩ : ∃ n, Hid (w1.heap.size = n) := ⟨_, rfl⟩
    have L2 := Lib.hid (L1.out.box 51 #[.int .i64 (1 : Nat), .int .i64 (1 : Nat)] n1 Hn1.out)
    go_wp2_with fail
    refine wp_loop_rounds 2 ?_
    rw [rounds_succ]
    go_wp2_with fail
    rw [Hn1.out]
    generalize w1.alloc _ = w2 at *
    refine (Hp.out _ L2.out.below).mono ?_
    rintro e w3 ⟨rfl, hb3⟩
    have L3 := Lib.hid (L2.out.call hb3 (Nat.le_refl _))
    clear hb3 L2 L1
    go_wp2_with (at_builtin; (refine append_elem rfl (.tmp 33) (.tmp 35) 60 rfl w.heap.size 3 i0 _ 1 8 Tryz.underlying60 hi0 hz0 hz1 hz2 rfl (by omega) none 0 0 [] rfl (Own.nil _ _ _ _) [.int .i64 v] rfl rfl (by simp [Value.oneCell']) (by unfold maxLen; omega) (by omega) L3.out.below.size ?_))
    intro A4 cap4 w4 hO4 hM4 hat4
    have HO4 := Lib.hid hO4
    have L4 := Lib.hid (L3.out.eff hM4 (fun k h => h.elim))
    clear hO4 hM4 hat4 L3
    go_wp2_with fail
    rw [rounds_succ]
    go_wp2_with fail
    refine bodyPost_ret (results_tmp2 rfl _ _ _) rfl ?_
    exact ⟨A4, cap4, rfl, HO4.out, L4.out.below⟩
end Go.Proofs.YtcnjipicifkfjaaGreat

/- alloc's state; Used, Device; hold: Has, New. -/
namespace Go.Proofs.YtcnjipicifkfjaaGreat
open Go.RowKit
set_option linter.unusedVariables false
set_option linter.unusedSimpArgs false

/-- What an allocator knows: how many blocks; the class that is used; headers; the run of free blocks; objects in use; free cells; cells that mutators keep. -/
structure AS where
  K : Nat
  k : Nat
  hs : List (Nat × Nat)
  o : Option (Nat × Nat)
  used : Nat → Bool
  glob : List Nat
  cs : Nat → List Nat
def AllocR (w : World) (col : Nat → Nat) (ap d : Nat) (S : AS) : Prop :=
  ∃ mp us fr, Blk w ap 110 #[.pointer (some ⟨mp, 0, none⟩), .pointer (some ⟨d, 0, none⟩), .int .i64 S.K, .pointer (some ⟨us, 0, none⟩), .pointer (some ⟨fr, 0, none⟩)] ∧ BmanR w (fun k => col k = 1) mp d S.K S.hs S.o ∧
    SetR w (fun k => col k = 2) us (8 * S.K) S.used ∧ FreeR w (fun k => col k = 3) fr S.k S.glob S.cs ∧ col ap = 8
section
variable {w w' : World} {col col' : Nat → Nat} {ap d : Nat} {S : AS} {T : Nat → Prop}
theorem AllocR.mod (h : AllocR w col ap d S) (m : Mod w w' T) (hs : ∀ k, col k = 1 ∨ col k = 2 ∨ col k = 3 ∨ col k = 8 → ¬ T k) : AllocR w' col ap d S := by
  obtain ⟨mp, us, fr, h1, h2, h3, h4, h5⟩ := h
  exact ⟨mp, us, fr, m.blk h1 (hs _ (by simp [h5])), h2.mod m (fun k hk => hs k (.inl hk)), h3.mod m (fun k hk => hs k (.inr (.inl hk))), h4.mod m (fun k hk => hs k (.inr (.inr (.inl hk)))), h5⟩
theorem AllocR.below {B : Nat} (h : AllocR w col ap d S) (hb : Below B w w') (hB : w.heap.size ≤ B) : AllocR w' col ap d S := by
  obtain ⟨mp, us, fr, h1, h2, h3, h4, h5⟩ := h
  exact ⟨mp, us, fr, h1.below hb (Nat.lt_of_lt_of_le h1.lt hB), h2.below hb hB, h3.below hb hB, h4.below hb hB, h5⟩
theorem AllocR.recol (h : AllocR w col ap d S) (hc : ∀ k, k < w.heap.size → col' k = col k) : AllocR w col' ap d S := by
  obtain ⟨mp, us, fr, h1, h2, h3, h4, h5⟩ := h
  exact ⟨mp, us, fr, h1, h2.weak (fun k hk e => (hc k hk).trans e), h3.weak (fun k hk e => (hc k hk).trans e), h4.weak (fun k hk e => (hc k hk).trans e), (hc ap h1.lt).trans h5⟩
end
theorem aused_any (col : Nat → Nat) (ap d a : Nat) (S : AS) (w : World) (h : AllocR w col ap d S) (hK : S.K ≤ 150) (ha : a ≤ 1000000000000000) :
    Calls Tryz.prog 88 #[.pointer (some ⟨ap, 0, none⟩), .int .i64 a] w fun e w' => e = .returned (.bool (S.used a)) ∧ w = w' := by
  obtain ⟨mp, us, fr, h1, h2, h3, h4, h5⟩ := h
  have c3 : w.cell? ⟨ap, 3, none⟩ = some (.pointer (some ⟨us, 0, none⟩)) := h1.cell 3
  have Hh := Lib.hid (bhas_any _ us (8 * S.K) a S.used w h3 (by omega) ha)
  clear h1 h2 h3 h4 h5
  go_enter Tryz.func88, Tryz.ntmps88
  go_wp2_with fail
  refine Hh.out.mono ?_
  rintro e w1 ⟨rfl, rfl⟩
  go_wp2_with fail
  go_ret
  exact ⟨rfl, rfl⟩
theorem adev_any (col : Nat → Nat) (ap d : Nat) (S : AS) (w : World) (h : AllocR w col ap d S) :
    Calls Tryz.prog 97 #[.pointer (some ⟨ap, 0, none⟩)] w fun e w' => e = .returned (.pointer (some ⟨d, 0, none⟩)) ∧ w = w' := by
  obtain ⟨mp, us, fr, h1, h2, h3, h4, h5⟩ := h
  have c1 : w.cell? ⟨ap, 1, none⟩ = some (.pointer (some ⟨d, 0, none⟩)) := h1.cell 1
  clear h1 h2 h3 h4 h5
  go_enter Tryz.func97, Tryz.ntmps97
  go_wp2_with fail
  go_ret
  exact ⟨rfl, rfl⟩
/-- All objects in use lie on the device; each has p pointers. -/
def OB (s : DS) (m : Nat) (used : Nat → Bool) (p : Nat) : Prop := ∀ a, used a = true → 0 < a ∧ ∃ d, ObjAt s m a p d ∧ (p = 1 → s.C.getD (a + 1) 0 ≤ 1099511627776)
def nx (s : DS) (p a : Nat) : Nat := if p = 0 then 0 else s.C.getD (a + 1) 0
/-- A set of held objects. -/
def HeldR (w : World) (F : Nat → Prop) (hl ap K : Nat) (st : Nat → Bool) : Prop :=
  ∃ hp, Blk w hl 153 #[.pointer (some ⟨ap, 0, none⟩), .pointer (some ⟨hp, 0, none⟩)] ∧ SetR w F hp (8 * K) st ∧ ¬ F hl
section
variable {w w' : World} {F F' T : Nat → Prop} {hl ap K : Nat} {st : Nat → Bool}
theorem HeldR.mod (h : HeldR w F hl ap K st) (m : Mod w w' T) (hs : ∀ k, F k → ¬ T k) (h1 : ¬ T hl) : HeldR w' F hl ap K st := by
  obtain ⟨hp, hb, hS, hf⟩ := h
  exact ⟨hp, m.blk hb h1, hS.mod m hs, hf⟩
theorem HeldR.below {B : Nat} (h : HeldR w F hl ap K st) (hb : Below B w w') (hB : w.heap.size ≤ B) : HeldR w' F hl ap K st := by
  obtain ⟨hp, hb1, hS, hf⟩ := h
  exact ⟨hp, hb1.below hb (Nat.lt_of_lt_of_le hb1.lt hB), hS.below hb hB, hf⟩
theorem HeldR.weak (h : HeldR w F hl ap K st) (hF : ∀ k, k < w.heap.size → F k → F' k) (h1 : ¬ F' hl) : HeldR w F' hl ap K st := by
  obtain ⟨hp, hb1, hS, hf⟩ := h
  exact ⟨hp, hb1, hS.weak hF, h1⟩
end
theorem hhas_any (F : Nat → Prop) (hl ap K a : Nat) (st : Nat → Bool) (w : World) (h : HeldR w F hl ap K st) (hK : K ≤ 150) (ha : a ≤ 1000000000000000) :
    Calls Tryz.prog 78 #[.pointer (some ⟨hl, 0, none⟩), .int .i64 a] w fun e w' => e = .returned (.bool (st a)) ∧ w = w' := by
  obtain ⟨hp, hb, hS, hf⟩ := h
  have c1 : w.cell? ⟨hl, 1, none⟩ = some (.pointer (some ⟨hp, 0, none⟩)) := hb.cell 1
  have Hh := Lib.hid (bhas_any _ hp (8 * K) a st w hS (by omega) ha)
  clear hb hS hf
  go_enter Tryz.func78, Tryz.ntmps78
  go_wp2_with fail
  refine Hh.out.mono ?_
  rintro e w1 ⟨rfl, rfl⟩
  go_wp2_with fail
  go_ret
  exact ⟨rfl, rfl⟩
/-- hold.New. -/
theorem hnew_any (B : Nat) (b : DB) (m : Nat) (s : DS) (col : Nat → Nat) (ap : Nat) (S : AS) (w : World) (h : Dev B w b m s) (hA : AllocR w col ap b.d S) (hm : m = S.K * 64) (hK0 : 0 < S.K) (hK : S.K ≤ 150) :
    Calls Tryz.prog 41 #[.pointer (some ⟨ap, 0, none⟩)] w fun e w' => ∃ hl, e = .returned (.pointer (some ⟨hl, 0, none⟩)) ∧ w.heap.size ≤ hl ∧ HeldR w' (fun k => w.heap.size ≤ k ∧ k ≠ hl) hl ap S.K (fun _ => false) ∧ Below w.heap.size w w' := by
  have Hd := Lib.hid (adev_any col ap b.d S w hA)
  have Hl := Lib.hid (len_any B b m s w h)
  have Hn := Lib.hid (fun w => bnew_any (8 * S.K) w (by omega) (by omega))
  obtain ⟨N, HN⟩ : ∃ N, Hid (8 * m = N) := ⟨_, rfl⟩
  rw [HN.out] at Hl
  rw [show 64 * (8 * S.K) = N by rw [← HN.out, hm]; omega] at Hn
  clear h hA
  go_enter Tryz.func41, Tryz.ntmps41
  go_wp2_with fail
  refine Hd.out.mono ?_
  rintro e w1 ⟨rfl, rfl⟩
  go_wp2_with fail
  refine Hl.out.mono ?_
  rintro e w1 ⟨rfl, rfl⟩
  go_wp2_with fail
  refine (Hn.out _).mono ?_
  rintro e w1 ⟨p, rfl, hS, hb⟩
  have HS := Lib.hid hS
  have HB := Lib.hid hb
  obtain ⟨n1, Hn1⟩ : ∃ n, Hid (w1.heap.size = n) := ⟨_, rfl⟩
  clear hS hb Hd Hl Hn
  go_wp2_with fail
  rw [Hn1.out]
  go_ret
  have hle := HB.out.size
  rw [Hn1.out] at hle
  have hb2 := below_box w1 (.cells #[.pointer (some ⟨ap, 0, none⟩), .pointer (some ⟨p, 0, none⟩)] 153)
  refine ⟨n1, rfl, hle, ⟨p, by rw [← Hn1.out]; exact Blk.new w1 153 _, ?_, by simp⟩, HB.out.trans (hb2.mono HB.out.size)⟩
  exact (HS.out.weak (F' := fun k => w.heap.size ≤ k ∧ k ≠ n1) (fun k h1 h2 => ⟨h2, by rw [← Hn1.out]; omega⟩)).below hb2 (Nat.le_refl _)
end Go.Proofs.YtcnjipicifkfjaaGreat
