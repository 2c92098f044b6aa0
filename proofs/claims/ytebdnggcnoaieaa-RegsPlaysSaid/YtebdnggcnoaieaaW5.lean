/- The walks of Ints, Need, tells. -/
import Derived.Test.YtebdnggcnoaieaaW4
import Derived.Deep.RegionHeld3
namespace Go.Proofs.Ytebdnggcnoaieaa
open Go.RowKit
set_option linter.unusedVariables false
set_option linter.unusedSimpArgs false

theorem ivals_at (l : List Int) (j : Nat) (h : j < l.length) : (ivals l)[j]? = some (.int .i64 (l.getD j 0)) := by
  simp [ivals, List.getD, h]

theorem ints_any (A A2 : Option Addr) (n cap cap2 B1 B2 : Nat) (l : List Int) (w : World) (hn : n ≤ 1000) (hO : Own w B1 3 1 A n cap (ivals l)) (hO2 : Own w B2 3 1 A2 n cap2 (ivals l)) :
    Calls Try.prog 13 #[.slice A n cap, .slice A2 n cap2] w fun e w' => e = .returned (.bool true) ∧ Below w.heap.size w w' := by
  have HO := Lib.hid hO
  have HO2 := Lib.hid hO2
  have hl : l.length = n := by have := hO.len; rw [ivals_len] at this; omega
  have Hl := Lib.hid hl
  clear hO hO2 hl
  go_enter Try.func13, Try.ntmps13
  go_wp2_with fail
  go_loopw [5] (fun v5 wr => ∃ i : Nat, v5 = .int .i64 i ∧ i ≤ n ∧ Below w.heap.size w wr) (fun v5 _ => n - (intOf v5).toNat)
  case atStart => exact ⟨0, rfl, Nat.zero_le _, Below.refl _ _⟩
  case round =>
    obtain ⟨i, rfl, hi, hb⟩ := hrel
    have Hb := Lib.hid hb
    clear hb
    by_cases hlt : i < n
    · obtain ⟨g1, rfl, hg1a, hg1, hc1, hc2, hx1, _⟩ := HO.out.at_ (by omega)
      obtain ⟨g2, rfl, hg2a, hg2, hc3, hc4, hx2, _⟩ := HO2.out.at_ (by omega)
      have c1 : wr.cell? ⟨g1, i, none⟩ = some (.int .i64 (l.getD i 0)) := (Hb.out.cell (p := ⟨g1, i, none⟩) hg1).trans (hx1 i _ (ivals_at l i (by rw [Hl.out]; exact hlt)))
      have c2 : wr.cell? ⟨g2, i, none⟩ = some (.int .i64 (l.getD i 0)) := (Hb.out.cell (p := ⟨g2, i, none⟩) hg2).trans (hx2 i _ (ivals_at l i (by rw [Hl.out]; exact hlt)))
      clear hx1 hx2 HO HO2
      generalize l.getD i 0 = y at *
      go_wp2_with fail
      go_quiet (fail)
      go_wp2_with fail
      exact ⟨⟨i + 1, by go_num, by omega, below_drewN Hb.out _⟩, by simp [intOf]; omega⟩
    · obtain rfl : i = n := by omega
      go_wp2_with fail
      go_ret
      exact ⟨rfl, Hb.out⟩

/-- What Get tells. -/
def getv (fs : List Int) (m r : Int) : Int := if okName m r then fs.getD (m.toNat * 8 + r.toNat) 0 else 0
def gete (m r : Int) : Int := if okName m r then 0 else 1
theorem get_any (g : Nat) (m r : Int) (fs : List Int) (w : World) (hf : fs.length = 32) (hB : Blk w g 30 (fcells fs)) :
    Calls Try.prog 8 #[.pointer (some ⟨g, 0, none⟩), .agg #[.int .i64 m, .int .i64 r]] w fun e w' => e = .returned (.tuple #[.int .i64 (getv fs m r), .int .i64 (gete m r)]) ∧ Below w.heap.size w w' := by
  unfold getv gete
  by_cases h : okName m r
  · rw [if_pos h, if_pos h]
    obtain ⟨h1, h2, h3, h4⟩ := h
    obtain ⟨a, rfl⟩ : ∃ a : Nat, m = a := ⟨m.toNat, by omega⟩
    obtain ⟨c, rfl⟩ : ∃ c : Nat, r = c := ⟨r.toNat, by omega⟩
    exact get_yes g a c fs w (by omega) (by omega) hf hB
  · rw [if_neg h, if_neg h]
    exact get_no g m r w h
def neede (fs : List Int) (m r : Int) : Int := if okName m r then (if getv fs m r = 0 then 6 else 0) else 1

theorem need_any (g : Nat) (m r : Int) (fs : List Int) (w : World) (hf : fs.length = 32) (hB : Blk w g 30 (fcells fs)) :
    Calls Try.prog 16 #[.pointer (some ⟨g, 0, none⟩), .agg #[.int .i64 m, .int .i64 r]] w fun e w' => e = .returned (.tuple #[.int .i64 (getv fs m r), .int .i64 (neede fs m r)]) ∧ Below w.heap.size w w' := by
  have HB := Lib.hid hB
  have Hf := Lib.hid hf
  clear hf hB
  by_cases h : okName m r
  · have HE : Hid (gete m r = 0) := if_pos h
    have HN : Hid (neede fs m r = if getv fs m r = 0 then 6 else 0) := if_pos h
    rw [HN.out]
    have HG : Hid (∀ w, Blk w g 30 (fcells fs) → Calls Try.prog 8 #[.pointer (some ⟨g, 0, none⟩), .agg #[.int .i64 m, .int .i64 r]] w fun e w' => e = .returned (.tuple #[.int .i64 (getv fs m r), .int .i64 0]) ∧ Below w.heap.size w w') := by
      intro w hB
      have := get_any g m r fs w Hf.out hB
      rwa [HE.out] at this
    clear HE HN h
    generalize getv fs m r = y at *
    by_cases hy : y = 0
    · rw [if_pos hy]
      subst hy
      go_enter Try.func16, Try.ntmps16
      go_wp2_with fail
      refine (HG.out _ (HB.out.alloc _)).mono ?_
      rintro e w1 ⟨rfl, hb⟩
      have Hb := Lib.hid (((Below.refl _ w).alloc (Nat.le_refl _) _).trans (hb.mono (by simp)))
      clear hb
      go_wp2_with fail
      go_ret2
      exact ⟨rfl, Hb.out⟩
    · rw [if_neg hy]
      have hb0 : (y == 0) = false := by simpa using hy
      clear hy
      go_enter Try.func16, Try.ntmps16
      go_wp2_with fail
      refine (HG.out _ (HB.out.alloc _)).mono ?_
      rintro e w1 ⟨rfl, hb⟩
      have Hb := Lib.hid (((Below.refl _ w).alloc (Nat.le_refl _) _).trans (hb.mono (by simp)))
      clear hb
      go_wp2_with fail
      go_ret2
      exact ⟨rfl, Hb.out⟩
  · have HE : Hid (gete m r = 1) := if_neg h
    have HN : Hid (neede fs m r = 1) := if_neg h
    have HV : Hid (getv fs m r = 0) := if_neg h
    rw [HN.out]
    have HG : Hid (∀ w, Blk w g 30 (fcells fs) → Calls Try.prog 8 #[.pointer (some ⟨g, 0, none⟩), .agg #[.int .i64 m, .int .i64 r]] w fun e w' => e = .returned (.tuple #[.int .i64 0, .int .i64 1]) ∧ Below w.heap.size w w') := by
      intro w hB
      have := get_any g m r fs w Hf.out hB
      rwa [HE.out, HV.out] at this
    rw [HV.out]
    clear HE HN h HV
    go_enter Try.func16, Try.ntmps16
    go_wp2_with fail
    refine (HG.out _ (HB.out.alloc _)).mono ?_
    rintro e w1 ⟨rfl, hb⟩
    have Hb := Lib.hid (((Below.refl _ w).alloc (Nat.le_refl _) _).trans (hb.mono (by simp)))
    clear hb
    go_wp2_with fail
    go_ret2
    exact ⟨rfl, Hb.out⟩

theorem run_loadAt_row {P : Program} {w : World} {g : Nat} {t ty : TypeId} {cs : Array Value} {d : TypeDesc} (hg : Blk w g t cs) (hu : P.underlying ty = some d) (hd : (match d with | .struct _ | .array _ _ => true | _ => false) = true)
    (hi : (P.info? ty).map (·.size) = some cs.size) : (Instr.loadAt ty (.pointer (some ⟨g, 0, none⟩))).run P w = .ok (.agg cs) w := by
  have h := run_load_sub 0 cs.size hg hu hd hi (by omega)
  rw [Nat.zero_add, Array.extract_size] at h
  simp only [Instr.loadAt, Instr.sureAddr, Sem.run_bind, Sem.run_pure, Result.andThen_ok, h]

theorem nats_at (l : List Nat) (i : Nat) (h : i < l.length) : (ivals (nats l))[i]? = some (.int .i64 (l.getD i 0 : Nat)) := by
  simp [ivals, nats, List.getD, h]
theorem ncells_at0 (l : List Nat) (i : Nat) (h : i < l.length) : (ncells l)[i * 2]? = some (.int .i64 ((l.getD i 0 / 8 : Nat) : Int)) := by
  induction l generalizing i with
  | nil => simp at h
  | cons y l ih =>
    cases i with
    | zero => simp [ncells]
    | succ i =>
      rw [show (i + 1) * 2 = i * 2 + 2 by omega]
      simpa [ncells] using ih i (by simpa using h)
theorem ncells_at1 (l : List Nat) (i : Nat) (h : i < l.length) : (ncells l)[i * 2 + 1]? = some (.int .i64 ((l.getD i 0 % 8 : Nat) : Int)) := by
  induction l generalizing i with
  | nil => simp at h
  | cons y l ih =>
    cases i with
    | zero => simp [ncells]
    | succ i =>
      rw [show (i + 1) * 2 + 1 = i * 2 + 1 + 2 by omega]
      simpa [ncells] using ih i (by simpa using h)

section
variable {P : Program} {ops : Array Oper} {S : World → Prop} {op : Oper} {a : Act}
theorem yields_load_row {g : Nat} {t ty : TypeId} {cs : Array Value} {d : TypeDesc} (hw : Region.wanted op (yielded ops a.tmps) = true) (x : Operand) (ho : op.op = .load ty x)
    (hx : a.eval x = .pointer (some ⟨g, 0, none⟩)) (hS : ∀ w, S w → Blk w g t cs) (hu : P.underlying ty = some d) (hd : (match d with | .struct _ | .array _ _ => true | _ => false) = true)
    (hi : (P.info? ty).map (·.size) = some cs.size) : YieldsIf P ops S op (.agg cs) a :=
  .inl ⟨hw, fun w hw' => by
    unfold execOp
    simp only [ho, hx, run_loadAt_row (hS w hw') hu hd hi, Sem.run_bind, Sem.run_pure, Result.andThen_ok]⟩
theorem yields_move (v : Value) (hw : Region.wanted op (yielded ops a.tmps) = true) (x : Operand) (ho : op.op = .move x ∨ op.op = .assign x) (hv : a.eval x = v) : YieldsIf P ops S op v a :=
  .inl ⟨hw, fun w hw' => by
    unfold execOp
    rcases ho with ho | ho <;> simp only [ho, hv, Sem.run_bind, Sem.run_pure, Result.andThen_ok]⟩
end

/-- What tells leaves as it is. -/
structure KT (w0 w : World) (g : Nat) (fs : List Int) (m r : Int) : Prop where
  b : Below w0.heap.size w0 w
  f : Blk w g 30 (fcells fs)
  rf : Blk w w0.heap.size 40 (fcells fs)
  n : Blk w (w0.heap.size + 1) 24 #[.int .i64 m, .int .i64 r]
theorem KT.below {w0 w w' : World} {g B : Nat} {fs : List Int} {m r : Int} (h : KT w0 w g fs m r) (hb : Below B w w') (hB : w.heap.size ≤ B) : KT w0 w' g fs m r :=
  ⟨h.b.trans (hb.mono (Nat.le_trans h.b.size hB)), h.f.below hb (Nat.lt_of_lt_of_le h.f.lt hB), h.rf.below hb (Nat.lt_of_lt_of_le h.rf.lt hB), h.n.below hb (Nat.lt_of_lt_of_le h.n.lt hB)⟩
theorem KT.drewN {w0 w : World} {g : Nat} {fs : List Int} {m r : Int} (h : KT w0 w g fs m r) (k : Nat) : KT w0 (w.drewN k) g fs m r :=
  ⟨below_drewN h.b k, h.f.drewN k, h.rf.drewN k, h.n.drewN k⟩

set_option maxHeartbeats 2000000 in
theorem tells_no (g : Nat) (x m r : Int) (fs : List Int) (w : World) (hf : fs.length = 32) (hB : Blk w g 30 (fcells fs)) (h : ¬ okName m r) :
    Calls Try.prog 15 #[.pointer (some ⟨g, 0, none⟩), .agg (fcells fs), .agg #[.int .i64 m, .int .i64 r], .int .i64 x] w fun e w' => e = .returned (.bool true) ∧ Below w.heap.size w w' := by
  have HI : Hid (idx m r = -1 ∧ gete m r = 1 ∧ neede fs m r = 1 ∧ getv fs m r = 0) := ⟨if_neg h, if_neg h, if_neg h, if_neg h⟩
  have Hok := Lib.hid h
  have HB := Lib.hid hB
  have Hf := Lib.hid hf
  clear hf hB h
  go_enter Try.func15, Try.ntmps15
  go_wp2_with fail
  have HK : Hid (KT w ((w.alloc (.cells (fcells fs) 40)).alloc (.cells #[.int .i64 m, .int .i64 r] 24)) g fs m r) :=
    ⟨((Below.refl _ w).alloc (Nat.le_refl _) _).alloc (by simp) _, (HB.out.alloc _).alloc _, (Blk.new w 40 _).alloc _, Blk.conv (by have := Blk.new (w.alloc (.cells (fcells fs) 40)) 24 #[.int .i64 m, .int .i64 r]; simpa using this) rfl⟩
  refine (index_any m r _).mono ?_
  rintro e w1 ⟨rfl, hw1⟩
  rw [hw1] at HK
  rw [HI.out.1]
  clear hw1
  have n0 := HK.out.n.cell 0
  have n1 := HK.out.n.cell 1
  simp only [List.getElem?_toArray, List.getElem?_cons_zero, List.getElem?_cons_succ] at n0 n1
  go_wp2_with fail
  refine (get_any g m r fs w1 Hf.out HK.out.f).mono ?_
  rintro e w2 ⟨rfl, hb⟩
  rw [HI.out.2.1, HI.out.2.2.2]
  have HK2 := Lib.hid (HK.out.below hb (Nat.le_refl _))
  clear hb n0 n1 HK
  have n0 := HK2.out.n.cell 0
  have n1 := HK2.out.n.cell 1
  simp only [List.getElem?_toArray, List.getElem?_cons_zero, List.getElem?_cons_succ] at n0 n1
  go_wp2_with fail
  refine (need_any g m r fs w2 Hf.out HK2.out.f).mono ?_
  rintro e w3 ⟨rfl, hb⟩
  rw [HI.out.2.2.1, HI.out.2.2.2]
  have HK3 := Lib.hid (HK2.out.below hb (Nat.le_refl _))
  clear hb n0 n1 HK2
  have n0 := HK3.out.n.cell 0
  have n1 := HK3.out.n.cell 1
  simp only [List.getElem?_toArray, List.getElem?_cons_zero, List.getElem?_cons_succ] at n0 n1
  go_wp2_with fail
  refine (right_no m r w3 Hok.out).mono ?_
  rintro e w4 ⟨rfl, hb⟩
  have HK4 := Lib.hid (HK3.out.below hb (Nat.le_refl _))
  clear hb n0 n1 HK3
  go_wp2_with fail
  go_ret
  exact ⟨rfl, HK4.out.b⟩

theorem size40 : (Try.prog.info? 40).map (·.size) = some 32 := by kernel_rfl

set_option maxHeartbeats 2000000 in
theorem tells_yes (g : Nat) (x : Int) (a c : Nat) (fs : List Int) (w : World) (hf : fs.length = 32) (hB : Blk w g 30 (fcells fs)) (ha : a < 4) (hc : c < 8) :
    Calls Try.prog 15 #[.pointer (some ⟨g, 0, none⟩), .agg (fcells fs), .agg #[.int .i64 a, .int .i64 c], .int .i64 x] w fun e w' => e = .returned (.bool true) ∧ Below w.heap.size w w' := by
  have h : okName a c := ⟨by omega, by omega, by omega, by omega⟩
  obtain ⟨K, hK⟩ : ∃ K : Nat, K = a * 8 + c := ⟨_, rfl⟩
  have hi : idx a c = (K : Int) := (if_pos h).trans (by omega)
  have hK32 : K < 32 := by omega
  obtain ⟨z, hz⟩ : ∃ z, z = fs.getD K 0 := ⟨_, rfl⟩
  have hgv : getv fs a c = z := (if_pos h).trans (by rw [hz, hK, Int.toNat_natCast, Int.toNat_natCast])
  have HI : Hid (idx a c = (K : Int) ∧ gete a c = 0 ∧ neede fs a c = (if z = 0 then 6 else 0) ∧ getv fs a c = z) := ⟨hi, if_pos h, (if_pos h).trans (by rw [hgv]), hgv⟩
  have HZ : Hid ((fcells fs)[K]? = some (.int .i64 z)) := by show _ = _; rw [hz]; exact fcells_at fs K (by omega)
  have Hok := Lib.hid h
  have HB := Lib.hid hB
  have Hf := Lib.hid hf
  have HFs : Hid ((fcells fs).size = 32) := (fcells_size fs).trans hf
  clear hf hB h hi hgv hz hK
  go_enter Try.func15, Try.ntmps15
  go_wp2_with fail
  have HK : Hid (KT w ((w.alloc (.cells (fcells fs) 40)).alloc (.cells #[.int .i64 a, .int .i64 c] 24)) g fs a c) :=
    ⟨((Below.refl _ w).alloc (Nat.le_refl _) _).alloc (by simp) _, (HB.out.alloc _).alloc _, (Blk.new w 40 _).alloc _, Blk.conv (by have := Blk.new (w.alloc (.cells (fcells fs) 40)) 24 #[.int .i64 a, .int .i64 c]; simpa using this) rfl⟩
  refine (index_any a c _).mono ?_
  rintro e w1 ⟨rfl, hw1⟩
  rw [hw1] at HK
  rw [HI.out.1]
  clear hw1
  have n0 := HK.out.n.cell 0
  have n1 := HK.out.n.cell 1
  simp only [List.getElem?_toArray, List.getElem?_cons_zero, List.getElem?_cons_succ] at n0 n1
  go_wp2_with fail
  refine (get_any g a c fs w1 Hf.out HK.out.f).mono ?_
  rintro e w2 ⟨rfl, hb⟩
  rw [HI.out.2.1, HI.out.2.2.2]
  have HK2 := Lib.hid (HK.out.below hb (Nat.le_refl _))
  clear hb n0 n1 HK
  have n0 := HK2.out.n.cell 0
  have n1 := HK2.out.n.cell 1
  simp only [List.getElem?_toArray, List.getElem?_cons_zero, List.getElem?_cons_succ] at n0 n1
  go_wp2_with fail
  refine (need_any g a c fs w2 Hf.out HK2.out.f).mono ?_
  rintro e w3 ⟨rfl, hb⟩
  rw [HI.out.2.2.1, HI.out.2.2.2]
  have HK3 := Lib.hid (HK2.out.below hb (Nat.le_refl _))
  clear hb n0 n1 HK2
  obtain ⟨ne, Hne⟩ : ∃ ne : Int, Hid ((if z = 0 then (6 : Int) else 0) = ne) := ⟨_, rfl⟩
  rw [Hne.out]
  have n0 := HK3.out.n.cell 0
  have n1 := HK3.out.n.cell 1
  simp only [List.getElem?_toArray, List.getElem?_cons_zero, List.getElem?_cons_succ] at n0 n1
  have hK0 : decide ((0 : Int) ≤ (K : Int)) = true := by simp
  go_wp2_with fail
  refine (right_yes a c w3 Hok.out).mono ?_
  rintro e w4 ⟨rfl, hb⟩
  have HK4 := Lib.hid (HK3.out.below hb (Nat.le_refl _))
  clear hb n0 n1 HK3
  have cz : w4.cell? ⟨w.heap.size, K, none⟩ = some (.int .i64 z) := (HK4.out.rf.cell K).trans HZ.out
  have hld : ∀ w', KT w w' g fs a c → (Instr.loadAt 40 (.pointer (some ⟨w.heap.size, 0, none⟩))).run Try.prog w' = .ok (.agg (fcells fs)) w' :=
    fun w' h => run_loadAt_row h.rf Try.underlying40 rfl (by rw [HFs.out]; exact size40)
  have hcase : (z = 0 ∧ ne = 6) ∨ (z ≠ 0 ∧ ne = 0 ∧ (z == 0) = false ∧ (z != 0) = true) := by
    have := Hne.out
    by_cases hz0 : z = 0
    · rw [if_pos hz0] at this
      exact .inl ⟨hz0, this.symm⟩
    · rw [if_neg hz0] at this
      exact .inr ⟨hz0, this.symm, by simpa using hz0, by simpa using hz0⟩
  clear hld Hne
  rcases hcase with ⟨rfl, rfl⟩ | ⟨hz0, rfl, hb0, hb1⟩
  all_goals
    go_wp2_with fail
    clear cz
    refine wp_region_noPanic ?_
    refine wp_region_held_drew (S := fun w' => KT w w' g fs a c) (by kernel_rfl) (HK4.out.drewN 1) (fun hHeld => ?_)
    refine wpAnyH_take (i := 3) (oi := _) (v := _) rfl (by kernel_rfl) (by kernel_rfl) (by kernel_rfl) (fun _ _ _ h => h) (yields_load_row (by rfl) _ rfl rfl (fun w' h => KT.rf h) Try.underlying40 rfl (by rw [HFs.out]; exact size40)) hHeld ?_
    refine wpAnyH_take (i := 0) (oi := _) (v := _) rfl (by kernel_rfl) (by kernel_rfl) (by kernel_rfl) (fun _ _ _ h => h) (yields_move _ (by rfl) _ (.inl rfl) rfl) hHeld ?_
    refine wpAnyH_take (i := 1) (oi := _) (v := _) rfl (by kernel_rfl) (by kernel_rfl) (by kernel_rfl) (fun _ _ _ h => h) (yields_move _ (by rfl) _ (.inl rfl) rfl) hHeld ?_
    refine wpAnyH_take (i := 4) (oi := _) (v := _) rfl (by kernel_rfl) (by kernel_rfl) (by kernel_rfl) (fun _ _ _ h => h) (yields_move _ (by rfl) _ (.inl rfl) rfl) hHeld ?_
    try simp only [Act.put, List.setIfInBounds_toArray, List.set_cons_zero, List.set_cons_succ]
    refine wpAnyH_ready (rs := [2]) (by kernel_rfl) (by simp) ?_
    refine AllReadyH.cons (o := _) rfl (fun K1 hK1 => ?_) AllReadyH.nil
    go_simp
    refine (named_any g x fs _ Hf.out hHeld.f).mono ?_
    rintro e w5 ⟨_, rfl, A5, n5, cap5, rfl, hn5, hO5, hb5, hB5⟩
    have HK5 := Lib.hid (hHeld.below hb5 (Nat.le_refl _))
    have HO5 := Lib.hid hO5
    have Hn5 := Lib.hid hn5
    clear hO5 hb5 hB5 hHeld hn5
    go_wp2_with fail
    refine hK1.out _ _ HK5.out (fun hHeld => ?_)
    clear hK1 K1
    try simp only [Act.put, List.setIfInBounds_toArray, List.set_cons_zero, List.set_cons_succ]
    refine wpAnyH_ready (rs := [5]) (by kernel_rfl) (by simp) ?_
    refine AllReadyH.cons (o := _) rfl (fun K1 hK1 => ?_) AllReadyH.nil
    go_simp
    refine (named2_any x fs _ Hf.out).mono ?_
    rintro e w6 ⟨_, rfl, A6, n6, cap6, rfl, hn6, hO6, hb6, hB6⟩
    have hb6' := ((Below.refl w5.heap.size w5).alloc (Nat.le_refl _) (.cells (fcells fs) 40)).trans (hb6.mono (Nat.le_succ _))
    have HK6 := Lib.hid (hHeld.below hb6' (Nat.le_refl _))
    have HO6 := Lib.hid hO6
    have Hn6 := Lib.hid hn6
    have HO56 := Lib.hid (HO5.out.below hb6' (Nat.le_refl _))
    clear hO6 hb6 hb6' hB6 hHeld hn6 HO5 HK5
    go_wp2_with fail
    refine hK1.out _ _ HK6.out (fun hHeld => ?_)
    clear hK1 K1
    try simp only [Act.put, List.setIfInBounds_toArray, List.set_cons_zero, List.set_cons_succ]
    refine wpAnyH_take (i := 6) (oi := _) (v := _) rfl (by kernel_rfl) (by kernel_rfl) (by kernel_rfl) (fun _ _ _ h => h) (yields_move _ (by rfl) _ (.inr rfl) rfl) hHeld ?_
    try simp only [Act.put, List.setIfInBounds_toArray, List.set_cons_zero, List.set_cons_succ]
    refine wpAnyH_take (i := 7) (oi := _) (v := _) rfl (by kernel_rfl) (by kernel_rfl) (by kernel_rfl) (fun _ _ _ h => h) (yields_move _ (by rfl) _ (.inr rfl) rfl) hHeld ?_
    try simp only [Act.put, List.setIfInBounds_toArray, List.set_cons_zero, List.set_cons_succ]
    refine wpAnyH_done (by kernel_rfl) ?_ _
    refine NoPanic.normal ?_
    clear hHeld
    obtain ⟨l, Hl⟩ : ∃ l, Hid (idxs fs x 32 = l) := ⟨_, rfl⟩
    have Hlt : Hid (∀ i, i < l.length → l.getD i 0 < 32) := by
      intro i hi
      rw [← Hl.out] at hi ⊢
      rw [List.getD_eq_getElem?_getD, List.getElem?_eq_getElem hi]
      have := List.getElem_mem hi
      unfold idxs at this
      rw [List.mem_filter, List.mem_range] at this
      exact this.1
    rw [Hl.out] at HO6 HO56 Hn5 Hn6
    have hle := idxs_le fs x 32
    rw [Hl.out, ← Hn5.out] at hle
    have h65 : n6 = n5 := by rw [Hn5.out, Hn6.out, nats_len]
    subst h65
    have hnl : n6 = l.length := Hn5.out
    clear Hn5 Hn6
    have Hnl := Lib.hid hnl
    clear hnl
    go_wp2_with fail
    go_loopw [16] (fun v16 wr => ∃ i : Nat, v16 = .int .i64 i ∧ i ≤ n6 ∧ ∃ k, wr = w6.drewN k) (fun v16 _ => n6 - (intOf v16).toNat)
    case atStart => exact ⟨0, rfl, Nat.zero_le _, 0, rfl⟩
    case round =>
      obtain ⟨i, rfl, hi, k, hwr⟩ := hrel
      have Hwr := Lib.hid hwr
      clear hwr
      by_cases hlt : i < n6
      · obtain ⟨g5, rfl, hg5a, hg5, hc1, hc2, hx5, _⟩ := HO56.out.at_ (by omega)
        obtain ⟨g6, rfl, hg6a, hg6, hc3, hc4, hx6, _⟩ := HO6.out.at_ (by omega)
        have hq := Hlt.out i (by rw [← Hnl.out]; exact hlt)
        have y0 : wr.cell? ⟨g5, i * 2, none⟩ = some (.int .i64 ((l.getD i 0 / 8 : Nat) : Int)) := by rw [Hwr.out]; exact hx5 (i * 2) _ (ncells_at0 l i (by rw [← Hnl.out]; exact hlt))
        have y1 : wr.cell? ⟨g5, i * 2 + 1, none⟩ = some (.int .i64 ((l.getD i 0 % 8 : Nat) : Int)) := by rw [Hwr.out]; exact hx5 (i * 2 + 1) _ (ncells_at1 l i (by rw [← Hnl.out]; exact hlt))
        have y2 : wr.cell? ⟨g6, i, none⟩ = some (.int .i64 (l.getD i 0 : Nat)) := by rw [Hwr.out]; exact hx6 i _ (nats_at l i (by rw [← Hnl.out]; exact hlt))
        generalize l.getD i 0 = q at *
        have HQ : Hid (idx ((q / 8 : Nat) : Int) ((q % 8 : Nat) : Int) = (q : Int)) := (if_pos ⟨by omega, by omega, by omega, by omega⟩).trans (by omega)
        clear hx5 hx6
        have HcI : Hid (∀ m, Calls Try.prog 9 #[.int .i64 ((q / 8 : Nat) : Int), .int .i64 ((q % 8 : Nat) : Int)] (wr.drewN m) fun e w' => e = .returned (.int .i64 (q : Int)) ∧ wr.drewN m = w') := by
          intro m
          have := index_any ((q / 8 : Nat) : Int) ((q % 8 : Nat) : Int) (wr.drewN m)
          rw [HQ.out] at this
          exact this
        generalize ((q / 8 : Nat) : Int) = qa at *
        generalize ((q % 8 : Nat) : Int) = qb at *
        go_wp2_with fail
        go_quiet (first | (go_at_call 9; exact quiet_left (HcI.out _)))
        go_wp2_with fail
        exact ⟨⟨i + 1, by go_num, by omega, _, by rw [Hwr.out]; exact World.drewN_drewN _ _ _⟩, by simp [intOf]; omega⟩
      · obtain rfl : i = n6 := by omega
        go_wp2_with fail
        go_ret
        rw [Hwr.out]
        exact ⟨rfl, below_drewN HK6.out.b _⟩

theorem tells_any (g : Nat) (x m r : Int) (fs : List Int) (w : World) (hf : fs.length = 32) (hB : Blk w g 30 (fcells fs)) :
    Calls Try.prog 15 #[.pointer (some ⟨g, 0, none⟩), .agg (fcells fs), .agg #[.int .i64 m, .int .i64 r], .int .i64 x] w fun e w' => e = .returned (.bool true) ∧ Below w.heap.size w w' := by
  by_cases h : okName m r
  · obtain ⟨a, rfl⟩ : ∃ a : Nat, m = a := ⟨m.toNat, by have := h.1; omega⟩
    obtain ⟨c, rfl⟩ : ∃ c : Nat, r = c := ⟨r.toNat, by have := h.2.2.1; omega⟩
    exact tells_yes g x a c fs w hf hB (by have := h.2.1; omega) (by have := h.2.2.2; omega)
  · exact tells_no g x m r fs w hf hB h
end Go.Proofs.Ytebdnggcnoaieaa
