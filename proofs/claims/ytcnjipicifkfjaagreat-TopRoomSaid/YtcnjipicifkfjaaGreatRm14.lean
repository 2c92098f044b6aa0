/- blocks.Read, blocks.Open. -/
import Derived.Test.YtcnjipicifkfjaaGreatRm13
import Derived.Test.YtcnjipicifkfjaaGreatRm10

namespace Go.Proofs.YtcnjipicifkfjaaGreat
open Go.RowKit
set_option linter.unusedVariables false
set_option linter.unusedSimpArgs false

def hcell (h : Nat × Nat) : List Value := [.int .i64 h.1, .int .i64 h.2, .int .i64 0]
def hcells (l : List (Nat × Nat)) : List Value := l.flatMap hcell
theorem hcells_len (l : List (Nat × Nat)) : (hcells l).length = l.length * 3 := by
  induction l with
  | nil => rfl
  | cons a l ih =>
    simp only [hcells, List.flatMap_cons, List.length_append, List.length_cons] at ih ⊢
    rw [ih]
    simp [hcell]
    omega
theorem hcells_at (l : List (Nat × Nat)) (i : Nat) (h : i < l.length) : (hcells l)[i * 3]? = some (.int .i64 (l.getD i (0, 0)).1) ∧ (hcells l)[i * 3 + 1]? = some (.int .i64 (l.getD i (0, 0)).2) ∧ (hcells l)[i * 3 + 2]? = some (.int .i64 0) := by
  induction l generalizing i with
  | nil => cases h
  | cons a l ih =>
    cases i with
    | zero => exact ⟨rfl, rfl, rfl⟩
    | succ i =>
      have := ih i (by simpa using h)
      have e : hcells (a :: l) = hcell a ++ hcells l := by simp [hcells]
      have hlen : (hcell a).length = 3 := rfl
      rw [e]
      refine ⟨?_, ?_, ?_⟩
      · rw [List.getElem?_append_right (by omega), show (i + 1) * 3 - (hcell a).length = i * 3 by omega]; simpa using this.1
      · rw [List.getElem?_append_right (by omega), show (i + 1) * 3 + 1 - (hcell a).length = i * 3 + 1 by omega]; simpa using this.2.1
      · rw [List.getElem?_append_right (by omega), show (i + 1) * 3 + 2 - (hcell a).length = i * 3 + 2 by omega]; simpa using this.2.2
theorem hcells_set (l : List (Nat × Nat)) (i : Nat) (h : i < l.length) (a b : Nat) :
    (((hcells l).set (i * 3) (.int .i64 a)).set (i * 3 + 1) (.int .i64 b)).set (i * 3 + 2) (.int .i64 0) = hcells (l.set i (a, b)) := by
  induction l generalizing i with
  | nil => cases h
  | cons x l ih =>
    cases i with
    | zero => simp [hcells, hcell]
    | succ i =>
      have := ih i (by simpa using h)
      have e : ∀ y l, hcells (y :: l) = hcell y ++ hcells l := fun y l => by simp [hcells]
      have hlen : (hcell x).length = 3 := rfl
      rw [List.set_cons_succ, e, e, ← this]
      rw [List.set_append_right _ _ (by omega), List.set_append_right _ _ (by omega), List.set_append_right _ _ (by omega)]
      rw [show (i + 1) * 3 - (hcell x).length = i * 3 by omega, show (i + 1) * 3 + 1 - (hcell x).length = i * 3 + 1 by omega, show (i + 1) * 3 + 2 - (hcell x).length = i * 3 + 2 by omega]
theorem hcells_zero (n : Nat) : hcells (List.replicate n (0, 0)) = List.replicate (n * 3) (.int .i64 0) := by
  induction n with
  | zero => rfl
  | succ n ih =>
    have e : ∀ y l, hcells (y :: l) = hcell y ++ hcells l := fun y l => by simp [hcells]
    rw [List.replicate_succ, e, ih, show (n + 1) * 3 = 3 + n * 3 by omega, ← List.replicate_append_replicate]
    rfl
theorem made3 (v : Value) (N : Nat) : (madeCells #[v, v, v] N).toList = List.replicate N v := by
  apply List.ext_getElem?
  intro j
  by_cases hj : j < N
  · simp [madeCells, hj]
    rcases (by omega : j % 3 = 0 ∨ j % 3 = 1 ∨ j % 3 = 2) with h | h | h <;> rw [h] <;> rfl
  · simp [madeCells, hj]
theorem info178 : (Tryz.prog.info? 178).map (fun i => (i.size, i.bytes, i.zero)) = some (3, 24, some (.agg #[.int .i64 0, .int .i64 0, .int .i64 0])) := by kernel_rfl
theorem info178s : ∃ i, Tryz.prog.info? 178 = some i ∧ i.zero = some (.agg #[.int .i64 0, .int .i64 0, .int .i64 0]) ∧ i.size = 3 ∧ i.bytes = 24 := by
  obtain ⟨i, hi, hi2⟩ := Option.map_eq_some_iff.1 info178
  simp only [Prod.mk.injEq] at hi2
  exact ⟨i, hi, hi2.2.2, hi2.1, hi2.2.1⟩
theorem mk143 (n : Nat) (hn : n ≤ 1000000) : ∀ w : World, (Instr.makeSlice 143 (.int .i64 (n : Int)) (.int .i64 (n : Int))).run Tryz.prog w = .ok (.slice (some ⟨w.heap.size, 0, none⟩) n n) (w.alloc (.cells (madeCells #[.int .i64 0, .int .i64 0, .int .i64 0] (n * 3)) 178)) := by
  obtain ⟨i, hi, hz1, hz2, hz3⟩ := info178s
  intro w
  have hr := run_make (P := Tryz.prog) w 143 178 i (.agg #[.int .i64 0, .int .i64 0, .int .i64 0]) Tryz.underlying143 hi hz1 .i64 .i64 n n (by omega) (by omega) (by rw [hz3]; omega) (by omega)
  simp only [Int.toNat_natCast, hz2] at hr
  rw [hr]
  rfl
theorem own_madeH (w : World) (B n g : Nat) (hg : w.heap.size = g) (hB : B ≤ g) (hm : n ≤ 100000) : Own (w.alloc (.cells (madeCells #[.int .i64 0, .int .i64 0, .int .i64 0] (n * 3)) 178)) B 178 3 (some ⟨g, 0, none⟩) n n (hcells (List.replicate n (0, 0))) := by
  have hs : (madeCells #[(.int .i64 0 : Value), .int .i64 0, .int .i64 0] (n * 3)).size = n * 3 := by simp [madeCells]
  refine ⟨by rw [hcells_len]; simp, .inr ⟨g, _, rfl, hB, by rw [← hg]; exact Blk.new w 178 _, Nat.le_refl _, by unfold maxLen; omega, hs, ?_⟩⟩
  rw [made3, hcells_zero, List.take_of_length_le (by simp)]
theorem Own.setH {w : World} {B g n cap : Nat} {l : List (Nat × Nat)} (h : Own w B 178 3 (some ⟨g, 0, none⟩) n cap (hcells l)) (i : Nat) (hi : i < n) (a b : Nat) :
    Own (((w.setCell ⟨g, i * 3, none⟩ (.int .i64 a)).setCell ⟨g, i * 3 + 1, none⟩ (.int .i64 b)).setCell ⟨g, i * 3 + 2, none⟩ (.int .i64 0)) B 178 3 (some ⟨g, 0, none⟩) n cap (hcells (l.set i (a, b))) := by
  have hl := h.len
  rw [hcells_len] at hl
  rw [← hcells_set l i (by omega)]
  exact ((h.set_ (j := i * 3) (by omega) _).set_ (j := i * 3 + 1) (by omega) _).set_ (j := i * 3 + 2) (by omega) _

/-- The headers on a device, that of block 0 nought. -/
structure HdrsIn (s : DS) (K : Nat) (hs : List (Nat × Nat)) : Prop where
  len : hs.length = K
  z : hs.getD 0 (0, 0) = (0, 0)
  ok : ∀ b, b < K → Hdr (hs.getD b (0, 0)).1 (hs.getD b (0, 0)).2
  at_ : ∀ b, 1 ≤ b → b < K → s.C.getD (256 + b) 0 = hword b (hs.getD b (0, 0)).1 (hs.getD b (0, 0)).2
/-- The first k of some headers. -/
def copyH (hs : List (Nat × Nat)) : Nat → List (Nat × Nat)
  | 0 => List.replicate hs.length (0, 0)
  | k + 1 => (copyH hs k).set k (hs.getD k (0, 0))
theorem copyH_len (hs : List (Nat × Nat)) (k : Nat) : (copyH hs k).length = hs.length := by
  induction k with
  | zero => simp [copyH]
  | succ k ih => simp [copyH, ih]
theorem copyH_get (hs : List (Nat × Nat)) (k j : Nat) (hk : k ≤ hs.length) : (copyH hs k).getD j (0, 0) = if j < k then hs.getD j (0, 0) else (0, 0) := by
  induction k with
  | zero =>
    simp only [copyH, Nat.not_lt_zero, if_false]
    rw [List.getD_eq_getElem?_getD, List.getElem?_replicate]
    split <;> rfl
  | succ k ih =>
    have := ih (by omega)
    rw [List.getD_eq_getElem?_getD] at this ⊢
    simp only [copyH, List.getElem?_set, copyH_len]
    by_cases h : k = j
    · subst h
      simp [show k < hs.length by omega]
    · rw [if_neg h, this]
      by_cases h1 : j < k
      · rw [if_pos h1, if_pos (by omega)]
      · rw [if_neg h1, if_neg (by omega)]
theorem copyH_all (hs : List (Nat × Nat)) : copyH hs hs.length = hs := by
  apply List.ext_getElem (by rw [copyH_len])
  intro j h1 h2
  have := copyH_get hs hs.length j (Nat.le_refl _)
  rw [if_pos h2] at this
  simpa [List.getD_eq_getElem?_getD, h1, h2] using this
theorem copyH_one (hs : List (Nat × Nat)) (h : 0 < hs.length) (hz : hs.getD 0 (0, 0) = (0, 0)) : copyH hs 1 = List.replicate hs.length (0, 0) := by
  simp only [copyH]
  rw [hz]
  apply List.ext_getElem?
  intro j
  rw [List.getElem?_set]
  by_cases hj : 0 = j
  · subst hj; simp [h]
  · rw [if_neg hj]

/-- Where blocks.Read stands. -/
structure BR (w0 w : World) (n0 g K : Nat) (hs : List (Nat × Nat)) (k : Nat) : Prop where
  be : Below w0.heap.size w0 w
  s : Blk w n0 64 #[.int .i64 K]
  o : Own w w0.heap.size 178 3 (some ⟨g, 0, none⟩) K K (hcells (copyH hs k))
theorem BR.below {B0 : Nat} {w0 w w' : World} {n0 g K k : Nat} {hs : List (Nat × Nat)} (h : BR w0 w n0 g K hs k) (hb : Below B0 w w') (hB : w.heap.size ≤ B0) : BR w0 w' n0 g K hs k :=
  ⟨h.be.trans (hb.mono (Nat.le_trans h.be.size hB)), h.s.below hb (Nat.lt_of_lt_of_le h.s.lt hB), h.o.below hb hB⟩

set_option maxRecDepth 100000 in
set_option maxHeartbeats 2000000 in
theorem bread_any (B : Nat) (b : DB) (m : Nat) (s : DS) (K : Nat) (hs : List (Nat × Nat)) (w : World) (h : Dev B w b m s) (hH : HdrsIn s K hs) (hK : 2 ≤ K) (hK2 : K ≤ 200) (hm : m = K * 64) :
    Calls Tryz.prog 130 #[.pointer (some ⟨b.d, 0, none⟩), .agg #[.int .i64 K]] w fun e w' => ∃ g, e = .returned (.tuple #[.slice (some ⟨g, 0, none⟩) K K, .int .i64 0, .int .i64 0]) ∧ Own w' w.heap.size 178 3 (some ⟨g, 0, none⟩) K K (hcells hs) ∧ Below w.heap.size w w' := by
  have hlen := hH.len
  have Hok := Lib.hid hH.ok
  have Hat := Lib.hid hH.at_
  have Hg := Lib.hid (fun (bb : Nat) (w : World) (h0 : 1 ≤ bb) (h1 : bb < K) => gheader_any K bb w h0 h1 (by omega))
  have Hget := Lib.hid (fun (a : Nat) (w : World) (h : Dev B w b m s) (ha : a < 8 * m) => get_yes B b m s a w h ha (by omega))
  have hmk := mk143 K (by omega)
  obtain ⟨n0, Hn0⟩ : ∃ n, Hid (w.heap.size = n) := ⟨_, rfl⟩
  obtain ⟨g, Hgg⟩ : ∃ g, Hid (w.heap.size + 1 = g) := ⟨_, rfl⟩
  have H0 : Hid (BR w ((w.alloc (.cells #[.int .i64 K] 64)).alloc (.cells (madeCells #[.int .i64 0, .int .i64 0, .int .i64 0] (K * 3)) 178)) n0 g K hs 1) := by
    refine ⟨(below_box w _).alloc (by simp) _, by rw [← Hn0.out]; exact (Blk.new w 64 _).alloc _, ?_⟩
    rw [copyH_one hs (by omega) hH.z, hlen]
    exact own_madeH _ _ K g (by rw [← Hgg.out]; simp) (by rw [← Hgg.out]; omega) (by omega)
  have HD := Lib.hid h
  have hmax : max (0 : Int) (K : Int) = (K : Int) := by omega
  have c0 : (w.alloc (.cells #[.int .i64 K] 64)).cell? ⟨n0, 0, none⟩ = some (.int .i64 K) := by rw [← Hn0.out]; exact (Blk.new w 64 _).cell 0
  clear h hH
  go_enter Tryz.func130, Tryz.ntmps130
  go_wp2_with fail
  rw [Hgg.out, Hn0.out]
  generalize (w.alloc _).alloc _ = w1 at *
  clear c0 hmk
  go_loopw [8] (fun v8 wr => ∃ k : Nat, v8 = .int .i64 k ∧ 1 ≤ k ∧ k ≤ K ∧ BR w wr n0 g K hs k) (fun v8 _ => K - (intOf v8).toNat)
  case atStart => exact ⟨1, rfl, by omega, by omega, H0.out⟩
  case round =>
    clear H0
    obtain ⟨k, rfl, hk1, hk, hW⟩ := hrel
    have HW := Lib.hid hW
    clear hW
    have c0 : wr.cell? ⟨n0, 0, none⟩ = some (.int .i64 K) := HW.out.s.cell 0
    by_cases hk8 : k < K
    · go_wp2_with (go_at_call 116; refine (Hg.out _ _ hk1 hk8).mono ?_; rintro e w2 ⟨rfl, hb2⟩; have HW2 := Lib.hid (HW.out.below hb2 (Nat.le_refl _)); clear hb2)
      have hc : ((256 + k : Nat) : Int) = 256 + (k : Int) := by omega
      rw [← hc]
      refine (Hget.out _ _ (HD.out.below HW2.out.be (Nat.le_refl _)) (by omega)).mono ?_
      rintro e w3 ⟨rfl, rfl⟩
      rw [Hat.out k hk1 hk8]
      have hok := Hok.out k hk8
      have HS : Hid (copyH hs (k + 1) = (copyH hs k).set k ((hs.getD k (0, 0)).1, (hs.getD k (0, 0)).2)) := rfl
      obtain ⟨kd, Hkd⟩ : ∃ kd, Hid ((hs.getD k (0, 0)).1 = kd) := ⟨_, rfl⟩
      obtain ⟨cl, Hcl⟩ : ∃ cl, Hid ((hs.getD k (0, 0)).2 = cl) := ⟨_, rfl⟩
      rw [Hkd.out, Hcl.out] at hok HS ⊢
      go_wp2_with fail
      refine (bhdec_any k kd cl _ hok (by omega)).mono ?_
      rintro e w4 ⟨rfl, hb4⟩
      have HW4 := Lib.hid (HW2.out.below hb4 (Nat.le_refl _))
      clear hb4 HW2 c0 hc
      obtain ⟨n9, Hn9⟩ : ∃ n, Hid (w4.heap.size = n) := ⟨_, rfl⟩
      have hg9 : ¬ g = n9 := by have := (HW4.out.o.lt _ rfl).2; rw [Hn9.out] at this; exact fun e => by simp at this; omega
      have hg9' : ¬ n9 = g := fun e => hg9 e.symm
      have HW5 : Hid (BR w (w4.alloc (.cells #[.int .i64 kd, .int .i64 cl, .int .i64 0] 178)) n0 g K hs k) := HW4.out.below (below_box w4 _) (Nat.le_refl _)
      have HX5 : Hid (Blk (w4.alloc (.cells #[.int .i64 kd, .int .i64 cl, .int .i64 0] 178)) n9 178 #[.int .i64 kd, .int .i64 cl, .int .i64 0]) := by rw [← Hn9.out]; exact Blk.new w4 178 _
      obtain ⟨x1, x2, x3⟩ := hcells_at (copyH hs k) k (by rw [copyH_len]; omega)
      obtain ⟨_, e, _, _, _, _, hx, hf⟩ := HW5.out.o.at_ (by omega)
      cases e
      have y1 := hx _ _ x1
      have y2 := hx _ _ x2
      have y3 := hx _ _ x3
      have f1 := hf (k * 3)
      have f2 := hf (k * 3 + 1)
      have f3 := hf (k * 3 + 2)
      have z1 : (w4.alloc (.cells #[.int .i64 kd, .int .i64 cl, .int .i64 0] 178)).cell? ⟨n9, 0, none⟩ = some (.int .i64 kd) := HX5.out.cell 0
      have z2 : (w4.alloc (.cells #[.int .i64 kd, .int .i64 cl, .int .i64 0] 178)).cell? ⟨n9, 1, none⟩ = some (.int .i64 cl) := HX5.out.cell 1
      have z3 : (w4.alloc (.cells #[.int .i64 kd, .int .i64 cl, .int .i64 0] 178)).cell? ⟨n9, 2, none⟩ = some (.int .i64 0) := HX5.out.cell 2
      have HO6 := Lib.hid (HW5.out.o.setH k hk8 kd cl)
      have hgw : w.heap.size ≤ g := (HW5.out.o.lt _ rfl).1
      have hn0g : n0 ≠ g := by rw [← Hgg.out, ← Hn0.out]; omega
      have HW6 : Hid (BR w ((((w4.alloc (.cells #[.int .i64 kd, .int .i64 cl, .int .i64 0] 178)).setCell ⟨g, k * 3, none⟩ (.int .i64 kd)).setCell ⟨g, k * 3 + 1, none⟩ (.int .i64 cl)).setCell ⟨g, k * 3 + 2, none⟩ (.int .i64 0)) n0 g K hs (k + 1)) :=
        ⟨((HW5.out.be.setCell (p := ⟨g, k * 3, none⟩) hgw _).setCell (p := ⟨g, k * 3 + 1, none⟩) hgw _).setCell (p := ⟨g, k * 3 + 2, none⟩) hgw _,
         ((HW5.out.s.far (p := ⟨g, k * 3, none⟩) hn0g _).far (p := ⟨g, k * 3 + 1, none⟩) hn0g _).far (p := ⟨g, k * 3 + 2, none⟩) hn0g _, by rw [HS.out]; exact HO6.out⟩
      clear hx hf
      go_wp2_with fail
      exact ⟨⟨k + 1, by go_num, by omega, by omega, HW6.out⟩, by simp [intOf]; omega⟩
    · obtain rfl : k = K := by omega
      have HO : Hid (Own wr w.heap.size 178 3 (some ⟨g, 0, none⟩) k k (hcells hs)) := by
        have := HW.out.o
        rw [show copyH hs k = hs by rw [← hlen]; exact copyH_all hs] at this
        exact this
      have HB := Lib.hid HW.out.be
      clear HW Hok Hat Hg
      go_wp2_with fail
      refine bodyPost_ret (results_tmp3 rfl _ _ _) rfl ?_
      exact ⟨g, rfl, HO.out, HB.out⟩

set_option maxRecDepth 100000 in
set_option maxHeartbeats 2000000 in
theorem bopen_any (B : Nat) (b : DB) (m : Nat) (s : DS) (K : Nat) (hs : List (Nat × Nat)) (w : World) (h : Dev B w b m s) (hH : HdrsIn s K hs) (hK : 2 ≤ K) (hK2 : K ≤ 200) (hm : m = K * 64) :
    Calls Tryz.prog 135 #[.pointer (some ⟨b.d, 0, none⟩), .agg #[.int .i64 K]] w fun e w' => ∃ t g, e = .returned (.tuple #[.pointer (some ⟨t, 0, none⟩), .int .i64 0]) ∧ w.heap.size ≤ t ∧ Blk w' t 167 #[.pointer (some ⟨b.d, 0, none⟩), .int .i64 K, .slice (some ⟨g, 0, none⟩) K K] ∧ Own w' w.heap.size 178 3 (some ⟨g, 0, none⟩) K K (hcells hs) ∧ Below w.heap.size w w' := by
  have Hr := Lib.hid (fun w h => bread_any B b m s K hs w h hH hK hK2 hm)
  obtain ⟨n0, Hn0⟩ : ∃ n, Hid (w.heap.size = n) := ⟨_, rfl⟩
  have HB0 := Lib.hid (below_box w (.cells #[.int .i64 K] 64))
  have HN0 : Hid (Blk (w.alloc (.cells #[.int .i64 K] 64)) n0 64 #[.int .i64 K]) := by rw [← Hn0.out]; exact Blk.new w 64 _
  have HD := Lib.hid (h.below HB0.out (Nat.le_refl _))
  clear h hH
  go_enter Tryz.func135, Tryz.ntmps135
  go_wp2_with fail
  rw [Hn0.out]
  refine (Hr.out _ HD.out).mono ?_
  rintro e w2 ⟨g, rfl, hO, hb⟩
  have HB2 := Lib.hid (HB0.out.trans (hb.mono HB0.out.size))
  have HN2 := Lib.hid (HN0.out.below hb HN0.out.lt)
  have HO2 := Lib.hid (hO.base_ HB0.out.size)
  clear hO hb HB0 HN0 HD
  have c0 : w2.cell? ⟨n0, 0, none⟩ = some (.int .i64 K) := HN2.out.cell 0
  obtain ⟨t, Ht⟩ : ∃ n, Hid (w2.heap.size = n) := ⟨_, rfl⟩
  have ht : w.heap.size ≤ t := by rw [← Ht.out]; exact HB2.out.size
  go_wp2_with fail
  rw [Ht.out]
  have HB3 := Lib.hid (HB2.out.alloc HB2.out.size (.cells #[.pointer (some ⟨b.d, 0, none⟩), .int .i64 K, .slice (some ⟨g, 0, none⟩) K K] 167))
  have HO3 := Lib.hid (HO2.out.alloc (.cells #[.pointer (some ⟨b.d, 0, none⟩), .int .i64 K, .slice (some ⟨g, 0, none⟩) K K] 167))
  have HT3 : Hid (Blk (w2.alloc (.cells #[.pointer (some ⟨b.d, 0, none⟩), .int .i64 K, .slice (some ⟨g, 0, none⟩) K K] 167)) t 167 #[.pointer (some ⟨b.d, 0, none⟩), .int .i64 K, .slice (some ⟨g, 0, none⟩) K K]) := by rw [← Ht.out]; exact Blk.new w2 167 _
  refine bodyPost_ret (results_tmp2 rfl _ _ _) rfl ?_
  exact ⟨t, g, rfl, ht, HT3.out, HO3.out, HB3.out⟩
end Go.Proofs.YtcnjipicifkfjaaGreat

/- cells.At; alloc.Placed. -/
namespace Go.Proofs.YtcnjipicifkfjaaGreat
open Go.RowKit
set_option linter.unusedVariables false
set_option linter.unusedSimpArgs false

theorem Loc.ne_ {S : Nat → Prop} {w0 w : World} {l : List (Nat × TypeId × Array Value)} (h : Loc S w0 w l) {i j : Nat} (hij : i < j) {x y : Nat × TypeId × Array Value} (hx : l[i]? = some x) (hy : l[j]? = some y) : x.1 ≠ y.1 := by
  obtain ⟨h1, e1⟩ := List.getElem?_eq_some_iff.1 hx
  obtain ⟨h2, e2⟩ := List.getElem?_eq_some_iff.1 hy
  have := (List.pairwise_iff_getElem.1 h.ne) i j h1 h2 hij
  rw [e1, e2] at this
  exact this
theorem Loc.nth {S : Nat → Prop} {w0 w : World} {l : List (Nat × TypeId × Array Value)} (h : Loc S w0 w l) (i : Nat) {n : Nat} {t : TypeId} {cs : Array Value} (hi : l[i]? = some (n, t, cs)) : Blk w n t cs := (h.at_ _ (List.mem_of_getElem? hi)).1
/-- A cell's address. -/
structure CellAt (K k a b i : Nat) : Prop where
  e : a = b * 512 + i * csize k
  hk : k < 32
  b0 : 1 ≤ b
  b : b < K
  i : i < ccells k
theorem CellAt.fit {K k a b i : Nat} (h : CellAt K k a b i) : i * csize k + csize k ≤ 512 ∧ a / 512 = b ∧ a % 512 = i * csize k ∧ i * csize k / csize k = i := by
  obtain ⟨cs1, cs2⟩ := csize_pos k h.hk
  have h1 : (i + 1) * csize k ≤ 512 := by
    have := h.i
    unfold ccells at this
    exact Nat.le_trans (Nat.mul_le_mul_right _ this) (Nat.div_mul_le_self _ _)
  rw [Nat.add_mul, Nat.one_mul] at h1
  have e := h.e
  exact ⟨h1, by omega, by omega, Nat.mul_div_cancel _ (by omega)⟩

set_option maxRecDepth 100000 in
set_option maxHeartbeats 2000000 in
theorem cat_any (K k a b i : Nat) (w : World) (h : CellAt K k a b i) (hK : K ≤ 200) :
    Calls Tryz.prog 227 #[.agg #[.int .i64 K], .int .i64 k, .int .i64 a] w fun e w' => e = .returned (.tuple #[.agg #[.int .i64 b, .int .i64 i], .bool true]) ∧ Below w.heap.size w w' := by
  obtain ⟨f1, f2, f3, f4⟩ := h.fit
  obtain ⟨he, hk, hb0, hb, hi⟩ := h
  obtain ⟨cs1, cs2⟩ := csize_pos k hk
  have hcc : ccells k ≤ 256 := by unfold ccells; exact Nat.le_trans (Nat.div_le_div_left cs1 (by omega)) (by omega)
  have ha : 512 ≤ a ∧ a < K * 512 := by omega
  have Hr := Lib.hid (fun w => cright_yes k w hk)
  have Hd := Lib.hid (fun w => gdata_any K a w ha.1 ha.2 (by omega))
  have Hb := Lib.hid (fun w => gblockof_any K a w ha.2 (by omega))
  rw [f2] at Hb
  have Hw := Lib.hid (fun w => cwords'_any k w hk)
  have Ha := Lib.hid (fun w => caddr_any K k b i w hK hk hb0 hb hi)
  rw [← he] at Ha
  have hr : (a : Int) % 512 = ((i * csize k : Nat) : Int) := by omega
  have hq : ((i * csize k : Nat) : Int) / (csize k : Int) = (i : Int) := by
    rw [show ((i * csize k : Nat) : Int) / (csize k : Int) = ((i * csize k / csize k : Nat) : Int) by simp, f4]
  obtain ⟨p, Hp⟩ : ∃ p, Hid (i * csize k = p) := ⟨_, rfl⟩
  rw [Hp.out] at hr hq
  have hp : p ≤ 512 := by rw [← Hp.out]; omega
  have ha2 : a ≤ 200000 := by omega
  have hi2 : i ≤ 256 := by omega
  have hb2 : b ≤ 200 := by omega
  clear he f1 f2 f3 f4 hi hb ha
  generalize csize k = c at *
  obtain ⟨n1, Hn1⟩ : ∃ n, Hid (w.heap.size = n) := ⟨_, rfl⟩
  obtain ⟨n2, Hn2⟩ : ∃ n, Hid (w.heap.size + 1 = n) := ⟨_, rfl⟩
  have L1 := Lib.hid (((Loc.nil Nob w).box 64 #[.int .i64 K] n1 Hn1.out).box 242 #[.int .i64 0, .int .i64 0] n2 (by rw [World.size_alloc]; exact Hn2.out))
  go_enter Tryz.func227, Tryz.ntmps227
  go_wp2_with (go_at_call 105; refine (Hr.out _).mono ?_; rintro e w' ⟨rfl, rfl⟩)
  rw [Hn2.out, Hn1.out]
  generalize (w.alloc _).alloc _ = w1 at *
  refine (Hd.out _).mono ?_
  rintro e w2 ⟨rfl, hb2⟩
  have L2 := Lib.hid (L1.out.call hb2 (Nat.le_refl _))
  have x0 : w2.cell? ⟨n1, 0, none⟩ = some (.int .i64 K) := L2.out.b1.cell 0
  clear hb2 L1
  go_wp2_with fail
  refine (Hb.out _).mono ?_
  rintro e w3 ⟨rfl, hb3⟩
  have L3 := Lib.hid (L2.out.call hb3 (Nat.le_refl _))
  clear hb3 L2 x0
  go_wp2_with fail
  refine (Hw.out _).mono ?_
  rintro e w4 ⟨rfl, hb4⟩
  have L4 := Lib.hid (L3.out.call hb4 (Nat.le_refl _))
  clear hb4 L3
  obtain ⟨n3, Hn3⟩ : ∃ n, Hid (w4.heap.size = n) := ⟨_, rfl⟩
  have L5 := Lib.hid (L4.out.box 242 #[.int .i64 b, .int .i64 i] n3 Hn3.out)
  clear L4
  go_wp2_with fail
  rw [Hn3.out]
  generalize w4.alloc _ = w5 at *
  have LC := Lib.hid L5.out.drew
  have hne := LC.out.ne
  simp only [List.pairwise_cons, List.mem_cons, List.not_mem_nil, or_false] at hne
  have e1 : ¬ n3 = n2 := hne.1 _ (.inl rfl)
  have e2 : ¬ n3 = n1 := hne.1 _ (.inr rfl)
  have e3 : ¬ n2 = n1 := hne.2.1 _ rfl
  have e4 : ¬ n2 = n3 := fun e => e1 e.symm
  have e5 : ¬ n1 = n2 := fun e => e3 e.symm
  clear hne
  go_region_held3 (fun w' => w'.cell? ⟨n3, 0, none⟩ = some (.int .i64 b) ∧ w'.cell? ⟨n3, 1, none⟩ = some (.int .i64 i) ∧ w'.cell? ⟨n1, 0, none⟩ = some (.int .i64 K))
    (first | exact ⟨LC.out.b0.cell 0, LC.out.b0.cell 1, LC.out.b2.cell 0⟩ | go_keep)
    ((go_at_call 189; refine (Ha.out _).mono ?_; rintro e w' ⟨rfl, hb⟩; replace LC := Lib.hid (LC.out.call hb (Nat.le_refl _)); clear hb; have y0 : w'.cell? ⟨n2, 0, none⟩ = some (.int .i64 0) := LC.out.b1.cell 0; have y1 : w'.cell? ⟨n2, 1, none⟩ = some (.int .i64 0) := LC.out.b1.cell 1; have z1 := LC.out.b1.frozen 0; have z2 := LC.out.b1.frozen 1))
  have L6 := ((LC.out.swap.set 0 (.int .i64 b)).set 1 (.int .i64 i))
  have L6' := Lib.hid L6
  have u0 := L6.b0.cell 0
  have u1 := L6.b0.cell 1
  simp at u0 u1
  clear L6
  go_wp2_with fail
  refine bodyPost_ret (v := .tuple #[.agg #[.int .i64 b, .int .i64 i], .bool true]) (by simp [results, Tryz.results227, go_sem, u0, u1]) rfl ?_
  exact ⟨rfl, L6'.out.below⟩

theorem eq178 (k : Nat) : ∀ w, (binOp .eql 178 (.agg #[.int .i64 1, .int .i64 (k : Nat), .int .i64 0]) (.agg #[.int .i64 1, .int .i64 (k : Nat), .int .i64 0])).run Tryz.prog w = .ok (.bool true) w := by
  intro w
  have hf : Tryz.prog.fieldsOf 178 = #[{ name := "Kind", type := 3, offset := 0, embedded := false, tag := "", pkgPath := "", byteOffset := 0 }, { name := "Class", type := 3, offset := 1, embedded := false, tag := "", pkgPath := "", byteOffset := 8 }, { name := "Len", type := 3, offset := 2, embedded := false, tag := "", pkgPath := "", byteOffset := 16 }] := by simp [Program.fieldsOf, Tryz.underlying178]
  have h := run_equalIn_struct (P := Tryz.prog) w 9999 178 #[.int .i64 1, .int .i64 (k : Nat), .int .i64 0] #[.int .i64 1, .int .i64 (k : Nat), .int .i64 0] (by rw [hf]; exact Tryz.underlying178) (by kernel_rfl)
  have hi : ∀ (a b : Int), (Op.equalIn 9999 3 (.int .i64 a) (.int .i64 b)).run Tryz.prog w = .ok (a == b) w := fun a b => by
    unfold Op.equalIn
    simp [run_underlying Tryz.underlying3]
  have p0 : ∀ (a b c : Value), (part 3 #[a, b, c] 0).run Tryz.prog w = .ok a w := fun a b c => by kernel_rfl
  have p1 : ∀ (a b c : Value), (part 3 #[a, b, c] 1).run Tryz.prog w = .ok b w := fun a b c => by kernel_rfl
  have p2 : ∀ (a b c : Value), (part 3 #[a, b, c] 2).run Tryz.prog w = .ok c w := fun a b c => by kernel_rfl
  have h2 : (Op.equal 178 (.agg #[.int .i64 1, .int .i64 (k : Nat), .int .i64 0]) (.agg #[.int .i64 1, .int .i64 (k : Nat), .int .i64 0])).run Tryz.prog w = .ok true w := by
    show (Op.equalIn 10000 178 _ _).run Tryz.prog w = _
    rw [h, hf]
    simp only [Op.eqFields, Sem.run_bind, Sem.run_ite, p0, p1, p2, hi, Result.andThen_ok, Sem.run_pure]
    simp
  simp only [binOp, Sem.run_bind, h2, Result.andThen_ok, Sem.run_pure]

set_option maxRecDepth 100000 in
set_option maxHeartbeats 2000000 in
theorem placed_any (B : Nat) (b : DB) (m : Nat) (s : DS) (K a p d bl i g n cap : Nat) (hs : List (Nat × Nat)) (w : World) (h : Dev B w b m s) (ho : ObjAt s m a p d) (hc : CellAt K (cof (1 + p + d)) a bl i) (hK : K ≤ 150) (hm : m = K * 64)
    (hl : Own w 0 178 3 (some ⟨g, 0, none⟩) K cap (hcells hs)) (hh : hs.getD bl (0, 0) = (1, cof (1 + p + d))) :
    Calls Tryz.prog 188 #[.pointer (some ⟨b.d, 0, none⟩), .agg #[.int .i64 K], .slice (some ⟨g, 0, none⟩) K cap, .int .i64 a] w fun e w' => e = .returned (.tuple #[.agg #[.int .i64 p, .int .i64 d], .bool true]) ∧ Below w.heap.size w w' := by
  obtain ⟨f1, f2, _⟩ := hc.fit
  have hle := ho.le
  obtain ⟨hp, hd, _⟩ := ho.o.le
  have hhl : hs.length = K := by have := hl.len; rw [hcells_len] at this; omega
  have hbl := hc.b
  have hb1 := hc.b0
  have hk := hc.hk
  have Hb := Lib.hid (fun w => gblockof_any K a w (by omega) (by omega))
  rw [f2] at Hb
  have Hh : Hid (∀ w', Below w.heap.size w w' → Calls Tryz.prog 127 #[.pointer (some ⟨b.d, 0, none⟩), .int .i64 a] w' fun e w'' => e = .returned (.tuple #[.agg #[.int .i64 p, .int .i64 d], .int .i64 0]) ∧ Below w'.heap.size w' w'') :=
    fun w' hb => head_any B b m s a p d w' (h.below hb (Nat.le_refl _)) ho (by omega)
  have Hs := Lib.hid (fun w => osmall_any p d w (by omega) (by omega))
  have Hc := Lib.hid (fun w => cat_any K (cof (1 + p + d)) a bl i w hc (by omega))
  obtain ⟨_, e, _, hgl, _, _, hx, _⟩ := hl.at_ (by omega)
  cases e
  obtain ⟨h0, h1, h2⟩ := hcells_at hs bl (by omega)
  rw [hh] at h0 h1
  have y0 := hx _ _ h0
  have y1 := hx _ _ h1
  have y2 := hx _ _ h2
  obtain ⟨k, Hk⟩ : ∃ k, Hid (cof (1 + p + d) = k) := ⟨_, rfl⟩
  rw [Hk.out] at Hs Hc y1 hk
  have Hy : Hid (∀ w', Below w.heap.size w w' → w'.cell? ⟨g, bl * 3, none⟩ = some (.int .i64 1) ∧ w'.cell? ⟨g, bl * 3 + 1, none⟩ = some (.int .i64 (k : Nat)) ∧ w'.cell? ⟨g, bl * 3 + 2, none⟩ = some (.int .i64 0)) :=
    fun w' hb => ⟨(hb.cell (p := ⟨g, bl * 3, none⟩) hgl).trans y0, (hb.cell (p := ⟨g, bl * 3 + 1, none⟩) hgl).trans y1, (hb.cell (p := ⟨g, bl * 3 + 2, none⟩) hgl).trans y2⟩
  have hgw := Lib.hid hgl
  have hK2 : bl < K := hbl
  have heq := eq178 k
  obtain ⟨n1, Hn1⟩ : ∃ n, Hid (w.heap.size = n) := ⟨_, rfl⟩
  obtain ⟨n2, Hn2⟩ : ∃ n, Hid (w.heap.size + 1 = n) := ⟨_, rfl⟩
  have L1 := Lib.hid (((Loc.nil Nob w).box 64 #[.int .i64 K] n1 Hn1.out).box 51 #[.int .i64 0, .int .i64 0] n2 (by rw [World.size_alloc]; exact Hn2.out))
  have ha2 : a ≤ 100000 := by omega
  clear h ho hc hl hh f1 f2 hle hx h0 h1 h2 y0 y1 y2 hhl hm hgl hbl
  go_enter Tryz.func188, Tryz.ntmps188
  go_wp2_with fail
  rw [Hn2.out, Hn1.out]
  generalize (w.alloc _).alloc _ = w1 at *
  have x0 : w1.cell? ⟨n1, 0, none⟩ = some (.int .i64 K) := L1.out.b1.cell 0
  go_wp2_with fail
  refine (Hb.out _).mono ?_
  rintro e w2 ⟨rfl, hb2⟩
  have L2 := Lib.hid (L1.out.call hb2 (Nat.le_refl _))
  clear hb2 L1 x0
  go_wp2_with fail
  refine (Hh.out _ L2.out.below).mono ?_
  rintro e w3 ⟨rfl, hb3⟩
  have L3 := Lib.hid (L2.out.call hb3 (Nat.le_refl _))
  clear hb3 L2
  obtain ⟨n3, Hn3⟩ : ∃ n, Hid (w3.heap.size = n) := ⟨_, rfl⟩
  obtain ⟨n4, Hn4⟩ : ∃ n, Hid (w3.heap.size + 1 = n) := ⟨_, rfl⟩
  have L4 := Lib.hid ((L3.out.box 51 #[.int .i64 p, .int .i64 d] n3 Hn3.out).box 178 #[.int .i64 1, .int .i64 (k : Nat), .int .i64 0] n4 (by rw [World.size_alloc]; exact Hn4.out))
  have hb3' := L3.out.alloc (.cells #[.int .i64 p, .int .i64 d] 51)
  obtain ⟨y0, y1, y2⟩ := Hy.out _ hb3'.below
  clear hb3'
  go_wp2_with fail
  rw [Hn4.out, Hn3.out]
  generalize (w3.alloc _).alloc _ = w4 at *
  clear y0 y1 y2
  refine (Hs.out _).mono ?_
  rintro e w5 ⟨rfl, hb5⟩
  have L5 := Lib.hid (L4.out.call hb5 (Nat.le_refl _))
  clear hb5 L4
  have x0 : w5.cell? ⟨n1, 0, none⟩ = some (.int .i64 K) := (L5.out.at_ (n1, 64, #[.int .i64 K]) (by simp)).1.cell 0
  go_wp2_with fail
  refine (Hc.out _).mono ?_
  rintro e w6 ⟨rfl, hb6⟩
  have L6 := Lib.hid (L5.out.call hb6 (Nat.le_refl _))
  clear hb6 L5 x0
  obtain ⟨n5, Hn5⟩ : ∃ n, Hid (w6.heap.size = n) := ⟨_, rfl⟩
  have L7 := Lib.hid (L6.out.box 242 #[.int .i64 bl, .int .i64 i] n5 Hn5.out)
  clear L6
  go_wp2_with fail
  rw [Hn5.out]
  generalize w6.alloc _ = w7 at *
  have LC := Lib.hid L7.out.drew
  have e1 : ¬ n4 = n2 := LC.out.ne_ (i := 1) (j := 3) (by decide) rfl rfl
  have e2 : ¬ n3 = n2 := LC.out.ne_ (i := 2) (j := 3) (by decide) rfl rfl
  have e3 : ¬ n2 = n4 := fun e => e1 e.symm
  have e4 : ¬ n2 = n3 := fun e => e2 e.symm
  have s0 : w7.cell? ⟨n3, 0, none⟩ = some (.int .i64 p) := (LC.out.nth 2 rfl).cell 0
  have s1 : w7.cell? ⟨n3, 1, none⟩ = some (.int .i64 d) := (LC.out.nth 2 rfl).cell 1
  have s2 : w7.cell? ⟨n4, 0, none⟩ = some (.int .i64 1) := (LC.out.nth 1 rfl).cell 0
  have s3 : w7.cell? ⟨n4, 1, none⟩ = some (.int .i64 (k : Nat)) := (LC.out.nth 1 rfl).cell 1
  have s4 : w7.cell? ⟨n4, 2, none⟩ = some (.int .i64 0) := (LC.out.nth 1 rfl).cell 2
  have v0 : w7.cell? ⟨n2, 0, none⟩ = some (.int .i64 0) := (LC.out.nth 3 rfl).cell 0
  have v1 : w7.cell? ⟨n2, 1, none⟩ = some (.int .i64 0) := (LC.out.nth 3 rfl).cell 1
  have z0 : w7.frozen? ⟨n2, 0, none⟩ = false := (LC.out.nth 3 rfl).frozen 0
  have z1 : w7.frozen? ⟨n2, 1, none⟩ = false := (LC.out.nth 3 rfl).frozen 1
  go_region_held3 (fun w' => w'.cell? ⟨n3, 0, none⟩ = some (.int .i64 p) ∧ w'.cell? ⟨n3, 1, none⟩ = some (.int .i64 d) ∧ w'.cell? ⟨n4, 0, none⟩ = some (.int .i64 1) ∧ w'.cell? ⟨n4, 1, none⟩ = some (.int .i64 (k : Nat)) ∧ w'.cell? ⟨n4, 2, none⟩ = some (.int .i64 0))
    (first | exact ⟨s0, s1, s2, s3, s4⟩ | go_keep)
    (fail)
  have L8 := ((((L7.out.tail.tail.tail).set 0 (.int .i64 p)).set 1 (.int .i64 d))).drew
  have L8' := Lib.hid L8
  have u0 := L8.b0.cell 0
  have u1 := L8.b0.cell 1
  simp at u0 u1
  clear L8 s0 s1 s2 s3 s4 v0 v1 z0 z1
  go_wp2_with fail
  refine bodyPost_ret (v := .tuple #[.agg #[.int .i64 p, .int .i64 d], .bool true]) (by simp [results, Tryz.results188, go_sem, u0, u1]) rfl ?_
  exact ⟨rfl, L8'.out.below⟩
end Go.Proofs.YtcnjipicifkfjaaGreat

/- blocks.Table: Len, Get, All. -/
namespace Go.Proofs.YtcnjipicifkfjaaGreat
open Go.RowKit
set_option linter.unusedVariables false
set_option linter.unusedSimpArgs false

/-- A table of headers at block t, of the device at block d. -/
def TabR (w : World) (F : Nat → Prop) (t d K : Nat) (hs : List (Nat × Nat)) : Prop :=
  ∃ g cap, Blk w t 167 #[.pointer (some ⟨d, 0, none⟩), .int .i64 K, .slice (some ⟨g, 0, none⟩) K cap] ∧ Own w 0 178 3 (some ⟨g, 0, none⟩) K cap (hcells hs) ∧ F t ∧ F g ∧ t ≠ g
section
variable {w w' : World} {F F' S : Nat → Prop} {t d K : Nat} {hs : List (Nat × Nat)}
theorem TabR.mod (h : TabR w F t d K hs) (m : Mod w w' S) (hs' : ∀ k, F k → ¬ S k) : TabR w' F t d K hs := by
  obtain ⟨g, cap, hb, ho, h1, h2, h3⟩ := h
  exact ⟨g, cap, m.blk hb (hs' _ h1), ho.mod m (fun a ha => by cases ha; exact hs' _ h2), h1, h2, h3⟩
theorem TabR.weak (h : TabR w F t d K hs) (hF : ∀ k, k < w.heap.size → F k → F' k) : TabR w F' t d K hs := by
  obtain ⟨g, cap, hb, ho, h1, h2, h3⟩ := h
  exact ⟨g, cap, hb, ho, hF _ hb.lt h1, hF _ (ho.lt _ rfl).2 h2, h3⟩
theorem TabR.below {B : Nat} (h : TabR w F t d K hs) (hb : Below B w w') (hB : w.heap.size ≤ B) : TabR w' F t d K hs := by
  obtain ⟨g, cap, hb0, ho, h1, h2, h3⟩ := h
  exact ⟨g, cap, hb0.below hb (Nat.lt_of_lt_of_le hb0.lt hB), ho.below hb hB, h1, h2, h3⟩
theorem TabR.len (h : TabR w F t d K hs) : hs.length = K := by
  obtain ⟨g, cap, hb, ho, _⟩ := h
  have := ho.len
  rw [hcells_len] at this
  omega
end
theorem tlen_any (F : Nat → Prop) (t d K : Nat) (hs : List (Nat × Nat)) (w : World) (h : TabR w F t d K hs) :
    Calls Tryz.prog 58 #[.pointer (some ⟨t, 0, none⟩)] w fun e w' => e = .returned (.int .i64 K) ∧ w = w' := by
  obtain ⟨g, cap, hb, ho, _⟩ := h
  have c2 : w.cell? ⟨t, 2, none⟩ = some (.slice (some ⟨g, 0, none⟩) K cap) := hb.cell 2
  clear hb ho
  go_enter Tryz.func58, Tryz.ntmps58
  go_wp2_with fail
  go_ret
  exact ⟨rfl, rfl⟩
set_option maxRecDepth 100000 in
set_option maxHeartbeats 1000000 in
theorem tget_any (F : Nat → Prop) (t d K b : Nat) (hs : List (Nat × Nat)) (w : World) (h : TabR w F t d K hs) (hb1 : 1 ≤ b) (hb2 : b < K) (hK : K ≤ 1000) :
    Calls Tryz.prog 142 #[.pointer (some ⟨t, 0, none⟩), .int .i64 b] w fun e w' => e = .returned (.agg #[.int .i64 ((hs.getD b (0, 0)).1 : Nat), .int .i64 ((hs.getD b (0, 0)).2 : Nat), .int .i64 0]) ∧ Below w.heap.size w w' := by
  have hl := h.len
  obtain ⟨g, cap, hb, ho, _⟩ := h
  obtain ⟨_, e, _, hgl, hnc, hcm, hx, _⟩ := ho.at_ (by omega)
  cases e
  obtain ⟨h0, h1, h2⟩ := hcells_at hs b (by omega)
  obtain ⟨n1, Hn1⟩ : ∃ n, Hid (w.heap.size = n) := ⟨_, rfl⟩
  have L1 := Lib.hid ((Loc.nil Nob w).box 178 #[.int .i64 0, .int .i64 0, .int .i64 0] n1 Hn1.out)
  have c2 : w.cell? ⟨t, 2, none⟩ = some (.slice (some ⟨g, 0, none⟩) K cap) := hb.cell 2
  have Hc : Hid (∀ w', Below w.heap.size w w' → w'.cell? ⟨t, 2, none⟩ = some (.slice (some ⟨g, 0, none⟩) K cap) ∧ w'.cell? ⟨g, b * 3, none⟩ = some (.int .i64 ((hs.getD b (0, 0)).1 : Nat)) ∧ w'.cell? ⟨g, b * 3 + 1, none⟩ = some (.int .i64 ((hs.getD b (0, 0)).2 : Nat)) ∧ w'.cell? ⟨g, b * 3 + 2, none⟩ = some (.int .i64 0)) :=
    fun w' hb' => ⟨(hb'.cell (p := ⟨t, 2, none⟩) hb.lt).trans c2, (hb'.cell (p := ⟨g, b * 3, none⟩) hgl).trans (hx _ _ h0), (hb'.cell (p := ⟨g, b * 3 + 1, none⟩) hgl).trans (hx _ _ h1), (hb'.cell (p := ⟨g, b * 3 + 2, none⟩) hgl).trans (hx _ _ h2)⟩
  obtain ⟨p, q⟩ : ∃ p q, Hid (hs.getD b (0, 0) = (p, q)) := ⟨_, _, rfl⟩
  obtain ⟨q, Hpq⟩ := q
  rw [Hpq.out] at Hc ⊢
  clear hb ho hx h0 h1 h2 hl c2
  go_enter Tryz.func142, Tryz.ntmps142
  obtain ⟨c2, y0, y1, y2⟩ := Hc.out _ L1.out.below
  have z0 : (w.alloc (.cells #[.int .i64 0, .int .i64 0, .int .i64 0] 178)).cell? ⟨n1, 0, none⟩ = some (.int .i64 0) := L1.out.b0.cell 0
  go_wp2_with fail
  have L2 := (Loc.nil Nob w).box 178 #[.int .i64 p, .int .i64 q, .int .i64 0] n1 Hn1.out
  have u0 := L2.b0.cell 0
  have u1 := L2.b0.cell 1
  have u2 := L2.b0.cell 2
  simp only [List.getElem?_toArray, List.getElem?_cons_zero, List.getElem?_cons_succ] at u0 u1 u2
  have L2' := Lib.hid L2.below
  rw [← Hn1.out] at u0 u1 u2
  refine bodyPost_ret (v := .agg #[.int .i64 p, .int .i64 q, .int .i64 0]) (by simp [results, Tryz.results142, go_sem, u0, u1, u2]) rfl ?_
  exact ⟨rfl, L2'.out⟩
theorem hcells_one {l : List (Nat × Nat)} : ∀ u ∈ hcells l, u.oneCell' = true := by
  intro u hu
  simp only [hcells, List.mem_flatMap, hcell, List.mem_cons, List.not_mem_nil, or_false] at hu
  obtain ⟨_, _, rfl | rfl | rfl⟩ := hu <;> rfl
theorem tall_any (F : Nat → Prop) (t d K : Nat) (hs : List (Nat × Nat)) (w : World) (h : TabR w F t d K hs) (hK1 : 0 < K) (hK : K ≤ 1000) :
    Calls Tryz.prog 137 #[.pointer (some ⟨t, 0, none⟩)] w fun e w' => ∃ g cap, e = .returned (.slice (some ⟨g, 0, none⟩) K cap) ∧ Own w' w.heap.size 178 3 (some ⟨g, 0, none⟩) K cap (hcells hs) ∧ Below w.heap.size w w' := by
  have hl := h.len
  obtain ⟨g, cap, hb, ho, _⟩ := h
  obtain ⟨i, hi, h3, h1, h2⟩ := info178s
  have c2 : (w.alloc (.cells #[] 178)).cell? ⟨t, 2, none⟩ = some (.slice (some ⟨g, 0, none⟩) K cap) := (hb.alloc _).cell 2
  have Ho := Lib.hid ho.rd
  clear hb ho
  go_enter Tryz.func137, Tryz.ntmps137
  go_wp2_with (at_builtin; (refine append_rd rfl (.tmp 3) (.tmp 7) 143 rfl w.heap.size 178 i _ 3 24 Tryz.underlying143 hi h3 h1 h2 rfl (by omega) (some ⟨w.heap.size, 0, none⟩) 0 0 [] rfl (Own.empty w w.heap.size 178 3 w.heap.size rfl (Nat.le_refl _)) (some ⟨g, 0, none⟩) K cap (hcells hs) rfl (Ho.out.alloc _) hcells_one K (by omega) (hcells hs) rfl (by unfold maxLen; omega) (by omega) (by simp) ?_))
  intro A5 cap5 w5 hO5 hM5 hat5
  obtain ⟨g5, rfl, _⟩ := hO5.at_ hK1
  have HO5 := Lib.hid hO5
  have Hb5 := Lib.hid (Below.mod ((Below.refl _ w).alloc (Nat.le_refl _) (.cells #[] 178)) hM5 (by simp) (fun k _ h => by first | omega | (obtain ⟨a, ha, e⟩ := h; cases ha; simp only at e; omega)))
  clear hO5 hM5 hat5
  go_wp2_with fail
  go_ret
  exact ⟨g5, cap5, rfl, HO5.out, Hb5.out⟩

/-- Whole: of a block that isn't a large object's first. -/
theorem whole_no (g K cap b : Nat) (hs : List (Nat × Nat)) (w : World) (hl : Own w 0 178 3 (some ⟨g, 0, none⟩) K cap (hcells hs)) (hb : b < K) (hK : K ≤ 1000) (hk : (hs.getD b (0, 0)).1 ≠ 2) :
    Calls Tryz.prog 134 #[.slice (some ⟨g, 0, none⟩) K cap, .int .i64 b] w fun e w' => e = .returned (.tuple #[.int .i64 0, .bool false]) ∧ w = w' := by
  have hl2 : hs.length = K := by have := hl.len; rw [hcells_len] at this; omega
  obtain ⟨_, e, _, hgl, hnc, hcm, hx, _⟩ := hl.at_ (by omega)
  cases e
  have y0 := hx _ _ (hcells_at hs b (by omega)).1
  have hkb : (((hs.getD b (0, 0)).1 : Int) != 2) = true := by rw [bne_iff_ne]; omega
  have t1 : decide ((K : Int) ≤ (b : Int)) = false := by rw [decide_eq_false_iff_not]; omega
  have t2 : decide (K ≤ b) = false := by rw [decide_eq_false_iff_not]; omega
  generalize (hs.getD b (0, 0)).1 = p at *
  clear hl hx hk
  go_enter Tryz.func134, Tryz.ntmps134
  go_wp2_with fail
  go_ret2
  exact ⟨by simp, rfl⟩
/-- Headers of free blocks and of blocks of small objects are sound. -/
theorem sound_any (g K cap : Nat) (hs : List (Nat × Nat)) (w : World) (hl : Own w 0 178 3 (some ⟨g, 0, none⟩) K cap (hcells hs)) (hK1 : 0 < K) (hK : K ≤ 1000) (hk : ∀ b, (hs.getD b (0, 0)).1 ≤ 1) :
    Calls Tryz.prog 136 #[.slice (some ⟨g, 0, none⟩) K cap] w fun e w' => e = .returned (.tuple #[.int .i64 0, .bool true]) ∧ w = w' := by
  have hl2 : hs.length = K := by have := hl.len; rw [hcells_len] at this; omega
  obtain ⟨_, e, _, hgl, hnc, hcm, hx, _⟩ := hl.at_ hK1
  cases e
  have Hx : Hid (∀ b, b < K → w.cell? ⟨g, b * 3, none⟩ = some (.int .i64 ((hs.getD b (0, 0)).1 : Nat))) := fun b hb => hx _ _ (hcells_at hs b (by omega)).1
  have Hk := Lib.hid hk
  clear hl hx hk
  go_enter Tryz.func136, Tryz.ntmps136
  go_wp2_with fail
  go_loop [4] (fun v4 => ∃ b : Nat, v4 = .int .i64 b ∧ 1 ≤ b ∧ b ≤ K + 1) (fun v4 => K + 1 - (intOf v4).toNat)
  case atStart => exact ⟨1, rfl, Nat.le_refl _, by omega⟩
  case round =>
    obtain ⟨b, rfl, hb1, hb2⟩ := hrel
    by_cases hbK : b < K
    · have y0 := Hx.out b hbK
      have hp := Hk.out b
      generalize (hs.getD b (0, 0)).1 = p at *
      have t1 : ((p : Int) == 2) = false := by rw [beq_eq_false_iff_ne]; omega
      have t2 : ((p : Int) == 3) = false := by rw [beq_eq_false_iff_ne]; omega
      go_wp2_with fail
      exact ⟨⟨b + 1, by go_num, by omega, by omega⟩, by simp [intOf]; omega⟩
    · go_wp2_with fail
      go_ret2
      exact ⟨by simp, rfl⟩
end Go.Proofs.YtcnjipicifkfjaaGreat
