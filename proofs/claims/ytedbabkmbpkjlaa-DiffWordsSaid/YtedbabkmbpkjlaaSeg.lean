/- How two rows differ, in plain words: segments. -/
import Derived.RowKit
namespace Go.Proofs.Ytedbabkmbpkjlaa

/-- Words s to e of a row. -/
def sub (l : List Int) (s e : Nat) : List Int := (l.drop s).take (e - s)
theorem sub_len (l : List Int) (s e : Nat) (h : e ≤ l.length) : (sub l s e).length = e - s := by
  unfold sub
  rw [List.length_take, List.length_drop]
  omega
theorem sub_getD (l : List Int) (s e k : Nat) (h : k < e - s) : (sub l s e).getD k 0 = l.getD (s + k) 0 := by
  unfold sub
  simp only [List.getD_eq_getElem?_getD, List.getElem?_take, List.getElem?_drop]
  rw [if_pos h]
theorem sub_join (l : List Int) (s e f : Nat) (h : s ≤ e) (h2 : e ≤ f) : sub l s e ++ sub l e f = sub l s f := by
  unfold sub
  have e1 : l.drop e = (l.drop s).drop (e - s) := by rw [List.drop_drop]; congr 1; omega
  rw [e1, show f - s = (e - s) + (f - e) by omega, List.take_add]
theorem sub_one (l : List Int) (i : Nat) (h : i < l.length) : sub l i (i + 1) = [l.getD i 0] := by
  unfold sub
  rw [show i + 1 - i = 1 by omega, List.drop_eq_getElem_cons h, List.take_succ_cons, List.take_zero, List.getD_eq_getElem?_getD, List.getElem?_eq_getElem h]
  rfl

/-- The segments of the first i words. -/
def segs (was now : List Int) (gap : Int) : Nat → List (Nat × Nat)
  | 0 => []
  | i + 1 =>
    let ss := segs was now gap i
    if was.getD i 0 = now.getD i 0 then ss
    else if ss.length ≠ 0 ∧ (i = (ss.getD (ss.length - 1) (0, 0)).2 ∨ (i : Int) - (ss.getD (ss.length - 1) (0, 0)).2 < gap) then ss.take (ss.length - 1) ++ [((ss.getD (ss.length - 1) (0, 0)).1, i + 1)]
    else ss ++ [(i, i + 1)]
/-- Where the last one ends. -/
def endOf (ss : List (Nat × Nat)) : Nat := if ss.length = 0 then 0 else (ss.getD (ss.length - 1) (0, 0)).2

theorem segs_same {was now : List Int} {gap : Int} {i : Nat} (h : was.getD i 0 = now.getD i 0) : segs was now gap (i + 1) = segs was now gap i := by
  simp only [segs]
  rw [if_pos h]
theorem segs_more {was now : List Int} {gap : Int} {i : Nat} (h : was.getD i 0 ≠ now.getD i 0) (hn : (segs was now gap i).length ≠ 0) (hg : i = endOf (segs was now gap i) ∨ (i : Int) - endOf (segs was now gap i) < gap) :
    segs was now gap (i + 1) = (segs was now gap i).take ((segs was now gap i).length - 1) ++ [(((segs was now gap i).getD ((segs was now gap i).length - 1) (0, 0)).1, i + 1)] := by
  unfold endOf at hg
  rw [if_neg hn] at hg
  simp only [segs]
  rw [if_neg h, if_pos ⟨hn, hg⟩]
theorem segs_new {was now : List Int} {gap : Int} {i : Nat} (h : was.getD i 0 ≠ now.getD i 0) (hg : ¬ ((segs was now gap i).length ≠ 0 ∧ (i = endOf (segs was now gap i) ∨ (i : Int) - endOf (segs was now gap i) < gap))) :
    segs was now gap (i + 1) = segs was now gap i ++ [(i, i + 1)] := by
  simp only [segs]
  rw [if_neg h, if_neg]
  intro ⟨hn, hx⟩
  apply hg
  refine ⟨hn, ?_⟩
  unfold endOf
  rw [if_neg hn]
  exact hx

/-- Segments rise, are not empty, and end at most at n. -/
structure Rise (n : Nat) (ss : List (Nat × Nat)) : Prop where
  one : ∀ j, j < ss.length → (ss.getD j (0, 0)).1 < (ss.getD j (0, 0)).2
  two : ∀ j, j + 1 < ss.length → (ss.getD j (0, 0)).2 ≤ (ss.getD (j + 1) (0, 0)).1
  last : endOf ss ≤ n

theorem getD_snoc_lt {l : List (Nat × Nat)} {x : Nat × Nat} {j : Nat} (h : j < l.length) : (l ++ [x]).getD j (0, 0) = l.getD j (0, 0) := by
  rw [List.getD_eq_getElem?_getD, List.getElem?_append_left h, ← List.getD_eq_getElem?_getD]
theorem getD_snoc_eq {l : List (Nat × Nat)} {x : Nat × Nat} {j : Nat} (h : j = l.length) : (l ++ [x]).getD j (0, 0) = x := by
  subst h
  rw [List.getD_eq_getElem?_getD, List.getElem?_append_right (Nat.le_refl _), Nat.sub_self]
  rfl
theorem getD_take_lt {l : List (Nat × Nat)} {j n : Nat} (h : j < n) : (l.take n).getD j (0, 0) = l.getD j (0, 0) := by
  rw [List.getD_eq_getElem?_getD, List.getElem?_take, if_pos h, ← List.getD_eq_getElem?_getD]
theorem endOf_snoc (l : List (Nat × Nat)) (x : Nat × Nat) : endOf (l ++ [x]) = x.2 := by
  unfold endOf
  rw [if_neg (by simp), getD_snoc_eq (by simp)]
theorem endOf_last {l : List (Nat × Nat)} (h : l.length ≠ 0) : endOf l = (l.getD (l.length - 1) (0, 0)).2 := by
  unfold endOf
  rw [if_neg h]

theorem Rise.mono {n m : Nat} {ss : List (Nat × Nat)} (h : Rise n ss) (hm : n ≤ m) : Rise m ss := ⟨h.one, h.two, Nat.le_trans h.last hm⟩
theorem Rise.snoc {i : Nat} {ss : List (Nat × Nat)} (h : Rise i ss) : Rise (i + 1) (ss ++ [(i, i + 1)]) := by
  refine ⟨fun j hj => ?_, fun j hj => ?_, by rw [endOf_snoc]; exact Nat.le_refl _⟩
  · simp only [List.length_append, List.length_cons, List.length_nil] at hj
    by_cases hlt : j < ss.length
    · rw [getD_snoc_lt hlt]; exact h.one j hlt
    · rw [getD_snoc_eq (by omega)]; exact Nat.lt_succ_self i
  · simp only [List.length_append, List.length_cons, List.length_nil] at hj
    rw [getD_snoc_lt (by omega : j < ss.length)]
    by_cases hlt : j + 1 < ss.length
    · rw [getD_snoc_lt hlt]; exact h.two j hlt
    · rw [getD_snoc_eq (by omega)]
      have := h.last
      rw [endOf_last (by omega), show ss.length - 1 = j by omega] at this
      exact this
theorem Rise.more {i : Nat} {ss : List (Nat × Nat)} (h : Rise i ss) (hn : ss.length ≠ 0) : Rise (i + 1) (ss.take (ss.length - 1) ++ [((ss.getD (ss.length - 1) (0, 0)).1, i + 1)]) := by
  have hl : (ss.take (ss.length - 1)).length = ss.length - 1 := by rw [List.length_take]; omega
  refine ⟨fun j hj => ?_, fun j hj => ?_, by rw [endOf_snoc]; exact Nat.le_refl _⟩
  · simp only [List.length_append, List.length_cons, List.length_nil, hl] at hj
    by_cases hlt : j < ss.length - 1
    · rw [getD_snoc_lt (by omega), getD_take_lt hlt]; exact h.one j (by omega)
    · rw [getD_snoc_eq (by omega)]
      have h1 := h.one (ss.length - 1) (by omega)
      have h2 := h.last
      rw [endOf_last hn] at h2
      simp only
      omega
  · simp only [List.length_append, List.length_cons, List.length_nil, hl] at hj
    rw [getD_snoc_lt (by omega : j < (ss.take (ss.length - 1)).length), getD_take_lt (by omega)]
    by_cases hlt : j + 1 < ss.length - 1
    · rw [getD_snoc_lt (by omega), getD_take_lt hlt]; exact h.two j (by omega)
    · rw [getD_snoc_eq (by omega)]
      have := h.two j (by omega)
      rw [show j + 1 = ss.length - 1 by omega] at this
      exact this
theorem segs_rise (was now : List Int) (gap : Int) (i : Nat) : Rise i (segs was now gap i) := by
  induction i with
  | zero => exact ⟨fun j hj => by simp [segs] at hj, fun j hj => by simp [segs] at hj, by simp [segs, endOf]⟩
  | succ i ih =>
    by_cases h : was.getD i 0 = now.getD i 0
    · rw [segs_same h]; exact ih.mono (Nat.le_succ i)
    · by_cases hg : (segs was now gap i).length ≠ 0 ∧ (i = endOf (segs was now gap i) ∨ (i : Int) - endOf (segs was now gap i) < gap)
      · rw [segs_more h hg.1 hg.2]; exact ih.more hg.1
      · rw [segs_new h hg]; exact ih.snoc
theorem segs_le (was now : List Int) (gap : Int) (i : Nat) : (segs was now gap i).length ≤ i := by
  induction i with
  | zero => exact Nat.le_refl _
  | succ i ih =>
    by_cases h : was.getD i 0 = now.getD i 0
    · rw [segs_same h]; omega
    · by_cases hg : (segs was now gap i).length ≠ 0 ∧ (i = endOf (segs was now gap i) ∨ (i : Int) - endOf (segs was now gap i) < gap)
      · rw [segs_more h hg.1 hg.2]; simp; omega
      · rw [segs_new h hg]; simp; omega
end Go.Proofs.Ytedbabkmbpkjlaa
