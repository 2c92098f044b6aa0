/- The order that a schedule tells, in plain words. -/
import Derived.Test.YthpljhkjajaogaaMath
namespace Go.Proofs.Ythpljhkjajaogaa

/-- The strands that are left, of the first n. -/
def leftTo (ls : List Int) (nx : List Nat) (n : Nat) : List Nat := (List.range n).filter fun i => decide (((nx.getD i 0 : Nat) : Int) < ls.getD i 0)
theorem leftTo_zero (ls : List Int) (nx : List Nat) : leftTo ls nx 0 = [] := rfl
theorem leftTo_yes (ls : List Int) (nx : List Nat) (n : Nat) (h : ((nx.getD n 0 : Nat) : Int) < ls.getD n 0) : leftTo ls nx (n + 1) = leftTo ls nx n ++ [n] := by
  unfold leftTo
  rw [List.range_succ, List.filter_append, List.filter_cons, if_pos (by simpa using h), List.filter_nil]
theorem leftTo_no (ls : List Int) (nx : List Nat) (n : Nat) (h : ¬ ((nx.getD n 0 : Nat) : Int) < ls.getD n 0) : leftTo ls nx (n + 1) = leftTo ls nx n := by
  unfold leftTo
  rw [List.range_succ, List.filter_append, List.filter_cons, if_neg (by simpa using h), List.filter_nil, List.append_nil]
theorem leftTo_mem {ls : List Int} {nx : List Nat} {n i : Nat} (h : i ∈ leftTo ls nx n) : i < n ∧ ((nx.getD i 0 : Nat) : Int) < ls.getD i 0 := by
  unfold leftTo at h
  simpa using h
theorem leftTo_len (ls : List Int) (nx : List Nat) (n : Nat) : (leftTo ls nx n).length ≤ n := by
  unfold leftTo
  exact Nat.le_trans (List.length_filter_le _ _) (by simp)
def left (ls : List Int) (nx : List Nat) : List Nat := leftTo ls nx ls.length

/-- Which of those that are left comes next. -/
def pickAt (ls : List Int) (ps : List Int) (nx : List Nat) (k : Nat) : Nat := if k < ps.length then (ps.getD k 0).toNat % (left ls nx).length else 0
def pick (ls : List Int) (ps : List Int) (nx : List Nat) (k : Nat) : Nat := (left ls nx).getD (pickAt ls ps nx k) 0

/-- What came, and how far each strand is, behind k picks. -/
def st (ls : List Int) (ps : List Int) : Nat → List (Nat × Nat) × List Nat
  | 0 => ([], List.replicate ls.length 0)
  | k + 1 =>
    let s := st ls ps k
    let i := pick ls ps s.2 k
    (s.1 ++ [(i, s.2.getD i 0)], s.2.set i (s.2.getD i 0 + 1))
/-- All comes in k picks. -/
def Ends (ls ps : List Int) (k : Nat) : Prop := left ls (st ls ps k).2 = [] ∧ ∀ j, j < k → left ls (st ls ps j).2 ≠ []
theorem Ends.eq {ls ps : List Int} {j k : Nat} (h : Ends ls ps j) (h' : Ends ls ps k) : j = k := by
  rcases Nat.lt_trichotomy j k with hlt | rfl | hlt
  · exact absurd h.1 (h'.2 j hlt)
  · rfl
  · exact absurd h'.1 (h.2 k hlt)

theorem pickAt_lt {ls ps : List Int} {nx : List Nat} {k : Nat} (h : left ls nx ≠ []) : pickAt ls ps nx k < (left ls nx).length := by
  have h0 : 0 < (left ls nx).length := List.length_pos_iff.2 h
  unfold pickAt
  split
  · exact Nat.mod_lt _ h0
  · exact h0
theorem pick_left {ls ps : List Int} {nx : List Nat} {k : Nat} (h : left ls nx ≠ []) : pick ls ps nx k < ls.length ∧ ((nx.getD (pick ls ps nx k) 0 : Nat) : Int) < ls.getD (pick ls ps nx k) 0 := by
  have h0 := pickAt_lt (ps := ps) (k := k) h
  unfold pick
  rw [List.getD_eq_getElem?_getD, List.getElem?_eq_getElem h0, Option.getD_some]
  exact leftTo_mem (List.getElem_mem h0)

theorem sum_set (l : List Nat) (i : Nat) (h : i < l.length) : (l.set i (l.getD i 0 + 1)).sum = l.sum + 1 := by
  induction l generalizing i with
  | nil => simp at h
  | cons a l ih =>
    cases i with
    | zero => simp; omega
    | succ i =>
      have := ih i (by simpa using h)
      simp only [List.set_cons_succ, List.sum_cons, List.getD_cons_succ]
      omega
theorem sum_le (l : List Nat) (ls : List Int) (hl : l.length = ls.length) (h : ∀ i, i < l.length → l.getD i 0 ≤ nn (ls.getD i 0)) : l.sum ≤ total ls := by
  induction l generalizing ls with
  | nil => simp
  | cons a l ih =>
    cases ls with
    | nil => simp at hl
    | cons b ls =>
      have h0 := h 0 (by simp)
      have := ih ls (by simpa using hl) (fun i hi => by simpa using h (i + 1) (by simpa using hi))
      rw [total_cons, List.sum_cons]
      simp at h0
      omega

/-- What holds behind k picks. -/
structure Fine (ls : List Int) (k : Nat) (s : List (Nat × Nat) × List Nat) : Prop where
  n : s.1.length = k
  len : s.2.length = ls.length
  sum : s.2.sum = k
  le : ∀ i, i < s.2.length → s.2.getD i 0 ≤ nn (ls.getD i 0)
theorem st_fine (ls ps : List Int) (k : Nat) (h : ∀ j, j < k → left ls (st ls ps j).2 ≠ []) : Fine ls k (st ls ps k) := by
  induction k with
  | zero => exact ⟨rfl, by simp [st], by simp [st], fun i hi => by simp only [st, List.getD_eq_getElem?_getD, List.getElem?_replicate]; split <;> simp⟩
  | succ k ih =>
    have hf := ih (fun j hj => h j (by omega))
    obtain ⟨h1, h2⟩ := pick_left (ps := ps) (k := k) (h k (by omega))
    have hp : pick ls ps (st ls ps k).2 k < (st ls ps k).2.length := by rw [hf.len]; exact h1
    refine ⟨?_, ?_, ?_, ?_⟩
    · simp [st, hf.n]
    · simp [st, hf.len]
    · simp only [st]
      rw [sum_set _ _ hp, hf.sum]
    · intro i hi
      simp only [st, List.length_set] at hi ⊢
      have hle := hf.le i hi
      rw [List.getD_eq_getElem?_getD, List.getElem?_set]
      split
      · rename_i he
        subst he
        simp only [Option.getD_some]
        unfold nn
        omega
      · rw [← List.getD_eq_getElem?_getD]
        exact hle
theorem Fine.bound {ls : List Int} {k : Nat} {s : List (Nat × Nat) × List Nat} (h : Fine ls k s) : k ≤ total ls := by
  rw [← h.sum]
  exact sum_le _ _ h.len h.le
end Go.Proofs.Ythpljhkjajaogaa
