/- How two rows differ: the plain laws. -/
import Derived.Test.YtedbabkmbpkjlaaW3
import Derived.Test.YtedbabkmbpkjlaaSeg
namespace Go.Proofs.Ytedbabkmbpkjlaa
set_option linter.unusedVariables false

theorem splice_getD (l m : List Int) (k i : Nat) (h : k + m.length ≤ l.length) : (splice l k m).getD i 0 = if k ≤ i ∧ i < k + m.length then m.getD (i - k) 0 else l.getD i 0 := by
  unfold splice
  simp only [List.getD_eq_getElem?_getD]
  by_cases h1 : i < k
  · rw [if_neg (by omega), List.getElem?_append_left (by rw [List.length_take]; omega), List.getElem?_take, if_pos h1]
  · rw [List.getElem?_append_right (by rw [List.length_take]; omega), List.length_take]
    by_cases h2 : i < k + m.length
    · rw [if_pos ⟨by omega, h2⟩, List.getElem?_append_left (by omega)]
      congr 3
      omega
    · rw [if_neg (by omega), List.getElem?_append_right (by omega), List.getElem?_drop]
      congr 2
      omega

/-- Segments that lie apart, done one behind the other. -/
theorem apl_mix (x y : List Int) (N : Nat) (hx : x.length = N) (hy : y.length = N) (S : Nat → Nat × Nat) (n : Nat) (h1 : ∀ j, j < n → (S j).1 < (S j).2 ∧ (S j).2 ≤ N)
    (h2 : ∀ j l, j < l → l < n → (S j).2 ≤ (S l).1 ∨ (S l).2 ≤ (S j).1) : ∀ j, j ≤ n →
      (apl x (fun j => ((S j).1 : Nat)) (fun j => sub x (S j).1 (S j).2) (fun j => sub y (S j).1 (S j).2) j).1 = 0 ∧
      (∀ k, k < N → (∃ i, i < j ∧ (S i).1 ≤ k ∧ k < (S i).2) → (apl x (fun j => ((S j).1 : Nat)) (fun j => sub x (S j).1 (S j).2) (fun j => sub y (S j).1 (S j).2) j).2.getD k 0 = y.getD k 0) ∧
      (∀ k, k < N → (∀ i, i < j → ¬ ((S i).1 ≤ k ∧ k < (S i).2)) → (apl x (fun j => ((S j).1 : Nat)) (fun j => sub x (S j).1 (S j).2) (fun j => sub y (S j).1 (S j).2) j).2.getD k 0 = x.getD k 0) := by
  intro j
  induction j with
  | zero => exact fun _ => ⟨rfl, fun k _ ⟨i, hi, _⟩ => absurd hi (Nat.not_lt_zero _), fun k _ _ => rfl⟩
  | succ j ih =>
    intro hj
    obtain ⟨i0, i1, i2⟩ := ih (by omega)
    obtain ⟨a1, a2⟩ := h1 j (by omega)
    have hl := apl_len x (fun j => ((S j).1 : Nat)) (fun j => sub x (S j).1 (S j).2) (fun j => sub y (S j).1 (S j).2) j
    have l1 := sub_len x (S j).1 (S j).2 (by omega)
    have l2 := sub_len y (S j).1 (S j).2 (by omega)
    have hok : okCh ((S j).1 : Nat) (sub x (S j).1 (S j).2).length (sub y (S j).1 (S j).2).length (apl x (fun j => ((S j).1 : Nat)) (fun j => sub x (S j).1 (S j).2) (fun j => sub y (S j).1 (S j).2) j).2.length := by
      rw [l1, l2, hl, hx]
      unfold okCh
      omega
    have hno : ∀ k, (S j).1 ≤ k → k < (S j).2 → ∀ i, i < j → ¬ ((S i).1 ≤ k ∧ k < (S i).2) := fun k hk1 hk2 i hi hk => by have := h2 i j hi (by omega); omega
    have hh : hits (apl x (fun j => ((S j).1 : Nat)) (fun j => sub x (S j).1 (S j).2) (fun j => sub y (S j).1 (S j).2) j).2 (((S j).1 : Nat) : Int).toNat (sub x (S j).1 (S j).2) := by
      intro k hk
      rw [l1] at hk
      rw [Int.toNat_natCast, i2 ((S j).1 + k) (by omega) (hno _ (by omega) (by omega)), sub_getD _ _ _ _ hk]
    rw [apl_done (words := x) i0 hok hh]
    refine ⟨rfl, fun k hk ⟨i, hi, hi1, hi2⟩ => ?_, fun k hk hn => ?_⟩
    · show (splice _ _ _).getD k 0 = _
      rw [Int.toNat_natCast, splice_getD _ _ _ _ (by rw [l2, hl]; omega), l2]
      by_cases hin : (S j).1 ≤ k ∧ k < (S j).1 + ((S j).2 - (S j).1)
      · rw [if_pos hin, sub_getD _ _ _ _ (by omega)]
        congr 1
        omega
      · rw [if_neg hin]
        refine i1 k hk ⟨i, ?_, hi1, hi2⟩
        rcases Nat.lt_or_ge i j with h | h
        · exact h
        · obtain rfl : i = j := by omega
          omega
    · show (splice _ _ _).getD k 0 = _
      have := hn j (by omega)
      rw [Int.toNat_natCast, splice_getD _ _ _ _ (by rw [l2, hl]; omega), l2, if_neg (by omega)]
      exact i2 k hk (fun i hi => hn i (by omega))

theorem ext0 {x y : List Int} (h : x.length = y.length) (h2 : ∀ k, k < x.length → x.getD k 0 = y.getD k 0) : x = y := by
  apply List.ext_getElem h
  intro i a b
  have := h2 i a
  simpa [List.getD_eq_getElem?_getD, a, b] using this

/-- Behind the last segment nothing differs; what differs lies in a segment. -/
theorem segs_cov (was now : List Int) (gap : Int) (i : Nat) :
    (∀ k, endOf (segs was now gap i) ≤ k → k < i → was.getD k 0 = now.getD k 0) ∧
    (∀ k, k < i → was.getD k 0 ≠ now.getD k 0 → ∃ j, j < (segs was now gap i).length ∧ ((segs was now gap i).getD j (0, 0)).1 ≤ k ∧ k < ((segs was now gap i).getD j (0, 0)).2) := by
  induction i with
  | zero => exact ⟨fun k _ h => absurd h (Nat.not_lt_zero _), fun k h => absurd h (Nat.not_lt_zero _)⟩
  | succ i ih =>
    obtain ⟨h1, h2⟩ := ih
    have hr := segs_rise was now gap i
    by_cases h : was.getD i 0 = now.getD i 0
    · rw [segs_same h]
      refine ⟨fun k hk hk2 => ?_, fun k hk hne => ?_⟩
      · by_cases hki : k = i
        · rw [hki]; exact h
        · exact h1 k hk (by omega)
      · refine h2 k ?_ hne
        rcases Nat.lt_or_ge k i with h3 | h3
        · exact h3
        · obtain rfl : k = i := by omega
          exact absurd h hne
    · by_cases hg : (segs was now gap i).length ≠ 0 ∧ (i = endOf (segs was now gap i) ∨ (i : Int) - endOf (segs was now gap i) < gap)
      · rw [segs_more h hg.1 hg.2]
        generalize segs was now gap i = ss at *
        have hl : (ss.take (ss.length - 1)).length = ss.length - 1 := by rw [List.length_take]; omega
        have he := endOf_last hg.1
        have hone := hr.one (ss.length - 1) (by omega)
        have hla := hr.last
        refine ⟨fun k hk hk2 => by rw [endOf_snoc] at hk; simp only at hk; omega, fun k hk hne => ?_⟩
        rcases Nat.lt_or_ge k i with h3 | h3
        · obtain ⟨j, hj, hj1, hj2⟩ := h2 k h3 hne
          refine ⟨j, by simp; omega, ?_⟩
          by_cases hj3 : j < ss.length - 1
          · rw [getD_snoc_lt (by omega), getD_take_lt hj3]
            exact ⟨hj1, hj2⟩
          · obtain rfl : j = ss.length - 1 := by omega
            rw [getD_snoc_eq hl.symm]
            exact ⟨hj1, by simp only; omega⟩
        · obtain rfl : k = i := by omega
          refine ⟨ss.length - 1, by simp [hl], ?_⟩
          rw [getD_snoc_eq hl.symm]
          simp only
          omega
      · rw [segs_new h hg]
        generalize segs was now gap i = ss at *
        refine ⟨fun k hk hk2 => by rw [endOf_snoc] at hk; simp only at hk; omega, fun k hk hne => ?_⟩
        rcases Nat.lt_or_ge k i with h3 | h3
        · obtain ⟨j, hj, hj1, hj2⟩ := h2 k h3 hne
          exact ⟨j, by simp; omega, by rw [getD_snoc_lt hj]; exact ⟨hj1, hj2⟩⟩
        · obtain rfl : k = i := by omega
          refine ⟨ss.length, by simp, ?_⟩
          rw [getD_snoc_eq rfl]
          simp only
          omega
theorem Rise.apart {n : Nat} {ss : List (Nat × Nat)} (h : Rise n ss) : ∀ l j, j < l → l < ss.length → (ss.getD j (0, 0)).2 ≤ (ss.getD l (0, 0)).1 := by
  intro l
  induction l with
  | zero => intro j hj; omega
  | succ l ih =>
    intro j hj hl
    have h1 := h.two l hl
    by_cases hjl : j = l
    · subst hjl; exact h1
    · have h2 := ih j (by omega) (by omega)
      have h3 := h.one l (by omega)
      omega
theorem Rise.le {n : Nat} {ss : List (Nat × Nat)} (h : Rise n ss) : ∀ j, j < ss.length → (ss.getD j (0, 0)).2 ≤ n := by
  intro j hj
  have h1 := h.last
  rw [endOf_last (by omega)] at h1
  by_cases hjl : j = ss.length - 1
  · rw [hjl]; exact h1
  · have h2 := h.apart (ss.length - 1) j (by omega) (by omega)
    have h3 := h.one (ss.length - 1) (by omega)
    omega

/-- The segments of was, done, give now. -/
theorem apl_forth (was now : List Int) (gap : Int) (m : Nat) (h1 : was.length = m) (h2 : now.length = m) :
    apl was (fun j => (((segs was now gap m).getD j (0, 0)).1 : Nat)) (fun j => sub was ((segs was now gap m).getD j (0, 0)).1 ((segs was now gap m).getD j (0, 0)).2) (fun j => sub now ((segs was now gap m).getD j (0, 0)).1 ((segs was now gap m).getD j (0, 0)).2) (segs was now gap m).length = (0, now) := by
  have hr := segs_rise was now gap m
  obtain ⟨c1, c2⟩ := segs_cov was now gap m
  obtain ⟨a, b, c⟩ := apl_mix was now m h1 h2 (fun j => (segs was now gap m).getD j (0, 0)) (segs was now gap m).length (fun j hj => ⟨hr.one j hj, hr.le j hj⟩) (fun j l hj hl => .inl (hr.apart l j hj hl)) _ (Nat.le_refl _)
  have hl := apl_len was (fun j => (((segs was now gap m).getD j (0, 0)).1 : Nat)) (fun j => sub was ((segs was now gap m).getD j (0, 0)).1 ((segs was now gap m).getD j (0, 0)).2) (fun j => sub now ((segs was now gap m).getD j (0, 0)).1 ((segs was now gap m).getD j (0, 0)).2) (segs was now gap m).length
  refine Prod.ext a (ext0 (by rw [hl, h1, h2]) fun k hk => ?_)
  rw [hl, h1] at hk
  by_cases hd : was.getD k 0 = now.getD k 0
  · by_cases hin : ∃ i, i < (segs was now gap m).length ∧ ((segs was now gap m).getD i (0, 0)).1 ≤ k ∧ k < ((segs was now gap m).getD i (0, 0)).2
    · exact b k hk hin
    · rw [c k hk (fun i hi hk => hin ⟨i, hi, hk⟩)]
      exact hd
  · exact b k hk (c2 k hk hd)
/-- The other way round. -/
theorem apl_back (was now : List Int) (gap : Int) (m n : Nat) (h1 : was.length = m) (h2 : now.length = m) (hn : (segs was now gap m).length = n) :
    apl now (fun j => (((segs was now gap m).getD (n - 1 - j) (0, 0)).1 : Nat)) (fun j => sub now ((segs was now gap m).getD (n - 1 - j) (0, 0)).1 ((segs was now gap m).getD (n - 1 - j) (0, 0)).2) (fun j => sub was ((segs was now gap m).getD (n - 1 - j) (0, 0)).1 ((segs was now gap m).getD (n - 1 - j) (0, 0)).2) n = (0, was) := by
  have hr := segs_rise was now gap m
  obtain ⟨c1, c2⟩ := segs_cov was now gap m
  obtain ⟨a, b, c⟩ := apl_mix now was m h2 h1 (fun j => (segs was now gap m).getD (n - 1 - j) (0, 0)) n (fun j hj => ⟨hr.one _ (by omega), hr.le _ (by omega)⟩) (fun j l hj hl => .inr (hr.apart _ _ (by omega) (by omega))) _ (Nat.le_refl _)
  have hl := apl_len now (fun j => (((segs was now gap m).getD (n - 1 - j) (0, 0)).1 : Nat)) (fun j => sub now ((segs was now gap m).getD (n - 1 - j) (0, 0)).1 ((segs was now gap m).getD (n - 1 - j) (0, 0)).2) (fun j => sub was ((segs was now gap m).getD (n - 1 - j) (0, 0)).1 ((segs was now gap m).getD (n - 1 - j) (0, 0)).2) n
  refine Prod.ext a (ext0 (by rw [hl, h1, h2]) fun k hk => ?_)
  rw [hl, h2] at hk
  by_cases hin : ∃ i, i < n ∧ ((segs was now gap m).getD (n - 1 - i) (0, 0)).1 ≤ k ∧ k < ((segs was now gap m).getD (n - 1 - i) (0, 0)).2
  · exact b k hk hin
  · rw [c k hk (fun i hi hk => hin ⟨i, hi, hk⟩)]
    by_cases hd : was.getD k 0 = now.getD k 0
    · exact hd.symm
    · obtain ⟨j, hj, hj1⟩ := c2 k hk hd
      exact absurd ⟨n - 1 - j, by omega, by rw [show n - 1 - (n - 1 - j) = j by omega]; exact hj1⟩ hin

/-- How many words from s on, of so many, are unlike. -/
def cnt (was now : List Int) (s : Nat) : Nat → Nat
  | 0 => 0
  | n + 1 => cnt was now s n + if was.getD (s + n) 0 = now.getD (s + n) 0 then 0 else 1
theorem cnt_add (was now : List Int) (s a b : Nat) : cnt was now s (a + b) = cnt was now s a + cnt was now (s + a) b := by
  induction b with
  | zero => rfl
  | succ b ih =>
    rw [← Nat.add_assoc]
    simp only [cnt]
    rw [ih, Nat.add_assoc s a b]
    omega
theorem cnt_zero (was now : List Int) (s n : Nat) (h : ∀ k, s ≤ k → k < s + n → was.getD k 0 = now.getD k 0) : cnt was now s n = 0 := by
  induction n with
  | zero => rfl
  | succ n ih =>
    simp only [cnt]
    rw [ih (fun k h1 h2 => h k h1 (by omega)), if_pos (h _ (by omega) (by omega))]
theorem cnt_sub (was now : List Int) (s e k : Nat) (h : k ≤ e - s) : cnt (sub was s e) (sub now s e) 0 k = cnt was now s k := by
  induction k with
  | zero => rfl
  | succ k ih =>
    simp only [cnt]
    rw [ih (by omega), Nat.zero_add, sub_getD _ _ _ _ (by omega), sub_getD _ _ _ _ (by omega)]
theorem cnt_le (was now : List Int) (s n : Nat) : cnt was now s n ≤ n := by
  induction n with
  | zero => exact Nat.le_refl _
  | succ n ih => simp only [cnt]; split <;> omega
/-- How many words of the first j changes are others. -/
def cnts (was now : Nat → List Int) : Nat → Nat
  | 0 => 0
  | j + 1 => cnts was now j + cnt (was j) (now j) 0 (min (was j).length (now j).length)
theorem cnts_congr {was now was' now' : Nat → List Int} (n : Nat) (h : ∀ j, j < n → was j = was' j ∧ now j = now' j) : cnts was now n = cnts was' now' n := by
  induction n with
  | zero => rfl
  | succ n ih =>
    simp only [cnts]
    rw [ih (fun j hj => h j (by omega)), (h n (by omega)).1, (h n (by omega)).2]

theorem segs_cnts (was now : List Int) (gap : Int) (m : Nat) (h1 : was.length = m) (h2 : now.length = m) (i : Nat) (hi : i ≤ m) :
    cnts (fun j => sub was ((segs was now gap i).getD j (0, 0)).1 ((segs was now gap i).getD j (0, 0)).2) (fun j => sub now ((segs was now gap i).getD j (0, 0)).1 ((segs was now gap i).getD j (0, 0)).2) (segs was now gap i).length = cnt was now 0 i := by
  induction i with
  | zero => rfl
  | succ i ih =>
    have ih := ih (by omega)
    have hr := segs_rise was now gap i
    have hone : ∀ s e, s ≤ e → e ≤ m → cnt (sub was s e) (sub now s e) 0 (min (sub was s e).length (sub now s e).length) = cnt was now s (e - s) := by
      intro s e h3 h4
      rw [sub_len _ _ _ (by omega), sub_len _ _ _ (by omega), Nat.min_self, cnt_sub _ _ _ _ _ (Nat.le_refl _)]
    have hc := (segs_cov was now gap i).1
    by_cases h : was.getD i 0 = now.getD i 0
    · rw [segs_same h, ih]
      simp only [cnt]
      rw [Nat.zero_add, if_pos h, Nat.add_zero]
    · have h0 : cnt was now 0 (i + 1) = cnt was now 0 i + 1 := by simp only [cnt]; rw [Nat.zero_add, if_neg h]
      by_cases hg : (segs was now gap i).length ≠ 0 ∧ (i = endOf (segs was now gap i) ∨ (i : Int) - endOf (segs was now gap i) < gap)
      · rw [segs_more h hg.1 hg.2, h0, ← ih]
        generalize segs was now gap i = ss at *
        have hl : (ss.take (ss.length - 1)).length = ss.length - 1 := by rw [List.length_take]; omega
        have he := endOf_last hg.1
        have hon := hr.one (ss.length - 1) (by omega)
        have hla := hr.last
        obtain ⟨q, hq⟩ : ∃ q, ss.length = q + 1 := ⟨ss.length - 1, by omega⟩
        have hq1 : ss.length - 1 = q := by omega
        rw [hq1] at he hon hl ⊢
        rw [List.length_append, hl, hq]
        simp only [List.length_cons, List.length_nil, cnts]
        rw [getD_snoc_eq hl.symm]
        simp only
        rw [hone _ _ (by omega) (by omega), hone _ _ (by omega) (by omega)]
        have e1 : cnts (fun j => sub was ((ss.take q ++ [((ss.getD q (0, 0)).1, i + 1)]).getD j (0, 0)).1 ((ss.take q ++ [((ss.getD q (0, 0)).1, i + 1)]).getD j (0, 0)).2) (fun j => sub now ((ss.take q ++ [((ss.getD q (0, 0)).1, i + 1)]).getD j (0, 0)).1 ((ss.take q ++ [((ss.getD q (0, 0)).1, i + 1)]).getD j (0, 0)).2) q = cnts (fun j => sub was (ss.getD j (0, 0)).1 (ss.getD j (0, 0)).2) (fun j => sub now (ss.getD j (0, 0)).1 (ss.getD j (0, 0)).2) q := by
          refine cnts_congr q fun j hj => ?_
          rw [getD_snoc_lt (by omega), getD_take_lt hj]
          exact ⟨rfl, rfl⟩
        rw [e1]
        have e2 : i + 1 - (ss.getD q (0, 0)).1 = ((ss.getD q (0, 0)).2 - (ss.getD q (0, 0)).1) + ((i - (ss.getD q (0, 0)).2) + 1) := by omega
        rw [e2, cnt_add]
        have e3 : (ss.getD q (0, 0)).1 + ((ss.getD q (0, 0)).2 - (ss.getD q (0, 0)).1) = (ss.getD q (0, 0)).2 := by omega
        rw [e3]
        have e4 : cnt was now (ss.getD q (0, 0)).2 (i - (ss.getD q (0, 0)).2 + 1) = 1 := by
          simp only [cnt]
          rw [cnt_zero was now _ _ (fun k a b => hc k (by omega) (by omega)), show (ss.getD q (0, 0)).2 + (i - (ss.getD q (0, 0)).2) = i by omega, if_neg h]
        omega
      · rw [segs_new h hg, h0, ← ih]
        generalize segs was now gap i = ss at *
        rw [List.length_append]
        simp only [List.length_cons, List.length_nil, cnts]
        rw [getD_snoc_eq rfl]
        simp only
        rw [hone _ _ (by omega) (by omega)]
        have e1 : cnts (fun j => sub was ((ss ++ [(i, i + 1)]).getD j (0, 0)).1 ((ss ++ [(i, i + 1)]).getD j (0, 0)).2) (fun j => sub now ((ss ++ [(i, i + 1)]).getD j (0, 0)).1 ((ss ++ [(i, i + 1)]).getD j (0, 0)).2) ss.length = cnts (fun j => sub was (ss.getD j (0, 0)).1 (ss.getD j (0, 0)).2) (fun j => sub now (ss.getD j (0, 0)).1 (ss.getD j (0, 0)).2) ss.length := by
          refine cnts_congr _ fun j hj => ?_
          rw [getD_snoc_lt hj]
          exact ⟨rfl, rfl⟩
        rw [e1]
        have e4 : cnt was now i (i + 1 - i) = 1 := by
          rw [show i + 1 - i = 0 + 1 by omega]
          simp only [cnt]
          rw [if_neg (by simpa using h)]
        omega
end Go.Proofs.Ytedbabkmbpkjlaa
