/- Plain arithmetic: how many ways to choose, and how many orders of strands there are. -/
import Derived.RowKit
namespace Go.Proofs.Ythpljhkjajaogaa

/-- How many ways to choose k of n. -/
def ch : Nat → Nat → Nat
  | _, 0 => 1
  | 0, _ + 1 => 0
  | n + 1, k + 1 => ch n k + ch n (k + 1)

theorem ch_zero (n : Nat) : ch n 0 = 1 := by cases n <;> rfl
theorem ch_succ (n k : Nat) : ch (n + 1) (k + 1) = ch n k + ch n (k + 1) := rfl
theorem ch_lt (n k : Nat) (h : n < k) : ch n k = 0 := by
  induction n generalizing k with
  | zero => cases k with
    | zero => omega
    | succ k => rfl
  | succ n ih => cases k with
    | zero => omega
    | succ k => rw [ch_succ, ih k (by omega), ih (k + 1) (by omega)]
theorem ch_self (n : Nat) : ch n n = 1 := by
  induction n with
  | zero => rfl
  | succ n ih => rw [ch_succ, ih, ch_lt n (n + 1) (by omega)]
theorem ch_pos (n k : Nat) (h : k ≤ n) : 1 ≤ ch n k := by
  induction n generalizing k with
  | zero => obtain rfl : k = 0 := by omega
            exact Nat.le_refl _
  | succ n ih => cases k with
    | zero => rw [ch_zero]; exact Nat.le_refl _
    | succ k => rw [ch_succ]; have := ih k (by omega); omega

/-- (k + 1) C(n + 1, k + 1) = (n + 1) C(n, k). -/
theorem ch_mul (n k : Nat) : (k + 1) * ch (n + 1) (k + 1) = (n + 1) * ch n k := by
  induction n generalizing k with
  | zero =>
    cases k with
    | zero => rfl
    | succ k => rw [ch_succ, ch_lt 0 (k + 1) (by omega), ch_lt 0 (k + 1 + 1) (by omega)]; simp
  | succ n ih =>
    cases k with
    | zero =>
      have := ih 0
      rw [ch_zero] at this ⊢
      rw [ch_succ, ch_zero]
      omega
    | succ k =>
      have h1 := ih k
      have h2 := ih (k + 1)
      have e : ch (n + 1 + 1) (k + 1 + 1) = ch (n + 1) (k + 1) + ch (n + 1) (k + 1 + 1) := rfl
      rw [e, Nat.mul_add, h2]
      have e2 : (k + 1 + 1) * ch (n + 1) (k + 1) = (n + 1) * ch n k + ch (n + 1) (k + 1) := by
        rw [Nat.add_mul (k + 1) 1, h1, Nat.one_mul]
      rw [e2]
      have e3 : ch (n + 1) (k + 1) = ch n k + ch n (k + 1) := rfl
      rw [Nat.add_mul (n + 1) 1, Nat.one_mul]
      generalize ch (n + 1) (k + 1) = z at *
      subst e3
      rw [Nat.mul_add]
      omega

/-- One step of the program's product: exact. -/
theorem step_div (P b i : Nat) : P * ch (b + i) i * (b + i + 1) / (i + 1) = P * ch (b + (i + 1)) (i + 1) := by
  have h := ch_mul (b + i) i
  have e : P * ch (b + i) i * (b + i + 1) = P * ch (b + (i + 1)) (i + 1) * (i + 1) := by
    rw [Nat.mul_assoc, Nat.mul_comm (ch (b + i) i), ← h, Nat.mul_assoc, Nat.mul_comm (i + 1)]
    rfl
  rw [e, Nat.mul_div_cancel _ (by omega)]

theorem ch_mono (b i : Nat) : ch (b + i) i ≤ ch (b + (i + 1)) (i + 1) := by
  have : ch (b + (i + 1)) (i + 1) = ch (b + i) i + ch (b + i) (i + 1) := rfl
  omega

/-- A length as it counts. -/
def nn (x : Int) : Nat := x.toNat

/-- How many orders there are of strands of lengths l, behind b things. -/
def mult : Nat → List Int → Nat
  | _, [] => 1
  | b, k :: l => ch (b + nn k) (nn k) * mult (b + nn k) l
def total (l : List Int) : Nat := (l.map nn).sum
theorem total_cons (k : Int) (l : List Int) : total (k :: l) = nn k + total l := by simp [total]
theorem total_snoc (l : List Int) (k : Int) : total (l ++ [k]) = total l + nn k := by simp [total]
theorem mult_append (b : Nat) (l m : List Int) : mult b (l ++ m) = mult b l * mult (b + total l) m := by
  induction l generalizing b with
  | nil => simp [mult, total]
  | cons k l ih =>
    rw [List.cons_append, mult, mult, ih, total_cons, Nat.mul_assoc, Nat.add_assoc]
theorem mult_snoc (l : List Int) (k : Int) : mult 0 (l ++ [k]) = mult 0 l * ch (total l + nn k) (nn k) := by
  rw [mult_append]
  simp [mult]
theorem mult_pos (b : Nat) (l : List Int) : 1 ≤ mult b l := by
  induction l generalizing b with
  | nil => exact Nat.le_refl _
  | cons k l ih =>
    rw [mult]
    exact Nat.mul_le_mul (ch_pos _ _ (by omega)) (ih _)

/-- The greatest number that is counted. -/
def top : Nat := 1099511627776
/-- n stands for X: it is X, or both are too many. -/
def Stands (n X : Nat) : Prop := n = X ∨ (top < n ∧ top < X)
theorem Stands.min {n X : Nat} (h : Stands n X) : min n top = min X top := by
  rcases h with rfl | ⟨h1, h2⟩
  · rfl
  · rw [Nat.min_def, Nat.min_def, if_neg (by omega), if_neg (by omega)]

theorem Stands.step {n P b i : Nat} (h : Stands n (P * ch (b + i) i)) (hn : n ≤ top) : Stands (n * (b + i + 1) / (i + 1)) (P * ch (b + (i + 1)) (i + 1)) := by
  rcases h with rfl | ⟨h1, _⟩
  · exact .inl (step_div P b i)
  · omega
theorem Stands.stay {n P b i : Nat} (h : Stands n (P * ch (b + i) i)) (hn : top < n) : Stands n (P * ch (b + (i + 1)) (i + 1)) := by
  right
  refine ⟨hn, ?_⟩
  have h1 : P * ch (b + i) i ≤ P * ch (b + (i + 1)) (i + 1) := Nat.mul_le_mul_left _ (ch_mono b i)
  rcases h with rfl | ⟨_, h2⟩ <;> omega

/-- Two numbers' product, at most top: by the reference's test. -/
theorem times_min (a b X Y : Nat) (hb : 1 ≤ Y) (hX : 1 ≤ X) (ha : a = min X top) (hb2 : b = min Y top) :
    (if top / b < a then top else a * b) = min (X * Y) top := by
  have hb0 : 1 ≤ b := by rw [hb2, Nat.min_def]; split <;> (unfold top at *; omega)
  have hdiv : top / b < a ↔ top < a * b := Nat.div_lt_iff_lt_mul (by omega)
  have ha1 : 1 ≤ a := by rw [ha, Nat.min_def]; split <;> (unfold top at *; omega)
  have key : min (a * b) top = min (X * Y) top := by
    by_cases h1 : X ≤ top
    · by_cases h2 : Y ≤ top
      · rw [ha, hb2, Nat.min_eq_left h1, Nat.min_eq_left h2]
      · have e1 : b = top := by rw [hb2, Nat.min_def, if_neg h2]
        have h3 : top ≤ a * b := by rw [e1]; exact Nat.le_mul_of_pos_left _ ha1
        have h4 : top ≤ X * Y := Nat.le_trans (by omega : top ≤ Y) (Nat.le_mul_of_pos_left _ hX)
        rw [Nat.min_def, Nat.min_def]
        split <;> split <;> omega
    · have e1 : a = top := by rw [ha, Nat.min_def, if_neg h1]
      have h3 : top ≤ a * b := by rw [e1]; exact Nat.le_mul_of_pos_right _ hb0
      have h4 : top ≤ X * Y := Nat.le_trans (by omega : top ≤ X) (Nat.le_mul_of_pos_right _ hb)
      rw [Nat.min_def, Nat.min_def]
      split <;> split <;> omega
  rw [← key]
  by_cases h : top / b < a
  · rw [if_pos h, Nat.min_def, if_neg (by have := hdiv.1 h; omega)]
  · rw [if_neg h, Nat.min_def, if_pos (by have := mt hdiv.2 h; omega)]

/-- An entry of a row. -/
def cell (n k : Nat) : Nat := min (ch n k) top
theorem cell_step (n k : Nat) : cell (n + 1) (k + 1) = min (cell n (k + 1) + cell n k) top := by
  unfold cell
  rw [ch_succ]
  simp only [Nat.min_def]
  repeat' split
  all_goals omega
theorem cell_zero (n : Nat) : cell n 0 = 1 := by unfold cell; rw [ch_zero]; rfl
theorem cell_none (n k : Nat) (h : n < k) : cell n k = 0 := by unfold cell; rw [ch_lt n k h]; rfl
theorem cell_le (n k : Nat) : cell n k ≤ top := Nat.min_le_right _ _
end Go.Proofs.Ythpljhkjajaogaa
