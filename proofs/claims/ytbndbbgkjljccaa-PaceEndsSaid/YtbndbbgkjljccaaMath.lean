/- Plain arithmetic of pacers: no program in sight. -/
import Derived.RowKit
namespace Go.Proofs.Ytbndbbgkjljccaa

/-- How many steps came due for x words. -/
def came (S W x : Int) : Int := x / W * S + x % W * S / W

theorem came_eq (S W x : Int) (hW : 0 < W) : came S W x = x * S / W := by
  unfold came
  have h : x * S = x % W * S + x / W * S * W := by
    have e := Int.emod_add_mul_ediv x W
    calc x * S = (x % W + W * (x / W)) * S := by rw [e]
      _ = x % W * S + x / W * S * W := by
        rw [Int.add_mul]; congr 1
        rw [Int.mul_comm W, Int.mul_assoc, Int.mul_assoc, Int.mul_comm W S]
  rw [h, Int.add_mul_ediv_right _ _ (by omega : W ≠ 0), Int.add_comm]

theorem le_div (x S W n : Int) (hW : 0 < W) : n ≤ came S W x ↔ n * W ≤ x * S := by
  rw [came_eq S W x hW]
  exact Int.le_ediv_iff_mul_le hW

/-- The least number of words. -/
def least (S W n : Int) : Int := (n * W + S - 1) / S

theorem least_le (S W n x : Int) (hS : 0 < S) : least S W n ≤ x ↔ n * W ≤ x * S := by
  unfold least
  have h : (n * W + S - 1) / S ≤ x ↔ (n * W + S - 1) / S < x + 1 := by omega
  rw [h, Int.ediv_lt_iff_lt_mul hS, Int.add_mul]
  omega

theorem came_least (S W n x : Int) (hS : 0 < S) (hW : 0 < W) : n ≤ came S W x ↔ least S W n ≤ x := by
  rw [le_div x S W n hW, least_le S W n x hS]

theorem mul_bd {a b A B : Int} (ha : 0 ≤ a) (hA : a ≤ A) (hb : 0 ≤ b) (hB : b ≤ B) : 0 ≤ a * b ∧ a * b ≤ A * B :=
  ⟨Int.mul_nonneg ha hb, Int.mul_le_mul hA hB hb (by omega)⟩

theorem div_bd {a b : Int} (ha : 0 ≤ a) (hb : 1 ≤ b) : 0 ≤ a / b ∧ a / b ≤ a :=
  ⟨Int.ediv_nonneg ha (by omega), Int.ediv_le_self _ ha⟩

theorem mod_bd {a b : Int} (hb : 1 ≤ b) : 0 ≤ a % b ∧ a % b < b :=
  ⟨Int.emod_nonneg _ (by omega), Int.emod_lt_of_pos _ (by omega)⟩

theorem least_bd (S W n : Int) (h1 : 1 ≤ S) (h2 : S ≤ 1048576) (h3 : 1 ≤ W) (h4 : W ≤ 1048576) (h5 : 1 ≤ n) (h6 : n ≤ 1048576) :
    1 ≤ least S W n ∧ least S W n ≤ 1099512676352 := by
  have hb := mul_bd (A := 1048576) (B := 1048576) (by omega : 0 ≤ n) h6 (by omega : 0 ≤ W) h4
  have hp : 1 ≤ n * W := by
    have := Int.mul_le_mul h5 h3 (by omega) (by omega : 0 ≤ n)
    omega
  constructor
  · unfold least
    exact (Int.le_ediv_iff_mul_le (by omega)).2 (by omega)
  · unfold least
    exact Int.le_trans (Int.ediv_le_self _ (by omega)) (by omega)

/-- One step of the two: what is left over, and what came. -/
theorem step (S W t c r m : Int) (hW : 0 < W) (hr : r = t * S % W) (hc : c = came S W t) :
    came S W (t + m) - c = (r + m * S) / W ∧ (r + m * S) % W = (t + m) * S % W := by
  have e : (t + m) * S = r + m * S + t * S / W * W := by
    have := Int.emod_add_mul_ediv (t * S) W
    rw [Int.add_mul, hr, Int.mul_comm (t * S / W) W]
    omega
  constructor
  · rw [came_eq _ _ _ hW, hc, came_eq _ _ _ hW, e, Int.add_mul_ediv_right _ _ (by omega : W ≠ 0)]
    omega
  · rw [e, Int.add_mul_emod_self_right]
end Go.Proofs.Ytbndbbgkjljccaa
