/- The walk of the reference's search for the least number of words. -/
import Derived.Test.YtbndbbgkjljccaaW2
namespace Go.Proofs.Ytbndbbgkjljccaa
open Go.RowKit

theorem refEnough_any (s n t c d k m : Int) (w : World) (h1 : 1 ≤ s) (h2 : s ≤ 1048576) (h3 : 1 ≤ n) (h4 : n ≤ 1048576) :
    Calls Try.prog 18 #[.agg #[.int .i64 s, .int .i64 n, .int .i64 t, .int .i64 c, .int .i64 d, .int .i64 k], .int .i64 m] w fun e w' => e = .returned (.int .i64 (enough s n m)) ∧ Below w.heap.size w w' := by
  unfold enough
  by_cases hm : m < 1
  · rw [if_pos hm]
    go_enter Try.func18, Try.ntmps18
    go_wp2
    go_ret
    exact ⟨rfl, (Below.refl _ _).alloc (Nat.le_refl _) _⟩
  · rw [if_neg hm]
    generalize hx : (if 1048576 < m then 1048576 else m) = x
    have hx0 : 1 ≤ x := by split at hx <;> omega
    have hx1 : x ≤ 1048576 := by split at hx <;> omega
    obtain ⟨l1, l2⟩ := least_bd s n x h1 h2 h3 h4 hx0 hx1
    go_enter Try.func18, Try.ntmps18
    go_wp2
    go_loopw [5, 6] (fun v5 v6 wr => ∃ lo hi : Int, v5 = .int .i64 lo ∧ v6 = .int .i64 hi ∧ 0 ≤ lo ∧ lo ≤ least s n x ∧ least s n x ≤ hi ∧ hi ≤ 2199023255552 ∧
        ∃ q, wr = (w.alloc (Obj.cells #[Value.int IntKind.i64 s, Value.int IntKind.i64 n, Value.int IntKind.i64 t, Value.int IntKind.i64 c, Value.int IntKind.i64 d, Value.int IntKind.i64 k] 30)).drewN q)
      (fun v5 v6 _ => (intOf v6 - intOf v5).toNat)
    case atStart => exact ⟨0, 2199023255552, rfl, rfl, by omega, by omega, by omega, by omega, 0, rfl⟩
    case round =>
      obtain ⟨lo, hi, rfl, rfl, a1, a2, a3, a4, q, rfl⟩ := hrel
      by_cases hlt : lo < hi
      · obtain ⟨m1, m2⟩ := div_bd (a := (lo + hi) / 2) (b := n) (by omega) h3
        obtain ⟨m3, m4⟩ := mod_bd (a := (lo + hi) / 2) h3
        obtain ⟨m5, m6⟩ := mul_bd m1 (Int.le_trans m2 (by omega : (lo + hi) / 2 ≤ 2199023255552)) (by omega : 0 ≤ s) h2
        obtain ⟨m7, m8⟩ := mul_bd m3 (by omega : (lo + hi) / 2 % n ≤ 1048576) (by omega : 0 ≤ s) h2
        obtain ⟨m9, m10⟩ := div_bd m7 h3
        have key := came_least s n x ((lo + hi) / 2) (by omega) (by omega)
        by_cases hx2 : least s n x ≤ (lo + hi) / 2
        · have hx3 := key.2 hx2
          unfold came at hx3
          clear key
          go_wp2
          go_quiet (fail)
          go_wp2
          go_roundw
          case rel => exact ⟨lo, _, rfl, rfl, a1, a2, hx2, by omega, _, by first | rfl | exact World.drewN_drewN _ _ _⟩
          case measure => simp [intOf]; omega
        · have hx3 : ¬ x ≤ came s n ((lo + hi) / 2) := fun h => hx2 (key.1 h)
          unfold came at hx3
          clear key
          go_wp2
          go_quiet (fail)
          go_wp2
          go_roundw
          case rel => exact ⟨_, hi, rfl, rfl, by omega, by omega, a3, a4, _, by first | rfl | exact World.drewN_drewN _ _ _⟩
          case measure => simp [intOf]; omega
      · go_wp2
        go_ret
        exact ⟨ret_int (by omega), below_drewN ((Below.refl _ _).alloc (Nat.le_refl _) _) _⟩
end Go.Proofs.Ytbndbbgkjljccaa
