/- WearPlays at inputs that it leaves, and at those that New refuses. -/
import Derived.Test.YtpflhgidcjlcjaaW3
namespace Go.Proofs.Ytpflhgidcjlcjaa
open Go.RowKit
set_option linter.unusedVariables false
set_option linter.unusedSimpArgs false

set_option maxHeartbeats 2000000 in
set_option maxRecDepth 100000 in
theorem wp_skip (x k : Int) (A : Option Addr) (m cap : Nat) (w : World) (hm : m ≤ 9223372036854775807) (h : 40 < x ∧ x ≤ 65536 ∧ 1 ≤ k ∧ k ≤ 65536 ∨ 300 < m) :
    Calls Try.prog 5 #[.int .i64 x, .int .i64 k, .slice A m cap] w fun e w' => e = .returned (.bool true) ∧ Below w.heap.size w w' := by
  have h2 : (40 < x ∧ x ≤ 65536 ∧ 1 ≤ k ∧ k ≤ 65536) ∨ (x ≤ 40 ∧ 300 < m) ∨ (40 < x ∧ 65536 < x ∧ 300 < m) ∨ (40 < x ∧ x ≤ 65536 ∧ k < 1 ∧ 300 < m) ∨ (40 < x ∧ x ≤ 65536 ∧ 1 ≤ k ∧ 65536 < k ∧ 300 < m) := by omega
  clear h
  rcases h2 with ⟨h1, h2, h3, h4⟩ | ⟨h1, h2⟩ | ⟨h1, h2, h3⟩ | ⟨h1, h2, h3, h4⟩ | ⟨h1, h2, h3, h4, h5⟩
  all_goals
    go_enter Try.func5, Try.ntmps5
    go_wp2_with fail
    refine (awake_any _).mono ?_
    rintro e w1 ⟨rfl, hb1⟩
    have Hb1 := Lib.hid hb1
    clear hb1
    go_wp2_with fail
    go_ret
    exact ⟨rfl, Hb1.out⟩

set_option maxHeartbeats 2000000 in
set_option maxRecDepth 100000 in
theorem wp_out (x k : Int) (A : Option Addr) (m cap : Nat) (w : World) (hm : m ≤ 300) (h : x < 1 ∨ 65536 < x ∨ k < 1 ∨ 65536 < k) :
    Calls Try.prog 5 #[.int .i64 x, .int .i64 k, .slice A m cap] w fun e w' => e = .returned (.bool true) ∧ Below w.heap.size w w' := by
  have HN : Hid (∀ w, Calls Try.prog 7 #[.int .i64 x, .int .i64 k] w fun e w' => e = .returned (.tuple #[.pointer none, .int .i64 26]) ∧ w = w') := fun w => new_no x k w h
  have h2 : (x < 1 ∧ x ≤ 40) ∨ (1 ≤ x ∧ 40 < x ∧ 65536 < x) ∨ (1 ≤ x ∧ x ≤ 40 ∧ x ≤ 65536 ∧ k < 1) ∨ (1 ≤ x ∧ 40 < x ∧ x ≤ 65536 ∧ k < 1) ∨ (1 ≤ x ∧ x ≤ 40 ∧ x ≤ 65536 ∧ 1 ≤ k ∧ 65536 < k) ∨ (1 ≤ x ∧ 40 < x ∧ x ≤ 65536 ∧ 1 ≤ k ∧ 65536 < k) := by omega
  clear h
  rcases h2 with ⟨h1, h2⟩ | ⟨h1, h2, h3⟩ | ⟨h1, h2, h3, h4⟩ | ⟨h1, h2, h3, h4⟩ | ⟨h1, h2, h3, h4, h5⟩ | ⟨h1, h2, h3, h4, h5⟩
  all_goals
    go_enter Try.func5, Try.ntmps5
    go_wp2_with fail
    refine (awake_any _).mono ?_
    rintro e w1 ⟨rfl, hb1⟩
    have Hb1 := Lib.hid hb1
    clear hb1
    go_wp2_with fail
    refine (HN.out _).mono ?_
    rintro e w2 ⟨rfl, rfl⟩
    go_wp2_with fail
    go_ret
    exact ⟨rfl, Hb1.out⟩
end Go.Proofs.Ytpflhgidcjlcjaa
