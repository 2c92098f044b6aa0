/- walks of pace -/
import Derived.Test.YtbndbbgkjljccaaProg
import Derived.WalkKit
import Derived.BigQuiet
import Derived.Deep.QuietTactic
import Derived.Handy
namespace Go.Proofs.Ytbndbbgkjljccaa
open Go.RowKit

theorem new_ok (s n : Int) (w : World) (h1 : 1 ≤ s) (h2 : s ≤ 1048576) (h3 : 1 ≤ n) (h4 : n ≤ 1048576) :
    Calls Try.prog 7 #[.int .i64 s, .int .i64 n] w fun e w' => e = .returned (.tuple #[.pointer (some ⟨w.heap.size, 0, none⟩), .int .i64 0]) ∧
      w.alloc (.cells #[.int .i64 s, .int .i64 n, .int .i64 0, .int .i64 0, .int .i64 0, .int .i64 0] 46) = w' := by
  go_enter Try.func7, Try.ntmps7
  go_wp2
  go_ret2
  exact ⟨rfl, rfl⟩

theorem new_no (s n : Int) (w : World) (h : s < 1 ∨ 1048576 < s ∨ n < 1 ∨ 1048576 < n) :
    Calls Try.prog 7 #[.int .i64 s, .int .i64 n] w fun e w' => e = .returned (.tuple #[.pointer none, .int .i64 26]) ∧ w = w' := by
  by_cases h1 : s < 1
  · go_enter Try.func7, Try.ntmps7
    go_wp2
    go_ret2
    exact ⟨rfl, rfl⟩
  · by_cases h2 : 1048576 < s
    · go_enter Try.func7, Try.ntmps7
      go_wp2
      go_ret2
      exact ⟨rfl, rfl⟩
    · by_cases h3 : n < 1
      · go_enter Try.func7, Try.ntmps7
        go_wp2
        go_ret2
        exact ⟨rfl, rfl⟩
      · have h4 : 1048576 < n := by omega
        go_enter Try.func7, Try.ntmps7
        go_wp2
        go_ret2
        exact ⟨rfl, rfl⟩
end Go.Proofs.Ytbndbbgkjljccaa
