/- WearPlays' law at whatever input. -/
import Derived.Test.YtpflhgidcjlcjaaA4
namespace Go.Proofs.Ytpflhgidcjlcjaa
open Go.RowKit
theorem wp_any (x k : Int) (A : Option Addr) (m cap : Nat) (zs : List Int) (w : World) (hmc : m ≤ 9223372036854775807) (hz : ∀ i, i < m → -9223372036854775808 ≤ zs.getD i 0 ∧ zs.getD i 0 ≤ 9223372036854775807) (hrow : Row w A m 1 (fun i => [.int .i64 (zs.getD i 0)])) :
    Calls Try.prog 5 #[.int .i64 x, .int .i64 k, .slice A m cap] w fun e w' => e = .returned (.bool true) ∧ Below w.heap.size w w' := by
  by_cases h : 40 < x ∧ x ≤ 65536 ∧ 1 ≤ k ∧ k ≤ 65536 ∨ 300 < m
  · exact wp_skip x k A m cap w hmc h
  · by_cases h2 : x < 1 ∨ 65536 < x ∨ k < 1 ∨ 65536 < k
    · exact wp_out x k A m cap w (by omega) h2
    · obtain ⟨n, rfl⟩ : ∃ n : Nat, x = n := ⟨x.toNat, by omega⟩
      obtain ⟨j, rfl⟩ : ∃ j : Nat, k = j := ⟨k.toNat, by omega⟩
      exact wp_in n j A m cap zs w (by omega) (by omega) (by omega) (by omega) (by omega) hz hrow
end Go.Proofs.Ytpflhgidcjlcjaa
