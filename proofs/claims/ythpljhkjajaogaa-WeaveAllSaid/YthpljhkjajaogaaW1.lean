/- The walks of the reference's times and choose. -/
import Derived.Test.YthpljhkjajaogaaProg
import Derived.Test.YthpljhkjajaogaaMod
import Derived.Test.YthpljhkjajaogaaMath
import Derived.WalkKit
import Derived.BigQuiet
import Derived.Deep.QuietTactic
import Derived.Handy
import Derived.WalkLawsBesides
import Derived.WalkSpells
namespace Go.Proofs.Ythpljhkjajaogaa
open Go.RowKit
set_option linter.unusedVariables false
set_option linter.unusedSimpArgs false

theorem times_any (a b c : Nat) (w : World) (ha : a ≤ 1099511627776) (hb : 1 ≤ b) (hb2 : b ≤ 1099511627776) (hc : (if 1099511627776 / b < a then 1099511627776 else a * b) = c) :
    Calls Try.prog 19 #[.int .i64 a, .int .i64 b] w fun e w' => e = .returned (.int .i64 c) ∧ w = w' := by
  have hd : ((1099511627776 / b : Nat) : Int) = 1099511627776 / (b : Int) := Int.natCast_ediv ..
  have hd0 : 0 ≤ (1099511627776 : Int) / (b : Int) := Int.ediv_nonneg (by omega) (by omega)
  have hd1 : (1099511627776 : Int) / (b : Int) ≤ 1099511627776 := Int.ediv_le_self _ (by omega)
  by_cases h : 1099511627776 / b < a
  · rw [if_pos h] at hc
    have ht : (1099511627776 : Int) / (b : Int) < (a : Int) := by omega
    subst hc
    clear hd h
    go_enter Try.func19, Try.ntmps19
    go_wp2
    go_ret
    exact ⟨rfl, rfl⟩
  · rw [if_neg h] at hc
    have ht : ¬ (1099511627776 : Int) / (b : Int) < (a : Int) := by omega
    have hm : a * b ≤ 1099511627776 := by
      have := (Nat.le_div_iff_mul_le (by omega : 0 < b)).1 (by omega : a ≤ 1099511627776 / b)
      exact this
    have hm0 : (0 : Int) ≤ (a : Int) * (b : Int) := Int.mul_nonneg (by omega) (by omega)
    have hm1 : (a : Int) * (b : Int) ≤ 1099511627776 := by rw [← Int.natCast_mul]; omega
    have Hc : Hid ((c : Int) = (a : Int) * (b : Int)) := by show (c : Int) = _; rw [← hc, Int.natCast_mul]
    clear hd h hc hm
    go_enter Try.func19, Try.ntmps19
    go_wp2
    go_ret
    exact ⟨ret_int Hc.out.symm, rfl⟩
end Go.Proofs.Ythpljhkjajaogaa
