/- The walk of WeaveCounts. -/
import Derived.Test.YthpljhkjajaogaaW6
namespace Go.Proofs.Ythpljhkjajaogaa
open Go.RowKit
set_option linter.unusedVariables false
set_option linter.unusedSimpArgs false

set_option maxRecDepth 100000 in
theorem wc_any (A : Option Addr) (len cap : Nat) (ks : List Int) (w : World) (hl : ks.length = len) (hlen : len ≤ cap) (hcap : cap ≤ maxLen)
    (hk : ∀ z ∈ ks, (Lit.int .i64 z).wf = true) (hrow : Row w A len 1 (fun i => [.int .i64 (ks.getD i 0)])) :
    Calls Try.prog 3 #[.slice A len cap] w fun e w' => e = .returned (.bool true) ∧ Below w.heap.size w w' := by
  have Hl := Lib.hid hl
  have Hk := Lib.hid hk
  have Hrow := Lib.hid hrow
  have hcap' := hcap
  unfold maxLen at hcap'
  have Hcap := Lib.hid hcap
  clear hl hk hrow hcap
  go_enter Try.func3, Try.ntmps3
  go_wp2_with fail
  refine (awake_any _).mono ?_
  rintro e w1 ⟨rfl, hb1⟩
  have Hb1 := Lib.hid hb1
  clear hb1
  by_cases h100 : 100 < len
  · go_wp2_with fail
    go_ret
    exact ⟨rfl, Hb1.out⟩
  · go_wp2_with fail
    refine (count_any A len cap ks _ Hl.out hlen Hcap.out Hk.out (Hrow.out.mono Hb1.out (Nat.le_refl _))).mono ?_
    rintro e w2 ⟨rfl, rfl⟩
    go_wp2_with fail
    refine (refcount_any A len cap ks _ Hl.out hlen Hcap.out Hk.out (Hrow.out.mono Hb1.out (Nat.le_refl _))).mono ?_
    rintro e w3 ⟨rfl, hb3⟩
    have Hb3 := Lib.hid (Hb1.out.trans (hb3.mono Hb1.out.size))
    clear hb3
    go_wp2_with fail
    go_ret
    exact ⟨rfl, Hb3.out⟩
end Go.Proofs.Ythpljhkjajaogaa
