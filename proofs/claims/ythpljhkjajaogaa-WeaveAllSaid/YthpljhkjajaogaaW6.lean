/- The walk of awake. -/
import Derived.Test.YthpljhkjajaogaaW4
import Derived.Test.YthpljhkjajaogaaW5
namespace Go.Proofs.Ythpljhkjajaogaa
open Go.RowKit
set_option linter.unusedVariables false
set_option linter.unusedSimpArgs false

theorem ends_awake : Ends [2, 1] [1] 3 := by
  refine ⟨by decide, fun j hj => ?_⟩
  match j, hj with
  | 0, _ => decide
  | 1, _ => decide
  | 2, _ => decide
theorem st_awake : tcells (st [2, 1] [1] 3).1 = [.int .i64 1, .int .i64 0, .int .i64 0, .int .i64 0, .int .i64 0, .int .i64 1] := by
  have : (st [2, 1] [1] 3).1 = [(1, 0), (0, 0), (0, 1)] := by decide
  rw [this]
  rfl

theorem awake_any (w : World) : Calls Try.prog 6 #[] w fun e w' => e = .returned (.bool true) ∧ Below w.heap.size w w' := by
  have hrow : Row ((w.alloc (.cells #[.int .i64 2, .int .i64 1] 3)).alloc (.cells #[.int .u8 1] 5)) (some ⟨w.heap.size, 0, none⟩) 2 1 (fun i => [.int .i64 (([2, 1] : List Int).getD i 0)]) := by
    intro _
    refine ⟨_, 0, rfl, by simp; omega, fun i hi j u hu => ?_⟩
    have hB := (Blk.new w 3 #[.int .i64 2, .int .i64 1]).alloc (.cells #[.int .u8 1] 5)
    rw [hB.cell]
    match i, hi, j, hu with
    | 0, _, 0, hu => simpa using hu
    | 1, _, 0, hu => simpa using hu
  have hrow2 : Row ((w.alloc (.cells #[.int .i64 2, .int .i64 1] 3)).alloc (.cells #[.int .u8 1] 5)) (some ⟨w.heap.size + 1, 0, none⟩) 1 1 (fun i => [.int .u8 (([1] : List Int).getD i 0)]) := by
    intro _
    refine ⟨_, 0, rfl, by simp, fun i hi j u hu => ?_⟩
    have hB := Blk.new (w.alloc (.cells #[.int .i64 2, .int .i64 1] 3)) 5 #[.int .u8 1]
    have e : (w.alloc (.cells #[.int .i64 2, .int .i64 1] 3)).heap.size = w.heap.size + 1 := by simp
    rw [e] at hB
    rw [hB.cell]
    match i, hi, j, hu with
    | 0, _, 0, hu => simpa using hu
  have Hr := Lib.hid hrow
  have Hr2 := Lib.hid hrow2
  clear hrow hrow2
  go_enter Try.func6, Try.ntmps6
  go_wp2_with fail
  refine (order_any _ 2 2 [2, 1] _ 1 1 [1] _ rfl (by omega) (by decide) Hr.out Hr2.out rfl (by omega) (fun i hi => by obtain rfl : i = 0 := (by omega); decide)).mono ?_
  rintro e w2 ⟨k, A', cap', rfl, hE, hO, hb⟩
  obtain rfl := hE.eq ends_awake
  rw [st_awake] at hO
  obtain ⟨g, rfl, _, _, _, _, hc, _⟩ := hO.at_ (by omega)
  have c0 := hc 0 _ rfl
  have c1 := hc 1 _ rfl
  have c4 := hc 4 _ rfl
  have c5 := hc 5 _ rfl
  have Hb : Hid (Below w.heap.size w w2) := (((Below.refl _ w).alloc (Nat.le_refl _) _).alloc (by simp) _).trans (hb.mono (by simp; omega))
  clear hc hO hb hE Hr Hr2
  go_wp2_with fail
  go_ret
  exact ⟨rfl, Hb.out⟩
end Go.Proofs.Ythpljhkjajaogaa
