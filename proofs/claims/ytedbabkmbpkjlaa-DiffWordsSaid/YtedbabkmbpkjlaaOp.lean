/- The arguments of DiffApplies opened. -/
import Derived.Test.YtedbabkmbpkjlaaA1
import Derived.Test.YtedbabkmbpkjlaaOpen2
import Derived.Deep.Strs
namespace Go.Proofs.Ytedbabkmbpkjlaa
open Go.RowKit Go.ChangeShapes Go.WideShapes Go.Joins
set_option linter.unusedVariables false
section
variable {H : Type} {enc : TypeId × Value → H} {w : World} {base : Nat} {spare : Nat → Bool} {held : Bool} {r : Reach} {b0 : Nat} {t e : TypeId} {v : Value} {d : DataW H} {p : List MemPlace}

theorem Row.urd {w : World} {A : Option Addr} {n : Nat} {zs : List Int} (hl : zs.length = n) (h : Row w A n 1 (fun i => [.int .u64 (zs.getD i 0)])) : Rd w 1 A n (ucells zs) := by
  refine ⟨by rw [ucells_len]; omega, fun hn => ?_⟩
  obtain ⟨b, off, rfl, hb, hc⟩ := h hn
  refine ⟨b, off, rfl, hb, fun j u hu => ?_⟩
  have hj : j < zs.length := by
    have := (List.getElem?_eq_some_iff.1 hu).1
    rwa [ucells_len] at this
  rw [ucells_at _ _ hj] at hu
  have := hc j (by omega) 0 u (by simpa using hu)
  simpa using this
theorem three_of {l : List Value} (h : l.length = 3) : ∃ a b c, l = [a, b, c] := by
  match l, h with
  | [a, b, c], _ => exact ⟨a, b, c, rfl⟩

theorem open_changes (hv : Value.okWide Try.prog w r b0 23 v) (h : DataW.Trod enc Try.prog w base spare held 23 v d p) :
    ∃ A n cap pos hd was now, v = .slice A n cap ∧ n ≤ cap ∧ cap ≤ maxLen ∧ ChRow w A n pos hd ∧ ChVals w n hd was now := by
  obtain ⟨A, n, cap, V, rfl, hn, hcap, hrow, hel⟩ := open_row (sz := 3) Try.underlying23 (by kernel_rfl) (by omega) hv h
  have k3 : Try.prog.cellsOf 3 = 1 := by kernel_rfl
  have k22 : Try.prog.cellsOf 22 = 1 := by kernel_rfl
  have k46 : Try.prog.cellsOf 46 = 1 := by kernel_rfl
  have hx : ∀ i, i < n → ∃ z : Int × Hd × List Int × List Int, V i = [.int .i64 z.1, .slice z.2.1.A z.2.1.n z.2.1.c, .slice z.2.1.A2 z.2.1.m z.2.1.c2] ∧ Rd w 1 z.2.1.A z.2.1.n (ucells z.2.2.1) ∧ Rd w 1 z.2.1.A2 z.2.1.m (ucells z.2.2.2) := by
    intro i hi
    obtain ⟨hl, m, y, hy⟩ := hel i hi
    obtain ⟨c0, c1, c2, hV⟩ := three_of hl
    rw [hV] at hy
    obtain ⟨y0, y1, y2, m', _, _, g0, g1, g2⟩ := Go.Deep.trod_struct3 Try.underlying27 hy
    simp [k3, k22] at g0 g1 g2
    obtain ⟨x0, e0, _, w0⟩ := DataW.trod_int Try.underlying3 g0
    obtain ⟨B1, n1, q1, z1, e1, _, _, l1, r1, _⟩ := open_ints_cells Try.underlying22 Try.underlying46 k46 g1
    obtain ⟨B2, n2, q2, z2, e2, _, _, l2, r2, _⟩ := open_ints_cells Try.underlying22 Try.underlying46 k46 g2
    simp at e0 e1 e2
    subst e0 e1 e2
    exact ⟨(x0, ⟨B1, n1, q1, B2, n2, q2⟩, z1, z2), hV, r1.urd l1, r2.urd l2⟩
  obtain ⟨zs, hzl, hz⟩ := list_of ((0, ⟨none, 0, 0, none, 0, 0⟩, [], []) : Int × Hd × List Int × List Int) hx
  let z := fun i => zs.getD i ((0, ⟨none, 0, 0, none, 0, 0⟩, [], []) : Int × Hd × List Int × List Int)
  refine ⟨A, n, cap, fun i => (z i).1, fun i => (z i).2.1, fun i => (z i).2.2.1, fun i => (z i).2.2.2, rfl, hn, hcap, fun h0 => ?_, fun j hj => ⟨(hz j hj).2.1, (hz j hj).2.2⟩⟩
  obtain ⟨b, off, rfl, hb, hc⟩ := hrow h0
  refine ⟨b, off, rfl, hb, fun j hj => ?_⟩
  have e := (hz j hj).1
  refine ⟨?_, ?_, ?_⟩
  · have := hc j hj 0 (.int .i64 (z j).1) (by rw [e]; rfl)
    simpa using this
  · exact hc j hj 1 (.slice (z j).2.1.A (z j).2.1.n (z j).2.1.c) (by rw [e]; rfl)
  · exact hc j hj 2 (.slice (z j).2.1.A2 (z j).2.1.m (z j).2.1.c2) (by rw [e]; rfl)
end
end Go.Proofs.Ytedbabkmbpkjlaa
