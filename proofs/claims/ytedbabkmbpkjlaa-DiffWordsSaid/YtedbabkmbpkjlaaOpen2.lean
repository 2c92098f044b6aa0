/- Slices out of their cells; an array of two slices by value. -/
import Derived.Test.YtedbabkmbpkjlaaOpen
namespace Go.Proofs.Ytedbabkmbpkjlaa
open Go.RowKit Go.ChangeShapes Go.WideShapes Go.Joins Go.Deep
set_option linter.unusedVariables false

section
variable {H : Type} {enc : TypeId × Value → H} {P : Program} {w : World} {base : Nat} {spare : Nat → Bool} {held : Bool} {r : Reach} {b0 : Nat} {t e : TypeId} {v : Value} {d : DataW H} {p : List MemPlace}

/-- A slice of whatever elements, out of its cell. -/
theorem open_row_cells {sz fuel : Nat} {cs : List Value} (ht : P.underlying t = some (.slice e)) (hC : P.cellsOf e = sz) (hsz : 0 < sz) (hf : DataW.trod enc P w base spare held fuel t cs = some (d, p)) :
    ∃ A n cap V, cs = [.slice A n cap] ∧ n ≤ cap ∧ cap ≤ maxLen ∧ Row w A n sz V ∧ ∀ i, i < n → (V i).length = sz ∧ ∃ m y, DataW.trod enc P w base spare held m e (V i) = some y := by
  rcases Go.Deep.open_slice ht hf with ⟨hcs, _⟩ | ⟨a', len, cap, m, n, D, Pl, hcs, _, hl, hm, hmm, _, hi⟩
  · exact ⟨none, 0, 0, fun _ => [], hcs, Nat.le_refl _, Nat.zero_le _, fun hn => absurd hn (by omega), fun i hi => absurd hi (by omega)⟩
  · have hle : len ≤ m := by rw [hmm]; split <;> omega
    obtain ⟨V, hV⟩ := Go.Deep.choose_lt (α := List Value) (n := len) (p := fun i cs' => w.cells? base (a'.add (i * P.cellsOf e)) (P.cellsOf e) = some cs' ∧ DataW.trod enc P w base spare held n e cs' = some (D i, Pl i)) (fun i hi' => hi i (by omega))
    have hcell : ∀ i, i < len → (V i).length = sz ∧ ∀ j u, (V i)[j]? = some u → w.cell? (a'.add (i * sz + j)) = some u := by
      intro i hi'
      obtain ⟨h1, _⟩ := hV i hi'
      rw [hC] at h1
      obtain ⟨_, hlen, hat⟩ := World.cells?_some h1
      refine ⟨hlen, fun j u hu => ?_⟩
      have hj : j < sz := by have := (List.getElem?_eq_some_iff.1 hu).1; omega
      have := hat j hj
      rw [add_of_add, hu] at this
      exact this
    refine ⟨some a', len, cap, V, hcs, hl, hm, fun hn => ?_, fun i hi' => ⟨(hcell i hi').1, n, _, (hV i hi').2⟩⟩
    obtain ⟨hl0, hc0⟩ := hcell 0 hn
    have hx := hc0 0 _ (List.getElem?_eq_getElem (by omega))
    obtain ⟨b, off, spot⟩ := a'
    have hs : spot = none := by simpa [Addr.add] using World.cell?_spot hx
    subst hs
    refine ⟨b, off, rfl, ?_, fun i hi' j u hu => ?_⟩
    · have := cell_lt hx
      rwa [block_of_add] at this
    · have := (hcell i hi').2 j u hu
      rw [Addr.add_lit] at this
      rw [Nat.add_assoc]
      exact this

theorem open_ints_cells {k : IntKind} {fuel : Nat} {cs : List Value} (ht : P.underlying t = some (.slice e)) (he : P.underlying e = some (.int k)) (hc : P.cellsOf e = 1) (hf : DataW.trod enc P w base spare held fuel t cs = some (d, p)) :
    ∃ A n cap, ∃ zs : List Int, cs = [.slice A n cap] ∧ n ≤ cap ∧ cap ≤ maxLen ∧ zs.length = n ∧ Row w A n 1 (fun i => [.int k (zs.getD i 0)]) ∧ ∀ i, (Lit.int k (zs.getD i 0)).wf = true := by
  obtain ⟨A, n, cap, V, hcs, hn, hcap, hrow, hel⟩ := open_row_cells ht hc (by omega) hf
  have hx : ∀ i, i < n → ∃ z, V i = [.int k z] ∧ (Lit.int k z).wf = true := by
    intro i hi
    obtain ⟨hl, m, y, hy⟩ := hel i hi
    obtain ⟨z, e0, _, w0⟩ := DataW.trod_int he hy
    exact ⟨z, e0, w0⟩
  obtain ⟨zs, hzl, hz⟩ := list_of (0 : Int) hx
  refine ⟨A, n, cap, zs, hcs, hn, hcap, hzl, hrow.conv fun i hi => (hz i hi).1, fun i => ?_⟩
  by_cases hi : i < n
  · exact (hz i hi).2
  · rw [List.getD_eq_getElem?_getD, List.getElem?_eq_none (by omega), Option.getD_none]
    cases k <;> decide

/-- An array of two slices of integers by value. -/
theorem open_arr2_ints {k : IntKind} {e' : TypeId} (ht : P.underlying t = some (.array 2 e)) (he : P.underlying e = some (.slice e')) (he' : P.underlying e' = some (.int k)) (hc' : P.cellsOf e' = 1) (hc : P.cellsOf e = 1) (hC : P.cellsOf t = 2)
    (hv : Value.okWide P w r b0 t v) (h : DataW.Trod enc P w base spare held t v d p) :
    ∃ A n cap, ∃ zs : List Int, ∃ A' n' cap', ∃ zs' : List Int, v = .agg #[.slice A n cap, .slice A' n' cap'] ∧
      (n ≤ cap ∧ cap ≤ maxLen ∧ zs.length = n ∧ Row w A n 1 (fun i => [.int k (zs.getD i 0)])) ∧ (n' ≤ cap' ∧ cap' ≤ maxLen ∧ zs'.length = n' ∧ Row w A' n' 1 (fun i => [.int k (zs'.getD i 0)])) := by
  have hs : ∃ cs, v = .agg cs ∧ cs.size = P.cellsOf t := by
    simp only [Value.okWide, ht] at hv
    obtain ⟨cs, h1, h2, _⟩ := hv
    exact ⟨cs, h1, h2⟩
  obtain ⟨cs, rfl, hsz⟩ := hs
  obtain ⟨c0, c1, rfl⟩ := array2 (hsz.trans hC)
  obtain ⟨fuel, hf⟩ := h
  obtain ⟨xs, m, _, _, _, hl, hg⟩ := DataW.trod_array ht hf
  have h0 := hg 0 (by omega)
  have h1 := hg 1 (by omega)
  rw [hc, List.getElem?_eq_getElem (by omega)] at h0 h1
  simp [Value.cells] at h0 h1
  obtain ⟨A, n, cap, zs, e0, p1, p2, p3, p4, _⟩ := open_ints_cells he he' hc' h0
  obtain ⟨A', n', cap', zs', e1, r1, r2, r3, r4, _⟩ := open_ints_cells he he' hc' h1
  simp at e0 e1
  subst e0 e1
  exact ⟨A, n, cap, zs, A', n', cap', zs', rfl, ⟨p1, p2, p3, p4⟩, ⟨r1, r2, r3, r4⟩⟩
end

end Go.Proofs.Ytedbabkmbpkjlaa
