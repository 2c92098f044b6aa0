/- Arguments opened: arrays and structs by value, slices of integers, of strings, of structs; what the walk is told of each. -/
import Derived.Test.YtedbabkmbpkjlaaBase
import Derived.ProofKit
import Derived.OpenShut
import Derived.Deep.Slices
import Derived.Deep.Fields
import Derived.Lib.SmallJoins
namespace Go.Proofs.Ytedbabkmbpkjlaa
open Go.RowKit Go.ChangeShapes Go.WideShapes Go.Joins Go.Deep

/-- A slice's elements by their cells: 'V i' are the cells of element i, each element has 'sz'. -/
def Row (w : World) (A : Option Addr) (n sz : Nat) (V : Nat → List Value) : Prop :=
  0 < n → ∃ b off, A = some ⟨b, off, none⟩ ∧ b < w.heap.size ∧ ∀ i, i < n → ∀ j u, (V i)[j]? = some u → w.cell? ⟨b, off + i * sz + j, none⟩ = some u

theorem Row.mono {w w' : World} {A : Option Addr} {n sz B : Nat} {V : Nat → List Value} (h : Row w A n sz V) (hb : Below B w w') (hB : w.heap.size ≤ B) : Row w' A n sz V := fun hn => by
  obtain ⟨b, off, rfl, hlt, hc⟩ := h hn
  exact ⟨b, off, rfl, Nat.lt_of_lt_of_le hlt hb.size, fun i hi j u hu => (hb.cell (p := ⟨b, off + i * sz + j, none⟩) (Nat.lt_of_lt_of_le hlt hB)).trans (hc i hi j u hu)⟩
theorem Row.conv {w : World} {A : Option Addr} {n sz : Nat} {V V' : Nat → List Value} (h : Row w A n sz V) (e : ∀ i, i < n → V i = V' i) : Row w A n sz V' := fun hn => by
  obtain ⟨b, off, rfl, hlt, hc⟩ := h hn
  exact ⟨b, off, rfl, hlt, fun i hi j u hu => hc i hi j u (by rw [e i hi]; exact hu)⟩

theorem cell_lt {w : World} {p : Addr} {u : Value} (h : w.cell? p = some u) : p.block < w.heap.size := by
  rcases Nat.lt_or_ge p.block w.heap.size with hlt | hge
  · exact hlt
  · unfold World.cell? at h
    rw [Array.getElem?_eq_none hge] at h
    simp at h

theorem list_of {α : Type} (d : α) {n : Nat} {p : Nat → α → Prop} (h : ∀ i, i < n → ∃ x, p i x) : ∃ l : List α, l.length = n ∧ ∀ i, i < n → p i (l.getD i d) := by
  letI : Inhabited α := ⟨d⟩
  obtain ⟨f, hf⟩ := Go.Deep.choose_lt h
  refine ⟨(List.range n).map f, by simp, fun i hi => ?_⟩
  rw [List.getD_eq_getElem?_getD]
  simpa [hi] using hf i hi

section
variable {H : Type} {enc : TypeId × Value → H} {P : Program} {w : World} {base : Nat} {spare : Nat → Bool} {held : Bool} {r : Reach} {b0 : Nat} {t e : TypeId} {v : Value} {d : DataW H} {p : List MemPlace}

theorem open_int0 {k : IntKind} (ht : P.underlying t = some (.int k)) (hv : Value.okWide P w r b0 t v) (h : DataW.Trod enc P w base spare held t v d p) :
    ∃ n, v = .int k n ∧ (Lit.int k n).wf = true := by
  obtain ⟨n, rfl, _, _, hw⟩ := open_int ht hv h
  exact ⟨n, rfl, hw⟩

/-- An array of two integers by value. -/
theorem open_arr2 {k : IntKind} (ht : P.underlying t = some (.array 2 e)) (he : P.underlying e = some (.int k)) (hc : P.cellsOf e = 1) (hC : P.cellsOf t = 2)
    (hv : Value.okWide P w r b0 t v) (h : DataW.Trod enc P w base spare held t v d p) :
    ∃ x y, v = .agg #[.int k x, .int k y] ∧ (Lit.int k x).wf = true ∧ (Lit.int k y).wf = true := by
  have hs : ∃ cs, v = .agg cs ∧ cs.size = P.cellsOf t := by
    simp only [Value.okWide, ht] at hv
    obtain ⟨cs, h1, h2, _⟩ := hv
    exact ⟨cs, h1, h2⟩
  obtain ⟨cs, rfl, hsz⟩ := hs
  obtain ⟨c0, c1, rfl⟩ := array2 (hsz.trans hC)
  obtain ⟨fuel, hf⟩ := h
  obtain ⟨xs, m, _, _, _, hl, hg⟩ := DataW.trod_array ht hf
  have h0 := hg 0 (by omega)
  have h1 := hg 1 (by omega)
  rw [hc, List.getElem?_eq_getElem (by omega)] at h0 h1
  simp [Value.cells] at h0 h1
  obtain ⟨x, e0, _, w0⟩ := DataW.trod_int he h0
  obtain ⟨y, e1, _, w1⟩ := DataW.trod_int he h1
  simp at e0 e1
  subst e0 e1
  exact ⟨x, y, rfl, w0, w1⟩

/-- A slice of whatever elements of 'sz' cells: each element's cells, and that they read at the element's type. -/
theorem open_row {sz : Nat} (ht : P.underlying t = some (.slice e)) (hC : P.cellsOf e = sz) (hsz : 0 < sz) (hv : Value.okWide P w r b0 t v) (h : DataW.Trod enc P w base spare held t v d p) :
    ∃ A n cap V, v = .slice A n cap ∧ n ≤ cap ∧ cap ≤ maxLen ∧ Row w A n sz V ∧ ∀ i, i < n → (V i).length = sz ∧ ∃ m y, DataW.trod enc P w base spare held m e (V i) = some y := by
  obtain ⟨a, len, cap, rfl⟩ := okWide_slice ht hv
  obtain ⟨fuel, hf⟩ := h
  rcases Go.Deep.open_slice ht hf with ⟨hcs, _⟩ | ⟨a', len', cap', m, n, D, Pl, hcs, _, hl, hm, hmm, _, hi⟩
  · simp [Value.cells] at hcs
    obtain ⟨rfl, rfl, rfl⟩ := hcs
    exact ⟨none, 0, 0, fun _ => [], rfl, Nat.le_refl _, Nat.zero_le _, fun hn => absurd hn (by omega), fun i hi => absurd hi (by omega)⟩
  · simp [Value.cells] at hcs
    obtain ⟨rfl, rfl, rfl⟩ := hcs
    have hle : len ≤ m := by rw [hmm]; split <;> omega
    obtain ⟨V, hV⟩ := Go.Deep.choose_lt (α := List Value) (n := len) (p := fun i cs' => w.cells? base (a'.add (i * P.cellsOf e)) (P.cellsOf e) = some cs' ∧ DataW.trod enc P w base spare held n e cs' = some (D i, Pl i)) (fun i hi' => hi i (by omega))
    have hcell : ∀ i, i < len → (V i).length = sz ∧ ∀ j u, (V i)[j]? = some u → w.cell? (a'.add (i * sz + j)) = some u := by
      intro i hi'
      obtain ⟨h1, _⟩ := hV i hi'
      rw [hC] at h1
      obtain ⟨_, hlen, hat⟩ := World.cells?_some h1
      refine ⟨hlen, fun j u hu => ?_⟩
      have hj : j < sz := by have := (List.getElem?_eq_some_iff.1 hu).1; omega
      have := hat j hj
      rw [add_of_add, hu] at this
      exact this
    refine ⟨some a', len, cap, V, rfl, hl, hm, fun hn => ?_, fun i hi' => ⟨(hcell i hi').1, n, _, (hV i hi').2⟩⟩
    obtain ⟨hl0, hc0⟩ := hcell 0 hn
    have hx := hc0 0 _ (List.getElem?_eq_getElem (by omega))
    obtain ⟨b, off, spot⟩ := a'
    have hs : spot = none := by simpa [Addr.add] using World.cell?_spot hx
    subst hs
    refine ⟨b, off, rfl, ?_, fun i hi' j u hu => ?_⟩
    · have := cell_lt hx
      rwa [block_of_add] at this
    · have := (hcell i hi').2 j u hu
      rw [Addr.add_lit] at this
      rw [Nat.add_assoc]
      exact this

theorem one_of {l : List Value} (h : l.length = 1) : ∃ a, l = [a] := by
  match l, h with
  | [a], _ => exact ⟨a, rfl⟩
theorem two_of {l : List Value} (h : l.length = 2) : ∃ a b, l = [a, b] := by
  match l, h with
  | [a, b], _ => exact ⟨a, b, rfl⟩

theorem wf_all {k : IntKind} {n : Nat} {zs : List Int} (hl : zs.length = n) (h : ∀ i, i < n → (Lit.int k (zs.getD i 0)).wf = true) : ∀ z ∈ zs, (Lit.int k z).wf = true := by
  intro z hz
  obtain ⟨i, hi, rfl⟩ := List.mem_iff_getElem.1 hz
  have := h i (by omega)
  rwa [List.getD_eq_getElem?_getD, List.getElem?_eq_getElem hi, Option.getD_some] at this

/-- A slice of integers. -/
theorem open_ints0 {k : IntKind} (ht : P.underlying t = some (.slice e)) (he : P.underlying e = some (.int k)) (hc : P.cellsOf e = 1) (hv : Value.okWide P w r b0 t v) (h : DataW.Trod enc P w base spare held t v d p) :
    ∃ A n cap, ∃ zs : List Int, v = .slice A n cap ∧ n ≤ cap ∧ cap ≤ maxLen ∧ zs.length = n ∧ Row w A n 1 (fun i => [.int k (zs.getD i 0)]) ∧ ∀ i, (Lit.int k (zs.getD i 0)).wf = true := by
  obtain ⟨A, n, cap, V, rfl, hn, hcap, hrow, hel⟩ := open_row ht hc (by omega) hv h
  have hx : ∀ i, i < n → ∃ z, V i = [.int k z] ∧ (Lit.int k z).wf = true := by
    intro i hi
    obtain ⟨hl, m, y, hy⟩ := hel i hi
    obtain ⟨z, e0, _, w0⟩ := DataW.trod_int he hy
    exact ⟨z, e0, w0⟩
  obtain ⟨zs, hzl, hz⟩ := list_of (0 : Int) hx
  refine ⟨A, n, cap, zs, rfl, hn, hcap, hzl, hrow.conv fun i hi => (hz i hi).1, fun i => ?_⟩
  by_cases hi : i < n
  · exact (hz i hi).2
  · rw [List.getD_eq_getElem?_getD, List.getElem?_eq_none (by omega), Option.getD_none]
    cases k <;> decide

/-- A slice of strings. -/
theorem open_strs (ht : P.underlying t = some (.slice e)) (he : P.underlying e = some .string) (hc : P.cellsOf e = 1) (hv : Value.okWide P w r b0 t v) (h : DataW.Trod enc P w base spare held t v d p) :
    ∃ A n cap, ∃ zs : List ByteArray, v = .slice A n cap ∧ n ≤ cap ∧ cap ≤ maxLen ∧ zs.length = n ∧ Row w A n 1 (fun i => [.string (zs.getD i ⟨#[]⟩)]) ∧ ∀ i, i < n → (zs.getD i ⟨#[]⟩).size ≤ maxLen := by
  obtain ⟨A, n, cap, V, rfl, hn, hcap, hrow, hel⟩ := open_row ht hc (by omega) hv h
  have hx : ∀ i, i < n → ∃ z, V i = [.string z] ∧ z.size ≤ maxLen := by
    intro i hi
    obtain ⟨hl, m, y, hy⟩ := hel i hi
    obtain ⟨z, e0, _, w0⟩ := DataW.trod_string he hy
    exact ⟨z, e0, w0⟩
  obtain ⟨zs, hzl, hz⟩ := list_of (⟨#[]⟩ : ByteArray) hx
  exact ⟨A, n, cap, zs, rfl, hn, hcap, hzl, hrow.conv fun i hi => (hz i hi).1, fun i hi => (hz i hi).2⟩

/-- A slice of structs of two integers. -/
theorem open_pairs {k k' : IntKind} {f0 f1 : Field} (ht : P.underlying t = some (.slice e)) (he : P.underlying e = some (.struct #[f0, f1])) (hone : oneCellFields P #[f0, f1] = true)
    (h0 : P.underlying f0.type = some (.int k)) (h1 : P.underlying f1.type = some (.int k')) (hc : P.cellsOf e = 2) (hv : Value.okWide P w r b0 t v) (h : DataW.Trod enc P w base spare held t v d p) :
    ∃ A n cap, ∃ zs : List (Int × Int), v = .slice A n cap ∧ n ≤ cap ∧ cap ≤ maxLen ∧ zs.length = n ∧ Row w A n 2 (fun i => [.int k (zs.getD i (0, 0)).1, .int k' (zs.getD i (0, 0)).2]) ∧
      ∀ i, (Lit.int k (zs.getD i (0, 0)).1).wf = true ∧ (Lit.int k' (zs.getD i (0, 0)).2).wf = true := by
  obtain ⟨A, n, cap, V, rfl, hn, hcap, hrow, hel⟩ := open_row ht hc (by omega) hv h
  have hx : ∀ i, i < n → ∃ z : Int × Int, V i = [.int k z.1, .int k' z.2] ∧ (Lit.int k z.1).wf = true ∧ (Lit.int k' z.2).wf = true := by
    intro i hi
    obtain ⟨hl, m, y, hy⟩ := hel i hi
    obtain ⟨c0, c1, hV⟩ := two_of hl
    rw [hV] at hy
    obtain ⟨y0, y1, m', hx, _, g0, g1⟩ := trod_struct2 he hy
    obtain ⟨o0, q0⟩ := Go.Deep.hone_of hone 0 f0 rfl
    obtain ⟨o1, q1⟩ := Go.Deep.hone_of hone 1 f1 rfl
    rw [o0, q0] at g0
    rw [o1, q1] at g1
    simp at g0 g1
    obtain ⟨x, e0, _, w0⟩ := DataW.trod_int h0 g0
    obtain ⟨x', e1, _, w1⟩ := DataW.trod_int h1 g1
    simp at e0 e1
    subst e0 e1
    exact ⟨(x, x'), hV, w0, w1⟩
  obtain ⟨zs, hzl, hz⟩ := list_of ((0, 0) : Int × Int) hx
  refine ⟨A, n, cap, zs, rfl, hn, hcap, hzl, hrow.conv fun i hi => (hz i hi).1, fun i => ?_⟩
  by_cases hi : i < n
  · exact (hz i hi).2
  · rw [List.getD_eq_getElem?_getD, List.getElem?_eq_none (by omega), Option.getD_none]
    constructor
    · cases k <;> decide
    · cases k' <;> decide
end
end Go.Proofs.Ytedbabkmbpkjlaa
