/- Words on memory: a block that is known whole; worlds that differ in one block and in new ones. -/
import Derived.Below
import Derived.Laws.OwnMore
import Derived.Deep.AppendLies
import Derived.Deep.Draws
import Derived.Deep.OwnRows
import Derived.Laws.Rows
import Derived.OwnWalk
import Derived.Lib.Hide
import Derived.Deep.QuietTactic
import Derived.ProofKit
import Derived.OpenShut
import Derived.Deep.Slices
import Derived.Deep.Fields
import Derived.Lib.SmallJoins
import Derived.Maps.AppendAt
import Derived.WalkSmall

namespace Go.Proofs.YtcnjipicifkfjaaGreat
open Go.RowKit

theorem ret_int {k : IntKind} {a b : Int} (h : a = b) : Ending.returned (.int k a) = .returned (.int k b) := by rw [h]
theorem ret_bool {a b : Bool} (h : a = b) : Ending.returned (.bool a) = .returned (.bool b) := by rw [h]
theorem block_of_add (a : Addr) (n : Nat) : (a.add n).block = a.block := by unfold Addr.add; split <;> rfl
theorem add_of_add (a : Addr) (i j : Nat) : (a.add i).add j = a.add (i + j) := by
  unfold Addr.add
  by_cases hi : i = 0 <;> by_cases hj : j = 0 <;> simp [hi, hj, Nat.add_assoc]

/-- Block g is just these cells of element type t; none is frozen. -/
def Blk (w : World) (g : Nat) (t : TypeId) (cs : Array Value) : Prop := w.heap[g]? = some (.cells cs t (0, 0))

section
variable {w w' : World} {g : Nat} {t : TypeId} {cs : Array Value}
theorem Blk.lt (h : Blk w g t cs) : g < w.heap.size := by
  rcases Nat.lt_or_ge g w.heap.size with hlt | hge
  · exact hlt
  · unfold Blk at h; rw [Array.getElem?_eq_none hge] at h; cases h
theorem Blk.cell (h : Blk w g t cs) (i : Nat) : w.cell? ⟨g, i, none⟩ = cs[i]? := cell_of_row w g i cs t (0, 0) h
theorem Blk.frozen (h : Blk w g t cs) (i : Nat) : w.frozen? ⟨g, i, none⟩ = false := by
  unfold Blk at h
  simp [World.frozen?, h]
theorem Blk.new (w : World) (t : TypeId) (cs : Array Value) : Blk (w.alloc (.cells cs t)) w.heap.size t cs := heap_alloc_new w _
theorem Blk.drew (h : Blk w g t cs) : Blk w.drew g t cs := h
theorem Blk.drewN (h : Blk w g t cs) (n : Nat) : Blk (w.drewN n) g t cs := h
theorem Blk.alloc (h : Blk w g t cs) (o : Obj) : Blk (w.alloc o) g t cs := (Below.heap_alloc w o g h.lt).trans h
theorem Blk.set_ (h : Blk w g t cs) (i : Nat) (u : Value) : Blk (w.setCell ⟨g, i, none⟩ u) g t (cs.setIfInBounds i u) := by
  unfold Blk at h ⊢
  simp [World.setCell, Array.getElem?_modify, h]
theorem Blk.far (h : Blk w g t cs) {p : Addr} (hp : g ≠ p.block) (u : Value) : Blk (w.setCell p u) g t cs := (Below.heap_setCell w p u g hp).trans h
theorem Blk.below {B : Nat} (h : Blk w g t cs) (hb : Below B w w') (hg : g < B) : Blk w' g t cs := (hb.block g hg).trans h
theorem Blk.grown {row : Option Nat} (h : Blk w g t cs) (hb : w.grownBy w' row) (hg : some g ≠ row) : Blk w' g t cs := (hb.block g h.lt hg).trans h
end

theorem Blk.conv {w : World} {g : Nat} {t : TypeId} {cs cs' : Array Value} (h : Blk w g t cs) (e : cs = cs') : Blk w g t cs' := e ▸ h

theorem below_drewN {B : Nat} {a w : World} (h : Below B a w) (n : Nat) : Below B a (w.drewN n) := ⟨h.os, h.tape, h.output, h.size, h.block⟩

theorem only_drewN {a w : World} {row : Option Nat} (h : a.grownBy w row) (n : Nat) : a.grownBy (w.drewN n) row := ⟨h.os, h.tape, h.output, h.size, h.block⟩
theorem only_drew {a w : World} {row : Option Nat} (h : a.grownBy w row) : a.grownBy w.drew row := ⟨h.os, h.tape, h.output, h.size, h.block⟩
theorem only_refl (a : World) (row : Option Nat) : a.grownBy a row := World.grownBy.refl a row
theorem only_alloc {a w : World} {row : Option Nat} (h : a.grownBy w row) (o : Obj) : a.grownBy (w.alloc o) row :=
  ⟨h.os, h.tape, h.output, Nat.le_trans h.size (by simp), fun i hi hne => (Below.heap_alloc w o i (Nat.lt_of_lt_of_le hi h.size)).trans (h.block i hi hne)⟩
theorem only_set {a w : World} {g : Nat} (h : a.grownBy w (some g)) {p : Addr} (hp : p.block = g ∨ a.heap.size ≤ p.block) (u : Value) : a.grownBy (w.setCell p u) (some g) :=
  ⟨h.os, h.tape, h.output, by simpa [World.setCell] using h.size, fun i hi hne => (Below.heap_setCell w p u i (by
    rintro rfl
    rcases hp with hp | hp
    · exact hne (by rw [hp])
    · omega)).trans (h.block i hi hne)⟩
theorem only_trans {a b c : World} {row : Option Nat} (h : a.grownBy b row) (k : b.grownBy c row) : a.grownBy c row :=
  ⟨k.os.trans h.os, k.tape.trans h.tape, k.output.trans h.output, Nat.le_trans h.size k.size, fun i hi hne => (k.block i (Nat.lt_of_lt_of_le hi h.size) hne).trans (h.block i hi hne)⟩
theorem only_of_below {a w : World} (h : Below a.heap.size a w) (row : Option Nat) : a.grownBy w row := ⟨h.os, h.tape, h.output, h.size, fun i hi _ => h.block i hi⟩
theorem below_only {B : Nat} {a b c : World} {g : Nat} (h : Below B a b) (k : b.grownBy c (some g)) (hB : B ≤ b.heap.size) (hg : B ≤ g) : Below B a c :=
  h.trans ⟨k.os, k.tape, k.output, k.size, fun i hi => k.block i (by omega) (fun e => by injection e; omega)⟩
theorem quiet_left {P : Program} {f : FuncId} {args : Array Value} {w : World} {n : Nat} {v : Value}
    (h : Calls P f args (w.drewN n) fun e w' => e = .returned v ∧ w.drewN n = w') : Calls P f args (w.drewN n) fun e w'' => e = .returned v ∧ ∃ m, w'' = w.drewN m :=
  h.mono fun _ _ ⟨he, hm⟩ => ⟨he, n, hm.symm⟩

/-- Six cells stored from a block's head on. -/
def store6 (w : World) (g : Nat) (a0 a1 a2 a3 a4 a5 : Value) : World :=
  (((((w.setCell ⟨g, 0, none⟩ a0).setCell ⟨g, 1, none⟩ a1).setCell ⟨g, 2, none⟩ a2).setCell ⟨g, 3, none⟩ a3).setCell ⟨g, 4, none⟩ a4).setCell ⟨g, 5, none⟩ a5
theorem Blk.store6 {w : World} {g : Nat} {t : TypeId} {b0 b1 b2 b3 b4 b5 a0 a1 a2 a3 a4 a5 : Value} (h : Blk w g t #[b0, b1, b2, b3, b4, b5]) : Blk (store6 w g a0 a1 a2 a3 a4 a5) g t #[a0, a1, a2, a3, a4, a5] := by
  unfold Go.Proofs.YtcnjipicifkfjaaGreat.store6
  refine Blk.conv (Blk.set_ (Blk.set_ (Blk.set_ (Blk.set_ (Blk.set_ (Blk.set_ h 0 _) 1 _) 2 _) 3 _) 4 _) 5 _) ?_
  simp
theorem only_store6 (w : World) (g : Nat) (a0 a1 a2 a3 a4 a5 : Value) : w.grownBy (store6 w g a0 a1 a2 a3 a4 a5) (some g) := by
  unfold Go.Proofs.YtcnjipicifkfjaaGreat.store6
  repeat (first | with_reducible exact only_refl _ _ | with_reducible refine only_set ?_ (.inl rfl) _)
/-- Three cells stored from a block's head on. -/
def store3 (w : World) (g : Nat) (a0 a1 a2 : Value) : World := ((w.setCell ⟨g, 0, none⟩ a0).setCell ⟨g, 1, none⟩ a1).setCell ⟨g, 2, none⟩ a2
theorem Blk.store3 {w : World} {g : Nat} {t : TypeId} {b0 b1 b2 : Value} (h : Blk w g t #[b0, b1, b2]) (a0 a1 a2 : Value) : Blk (store3 w g a0 a1 a2) g t #[a0, a1, a2] := by
  unfold Go.Proofs.YtcnjipicifkfjaaGreat.store3
  refine Blk.conv (Blk.set_ (Blk.set_ (Blk.set_ h 0 _) 1 _) 2 _) ?_
  simp
theorem only_store3 (w : World) (g : Nat) (a0 a1 a2 : Value) : w.grownBy (store3 w g a0 a1 a2) (some g) := by
  unfold Go.Proofs.YtcnjipicifkfjaaGreat.store3
  repeat (first | with_reducible exact only_refl _ _ | with_reducible refine only_set ?_ (.inl rfl) _)
theorem all3 {w : World} {g : Nat} {t : TypeId} {a0 a1 a2 : Value} (h : Blk w g t #[a0, a1, a2]) :
    w.cell? ⟨g, 0, none⟩ = some a0 ∧ w.cell? ⟨g, 1, none⟩ = some a1 ∧ w.cell? ⟨g, 2, none⟩ = some a2 ∧
    w.frozen? ⟨g, 0, none⟩ = false ∧ w.frozen? ⟨g, 1, none⟩ = false ∧ w.frozen? ⟨g, 2, none⟩ = false :=
  ⟨h.cell 0, h.cell 1, h.cell 2, h.frozen 0, h.frozen 1, h.frozen 2⟩
end Go.Proofs.YtcnjipicifkfjaaGreat

/- Arguments opened: arrays and structs by value, slices of integers, of strings, of structs; what the walk is told of each. -/
namespace Go.Proofs.YtcnjipicifkfjaaGreat
open Go.RowKit Go.ChangeShapes Go.WideShapes Go.Joins Go.Deep

/-- A slice's elements by their cells: 'V i' are the cells of element i, each element has 'sz'. -/
def Row (w : World) (A : Option Addr) (n sz : Nat) (V : Nat → List Value) : Prop :=
  0 < n → ∃ b off, A = some ⟨b, off, none⟩ ∧ b < w.heap.size ∧ ∀ i, i < n → ∀ j u, (V i)[j]? = some u → w.cell? ⟨b, off + i * sz + j, none⟩ = some u

theorem Row.mono {w w' : World} {A : Option Addr} {n sz B : Nat} {V : Nat → List Value} (h : Row w A n sz V) (hb : Below B w w') (hB : w.heap.size ≤ B) : Row w' A n sz V := fun hn => by
  obtain ⟨b, off, rfl, hlt, hc⟩ := h hn
  exact ⟨b, off, rfl, Nat.lt_of_lt_of_le hlt hb.size, fun i hi j u hu => (hb.cell (p := ⟨b, off + i * sz + j, none⟩) (Nat.lt_of_lt_of_le hlt hB)).trans (hc i hi j u hu)⟩
theorem Row.conv {w : World} {A : Option Addr} {n sz : Nat} {V V' : Nat → List Value} (h : Row w A n sz V) (e : ∀ i, i < n → V i = V' i) : Row w A n sz V' := fun hn => by
  obtain ⟨b, off, rfl, hlt, hc⟩ := h hn
  exact ⟨b, off, rfl, hlt, fun i hi j u hu => hc i hi j u (by rw [e i hi]; exact hu)⟩

theorem cell_lt {w : World} {p : Addr} {u : Value} (h : w.cell? p = some u) : p.block < w.heap.size := by
  rcases Nat.lt_or_ge p.block w.heap.size with hlt | hge
  · exact hlt
  · unfold World.cell? at h
    rw [Array.getElem?_eq_none hge] at h
    simp at h

theorem list_of {α : Type} (d : α) {n : Nat} {p : Nat → α → Prop} (h : ∀ i, i < n → ∃ x, p i x) : ∃ l : List α, l.length = n ∧ ∀ i, i < n → p i (l.getD i d) := by
  letI : Inhabited α := ⟨d⟩
  obtain ⟨f, hf⟩ := Go.Deep.choose_lt h
  refine ⟨(List.range n).map f, by simp, fun i hi => ?_⟩
  rw [List.getD_eq_getElem?_getD]
  simpa [hi] using hf i hi

section
variable {H : Type} {enc : TypeId × Value → H} {P : Program} {w : World} {base : Nat} {spare : Nat → Bool} {held : Bool} {r : Reach} {b0 : Nat} {t e : TypeId} {v : Value} {d : DataW H} {p : List MemPlace}

theorem open_int0 {k : IntKind} (ht : P.underlying t = some (.int k)) (hv : Value.okWide P w r b0 t v) (h : DataW.Trod enc P w base spare held t v d p) :
    ∃ n, v = .int k n ∧ (Lit.int k n).wf = true := by
  obtain ⟨n, rfl, _, _, hw⟩ := open_int ht hv h
  exact ⟨n, rfl, hw⟩

/-- An array of two integers by value. -/
theorem open_arr2 {k : IntKind} (ht : P.underlying t = some (.array 2 e)) (he : P.underlying e = some (.int k)) (hc : P.cellsOf e = 1) (hC : P.cellsOf t = 2)
    (hv : Value.okWide P w r b0 t v) (h : DataW.Trod enc P w base spare held t v d p) :
    ∃ x y, v = .agg #[.int k x, .int k y] ∧ (Lit.int k x).wf = true ∧ (Lit.int k y).wf = true := by
  have hs : ∃ cs, v = .agg cs ∧ cs.size = P.cellsOf t := by
    simp only [Value.okWide, ht] at hv
    obtain ⟨cs, h1, h2, _⟩ := hv
    exact ⟨cs, h1, h2⟩
  obtain ⟨cs, rfl, hsz⟩ := hs
  obtain ⟨c0, c1, rfl⟩ := array2 (hsz.trans hC)
  obtain ⟨fuel, hf⟩ := h
  obtain ⟨xs, m, _, _, _, hl, hg⟩ := DataW.trod_array ht hf
  have h0 := hg 0 (by omega)
  have h1 := hg 1 (by omega)
  rw [hc, List.getElem?_eq_getElem (by omega)] at h0 h1
  simp [Value.cells] at h0 h1
  obtain ⟨x, e0, _, w0⟩ := DataW.trod_int he h0
  obtain ⟨y, e1, _, w1⟩ := DataW.trod_int he h1
  simp at e0 e1
  subst e0 e1
  exact ⟨x, y, rfl, w0, w1⟩

/-- A slice of whatever elements of 'sz' cells: each element's cells, and that they read at the element's type. -/
theorem open_row {sz : Nat} (ht : P.underlying t = some (.slice e)) (hC : P.cellsOf e = sz) (hsz : 0 < sz) (hv : Value.okWide P w r b0 t v) (h : DataW.Trod enc P w base spare held t v d p) :
    ∃ A n cap V, v = .slice A n cap ∧ n ≤ cap ∧ cap ≤ maxLen ∧ Row w A n sz V ∧ ∀ i, i < n → (V i).length = sz ∧ ∃ m y, DataW.trod enc P w base spare held m e (V i) = some y := by
  obtain ⟨a, len, cap, rfl⟩ := okWide_slice ht hv
  obtain ⟨fuel, hf⟩ := h
  rcases Go.Deep.open_slice ht hf with ⟨hcs, _⟩ | ⟨a', len', cap', m, n, D, Pl, hcs, _, hl, hm, hmm, _, hi⟩
  · simp [Value.cells] at hcs
    obtain ⟨rfl, rfl, rfl⟩ := hcs
    exact ⟨none, 0, 0, fun _ => [], rfl, Nat.le_refl _, Nat.zero_le _, fun hn => absurd hn (by omega), fun i hi => absurd hi (by omega)⟩
  · simp [Value.cells] at hcs
    obtain ⟨rfl, rfl, rfl⟩ := hcs
    have hle : len ≤ m := by rw [hmm]; split <;> omega
    obtain ⟨V, hV⟩ := Go.Deep.choose_lt (α := List Value) (n := len) (p := fun i cs' => w.cells? base (a'.add (i * P.cellsOf e)) (P.cellsOf e) = some cs' ∧ DataW.trod enc P w base spare held n e cs' = some (D i, Pl i)) (fun i hi' => hi i (by omega))
    have hcell : ∀ i, i < len → (V i).length = sz ∧ ∀ j u, (V i)[j]? = some u → w.cell? (a'.add (i * sz + j)) = some u := by
      intro i hi'
      obtain ⟨h1, _⟩ := hV i hi'
      rw [hC] at h1
      obtain ⟨_, hlen, hat⟩ := World.cells?_some h1
      refine ⟨hlen, fun j u hu => ?_⟩
      have hj : j < sz := by have := (List.getElem?_eq_some_iff.1 hu).1; omega
      have := hat j hj
      rw [add_of_add, hu] at this
      exact this
    refine ⟨some a', len, cap, V, rfl, hl, hm, fun hn => ?_, fun i hi' => ⟨(hcell i hi').1, n, _, (hV i hi').2⟩⟩
    obtain ⟨hl0, hc0⟩ := hcell 0 hn
    have hx := hc0 0 _ (List.getElem?_eq_getElem (by omega))
    obtain ⟨b, off, spot⟩ := a'
    have hs : spot = none := by simpa [Addr.add] using World.cell?_spot hx
    subst hs
    refine ⟨b, off, rfl, ?_, fun i hi' j u hu => ?_⟩
    · have := cell_lt hx
      rwa [block_of_add] at this
    · have := (hcell i hi').2 j u hu
      rw [Addr.add_lit] at this
      rw [Nat.add_assoc]
      exact this

theorem one_of {l : List Value} (h : l.length = 1) : ∃ a, l = [a] := by
  match l, h with
  | [a], _ => exact ⟨a, rfl⟩
theorem two_of {l : List Value} (h : l.length = 2) : ∃ a b, l = [a, b] := by
  match l, h with
  | [a, b], _ => exact ⟨a, b, rfl⟩

theorem wf_all {k : IntKind} {n : Nat} {zs : List Int} (hl : zs.length = n) (h : ∀ i, i < n → (Lit.int k (zs.getD i 0)).wf = true) : ∀ z ∈ zs, (Lit.int k z).wf = true := by
  intro z hz
  obtain ⟨i, hi, rfl⟩ := List.mem_iff_getElem.1 hz
  have := h i (by omega)
  rwa [List.getD_eq_getElem?_getD, List.getElem?_eq_getElem hi, Option.getD_some] at this

/-- A slice of integers. -/
theorem open_ints0 {k : IntKind} (ht : P.underlying t = some (.slice e)) (he : P.underlying e = some (.int k)) (hc : P.cellsOf e = 1) (hv : Value.okWide P w r b0 t v) (h : DataW.Trod enc P w base spare held t v d p) :
    ∃ A n cap, ∃ zs : List Int, v = .slice A n cap ∧ n ≤ cap ∧ cap ≤ maxLen ∧ zs.length = n ∧ Row w A n 1 (fun i => [.int k (zs.getD i 0)]) ∧ ∀ i, (Lit.int k (zs.getD i 0)).wf = true := by
  obtain ⟨A, n, cap, V, rfl, hn, hcap, hrow, hel⟩ := open_row ht hc (by omega) hv h
  have hx : ∀ i, i < n → ∃ z, V i = [.int k z] ∧ (Lit.int k z).wf = true := by
    intro i hi
    obtain ⟨hl, m, y, hy⟩ := hel i hi
    obtain ⟨z, e0, _, w0⟩ := DataW.trod_int he hy
    exact ⟨z, e0, w0⟩
  obtain ⟨zs, hzl, hz⟩ := list_of (0 : Int) hx
  refine ⟨A, n, cap, zs, rfl, hn, hcap, hzl, hrow.conv fun i hi => (hz i hi).1, fun i => ?_⟩
  by_cases hi : i < n
  · exact (hz i hi).2
  · rw [List.getD_eq_getElem?_getD, List.getElem?_eq_none (by omega), Option.getD_none]
    cases k <;> decide

/-- A slice of strings. -/
theorem open_strs (ht : P.underlying t = some (.slice e)) (he : P.underlying e = some .string) (hc : P.cellsOf e = 1) (hv : Value.okWide P w r b0 t v) (h : DataW.Trod enc P w base spare held t v d p) :
    ∃ A n cap, ∃ zs : List ByteArray, v = .slice A n cap ∧ n ≤ cap ∧ cap ≤ maxLen ∧ zs.length = n ∧ Row w A n 1 (fun i => [.string (zs.getD i ⟨#[]⟩)]) ∧ ∀ i, i < n → (zs.getD i ⟨#[]⟩).size ≤ maxLen := by
  obtain ⟨A, n, cap, V, rfl, hn, hcap, hrow, hel⟩ := open_row ht hc (by omega) hv h
  have hx : ∀ i, i < n → ∃ z, V i = [.string z] ∧ z.size ≤ maxLen := by
    intro i hi
    obtain ⟨hl, m, y, hy⟩ := hel i hi
    obtain ⟨z, e0, _, w0⟩ := DataW.trod_string he hy
    exact ⟨z, e0, w0⟩
  obtain ⟨zs, hzl, hz⟩ := list_of (⟨#[]⟩ : ByteArray) hx
  exact ⟨A, n, cap, zs, rfl, hn, hcap, hzl, hrow.conv fun i hi => (hz i hi).1, fun i hi => (hz i hi).2⟩

/-- A slice of structs of two integers. -/
theorem open_pairs {k k' : IntKind} {f0 f1 : Field} (ht : P.underlying t = some (.slice e)) (he : P.underlying e = some (.struct #[f0, f1])) (hone : oneCellFields P #[f0, f1] = true)
    (h0 : P.underlying f0.type = some (.int k)) (h1 : P.underlying f1.type = some (.int k')) (hc : P.cellsOf e = 2) (hv : Value.okWide P w r b0 t v) (h : DataW.Trod enc P w base spare held t v d p) :
    ∃ A n cap, ∃ zs : List (Int × Int), v = .slice A n cap ∧ n ≤ cap ∧ cap ≤ maxLen ∧ zs.length = n ∧ Row w A n 2 (fun i => [.int k (zs.getD i (0, 0)).1, .int k' (zs.getD i (0, 0)).2]) ∧
      ∀ i, (Lit.int k (zs.getD i (0, 0)).1).wf = true ∧ (Lit.int k' (zs.getD i (0, 0)).2).wf = true := by
  obtain ⟨A, n, cap, V, rfl, hn, hcap, hrow, hel⟩ := open_row ht hc (by omega) hv h
  have hx : ∀ i, i < n → ∃ z : Int × Int, V i = [.int k z.1, .int k' z.2] ∧ (Lit.int k z.1).wf = true ∧ (Lit.int k' z.2).wf = true := by
    intro i hi
    obtain ⟨hl, m, y, hy⟩ := hel i hi
    obtain ⟨c0, c1, hV⟩ := two_of hl
    rw [hV] at hy
    obtain ⟨y0, y1, m', hx, _, g0, g1⟩ := trod_struct2 he hy
    obtain ⟨o0, q0⟩ := Go.Deep.hone_of hone 0 f0 rfl
    obtain ⟨o1, q1⟩ := Go.Deep.hone_of hone 1 f1 rfl
    rw [o0, q0] at g0
    rw [o1, q1] at g1
    simp at g0 g1
    obtain ⟨x, e0, _, w0⟩ := DataW.trod_int h0 g0
    obtain ⟨x', e1, _, w1⟩ := DataW.trod_int h1 g1
    simp at e0 e1
    subst e0 e1
    exact ⟨(x, x'), hV, w0, w1⟩
  obtain ⟨zs, hzl, hz⟩ := list_of ((0, 0) : Int × Int) hx
  refine ⟨A, n, cap, zs, rfl, hn, hcap, hzl, hrow.conv fun i hi => (hz i hi).1, fun i => ?_⟩
  by_cases hi : i < n
  · exact (hz i hi).2
  · rw [List.getD_eq_getElem?_getD, List.getElem?_eq_none (by omega), Option.getD_none]
    constructor
    · cases k <;> decide
    · cases k' <;> decide
end
end Go.Proofs.YtcnjipicifkfjaaGreat

/- Frames by a set of blocks; rows that the call owns; append of one element. -/
namespace Go.Proofs.YtcnjipicifkfjaaGreat
open Go.RowKit

/-- From w to w' only the blocks of S, and new ones, have changed. -/
structure Mod (w w' : World) (S : Nat → Prop) : Prop where
  os : w'.os = w.os
  tape : w'.tape = w.tape
  output : w'.output = w.output
  size : w.heap.size ≤ w'.heap.size
  block : ∀ k, k < w.heap.size → ¬ S k → w'.heap[k]? = w.heap[k]?

section
variable {w w' w'' : World} {S S' : Nat → Prop} {g : Nat} {t : TypeId} {cs : Array Value}
theorem Mod.refl (w : World) (S : Nat → Prop) : Mod w w S := ⟨rfl, rfl, rfl, Nat.le_refl _, fun _ _ _ => rfl⟩
theorem Mod.of_grown {row : Option Nat} (h : w.grownBy w' row) : Mod w w' (fun k => row = some k) := ⟨h.os, h.tape, h.output, h.size, fun k hk hn => h.block k hk (fun e => hn e.symm)⟩
theorem Mod.of_below {B : Nat} (h : Below B w w') : Mod w w' (fun k => B ≤ k) := ⟨h.os, h.tape, h.output, h.size, fun k _ hn => h.block k (by omega)⟩
theorem Mod.mono (h : Mod w w' S) (hs : ∀ k, k < w.heap.size → S k → S' k) : Mod w w' S' := ⟨h.os, h.tape, h.output, h.size, fun k hk hn => h.block k hk (fun e => hn (hs k hk e))⟩
theorem Mod.trans (h : Mod w w' S) (h' : Mod w' w'' S') (hs : ∀ k, k < w.heap.size → S' k → S k) : Mod w w'' S :=
  ⟨h'.os.trans h.os, h'.tape.trans h.tape, h'.output.trans h.output, Nat.le_trans h.size h'.size, fun k hk hn =>
    (h'.block k (Nat.lt_of_lt_of_le hk h.size) (fun e => hn (hs k hk e))).trans (h.block k hk hn)⟩
theorem Mod.alloc (h : Mod w w' S) (o : Obj) : Mod w (w'.alloc o) S :=
  ⟨h.os, h.tape, h.output, Nat.le_trans h.size (by simp), fun k hk hn => (Below.heap_alloc w' o k (Nat.lt_of_lt_of_le hk h.size)).trans (h.block k hk hn)⟩
theorem Mod.drewN (h : Mod w w' S) (n : Nat) : Mod w (w'.drewN n) S := ⟨h.os, h.tape, h.output, h.size, h.block⟩
theorem Mod.set (h : Mod w w' S) {p : Addr} (hp : w.heap.size ≤ p.block ∨ S p.block) (u : Value) : Mod w (w'.setCell p u) S :=
  ⟨h.os, h.tape, h.output, by simpa [World.setCell] using h.size, fun k hk hn => (Below.heap_setCell w' p u k (by
    rintro rfl
    rcases hp with hp | hp
    · omega
    · exact hn hp)).trans (h.block k hk hn)⟩
theorem Mod.blk (h : Mod w w' S) (hb : Blk w g t cs) (hg : ¬ S g) : Blk w' g t cs := (h.block g hb.lt hg).trans hb
theorem Mod.below {B : Nat} (h : Mod w w' S) (hB : B ≤ w.heap.size) (hs : ∀ k, S k → B ≤ k) : Below B w w' := ⟨h.os, h.tape, h.output, h.size, fun k hk => h.block k (by omega) (fun e => by have := hs k e; omega)⟩
theorem Below.mod {B : Nat} {a : World} (h : Below B a w) (k : Mod w w' S) (hB : B ≤ w.heap.size) (hs : ∀ k, k < w.heap.size → S k → B ≤ k) : Below B a w' :=
  h.trans ⟨k.os, k.tape, k.output, k.size, fun i hi => k.block i (by omega) (fun e => by have := hs i (by omega) e; omega)⟩
end

/-- The row that a slice value lies in is not block g. -/
def off_ (A : Option Addr) (g : Nat) : Prop := ∀ a, A = some a → a.block ≠ g

/-- A slice value whose row the call owns: A, length, capacity; its elements' cells xs; e: the element's type. -/
structure Own (w : World) (base : Nat) (e : TypeId) (size : Nat) (A : Option Addr) (n cap : Nat) (xs : List Value) : Prop where
  len : xs.length = n * size
  form : (A = none ∧ n = 0 ∧ cap = 0) ∨ ∃ g cur, A = some ⟨g, 0, none⟩ ∧ base ≤ g ∧ Blk w g e cur ∧ n ≤ cap ∧ cap ≤ maxLen ∧ cur.size = cap * size ∧ cur.toList.take (n * size) = xs

section
variable {w w' : World} {base n cap size : Nat} {e : TypeId} {A : Option Addr} {xs : List Value} {S : Nat → Prop}
theorem Own.row (h : Own w base e size A n cap xs) : w.ownsRow base e size (.slice A n cap) n xs := by
  refine ⟨h.len, ?_⟩
  rcases h.form with ⟨rfl, rfl, rfl⟩ | ⟨g, cur, rfl, h1, h2, h3, h4, h5, h6⟩
  · exact .inl ⟨rfl, rfl⟩
  · exact .inr ⟨g, cap, cur, rfl, h1, h2, h3, h4, h5, h6⟩
theorem Own.of_row {v : Value} (h : w.ownsRow base e size v n xs) : ∃ A cap, v = .slice A n cap ∧ Own w base e size A n cap xs := by
  rcases h.2 with ⟨rfl, rfl⟩ | ⟨g, cap, cur, rfl, h1, h2, h3, h4, h5, h6⟩
  · exact ⟨none, 0, rfl, h.1, .inl ⟨rfl, rfl, rfl⟩⟩
  · exact ⟨_, cap, rfl, h.1, .inr ⟨g, cur, rfl, h1, h2, h3, h4, h5, h6⟩⟩
theorem Own.nil (w : World) (base : Nat) (e : TypeId) (size : Nat) : Own w base e size none 0 0 [] := ⟨by simp, .inl ⟨rfl, rfl, rfl⟩⟩
theorem Own.lt (h : Own w base e size A n cap xs) : ∀ a, A = some a → base ≤ a.block ∧ a.block < w.heap.size := by
  rintro a rfl
  rcases h.form with ⟨h1, _⟩ | ⟨g, cur, h0, h1, h2, _⟩
  · cases h1
  · cases h0
    exact ⟨h1, h2.lt⟩
theorem Own.mod (h : Own w base e size A n cap xs) (m : Mod w w' S) (hs : ∀ a, A = some a → ¬ S a.block) : Own w' base e size A n cap xs := by
  refine ⟨h.len, ?_⟩
  rcases h.form with h0 | ⟨g, cur, rfl, h1, h2, h3⟩
  · exact .inl h0
  · exact .inr ⟨g, cur, rfl, h1, m.blk h2 (hs _ rfl), h3⟩
theorem Own.drewN (h : Own w base e size A n cap xs) (k : Nat) : Own (w.drewN k) base e size A n cap xs := ⟨h.len, h.form⟩
theorem Own.alloc (h : Own w base e size A n cap xs) (o : Obj) : Own (w.alloc o) base e size A n cap xs :=
  h.mod ((Mod.refl w (fun _ => False)).alloc o) (fun _ _ h => h)
theorem Own.below {B : Nat} (h : Own w base e size A n cap xs) (hb : Below B w w') (hB : w.heap.size ≤ B) : Own w' base e size A n cap xs :=
  h.mod (Mod.of_below hb) (fun a ha hs => by have := (h.lt a ha).2; omega)
theorem Own.base_ {base' : Nat} (h : Own w base e size A n cap xs) (hb : base' ≤ base) : Own w base' e size A n cap xs := by
  refine ⟨h.len, ?_⟩
  rcases h.form with h0 | ⟨g, cur, rfl, h1, h3⟩
  · exact .inl h0
  · exact .inr ⟨g, cur, rfl, by omega, h3⟩
/-- A row of another element's type lies elsewhere. -/
theorem Own.ne {g : Nat} {t : TypeId} {cs : Array Value} (h : Own w base e size A n cap xs) (hb : Blk w g t cs) (hne : e ≠ t) : ∀ a, A = some a → a.block ≠ g := by
  rintro a rfl rfl
  rcases h.form with ⟨h1, _⟩ | ⟨g, cur, h0, h1, h2, _⟩
  · cases h1
  · cases h0
    unfold Blk at h2 hb
    rw [h2] at hb
    injection hb with hb
    injection hb with _ ht
    exact hne ht
theorem Own.at_ (h : Own w base e size A n cap xs) (hn : 0 < n) : ∃ g, A = some ⟨g, 0, none⟩ ∧ base ≤ g ∧ g < w.heap.size ∧ n ≤ cap ∧ cap ≤ maxLen ∧
    (∀ j u, xs[j]? = some u → w.cell? ⟨g, j, none⟩ = some u) ∧ ∀ j, w.frozen? ⟨g, j, none⟩ = false := by
  rcases h.form with ⟨_, h1, _⟩ | ⟨g, cur, rfl, h1, h2, h3, h4, h5, h6⟩
  · omega
  · refine ⟨g, rfl, h1, h2.lt, h3, h4, fun j u hu => ?_, fun j => h2.frozen j⟩
    rw [h2.cell j]
    rw [← h6, List.getElem?_take] at hu
    split at hu
    · simpa using hu
    · cases hu
/-- A cut at the front's end: 's[:k]'. -/
theorem Own.cut (h : Own w base e size A n cap xs) {k : Nat} (hk : k ≤ n) : Own w base e size A k cap (xs.take (k * size)) := by
  refine ⟨by rw [List.length_take, h.len]; exact Nat.min_eq_left (Nat.mul_le_mul_right _ hk), ?_⟩
  rcases h.form with ⟨h0, h1, h2⟩ | ⟨g, cur, rfl, h1, h2, h3, h4, h5, h6⟩
  · exact .inl ⟨h0, by omega, h2⟩
  · refine .inr ⟨g, cur, rfl, h1, h2, by omega, h4, h5, ?_⟩
    rw [← h6, List.take_take, Nat.min_eq_left (Nat.mul_le_mul_right _ hk)]

/-- A cell of a row stored over. -/
theorem Own.set_ {g : Nat} (h : Own w base e size (some ⟨g, 0, none⟩) n cap xs) {j : Nat} (hj : j < n * size) (u : Value) :
    Own (w.setCell ⟨g, j, none⟩ u) base e size (some ⟨g, 0, none⟩) n cap (xs.set j u) := by
  refine ⟨by rw [List.length_set]; exact h.len, ?_⟩
  rcases h.form with ⟨h0, _⟩ | ⟨g', cur, h0, h1, h2, h3, h4, h5, h6⟩
  · cases h0
  · cases h0
    refine .inr ⟨g, cur.setIfInBounds j u, rfl, h1, h2.set_ j u, h3, h4, by simpa using h5, ?_⟩
    rw [← h6]
    apply List.ext_getElem?
    intro i
    simp only [Array.toList_setIfInBounds, List.getElem?_take, List.getElem?_set, List.length_take, Array.length_toList]
    have hle : n * size ≤ cap * size := Nat.mul_le_mul_right _ h3
    by_cases hij : j = i
    · subst hij
      rw [if_pos hj, if_pos rfl, if_pos rfl, if_pos (by omega), if_pos (by rw [Nat.min_def]; split <;> omega)]
    · rw [if_neg hij, if_neg hij]

/-- 'append(s, x)': what is behind it. -/
theorem append_one {P : Program} {ops : Array Oper} {rest : List Oper} {o : Oper} {a : Act} {Q : Exit → Act → World → Prop} (hgd : o.guard = none) (s x : Operand) (t : TypeId)
    (ho : o.op = .call { callee := .builtin .append, args := #[s, x], argTypes := #[t, t] })
    (base : Nat) (e : TypeId) (i : TypeInfo) (z : Value) (bytes : Nat) (ht : P.underlying t = some (.slice e)) (hi : P.info? e = some i) (hz : i.zero = some z)
    (hsize : i.size = 1) (hby : i.bytes = bytes) (hzs : z.cells.size = 1)
    (A : Option Addr) (n cap : Nat) (xs : List Value) (hs : a.eval s = .slice A n cap) (hown : Own w base e 1 A n cap xs) (u : Value)
    (hx : a.eval x = .slice (some ⟨w.heap.size, 0, none⟩) 1 1) (h1 : u.oneCell' = true)
    (h63 : n + 1 ≤ maxLen) (hbytes : (n + 1) * bytes ≤ 140737488355328) (hbase : base ≤ w.heap.size)
    (h : ∀ A' cap' w', Own w' base e 1 A' (n + 1) cap' (xs ++ [u]) → Mod w w' (fun k => ∃ a, A = some a ∧ a.block = k) →
      (∀ a', A' = some a' → (∃ a, A = some a ∧ a.block = a'.block) ∨ w.heap.size ≤ a'.block) → wpList P ops Q rest (a.put o.dst (.slice A' (n + 1) cap')) w') :
    wpList P ops Q (o :: rest) a (w.alloc (.cells #[u] e)) := by
  refine wpList_append_own_at (w.alloc (.cells #[u] e)) hgd s x t ho base e i z 1 bytes ht hi hz hsize hby hzs (by omega) (.slice A n cap) n xs hs (hown.alloc _).row
    ⟨w.heap.size, 0, none⟩ 1 1 [u] hx (by simp) (cell_one_new _ _ _) (by simpa using h1) h63 hbytes (by simp; omega) ?_
  intro v' w' hown' hg _ hat
  obtain ⟨A', cap', rfl, hown2⟩ := Own.of_row hown'
  refine h A' cap' w' hown2 ?_ ?_
  · refine ((Mod.refl w _).alloc (.cells #[u] e)).trans (Mod.of_grown hg) ?_
    intro k hk hk2
    cases A with
    | none => simp [Value.ownBlock] at hk2
    | some a => exact ⟨a, rfl, by simpa [Value.ownBlock] using hk2⟩
  · rintro a' rfl
    rcases hat with hat | hat
    · cases A with
      | none => simp [Value.ownBlock] at hat
      | some a => exact .inl ⟨a, rfl, by simpa [Value.ownBlock] using hat.symm⟩
    · refine .inr ?_
      simp [Value.ownBlock] at hat
      omega
/-- 'append(s, x)', x of several cells: what is behind it. -/
theorem append_elem {P : Program} {ops : Array Oper} {rest : List Oper} {o : Oper} {a : Act} {Q : Exit → Act → World → Prop} (hgd : o.guard = none) (s x : Operand) (t : TypeId)
    (ho : o.op = .call { callee := .builtin .append, args := #[s, x], argTypes := #[t, t] })
    (base : Nat) (e : TypeId) (i : TypeInfo) (z : Value) (sz bytes : Nat) (ht : P.underlying t = some (.slice e)) (hi : P.info? e = some i) (hz : i.zero = some z)
    (hsize : i.size = sz) (hby : i.bytes = bytes) (hzs : z.cells.size = sz) (hsz : 0 < sz)
    (A : Option Addr) (n cap : Nat) (xs : List Value) (hs : a.eval s = .slice A n cap) (hown : Own w base e sz A n cap xs) (us : List Value) (hus : us.length = sz)
    (hx : a.eval x = .slice (some ⟨w.heap.size, 0, none⟩) 1 1) (h1 : ∀ u ∈ us, u.oneCell' = true)
    (h63 : n + 1 ≤ maxLen) (hbytes : (n + 1) * bytes ≤ 140737488355328) (hbase : base ≤ w.heap.size)
    (h : ∀ A' cap' w', Own w' base e sz A' (n + 1) cap' (xs ++ us) → Mod w w' (fun k => ∃ a, A = some a ∧ a.block = k) →
      (∀ a', A' = some a' → (∃ a, A = some a ∧ a.block = a'.block) ∨ w.heap.size ≤ a'.block) → wpList P ops Q rest (a.put o.dst (.slice A' (n + 1) cap')) w') :
    wpList P ops Q (o :: rest) a (w.alloc (.cells us.toArray e)) := by
  refine wpList_append_own_at (w.alloc (.cells us.toArray e)) hgd s x t ho base e i z sz bytes ht hi hz hsize hby hzs hsz (.slice A n cap) n xs hs (hown.alloc _).row
    ⟨w.heap.size, 0, none⟩ 1 1 us hx (by omega) (fun j u hu => ?_) h1 h63 hbytes (by simp; omega) ?_
  · have hadd : (⟨w.heap.size, 0, none⟩ : Addr).add j = ⟨w.heap.size, j, none⟩ := by unfold Addr.add; split <;> simp_all
    rw [hadd, (Blk.new w e us.toArray).cell j]
    simpa using hu
  intro v' w' hown' hg _ hat
  obtain ⟨A', cap', rfl, hown2⟩ := Own.of_row hown'
  refine h A' cap' w' hown2 ?_ ?_
  · refine ((Mod.refl w _).alloc (.cells us.toArray e)).trans (Mod.of_grown hg) ?_
    intro k hk hk2
    cases A with
    | none => simp [Value.ownBlock] at hk2
    | some a => exact ⟨a, rfl, by simpa [Value.ownBlock] using hk2⟩
  · rintro a' rfl
    rcases hat with hat | hat
    · cases A with
      | none => simp [Value.ownBlock] at hat
      | some a => exact .inl ⟨a, rfl, by simpa [Value.ownBlock] using hat.symm⟩
    · refine .inr ?_
      simp [Value.ownBlock] at hat
      omega
/-- A slice that can be read: its cells' values. -/
def Rd (w : World) (sz : Nat) (A : Option Addr) (n : Nat) (vs : List Value) : Prop :=
  vs.length = n * sz ∧ (0 < n → ∃ g off, A = some ⟨g, off, none⟩ ∧ g < w.heap.size ∧ ∀ j u, vs[j]? = some u → w.cell? ⟨g, off + j, none⟩ = some u)
theorem Own.rd (h : Own w base e size A n cap xs) : Rd w size A n xs := ⟨h.len, fun hn => by
  obtain ⟨g, rfl, _, hg, _, _, hc, _⟩ := h.at_ hn
  exact ⟨g, 0, rfl, hg, fun j u hu => by rw [Nat.zero_add]; exact hc j u hu⟩⟩
theorem Rd.mod {sz : Nat} {vs : List Value} (h : Rd w sz A n vs) (m : Mod w w' S) (hs : ∀ a, A = some a → ¬ S a.block) : Rd w' sz A n vs := ⟨h.1, fun hn => by
  obtain ⟨g, off, rfl, hg, hc⟩ := h.2 hn
  exact ⟨g, off, rfl, Nat.lt_of_lt_of_le hg m.size, fun j u hu => (World.cell?_of_block (a := ⟨g, off + j, none⟩) (m.block g hg (hs _ rfl))).trans (hc j u hu)⟩⟩
theorem Rd.below {sz B : Nat} {vs : List Value} (h : Rd w sz A n vs) (hb : Below B w w') (hB : w.heap.size ≤ B) : Rd w' sz A n vs := ⟨h.1, fun hn => by
  obtain ⟨g, off, rfl, hg, hc⟩ := h.2 hn
  exact ⟨g, off, rfl, Nat.lt_of_lt_of_le hg hb.size, fun j u hu => (hb.cell (p := ⟨g, off + j, none⟩) (Nat.lt_of_lt_of_le hg hB)).trans (hc j u hu)⟩⟩
theorem Rd.drewN {sz : Nat} {vs : List Value} (h : Rd w sz A n vs) (k : Nat) : Rd (w.drewN k) sz A n vs := h
theorem Rd.alloc {sz : Nat} {vs : List Value} (h : Rd w sz A n vs) (o : Obj) : Rd (w.alloc o) sz A n vs :=
  h.below ((Below.refl w.heap.size w).alloc (Nat.le_refl _) o) (Nat.le_refl _)
theorem Rd.nil (w : World) (sz : Nat) (A : Option Addr) : Rd w sz A 0 [] := ⟨by simp, fun h => absurd h (by omega)⟩
theorem Rd.cut {sz k : Nat} {vs : List Value} (h : Rd w sz A n vs) (hk : k ≤ n) : Rd w sz A k (vs.take (k * sz)) := by
  refine ⟨by rw [List.length_take, h.1]; exact Nat.min_eq_left (Nat.mul_le_mul_right _ hk), fun h0 => ?_⟩
  obtain ⟨g, off, rfl, hg, hc⟩ := h.2 (by omega)
  refine ⟨g, off, rfl, hg, fun j u hu => hc j u ?_⟩
  rw [List.getElem?_take] at hu
  split at hu
  · exact hu
  · cases hu

theorem run_append_rd {P : Program} (base : Nat) (t ty e : TypeId) (i : TypeInfo) (z : Value) (sz bytes : Nat) (ht : P.underlying t = some (.slice e)) (hi : P.info? e = some i) (hz : i.zero = some z)
    (hsize : i.size = sz) (hby : i.bytes = bytes) (hzs : z.cells.size = sz) (hsz : 0 < sz) (hown : Own w base e sz A n cap xs)
    (A2 : Option Addr) (m c2 : Nat) (vs : List Value) (hr : Rd w sz A2 m vs) (h1 : ∀ u ∈ vs, u.oneCell' = true) (h63 : n + m ≤ maxLen) (hbytes : (n + m) * bytes ≤ 140737488355328) (hbase : base ≤ w.heap.size) :
    ∃ A' cap' w', (Builtin.append_ #[t, t] ty #[.slice A n cap, .slice A2 m c2]).run P w = .ok (.slice A' (n + m) cap') w' ∧ Own w' base e sz A' (n + m) cap' (xs ++ vs) ∧
      Mod w w' (fun k => ∃ a, A = some a ∧ a.block = k) ∧ (∀ a', A' = some a' → (∃ a, A = some a ∧ a.block = a'.block) ∨ w.heap.size ≤ a'.block) := by
  rcases Nat.eq_zero_or_pos m with h0 | h0
  · subst h0
    have hv : vs = [] := List.eq_nil_of_length_eq_zero (by simpa using hr.1)
    subst hv
    cases A2 with
    | none =>
      have hrun : (Builtin.append_ #[t, t] ty #[.slice A n cap, .slice none 0 c2]).run P w = .ok (.slice A n cap) w := by
        have hnc : n ≤ cap := by rcases hown.form with ⟨_, h, h'⟩ | ⟨_, _, _, _, _, h, _⟩ <;> omega
        cases A with
        | none =>
          rcases hown.form with ⟨_, hn, hc⟩ | ⟨_, _, h, _⟩
          · subst hn hc
            simp [Builtin.append_, run_underlying ht, sizeOf, typeInfo, hi, Builtin.lenOf, Builtin.firstCells]
          · cases h
        | some a => simp [Builtin.append_, run_underlying ht, sizeOf, typeInfo, hi, Builtin.lenOf, Builtin.firstCells, hnc, storeCells]
      exact ⟨A, cap, w, hrun, by simpa using hown, Mod.refl w _, fun a' ha => .inl ⟨a', ha, rfl⟩⟩
    | some ad =>
      obtain ⟨v', w', hrun, h2, h3, _, h5⟩ := run_append_own_at (P := P) w base t ty e i z sz bytes ht hi hz hsize hby hzs hsz (.slice A n cap) n xs hown.row ad 0 c2 [] (by simp) (fun j u hu => by simp at hu) h1 h63 hbytes hbase
      obtain ⟨A', cap', rfl, hown2⟩ := Own.of_row h2
      refine ⟨A', cap', w', hrun, hown2, (Mod.of_grown h3).mono (fun k hk hk2 => ?_), ?_⟩
      · cases A with
        | none => simp [Value.ownBlock] at hk2
        | some a => exact ⟨a, rfl, by simpa [Value.ownBlock] using hk2⟩
      · rintro a' rfl
        rcases h5 with hat | hat
        · cases A with
          | none => simp [Value.ownBlock] at hat
          | some a => exact .inl ⟨a, rfl, by simpa [Value.ownBlock] using hat.symm⟩
        · refine .inr ?_
          simp [Value.ownBlock] at hat
          omega
  · obtain ⟨g, off, rfl, hg, hc⟩ := hr.2 h0
    obtain ⟨v', w', hrun, h2, h3, _, h5⟩ := run_append_own_at (P := P) w base t ty e i z sz bytes ht hi hz hsize hby hzs hsz (.slice A n cap) n xs hown.row ⟨g, off, none⟩ m c2 vs hr.1
      (fun j u hu => by
        have hadd : (⟨g, off, none⟩ : Addr).add j = ⟨g, off + j, none⟩ := by unfold Addr.add; split <;> simp_all
        rw [hadd]
        exact hc j u hu) h1 h63 hbytes hbase
    obtain ⟨A', cap', rfl, hown2⟩ := Own.of_row h2
    refine ⟨A', cap', w', hrun, hown2, (Mod.of_grown h3).mono (fun k hk hk2 => ?_), ?_⟩
    · cases A with
      | none => simp [Value.ownBlock] at hk2
      | some a => exact ⟨a, rfl, by simpa [Value.ownBlock] using hk2⟩
    · rintro a' rfl
      rcases h5 with hat | hat
      · cases A with
        | none => simp [Value.ownBlock] at hat
        | some a => exact .inl ⟨a, rfl, by simpa [Value.ownBlock] using hat.symm⟩
      · refine .inr ?_
        simp [Value.ownBlock] at hat
        omega

/-- 'append(s, x...)': what is behind it. -/
theorem append_rd {P : Program} {ops : Array Oper} {rest : List Oper} {o : Oper} {a : Act} {Q : Exit → Act → World → Prop} (hgd : o.guard = none) (s x : Operand) (t : TypeId)
    (ho : o.op = .call { callee := .builtin .append, args := #[s, x], argTypes := #[t, t] })
    (base : Nat) (e : TypeId) (i : TypeInfo) (z : Value) (sz bytes : Nat) (ht : P.underlying t = some (.slice e)) (hi : P.info? e = some i) (hz : i.zero = some z)
    (hsize : i.size = sz) (hby : i.bytes = bytes) (hzs : z.cells.size = sz) (hsz : 0 < sz)
    (A : Option Addr) (n cap : Nat) (xs : List Value) (hs : a.eval s = .slice A n cap) (hown : Own w base e sz A n cap xs)
    (A2 : Option Addr) (m c2 : Nat) (vs : List Value) (hx : a.eval x = .slice A2 m c2) (hr : Rd w sz A2 m vs) (h1 : ∀ u ∈ vs, u.oneCell' = true)
    (tot : Nat) (htot : n + m = tot) (ys : List Value) (hys : xs ++ vs = ys) (h63 : tot ≤ maxLen) (hbytes : tot * bytes ≤ 140737488355328) (hbase : base ≤ w.heap.size)
    (h : ∀ A' cap' w', Own w' base e sz A' tot cap' ys → Mod w w' (fun k => ∃ a, A = some a ∧ a.block = k) →
      (∀ a', A' = some a' → (∃ a, A = some a ∧ a.block = a'.block) ∨ w.heap.size ≤ a'.block) → wpList P ops Q rest (a.put o.dst (.slice A' tot cap')) w') :
    wpList P ops Q (o :: rest) a w := by
  subst htot hys
  refine wpList_plain hgd fun K hK => ?_
  obtain ⟨A', cap', w', hrun, h2, h3, h4⟩ := run_append_rd (P := P) base t o.type e i z sz bytes ht hi hz hsize hby hzs hsz hown A2 m c2 vs hr h1 h63 hbytes hbase
  unfold Oper.wp execOp
  simp only [ho, resolve, invoke, builtin, Sem.run_bind, Sem.run_pure, Result.andThen_ok, List.map_toArray, List.map_cons, List.map_nil, hs, hx, hrun]
  exact hK _ _ (h A' cap' w' h2 h3 h4)

/-- '[]T{}'. -/
theorem Own.empty (w : World) (base : Nat) (e : TypeId) (sz g : Nat) (hg : w.heap.size = g) (hb : base ≤ g) : Own (w.alloc (.cells #[] e)) base e sz (some ⟨g, 0, none⟩) 0 0 [] :=
  ⟨by simp, .inr ⟨g, #[], rfl, hb, by rw [← hg]; exact Blk.new w e #[], Nat.le_refl _, by unfold maxLen; omega, by simp, by simp⟩⟩
end
end Go.Proofs.YtcnjipicifkfjaaGreat
