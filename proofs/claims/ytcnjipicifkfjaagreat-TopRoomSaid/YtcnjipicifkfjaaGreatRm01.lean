/- Words on memory: a block that is known whole; worlds that differ in one block and in new ones. -/
import Derived.Below
import Derived.Laws.OwnMore
import Derived.Deep.AppendLies
import Derived.Deep.Draws
import Derived.Deep.OwnRows
import Derived.Laws.Rows
import Derived.OwnWalk
import Derived.Lib.Hide
import Derived.Deep.QuietTactic
import Derived.Maps.AppendAt
import Derived.WalkSmall

namespace Go.Proofs.YtcnjipicifkfjaaGreat
open Go.RowKit

theorem ret_int {k : IntKind} {a b : Int} (h : a = b) : Ending.returned (.int k a) = .returned (.int k b) := by rw [h]
theorem ret_bool {a b : Bool} (h : a = b) : Ending.returned (.bool a) = .returned (.bool b) := by rw [h]
/-- Block g is just these cells of element type t; none is frozen. -/
def Blk (w : World) (g : Nat) (t : TypeId) (cs : Array Value) : Prop := w.heap[g]? = some (.cells cs t (0, 0))

section
variable {w w' : World} {g : Nat} {t : TypeId} {cs : Array Value}
theorem Blk.lt (h : Blk w g t cs) : g < w.heap.size := by
  rcases Nat.lt_or_ge g w.heap.size with hlt | hge
  · exact hlt
  · unfold Blk at h; rw [Array.getElem?_eq_none hge] at h; cases h
theorem Blk.cell (h : Blk w g t cs) (i : Nat) : w.cell? ⟨g, i, none⟩ = cs[i]? := cell_of_row w g i cs t (0, 0) h
theorem Blk.frozen (h : Blk w g t cs) (i : Nat) : w.frozen? ⟨g, i, none⟩ = false := by
  unfold Blk at h
  simp [World.frozen?, h]
theorem Blk.new (w : World) (t : TypeId) (cs : Array Value) : Blk (w.alloc (.cells cs t)) w.heap.size t cs := heap_alloc_new w _
theorem Blk.drew (h : Blk w g t cs) : Blk w.drew g t cs := h
theorem Blk.drewN (h : Blk w g t cs) (n : Nat) : Blk (w.drewN n) g t cs := h
theorem Blk.alloc (h : Blk w g t cs) (o : Obj) : Blk (w.alloc o) g t cs := (Below.heap_alloc w o g h.lt).trans h
theorem Blk.set_ (h : Blk w g t cs) (i : Nat) (u : Value) : Blk (w.setCell ⟨g, i, none⟩ u) g t (cs.setIfInBounds i u) := by
  unfold Blk at h ⊢
  simp [World.setCell, Array.getElem?_modify, h]
theorem Blk.far (h : Blk w g t cs) {p : Addr} (hp : g ≠ p.block) (u : Value) : Blk (w.setCell p u) g t cs := (Below.heap_setCell w p u g hp).trans h
theorem Blk.below {B : Nat} (h : Blk w g t cs) (hb : Below B w w') (hg : g < B) : Blk w' g t cs := (hb.block g hg).trans h
end

theorem Blk.conv {w : World} {g : Nat} {t : TypeId} {cs cs' : Array Value} (h : Blk w g t cs) (e : cs = cs') : Blk w g t cs' := e ▸ h

theorem below_drewN {B : Nat} {a w : World} (h : Below B a w) (n : Nat) : Below B a (w.drewN n) := ⟨h.os, h.tape, h.output, h.size, h.block⟩

theorem only_refl (a : World) (row : Option Nat) : a.grownBy a row := World.grownBy.refl a row
theorem only_set {a w : World} {g : Nat} (h : a.grownBy w (some g)) {p : Addr} (hp : p.block = g ∨ a.heap.size ≤ p.block) (u : Value) : a.grownBy (w.setCell p u) (some g) :=
  ⟨h.os, h.tape, h.output, by simpa [World.setCell] using h.size, fun i hi hne => (Below.heap_setCell w p u i (by
    rintro rfl
    rcases hp with hp | hp
    · exact hne (by rw [hp])
    · omega)).trans (h.block i hi hne)⟩
theorem below_only {B : Nat} {a b c : World} {g : Nat} (h : Below B a b) (k : b.grownBy c (some g)) (hB : B ≤ b.heap.size) (hg : B ≤ g) : Below B a c :=
  h.trans ⟨k.os, k.tape, k.output, k.size, fun i hi => k.block i (by omega) (fun e => by injection e; omega)⟩
/-- Six cells stored from a block's head on. -/
def store6 (w : World) (g : Nat) (a0 a1 a2 a3 a4 a5 : Value) : World :=
  (((((w.setCell ⟨g, 0, none⟩ a0).setCell ⟨g, 1, none⟩ a1).setCell ⟨g, 2, none⟩ a2).setCell ⟨g, 3, none⟩ a3).setCell ⟨g, 4, none⟩ a4).setCell ⟨g, 5, none⟩ a5
/-- Three cells stored from a block's head on. -/
def store3 (w : World) (g : Nat) (a0 a1 a2 : Value) : World := ((w.setCell ⟨g, 0, none⟩ a0).setCell ⟨g, 1, none⟩ a1).setCell ⟨g, 2, none⟩ a2
theorem Blk.store3 {w : World} {g : Nat} {t : TypeId} {b0 b1 b2 : Value} (h : Blk w g t #[b0, b1, b2]) (a0 a1 a2 : Value) : Blk (store3 w g a0 a1 a2) g t #[a0, a1, a2] := by
  unfold Go.Proofs.YtcnjipicifkfjaaGreat.store3
  refine Blk.conv (Blk.set_ (Blk.set_ (Blk.set_ h 0 _) 1 _) 2 _) ?_
  simp
theorem only_store3 (w : World) (g : Nat) (a0 a1 a2 : Value) : w.grownBy (store3 w g a0 a1 a2) (some g) := by
  unfold Go.Proofs.YtcnjipicifkfjaaGreat.store3
  repeat (first | with_reducible exact only_refl _ _ | with_reducible refine only_set ?_ (.inl rfl) _)
theorem all3 {w : World} {g : Nat} {t : TypeId} {a0 a1 a2 : Value} (h : Blk w g t #[a0, a1, a2]) :
    w.cell? ⟨g, 0, none⟩ = some a0 ∧ w.cell? ⟨g, 1, none⟩ = some a1 ∧ w.cell? ⟨g, 2, none⟩ = some a2 ∧
    w.frozen? ⟨g, 0, none⟩ = false ∧ w.frozen? ⟨g, 1, none⟩ = false ∧ w.frozen? ⟨g, 2, none⟩ = false :=
  ⟨h.cell 0, h.cell 1, h.cell 2, h.frozen 0, h.frozen 1, h.frozen 2⟩
end Go.Proofs.YtcnjipicifkfjaaGreat

/- Frames by a set of blocks; rows that the call owns; append of one element. -/
namespace Go.Proofs.YtcnjipicifkfjaaGreat
open Go.RowKit

/-- From w to w' only the blocks of S, and new ones, have changed. -/
structure Mod (w w' : World) (S : Nat → Prop) : Prop where
  os : w'.os = w.os
  tape : w'.tape = w.tape
  output : w'.output = w.output
  size : w.heap.size ≤ w'.heap.size
  block : ∀ k, k < w.heap.size → ¬ S k → w'.heap[k]? = w.heap[k]?

section
variable {w w' w'' : World} {S S' : Nat → Prop} {g : Nat} {t : TypeId} {cs : Array Value}
theorem Mod.refl (w : World) (S : Nat → Prop) : Mod w w S := ⟨rfl, rfl, rfl, Nat.le_refl _, fun _ _ _ => rfl⟩
theorem Mod.of_grown {row : Option Nat} (h : w.grownBy w' row) : Mod w w' (fun k => row = some k) := ⟨h.os, h.tape, h.output, h.size, fun k hk hn => h.block k hk (fun e => hn e.symm)⟩
theorem Mod.of_below {B : Nat} (h : Below B w w') : Mod w w' (fun k => B ≤ k) := ⟨h.os, h.tape, h.output, h.size, fun k _ hn => h.block k (by omega)⟩
theorem Mod.mono (h : Mod w w' S) (hs : ∀ k, k < w.heap.size → S k → S' k) : Mod w w' S' := ⟨h.os, h.tape, h.output, h.size, fun k hk hn => h.block k hk (fun e => hn (hs k hk e))⟩
theorem Mod.trans (h : Mod w w' S) (h' : Mod w' w'' S') (hs : ∀ k, k < w.heap.size → S' k → S k) : Mod w w'' S :=
  ⟨h'.os.trans h.os, h'.tape.trans h.tape, h'.output.trans h.output, Nat.le_trans h.size h'.size, fun k hk hn =>
    (h'.block k (Nat.lt_of_lt_of_le hk h.size) (fun e => hn (hs k hk e))).trans (h.block k hk hn)⟩
theorem Mod.alloc (h : Mod w w' S) (o : Obj) : Mod w (w'.alloc o) S :=
  ⟨h.os, h.tape, h.output, Nat.le_trans h.size (by simp), fun k hk hn => (Below.heap_alloc w' o k (Nat.lt_of_lt_of_le hk h.size)).trans (h.block k hk hn)⟩
theorem Mod.drewN (h : Mod w w' S) (n : Nat) : Mod w (w'.drewN n) S := ⟨h.os, h.tape, h.output, h.size, h.block⟩
theorem Mod.set (h : Mod w w' S) {p : Addr} (hp : w.heap.size ≤ p.block ∨ S p.block) (u : Value) : Mod w (w'.setCell p u) S :=
  ⟨h.os, h.tape, h.output, by simpa [World.setCell] using h.size, fun k hk hn => (Below.heap_setCell w' p u k (by
    rintro rfl
    rcases hp with hp | hp
    · omega
    · exact hn hp)).trans (h.block k hk hn)⟩
theorem Mod.blk (h : Mod w w' S) (hb : Blk w g t cs) (hg : ¬ S g) : Blk w' g t cs := (h.block g hb.lt hg).trans hb
theorem Mod.below {B : Nat} (h : Mod w w' S) (hB : B ≤ w.heap.size) (hs : ∀ k, S k → B ≤ k) : Below B w w' := ⟨h.os, h.tape, h.output, h.size, fun k hk => h.block k (by omega) (fun e => by have := hs k e; omega)⟩
theorem Below.mod {B : Nat} {a : World} (h : Below B a w) (k : Mod w w' S) (hB : B ≤ w.heap.size) (hs : ∀ k, k < w.heap.size → S k → B ≤ k) : Below B a w' :=
  h.trans ⟨k.os, k.tape, k.output, k.size, fun i hi => k.block i (by omega) (fun e => by have := hs i (by omega) e; omega)⟩
end

/-- The row that a slice value lies in is not block g. -/
def off_ (A : Option Addr) (g : Nat) : Prop := ∀ a, A = some a → a.block ≠ g

/-- A slice value whose row the call owns: A, length, capacity; its elements' cells xs; e: the element's type. -/
structure Own (w : World) (base : Nat) (e : TypeId) (size : Nat) (A : Option Addr) (n cap : Nat) (xs : List Value) : Prop where
  len : xs.length = n * size
  form : (A = none ∧ n = 0 ∧ cap = 0) ∨ ∃ g cur, A = some ⟨g, 0, none⟩ ∧ base ≤ g ∧ Blk w g e cur ∧ n ≤ cap ∧ cap ≤ maxLen ∧ cur.size = cap * size ∧ cur.toList.take (n * size) = xs

section
variable {w w' : World} {base n cap size : Nat} {e : TypeId} {A : Option Addr} {xs : List Value} {S : Nat → Prop}
theorem Own.row (h : Own w base e size A n cap xs) : w.ownsRow base e size (.slice A n cap) n xs := by
  refine ⟨h.len, ?_⟩
  rcases h.form with ⟨rfl, rfl, rfl⟩ | ⟨g, cur, rfl, h1, h2, h3, h4, h5, h6⟩
  · exact .inl ⟨rfl, rfl⟩
  · exact .inr ⟨g, cap, cur, rfl, h1, h2, h3, h4, h5, h6⟩
theorem Own.of_row {v : Value} (h : w.ownsRow base e size v n xs) : ∃ A cap, v = .slice A n cap ∧ Own w base e size A n cap xs := by
  rcases h.2 with ⟨rfl, rfl⟩ | ⟨g, cap, cur, rfl, h1, h2, h3, h4, h5, h6⟩
  · exact ⟨none, 0, rfl, h.1, .inl ⟨rfl, rfl, rfl⟩⟩
  · exact ⟨_, cap, rfl, h.1, .inr ⟨g, cur, rfl, h1, h2, h3, h4, h5, h6⟩⟩
theorem Own.nil (w : World) (base : Nat) (e : TypeId) (size : Nat) : Own w base e size none 0 0 [] := ⟨by simp, .inl ⟨rfl, rfl, rfl⟩⟩
theorem Own.lt (h : Own w base e size A n cap xs) : ∀ a, A = some a → base ≤ a.block ∧ a.block < w.heap.size := by
  rintro a rfl
  rcases h.form with ⟨h1, _⟩ | ⟨g, cur, h0, h1, h2, _⟩
  · cases h1
  · cases h0
    exact ⟨h1, h2.lt⟩
theorem Own.mod (h : Own w base e size A n cap xs) (m : Mod w w' S) (hs : ∀ a, A = some a → ¬ S a.block) : Own w' base e size A n cap xs := by
  refine ⟨h.len, ?_⟩
  rcases h.form with h0 | ⟨g, cur, rfl, h1, h2, h3⟩
  · exact .inl h0
  · exact .inr ⟨g, cur, rfl, h1, m.blk h2 (hs _ rfl), h3⟩
theorem Own.drewN (h : Own w base e size A n cap xs) (k : Nat) : Own (w.drewN k) base e size A n cap xs := ⟨h.len, h.form⟩
theorem Own.alloc (h : Own w base e size A n cap xs) (o : Obj) : Own (w.alloc o) base e size A n cap xs :=
  h.mod ((Mod.refl w (fun _ => False)).alloc o) (fun _ _ h => h)
theorem Own.below {B : Nat} (h : Own w base e size A n cap xs) (hb : Below B w w') (hB : w.heap.size ≤ B) : Own w' base e size A n cap xs :=
  h.mod (Mod.of_below hb) (fun a ha hs => by have := (h.lt a ha).2; omega)
theorem Own.base_ {base' : Nat} (h : Own w base e size A n cap xs) (hb : base' ≤ base) : Own w base' e size A n cap xs := by
  refine ⟨h.len, ?_⟩
  rcases h.form with h0 | ⟨g, cur, rfl, h1, h3⟩
  · exact .inl h0
  · exact .inr ⟨g, cur, rfl, by omega, h3⟩
/-- A row of another element's type lies elsewhere. -/
theorem Own.ne {g : Nat} {t : TypeId} {cs : Array Value} (h : Own w base e size A n cap xs) (hb : Blk w g t cs) (hne : e ≠ t) : ∀ a, A = some a → a.block ≠ g := by
  rintro a rfl rfl
  rcases h.form with ⟨h1, _⟩ | ⟨g, cur, h0, h1, h2, _⟩
  · cases h1
  · cases h0
    unfold Blk at h2 hb
    rw [h2] at hb
    injection hb with hb
    injection hb with _ ht
    exact hne ht
theorem Own.at_ (h : Own w base e size A n cap xs) (hn : 0 < n) : ∃ g, A = some ⟨g, 0, none⟩ ∧ base ≤ g ∧ g < w.heap.size ∧ n ≤ cap ∧ cap ≤ maxLen ∧
    (∀ j u, xs[j]? = some u → w.cell? ⟨g, j, none⟩ = some u) ∧ ∀ j, w.frozen? ⟨g, j, none⟩ = false := by
  rcases h.form with ⟨_, h1, _⟩ | ⟨g, cur, rfl, h1, h2, h3, h4, h5, h6⟩
  · omega
  · refine ⟨g, rfl, h1, h2.lt, h3, h4, fun j u hu => ?_, fun j => h2.frozen j⟩
    rw [h2.cell j]
    rw [← h6, List.getElem?_take] at hu
    split at hu
    · simpa using hu
    · cases hu
/-- A cut at the front's end: 's[:k]'. -/
theorem Own.cut (h : Own w base e size A n cap xs) {k : Nat} (hk : k ≤ n) : Own w base e size A k cap (xs.take (k * size)) := by
  refine ⟨by rw [List.length_take, h.len]; exact Nat.min_eq_left (Nat.mul_le_mul_right _ hk), ?_⟩
  rcases h.form with ⟨h0, h1, h2⟩ | ⟨g, cur, rfl, h1, h2, h3, h4, h5, h6⟩
  · exact .inl ⟨h0, by omega, h2⟩
  · refine .inr ⟨g, cur, rfl, h1, h2, by omega, h4, h5, ?_⟩
    rw [← h6, List.take_take, Nat.min_eq_left (Nat.mul_le_mul_right _ hk)]

/-- A cell of a row stored over. -/
theorem Own.set_ {g : Nat} (h : Own w base e size (some ⟨g, 0, none⟩) n cap xs) {j : Nat} (hj : j < n * size) (u : Value) :
    Own (w.setCell ⟨g, j, none⟩ u) base e size (some ⟨g, 0, none⟩) n cap (xs.set j u) := by
  refine ⟨by rw [List.length_set]; exact h.len, ?_⟩
  rcases h.form with ⟨h0, _⟩ | ⟨g', cur, h0, h1, h2, h3, h4, h5, h6⟩
  · cases h0
  · cases h0
    refine .inr ⟨g, cur.setIfInBounds j u, rfl, h1, h2.set_ j u, h3, h4, by simpa using h5, ?_⟩
    rw [← h6]
    apply List.ext_getElem?
    intro i
    simp only [Array.toList_setIfInBounds, List.getElem?_take, List.getElem?_set, List.length_take, Array.length_toList]
    have hle : n * size ≤ cap * size := Nat.mul_le_mul_right _ h3
    by_cases hij : j = i
    · subst hij
      rw [if_pos hj, if_pos rfl, if_pos rfl, if_pos (by omega), if_pos (by rw [Nat.min_def]; split <;> omega)]
    · rw [if_neg hij, if_neg hij]

/-- 'append(s, x)': what is behind it. -/
theorem append_one {P : Program} {ops : Array Oper} {rest : List Oper} {o : Oper} {a : Act} {Q : Exit → Act → World → Prop} (hgd : o.guard = none) (s x : Operand) (t : TypeId)
    (ho : o.op = .call { callee := .builtin .append, args := #[s, x], argTypes := #[t, t] })
    (base : Nat) (e : TypeId) (i : TypeInfo) (z : Value) (bytes : Nat) (ht : P.underlying t = some (.slice e)) (hi : P.info? e = some i) (hz : i.zero = some z)
    (hsize : i.size = 1) (hby : i.bytes = bytes) (hzs : z.cells.size = 1)
    (A : Option Addr) (n cap : Nat) (xs : List Value) (hs : a.eval s = .slice A n cap) (hown : Own w base e 1 A n cap xs) (u : Value)
    (hx : a.eval x = .slice (some ⟨w.heap.size, 0, none⟩) 1 1) (h1 : u.oneCell' = true)
    (h63 : n + 1 ≤ maxLen) (hbytes : (n + 1) * bytes ≤ 140737488355328) (hbase : base ≤ w.heap.size)
    (h : ∀ A' cap' w', Own w' base e 1 A' (n + 1) cap' (xs ++ [u]) → Mod w w' (fun k => ∃ a, A = some a ∧ a.block = k) →
      (∀ a', A' = some a' → (∃ a, A = some a ∧ a.block = a'.block) ∨ w.heap.size ≤ a'.block) → wpList P ops Q rest (a.put o.dst (.slice A' (n + 1) cap')) w') :
    wpList P ops Q (o :: rest) a (w.alloc (.cells #[u] e)) := by
  refine wpList_append_own_at (w.alloc (.cells #[u] e)) hgd s x t ho base e i z 1 bytes ht hi hz hsize hby hzs (by omega) (.slice A n cap) n xs hs (hown.alloc _).row
    ⟨w.heap.size, 0, none⟩ 1 1 [u] hx (by simp) (cell_one_new _ _ _) (by simpa using h1) h63 hbytes (by simp; omega) ?_
  intro v' w' hown' hg _ hat
  obtain ⟨A', cap', rfl, hown2⟩ := Own.of_row hown'
  refine h A' cap' w' hown2 ?_ ?_
  · refine ((Mod.refl w _).alloc (.cells #[u] e)).trans (Mod.of_grown hg) ?_
    intro k hk hk2
    cases A with
    | none => simp [Value.ownBlock] at hk2
    | some a => exact ⟨a, rfl, by simpa [Value.ownBlock] using hk2⟩
  · rintro a' rfl
    rcases hat with hat | hat
    · cases A with
      | none => simp [Value.ownBlock] at hat
      | some a => exact .inl ⟨a, rfl, by simpa [Value.ownBlock] using hat.symm⟩
    · refine .inr ?_
      simp [Value.ownBlock] at hat
      omega
/-- 'append(s, x)', x of several cells: what is behind it. -/
theorem append_elem {P : Program} {ops : Array Oper} {rest : List Oper} {o : Oper} {a : Act} {Q : Exit → Act → World → Prop} (hgd : o.guard = none) (s x : Operand) (t : TypeId)
    (ho : o.op = .call { callee := .builtin .append, args := #[s, x], argTypes := #[t, t] })
    (base : Nat) (e : TypeId) (i : TypeInfo) (z : Value) (sz bytes : Nat) (ht : P.underlying t = some (.slice e)) (hi : P.info? e = some i) (hz : i.zero = some z)
    (hsize : i.size = sz) (hby : i.bytes = bytes) (hzs : z.cells.size = sz) (hsz : 0 < sz)
    (A : Option Addr) (n cap : Nat) (xs : List Value) (hs : a.eval s = .slice A n cap) (hown : Own w base e sz A n cap xs) (us : List Value) (hus : us.length = sz)
    (hx : a.eval x = .slice (some ⟨w.heap.size, 0, none⟩) 1 1) (h1 : ∀ u ∈ us, u.oneCell' = true)
    (h63 : n + 1 ≤ maxLen) (hbytes : (n + 1) * bytes ≤ 140737488355328) (hbase : base ≤ w.heap.size)
    (h : ∀ A' cap' w', Own w' base e sz A' (n + 1) cap' (xs ++ us) → Mod w w' (fun k => ∃ a, A = some a ∧ a.block = k) →
      (∀ a', A' = some a' → (∃ a, A = some a ∧ a.block = a'.block) ∨ w.heap.size ≤ a'.block) → wpList P ops Q rest (a.put o.dst (.slice A' (n + 1) cap')) w') :
    wpList P ops Q (o :: rest) a (w.alloc (.cells us.toArray e)) := by
  refine wpList_append_own_at (w.alloc (.cells us.toArray e)) hgd s x t ho base e i z sz bytes ht hi hz hsize hby hzs hsz (.slice A n cap) n xs hs (hown.alloc _).row
    ⟨w.heap.size, 0, none⟩ 1 1 us hx (by omega) (fun j u hu => ?_) h1 h63 hbytes (by simp; omega) ?_
  · have hadd : (⟨w.heap.size, 0, none⟩ : Addr).add j = ⟨w.heap.size, j, none⟩ := by unfold Addr.add; split <;> simp_all
    rw [hadd, (Blk.new w e us.toArray).cell j]
    simpa using hu
  intro v' w' hown' hg _ hat
  obtain ⟨A', cap', rfl, hown2⟩ := Own.of_row hown'
  refine h A' cap' w' hown2 ?_ ?_
  · refine ((Mod.refl w _).alloc (.cells us.toArray e)).trans (Mod.of_grown hg) ?_
    intro k hk hk2
    cases A with
    | none => simp [Value.ownBlock] at hk2
    | some a => exact ⟨a, rfl, by simpa [Value.ownBlock] using hk2⟩
  · rintro a' rfl
    rcases hat with hat | hat
    · cases A with
      | none => simp [Value.ownBlock] at hat
      | some a => exact .inl ⟨a, rfl, by simpa [Value.ownBlock] using hat.symm⟩
    · refine .inr ?_
      simp [Value.ownBlock] at hat
      omega
/-- A slice that can be read: its cells' values. -/
def Rd (w : World) (sz : Nat) (A : Option Addr) (n : Nat) (vs : List Value) : Prop :=
  vs.length = n * sz ∧ (0 < n → ∃ g off, A = some ⟨g, off, none⟩ ∧ g < w.heap.size ∧ ∀ j u, vs[j]? = some u → w.cell? ⟨g, off + j, none⟩ = some u)
theorem Own.rd (h : Own w base e size A n cap xs) : Rd w size A n xs := ⟨h.len, fun hn => by
  obtain ⟨g, rfl, _, hg, _, _, hc, _⟩ := h.at_ hn
  exact ⟨g, 0, rfl, hg, fun j u hu => by rw [Nat.zero_add]; exact hc j u hu⟩⟩
theorem Rd.mod {sz : Nat} {vs : List Value} (h : Rd w sz A n vs) (m : Mod w w' S) (hs : ∀ a, A = some a → ¬ S a.block) : Rd w' sz A n vs := ⟨h.1, fun hn => by
  obtain ⟨g, off, rfl, hg, hc⟩ := h.2 hn
  exact ⟨g, off, rfl, Nat.lt_of_lt_of_le hg m.size, fun j u hu => (World.cell?_of_block (a := ⟨g, off + j, none⟩) (m.block g hg (hs _ rfl))).trans (hc j u hu)⟩⟩
theorem Rd.below {sz B : Nat} {vs : List Value} (h : Rd w sz A n vs) (hb : Below B w w') (hB : w.heap.size ≤ B) : Rd w' sz A n vs := ⟨h.1, fun hn => by
  obtain ⟨g, off, rfl, hg, hc⟩ := h.2 hn
  exact ⟨g, off, rfl, Nat.lt_of_lt_of_le hg hb.size, fun j u hu => (hb.cell (p := ⟨g, off + j, none⟩) (Nat.lt_of_lt_of_le hg hB)).trans (hc j u hu)⟩⟩
theorem Rd.drewN {sz : Nat} {vs : List Value} (h : Rd w sz A n vs) (k : Nat) : Rd (w.drewN k) sz A n vs := h
theorem Rd.alloc {sz : Nat} {vs : List Value} (h : Rd w sz A n vs) (o : Obj) : Rd (w.alloc o) sz A n vs :=
  h.below ((Below.refl w.heap.size w).alloc (Nat.le_refl _) o) (Nat.le_refl _)
theorem Rd.nil (w : World) (sz : Nat) (A : Option Addr) : Rd w sz A 0 [] := ⟨by simp, fun h => absurd h (by omega)⟩
theorem run_append_rd {P : Program} (base : Nat) (t ty e : TypeId) (i : TypeInfo) (z : Value) (sz bytes : Nat) (ht : P.underlying t = some (.slice e)) (hi : P.info? e = some i) (hz : i.zero = some z)
    (hsize : i.size = sz) (hby : i.bytes = bytes) (hzs : z.cells.size = sz) (hsz : 0 < sz) (hown : Own w base e sz A n cap xs)
    (A2 : Option Addr) (m c2 : Nat) (vs : List Value) (hr : Rd w sz A2 m vs) (h1 : ∀ u ∈ vs, u.oneCell' = true) (h63 : n + m ≤ maxLen) (hbytes : (n + m) * bytes ≤ 140737488355328) (hbase : base ≤ w.heap.size) :
    ∃ A' cap' w', (Builtin.append_ #[t, t] ty #[.slice A n cap, .slice A2 m c2]).run P w = .ok (.slice A' (n + m) cap') w' ∧ Own w' base e sz A' (n + m) cap' (xs ++ vs) ∧
      Mod w w' (fun k => ∃ a, A = some a ∧ a.block = k) ∧ (∀ a', A' = some a' → (∃ a, A = some a ∧ a.block = a'.block) ∨ w.heap.size ≤ a'.block) := by
  rcases Nat.eq_zero_or_pos m with h0 | h0
  · subst h0
    have hv : vs = [] := List.eq_nil_of_length_eq_zero (by simpa using hr.1)
    subst hv
    cases A2 with
    | none =>
      have hrun : (Builtin.append_ #[t, t] ty #[.slice A n cap, .slice none 0 c2]).run P w = .ok (.slice A n cap) w := by
        have hnc : n ≤ cap := by rcases hown.form with ⟨_, h, h'⟩ | ⟨_, _, _, _, _, h, _⟩ <;> omega
        cases A with
        | none =>
          rcases hown.form with ⟨_, hn, hc⟩ | ⟨_, _, h, _⟩
          · subst hn hc
            simp [Builtin.append_, run_underlying ht, sizeOf, typeInfo, hi, Builtin.lenOf, Builtin.firstCells]
          · cases h
        | some a => simp [Builtin.append_, run_underlying ht, sizeOf, typeInfo, hi, Builtin.lenOf, Builtin.firstCells, hnc, storeCells]
      exact ⟨A, cap, w, hrun, by simpa using hown, Mod.refl w _, fun a' ha => .inl ⟨a', ha, rfl⟩⟩
    | some ad =>
      obtain ⟨v', w', hrun, h2, h3, _, h5⟩ := run_append_own_at (P := P) w base t ty e i z sz bytes ht hi hz hsize hby hzs hsz (.slice A n cap) n xs hown.row ad 0 c2 [] (by simp) (fun j u hu => by simp at hu) h1 h63 hbytes hbase
      obtain ⟨A', cap', rfl, hown2⟩ := Own.of_row h2
      refine ⟨A', cap', w', hrun, hown2, (Mod.of_grown h3).mono (fun k hk hk2 => ?_), ?_⟩
      · cases A with
        | none => simp [Value.ownBlock] at hk2
        | some a => exact ⟨a, rfl, by simpa [Value.ownBlock] using hk2⟩
      · rintro a' rfl
        rcases h5 with hat | hat
        · cases A with
          | none => simp [Value.ownBlock] at hat
          | some a => exact .inl ⟨a, rfl, by simpa [Value.ownBlock] using hat.symm⟩
        · refine .inr ?_
          simp [Value.ownBlock] at hat
          omega
  · obtain ⟨g, off, rfl, hg, hc⟩ := hr.2 h0
    obtain ⟨v', w', hrun, h2, h3, _, h5⟩ := run_append_own_at (P := P) w base t ty e i z sz bytes ht hi hz hsize hby hzs hsz (.slice A n cap) n xs hown.row ⟨g, off, none⟩ m c2 vs hr.1
      (fun j u hu => by
        have hadd : (⟨g, off, none⟩ : Addr).add j = ⟨g, off + j, none⟩ := by unfold Addr.add; split <;> simp_all
        rw [hadd]
        exact hc j u hu) h1 h63 hbytes hbase
    obtain ⟨A', cap', rfl, hown2⟩ := Own.of_row h2
    refine ⟨A', cap', w', hrun, hown2, (Mod.of_grown h3).mono (fun k hk hk2 => ?_), ?_⟩
    · cases A with
      | none => simp [Value.ownBlock] at hk2
      | some a => exact ⟨a, rfl, by simpa [Value.ownBlock] using hk2⟩
    · rintro a' rfl
      rcases h5 with hat | hat
      · cases A with
        | none => simp [Value.ownBlock] at hat
        | some a => exact .inl ⟨a, rfl, by simpa [Value.ownBlock] using hat.symm⟩
      · refine .inr ?_
        simp [Value.ownBlock] at hat
        omega

/-- 'append(s, x...)': what is behind it. -/
theorem append_rd {P : Program} {ops : Array Oper} {rest : List Oper} {o : Oper} {a : Act} {Q : Exit → Act → World → Prop} (hgd : o.guard = none) (s x : Operand) (t : TypeId)
    (ho : o.op = .call { callee := .builtin .append, args := #[s, x], argTypes := #[t, t] })
    (base : Nat) (e : TypeId) (i : TypeInfo) (z : Value) (sz bytes : Nat) (ht : P.underlying t = some (.slice e)) (hi : P.info? e = some i) (hz : i.zero = some z)
    (hsize : i.size = sz) (hby : i.bytes = bytes) (hzs : z.cells.size = sz) (hsz : 0 < sz)
    (A : Option Addr) (n cap : Nat) (xs : List Value) (hs : a.eval s = .slice A n cap) (hown : Own w base e sz A n cap xs)
    (A2 : Option Addr) (m c2 : Nat) (vs : List Value) (hx : a.eval x = .slice A2 m c2) (hr : Rd w sz A2 m vs) (h1 : ∀ u ∈ vs, u.oneCell' = true)
    (tot : Nat) (htot : n + m = tot) (ys : List Value) (hys : xs ++ vs = ys) (h63 : tot ≤ maxLen) (hbytes : tot * bytes ≤ 140737488355328) (hbase : base ≤ w.heap.size)
    (h : ∀ A' cap' w', Own w' base e sz A' tot cap' ys → Mod w w' (fun k => ∃ a, A = some a ∧ a.block = k) →
      (∀ a', A' = some a' → (∃ a, A = some a ∧ a.block = a'.block) ∨ w.heap.size ≤ a'.block) → wpList P ops Q rest (a.put o.dst (.slice A' tot cap')) w') :
    wpList P ops Q (o :: rest) a w := by
  subst htot hys
  refine wpList_plain hgd fun K hK => ?_
  obtain ⟨A', cap', w', hrun, h2, h3, h4⟩ := run_append_rd (P := P) base t o.type e i z sz bytes ht hi hz hsize hby hzs hsz hown A2 m c2 vs hr h1 h63 hbytes hbase
  unfold Oper.wp execOp
  simp only [ho, resolve, invoke, builtin, Sem.run_bind, Sem.run_pure, Result.andThen_ok, List.map_toArray, List.map_cons, List.map_nil, hs, hx, hrun]
  exact hK _ _ (h A' cap' w' h2 h3 h4)

/-- '[]T{}'. -/
theorem Own.empty (w : World) (base : Nat) (e : TypeId) (sz g : Nat) (hg : w.heap.size = g) (hb : base ≤ g) : Own (w.alloc (.cells #[] e)) base e sz (some ⟨g, 0, none⟩) 0 0 [] :=
  ⟨by simp, .inr ⟨g, #[], rfl, hb, by rw [← hg]; exact Blk.new w e #[], Nat.le_refl _, by unfold maxLen; omega, by simp, by simp⟩⟩
end
end Go.Proofs.YtcnjipicifkfjaaGreat

/- Blocks of a call's own, kept in one word; what else it may have changed. -/
namespace Go.Proofs.YtcnjipicifkfjaaGreat
open Go.RowKit
set_option linter.unusedVariables false

/-- From w0 to w only blocks of S, and new ones, have changed; these new ones are known. -/
structure Loc (S : Nat → Prop) (w0 w : World) (l : List (Nat × TypeId × Array Value)) : Prop where
  be : Mod w0 w S
  at_ : ∀ x ∈ l, Blk w x.1 x.2.1 x.2.2 ∧ w0.heap.size ≤ x.1
  ne : l.Pairwise (fun x y => x.1 ≠ y.1)
def Nob (_ : Nat) : Prop := False
section
variable {S S' : Nat → Prop} {w0 w w' : World} {l : List (Nat × TypeId × Array Value)} {a a2 : Nat × TypeId × Array Value} {n : Nat} {t : TypeId} {cs cs' : Array Value}
theorem Loc.nil (S : Nat → Prop) (w : World) : Loc S w w [] := ⟨Mod.refl w S, fun x hx => absurd hx List.not_mem_nil, List.Pairwise.nil⟩
theorem Loc.below (h : Loc Nob w0 w l) : Below w0.heap.size w0 w := h.be.below (Nat.le_refl _) (fun k hk => hk.elim)
theorem Loc.call {B : Nat} (h : Loc S w0 w l) (hb : Below B w w') (hB : w.heap.size ≤ B) : Loc S w0 w' l :=
  ⟨h.be.trans (Mod.of_below hb) (fun k hk hk2 => by have := h.be.size; omega), fun x hx => ⟨(h.at_ x hx).1.below hb (Nat.lt_of_lt_of_le (h.at_ x hx).1.lt hB), (h.at_ x hx).2⟩, h.ne⟩
theorem Loc.eff (h : Loc S w0 w l) (hm : Mod w w' S') (hs : ∀ k, S' k → S k ∧ k < w0.heap.size) : Loc S w0 w' l :=
  ⟨h.be.trans hm (fun k _ hk => (hs k hk).1), fun x hx => ⟨hm.blk (h.at_ x hx).1 (fun e => by have := (hs _ e).2; have := (h.at_ x hx).2; omega), (h.at_ x hx).2⟩, h.ne⟩
/-- A call that changes what is not the caller's own. -/
theorem Loc.effNew (h : Loc S w0 w l) (hm : Mod w w' S') (hs : ∀ k, k < w.heap.size → S' k → (S k ∧ k < w0.heap.size) ∨ (w0.heap.size ≤ k ∧ ∀ x ∈ l, x.1 ≠ k)) : Loc S w0 w' l :=
  ⟨h.be.trans hm (fun k hk hk2 => by
      rcases hs k (Nat.lt_of_lt_of_le hk h.be.size) hk2 with h1 | h1
      · exact h1.1
      · omega), fun x hx => ⟨hm.blk (h.at_ x hx).1 (fun e => by
      rcases hs _ (h.at_ x hx).1.lt e with h1 | h1
      · have := h1.2; have := (h.at_ x hx).2; omega
      · exact h1.2 x hx rfl), (h.at_ x hx).2⟩, h.ne⟩
theorem Loc.drew (h : Loc S w0 w l) : Loc S w0 w.drew l := ⟨h.be.drewN 1, h.at_, h.ne⟩
theorem Loc.drewN (h : Loc S w0 w l) (k : Nat) : Loc S w0 (w.drewN k) l := ⟨h.be.drewN k, h.at_, h.ne⟩
theorem Loc.alloc (h : Loc S w0 w l) (o : Go.Obj) : Loc S w0 (w.alloc o) l := h.call ((Below.refl w.heap.size w).alloc (Nat.le_refl _) o) (Nat.le_refl _)
theorem Loc.box (h : Loc S w0 w l) (t : TypeId) (cs : Array Value) (N : Nat) (hN : w.heap.size = N) : Loc S w0 (w.alloc (.cells cs t)) ((N, t, cs) :: l) := by
  have h2 := h.alloc (.cells cs t)
  refine ⟨h2.be, ?_, ?_⟩
  · intro x hx
    rcases List.mem_cons.1 hx with rfl | hx
    · refine ⟨by rw [← hN]; exact Blk.new w t cs, ?_⟩
      have := h.be.size
      show w0.heap.size ≤ N
      omega
    · exact h2.at_ x hx
  · refine List.Pairwise.cons (fun x hx => ?_) h.ne
    have := (h.at_ x hx).1.lt
    show N ≠ x.1
    omega
theorem Loc.b0 (h : Loc S w0 w ((n, t, cs) :: l)) : Blk w n t cs := (h.at_ (n, t, cs) (by simp)).1
theorem Loc.b1 (h : Loc S w0 w (a :: (n, t, cs) :: l)) : Blk w n t cs := (h.at_ (n, t, cs) (by simp)).1
theorem Loc.b2 (h : Loc S w0 w (a :: a2 :: (n, t, cs) :: l)) : Blk w n t cs := (h.at_ (n, t, cs) (by simp)).1
theorem Loc.le0 (h : Loc S w0 w (a :: l)) : w0.heap.size ≤ a.1 := (h.at_ a (by simp)).2
theorem Loc.tail (h : Loc S w0 w (a :: l)) : Loc S w0 w l := ⟨h.be, fun x hx => h.at_ x (List.mem_cons_of_mem _ hx), h.ne.tail⟩
theorem Loc.swap (h : Loc S w0 w (a :: a2 :: l)) : Loc S w0 w (a2 :: a :: l) := by
  refine ⟨h.be, fun x hx => h.at_ x (by simp only [List.mem_cons] at hx ⊢; rcases hx with h | h | h <;> simp [h]), ?_⟩
  have h1 := h.ne
  simp only [List.pairwise_cons, List.mem_cons] at h1 ⊢
  refine ⟨fun x hx => ?_, fun x hx => h1.1 x (.inr hx), h1.2.2⟩
  rcases hx with rfl | hx
  · exact fun e => h1.1 a2 (.inl rfl) e.symm
  · exact h1.2.1 x hx
theorem Loc.row (h : Loc S w0 w ((n, t, cs) :: l)) (hb : Blk w' n t cs') (hm : Mod w w' (fun k => k = n)) : Loc S w0 w' ((n, t, cs') :: l) := by
  have hle := h.le0
  simp only at hle
  refine ⟨h.be.trans hm (fun k hk e => by omega), ?_, ?_⟩
  · intro x hx
    rcases List.mem_cons.1 hx with rfl | hx
    · exact ⟨hb, hle⟩
    · refine ⟨hm.blk (h.at_ x (List.mem_cons_of_mem _ hx)).1 (fun e => ?_), (h.at_ x (List.mem_cons_of_mem _ hx)).2⟩
      exact (List.pairwise_cons.1 h.ne).1 x hx e.symm
  · have h1 := h.ne
    rw [List.pairwise_cons] at h1 ⊢
    exact h1
theorem Loc.set (h : Loc S w0 w ((n, t, cs) :: l)) (i : Nat) (u : Value) : Loc S w0 (w.setCell ⟨n, i, none⟩ u) ((n, t, cs.setIfInBounds i u) :: l) :=
  h.row (h.b0.set_ i u) (Mod.set (p := ⟨n, i, none⟩) (Mod.refl w (fun k => k = n)) (.inr rfl) u)
theorem Loc.weak (h : Loc S w0 w l) (hS : ∀ k, k < w0.heap.size → S k → S' k) : Loc S' w0 w l := ⟨h.be.mono hS, h.at_, h.ne⟩
end
end Go.Proofs.YtcnjipicifkfjaaGreat
