/- Frames by a set of blocks; rows that the call owns; append of one element. -/
import Derived.Test.YtebdnggcnoaieaaBase
import Derived.Maps.AppendAt
import Derived.WalkSmall
namespace Go.Proofs.Ytebdnggcnoaieaa
open Go.RowKit

/-- From w to w' only the blocks of S, and new ones, have changed. -/
structure Mod (w w' : World) (S : Nat → Prop) : Prop where
  os : w'.os = w.os
  tape : w'.tape = w.tape
  output : w'.output = w.output
  size : w.heap.size ≤ w'.heap.size
  block : ∀ k, k < w.heap.size → ¬ S k → w'.heap[k]? = w.heap[k]?

section
variable {w w' w'' : World} {S S' : Nat → Prop} {g : Nat} {t : TypeId} {cs : Array Value}
theorem Mod.refl (w : World) (S : Nat → Prop) : Mod w w S := ⟨rfl, rfl, rfl, Nat.le_refl _, fun _ _ _ => rfl⟩
theorem Mod.of_grown {row : Option Nat} (h : w.grownBy w' row) : Mod w w' (fun k => row = some k) := ⟨h.os, h.tape, h.output, h.size, fun k hk hn => h.block k hk (fun e => hn e.symm)⟩
theorem Mod.of_below {B : Nat} (h : Below B w w') : Mod w w' (fun k => B ≤ k) := ⟨h.os, h.tape, h.output, h.size, fun k _ hn => h.block k (by omega)⟩
theorem Mod.mono (h : Mod w w' S) (hs : ∀ k, k < w.heap.size → S k → S' k) : Mod w w' S' := ⟨h.os, h.tape, h.output, h.size, fun k hk hn => h.block k hk (fun e => hn (hs k hk e))⟩
theorem Mod.trans (h : Mod w w' S) (h' : Mod w' w'' S') (hs : ∀ k, k < w.heap.size → S' k → S k) : Mod w w'' S :=
  ⟨h'.os.trans h.os, h'.tape.trans h.tape, h'.output.trans h.output, Nat.le_trans h.size h'.size, fun k hk hn =>
    (h'.block k (Nat.lt_of_lt_of_le hk h.size) (fun e => hn (hs k hk e))).trans (h.block k hk hn)⟩
theorem Mod.alloc (h : Mod w w' S) (o : Obj) : Mod w (w'.alloc o) S :=
  ⟨h.os, h.tape, h.output, Nat.le_trans h.size (by simp), fun k hk hn => (Below.heap_alloc w' o k (Nat.lt_of_lt_of_le hk h.size)).trans (h.block k hk hn)⟩
theorem Mod.drewN (h : Mod w w' S) (n : Nat) : Mod w (w'.drewN n) S := ⟨h.os, h.tape, h.output, h.size, h.block⟩
theorem Mod.set (h : Mod w w' S) {p : Addr} (hp : w.heap.size ≤ p.block ∨ S p.block) (u : Value) : Mod w (w'.setCell p u) S :=
  ⟨h.os, h.tape, h.output, by simpa [World.setCell] using h.size, fun k hk hn => (Below.heap_setCell w' p u k (by
    rintro rfl
    rcases hp with hp | hp
    · omega
    · exact hn hp)).trans (h.block k hk hn)⟩
theorem Mod.blk (h : Mod w w' S) (hb : Blk w g t cs) (hg : ¬ S g) : Blk w' g t cs := (h.block g hb.lt hg).trans hb
theorem Mod.below {B : Nat} (h : Mod w w' S) (hB : B ≤ w.heap.size) (hs : ∀ k, S k → B ≤ k) : Below B w w' := ⟨h.os, h.tape, h.output, h.size, fun k hk => h.block k (by omega) (fun e => by have := hs k e; omega)⟩
theorem Below.mod {B : Nat} {a : World} (h : Below B a w) (k : Mod w w' S) (hB : B ≤ w.heap.size) (hs : ∀ k, k < w.heap.size → S k → B ≤ k) : Below B a w' :=
  h.trans ⟨k.os, k.tape, k.output, k.size, fun i hi => k.block i (by omega) (fun e => by have := hs i (by omega) e; omega)⟩
end

/-- The row that a slice value lies in is not block g. -/
def off_ (A : Option Addr) (g : Nat) : Prop := ∀ a, A = some a → a.block ≠ g

/-- A slice value whose row the call owns: A, length, capacity; its elements' cells xs; e: the element's type. -/
structure Own (w : World) (base : Nat) (e : TypeId) (size : Nat) (A : Option Addr) (n cap : Nat) (xs : List Value) : Prop where
  len : xs.length = n * size
  form : (A = none ∧ n = 0 ∧ cap = 0) ∨ ∃ g cur, A = some ⟨g, 0, none⟩ ∧ base ≤ g ∧ Blk w g e cur ∧ n ≤ cap ∧ cap ≤ maxLen ∧ cur.size = cap * size ∧ cur.toList.take (n * size) = xs

section
variable {w w' : World} {base n cap size : Nat} {e : TypeId} {A : Option Addr} {xs : List Value} {S : Nat → Prop}
theorem Own.row (h : Own w base e size A n cap xs) : w.ownsRow base e size (.slice A n cap) n xs := by
  refine ⟨h.len, ?_⟩
  rcases h.form with ⟨rfl, rfl, rfl⟩ | ⟨g, cur, rfl, h1, h2, h3, h4, h5, h6⟩
  · exact .inl ⟨rfl, rfl⟩
  · exact .inr ⟨g, cap, cur, rfl, h1, h2, h3, h4, h5, h6⟩
theorem Own.of_row {v : Value} (h : w.ownsRow base e size v n xs) : ∃ A cap, v = .slice A n cap ∧ Own w base e size A n cap xs := by
  rcases h.2 with ⟨rfl, rfl⟩ | ⟨g, cap, cur, rfl, h1, h2, h3, h4, h5, h6⟩
  · exact ⟨none, 0, rfl, h.1, .inl ⟨rfl, rfl, rfl⟩⟩
  · exact ⟨_, cap, rfl, h.1, .inr ⟨g, cur, rfl, h1, h2, h3, h4, h5, h6⟩⟩
theorem Own.nil (w : World) (base : Nat) (e : TypeId) (size : Nat) : Own w base e size none 0 0 [] := ⟨by simp, .inl ⟨rfl, rfl, rfl⟩⟩
theorem Own.lt (h : Own w base e size A n cap xs) : ∀ a, A = some a → base ≤ a.block ∧ a.block < w.heap.size := by
  rintro a rfl
  rcases h.form with ⟨h1, _⟩ | ⟨g, cur, h0, h1, h2, _⟩
  · cases h1
  · cases h0
    exact ⟨h1, h2.lt⟩
theorem Own.mod (h : Own w base e size A n cap xs) (m : Mod w w' S) (hs : ∀ a, A = some a → ¬ S a.block) : Own w' base e size A n cap xs := by
  refine ⟨h.len, ?_⟩
  rcases h.form with h0 | ⟨g, cur, rfl, h1, h2, h3⟩
  · exact .inl h0
  · exact .inr ⟨g, cur, rfl, h1, m.blk h2 (hs _ rfl), h3⟩
theorem Own.drewN (h : Own w base e size A n cap xs) (k : Nat) : Own (w.drewN k) base e size A n cap xs := ⟨h.len, h.form⟩
theorem Own.alloc (h : Own w base e size A n cap xs) (o : Obj) : Own (w.alloc o) base e size A n cap xs :=
  h.mod ((Mod.refl w (fun _ => False)).alloc o) (fun _ _ h => h)
theorem Own.below {B : Nat} (h : Own w base e size A n cap xs) (hb : Below B w w') (hB : w.heap.size ≤ B) : Own w' base e size A n cap xs :=
  h.mod (Mod.of_below hb) (fun a ha hs => by have := (h.lt a ha).2; omega)
theorem Own.base_ {base' : Nat} (h : Own w base e size A n cap xs) (hb : base' ≤ base) : Own w base' e size A n cap xs := by
  refine ⟨h.len, ?_⟩
  rcases h.form with h0 | ⟨g, cur, rfl, h1, h3⟩
  · exact .inl h0
  · exact .inr ⟨g, cur, rfl, by omega, h3⟩
/-- A row of another element's type lies elsewhere. -/
theorem Own.ne {g : Nat} {t : TypeId} {cs : Array Value} (h : Own w base e size A n cap xs) (hb : Blk w g t cs) (hne : e ≠ t) : ∀ a, A = some a → a.block ≠ g := by
  rintro a rfl rfl
  rcases h.form with ⟨h1, _⟩ | ⟨g, cur, h0, h1, h2, _⟩
  · cases h1
  · cases h0
    unfold Blk at h2 hb
    rw [h2] at hb
    injection hb with hb
    injection hb with _ ht
    exact hne ht
theorem Own.at_ (h : Own w base e size A n cap xs) (hn : 0 < n) : ∃ g, A = some ⟨g, 0, none⟩ ∧ base ≤ g ∧ g < w.heap.size ∧ n ≤ cap ∧ cap ≤ maxLen ∧
    (∀ j u, xs[j]? = some u → w.cell? ⟨g, j, none⟩ = some u) ∧ ∀ j, w.frozen? ⟨g, j, none⟩ = false := by
  rcases h.form with ⟨_, h1, _⟩ | ⟨g, cur, rfl, h1, h2, h3, h4, h5, h6⟩
  · omega
  · refine ⟨g, rfl, h1, h2.lt, h3, h4, fun j u hu => ?_, fun j => h2.frozen j⟩
    rw [h2.cell j]
    rw [← h6, List.getElem?_take] at hu
    split at hu
    · simpa using hu
    · cases hu
/-- A cut at the front's end: 's[:k]'. -/
theorem Own.cut (h : Own w base e size A n cap xs) {k : Nat} (hk : k ≤ n) : Own w base e size A k cap (xs.take (k * size)) := by
  refine ⟨by rw [List.length_take, h.len]; exact Nat.min_eq_left (Nat.mul_le_mul_right _ hk), ?_⟩
  rcases h.form with ⟨h0, h1, h2⟩ | ⟨g, cur, rfl, h1, h2, h3, h4, h5, h6⟩
  · exact .inl ⟨h0, by omega, h2⟩
  · refine .inr ⟨g, cur, rfl, h1, h2, by omega, h4, h5, ?_⟩
    rw [← h6, List.take_take, Nat.min_eq_left (Nat.mul_le_mul_right _ hk)]

/-- 'append(s, x)': what is behind it. -/
theorem append_one {P : Program} {ops : Array Oper} {rest : List Oper} {o : Oper} {a : Act} {Q : Exit → Act → World → Prop} (hgd : o.guard = none) (s x : Operand) (t : TypeId)
    (ho : o.op = .call { callee := .builtin .append, args := #[s, x], argTypes := #[t, t] })
    (base : Nat) (e : TypeId) (i : TypeInfo) (z : Value) (bytes : Nat) (ht : P.underlying t = some (.slice e)) (hi : P.info? e = some i) (hz : i.zero = some z)
    (hsize : i.size = 1) (hby : i.bytes = bytes) (hzs : z.cells.size = 1)
    (A : Option Addr) (n cap : Nat) (xs : List Value) (hs : a.eval s = .slice A n cap) (hown : Own w base e 1 A n cap xs) (u : Value)
    (hx : a.eval x = .slice (some ⟨w.heap.size, 0, none⟩) 1 1) (h1 : u.oneCell' = true)
    (h63 : n + 1 ≤ maxLen) (hbytes : (n + 1) * bytes ≤ 140737488355328) (hbase : base ≤ w.heap.size)
    (h : ∀ A' cap' w', Own w' base e 1 A' (n + 1) cap' (xs ++ [u]) → Mod w w' (fun k => ∃ a, A = some a ∧ a.block = k) →
      (∀ a', A' = some a' → (∃ a, A = some a ∧ a.block = a'.block) ∨ w.heap.size ≤ a'.block) → wpList P ops Q rest (a.put o.dst (.slice A' (n + 1) cap')) w') :
    wpList P ops Q (o :: rest) a (w.alloc (.cells #[u] e)) := by
  refine wpList_append_own_at (w.alloc (.cells #[u] e)) hgd s x t ho base e i z 1 bytes ht hi hz hsize hby hzs (by omega) (.slice A n cap) n xs hs (hown.alloc _).row
    ⟨w.heap.size, 0, none⟩ 1 1 [u] hx (by simp) (cell_one_new _ _ _) (by simpa using h1) h63 hbytes (by simp; omega) ?_
  intro v' w' hown' hg _ hat
  obtain ⟨A', cap', rfl, hown2⟩ := Own.of_row hown'
  refine h A' cap' w' hown2 ?_ ?_
  · refine ((Mod.refl w _).alloc (.cells #[u] e)).trans (Mod.of_grown hg) ?_
    intro k hk hk2
    cases A with
    | none => simp [Value.ownBlock] at hk2
    | some a => exact ⟨a, rfl, by simpa [Value.ownBlock] using hk2⟩
  · rintro a' rfl
    rcases hat with hat | hat
    · cases A with
      | none => simp [Value.ownBlock] at hat
      | some a => exact .inl ⟨a, rfl, by simpa [Value.ownBlock] using hat.symm⟩
    · refine .inr ?_
      simp [Value.ownBlock] at hat
      omega
/-- 'append(s, x)', x of several cells: what is behind it. -/
theorem append_elem {P : Program} {ops : Array Oper} {rest : List Oper} {o : Oper} {a : Act} {Q : Exit → Act → World → Prop} (hgd : o.guard = none) (s x : Operand) (t : TypeId)
    (ho : o.op = .call { callee := .builtin .append, args := #[s, x], argTypes := #[t, t] })
    (base : Nat) (e : TypeId) (i : TypeInfo) (z : Value) (sz bytes : Nat) (ht : P.underlying t = some (.slice e)) (hi : P.info? e = some i) (hz : i.zero = some z)
    (hsize : i.size = sz) (hby : i.bytes = bytes) (hzs : z.cells.size = sz) (hsz : 0 < sz)
    (A : Option Addr) (n cap : Nat) (xs : List Value) (hs : a.eval s = .slice A n cap) (hown : Own w base e sz A n cap xs) (us : List Value) (hus : us.length = sz)
    (hx : a.eval x = .slice (some ⟨w.heap.size, 0, none⟩) 1 1) (h1 : ∀ u ∈ us, u.oneCell' = true)
    (h63 : n + 1 ≤ maxLen) (hbytes : (n + 1) * bytes ≤ 140737488355328) (hbase : base ≤ w.heap.size)
    (h : ∀ A' cap' w', Own w' base e sz A' (n + 1) cap' (xs ++ us) → Mod w w' (fun k => ∃ a, A = some a ∧ a.block = k) →
      (∀ a', A' = some a' → (∃ a, A = some a ∧ a.block = a'.block) ∨ w.heap.size ≤ a'.block) → wpList P ops Q rest (a.put o.dst (.slice A' (n + 1) cap')) w') :
    wpList P ops Q (o :: rest) a (w.alloc (.cells us.toArray e)) := by
  refine wpList_append_own_at (w.alloc (.cells us.toArray e)) hgd s x t ho base e i z sz bytes ht hi hz hsize hby hzs hsz (.slice A n cap) n xs hs (hown.alloc _).row
    ⟨w.heap.size, 0, none⟩ 1 1 us hx (by omega) (fun j u hu => ?_) h1 h63 hbytes (by simp; omega) ?_
  · have hadd : (⟨w.heap.size, 0, none⟩ : Addr).add j = ⟨w.heap.size, j, none⟩ := by unfold Addr.add; split <;> simp_all
    rw [hadd, (Blk.new w e us.toArray).cell j]
    simpa using hu
  intro v' w' hown' hg _ hat
  obtain ⟨A', cap', rfl, hown2⟩ := Own.of_row hown'
  refine h A' cap' w' hown2 ?_ ?_
  · refine ((Mod.refl w _).alloc (.cells us.toArray e)).trans (Mod.of_grown hg) ?_
    intro k hk hk2
    cases A with
    | none => simp [Value.ownBlock] at hk2
    | some a => exact ⟨a, rfl, by simpa [Value.ownBlock] using hk2⟩
  · rintro a' rfl
    rcases hat with hat | hat
    · cases A with
      | none => simp [Value.ownBlock] at hat
      | some a => exact .inl ⟨a, rfl, by simpa [Value.ownBlock] using hat.symm⟩
    · refine .inr ?_
      simp [Value.ownBlock] at hat
      omega
end
end Go.Proofs.Ytebdnggcnoaieaa
