/- Frames by a set of blocks; rows that the call owns; append of one element. -/
import Derived.Test.YtedbabkmbpkjlaaBase
import Derived.Maps.AppendAt
import Derived.WalkSmall
namespace Go.Proofs.Ytedbabkmbpkjlaa
open Go.RowKit

/-- From w to w' only the blocks of S, and new ones, have changed. -/
structure Mod (w w' : World) (S : Nat → Prop) : Prop where
  os : w'.os = w.os
  tape : w'.tape = w.tape
  output : w'.output = w.output
  size : w.heap.size ≤ w'.heap.size
  block : ∀ k, k < w.heap.size → ¬ S k → w'.heap[k]? = w.heap[k]?

section
variable {w w' w'' : World} {S S' : Nat → Prop} {g : Nat} {t : TypeId} {cs : Array Value}
theorem Mod.refl (w : World) (S : Nat → Prop) : Mod w w S := ⟨rfl, rfl, rfl, Nat.le_refl _, fun _ _ _ => rfl⟩
theorem Mod.of_grown {row : Option Nat} (h : w.grownBy w' row) : Mod w w' (fun k => row = some k) := ⟨h.os, h.tape, h.output, h.size, fun k hk hn => h.block k hk (fun e => hn e.symm)⟩
theorem Mod.of_below {B : Nat} (h : Below B w w') : Mod w w' (fun k => B ≤ k) := ⟨h.os, h.tape, h.output, h.size, fun k _ hn => h.block k (by omega)⟩
theorem Mod.mono (h : Mod w w' S) (hs : ∀ k, k < w.heap.size → S k → S' k) : Mod w w' S' := ⟨h.os, h.tape, h.output, h.size, fun k hk hn => h.block k hk (fun e => hn (hs k hk e))⟩
theorem Mod.trans (h : Mod w w' S) (h' : Mod w' w'' S') (hs : ∀ k, k < w.heap.size → S' k → S k) : Mod w w'' S :=
  ⟨h'.os.trans h.os, h'.tape.trans h.tape, h'.output.trans h.output, Nat.le_trans h.size h'.size, fun k hk hn =>
    (h'.block k (Nat.lt_of_lt_of_le hk h.size) (fun e => hn (hs k hk e))).trans (h.block k hk hn)⟩
theorem Mod.alloc (h : Mod w w' S) (o : Obj) : Mod w (w'.alloc o) S :=
  ⟨h.os, h.tape, h.output, Nat.le_trans h.size (by simp), fun k hk hn => (Below.heap_alloc w' o k (Nat.lt_of_lt_of_le hk h.size)).trans (h.block k hk hn)⟩
theorem Mod.drewN (h : Mod w w' S) (n : Nat) : Mod w (w'.drewN n) S := ⟨h.os, h.tape, h.output, h.size, h.block⟩
theorem Mod.set (h : Mod w w' S) {p : Addr} (hp : w.heap.size ≤ p.block ∨ S p.block) (u : Value) : Mod w (w'.setCell p u) S :=
  ⟨h.os, h.tape, h.output, by simpa [World.setCell] using h.size, fun k hk hn => (Below.heap_setCell w' p u k (by
    rintro rfl
    rcases hp with hp | hp
    · omega
    · exact hn hp)).trans (h.block k hk hn)⟩
theorem Mod.blk (h : Mod w w' S) (hb : Blk w g t cs) (hg : ¬ S g) : Blk w' g t cs := (h.block g hb.lt hg).trans hb
theorem Mod.below {B : Nat} (h : Mod w w' S) (hB : B ≤ w.heap.size) (hs : ∀ k, S k → B ≤ k) : Below B w w' := ⟨h.os, h.tape, h.output, h.size, fun k hk => h.block k (by omega) (fun e => by have := hs k e; omega)⟩
theorem Below.mod {B : Nat} {a : World} (h : Below B a w) (k : Mod w w' S) (hB : B ≤ w.heap.size) (hs : ∀ k, k < w.heap.size → S k → B ≤ k) : Below B a w' :=
  h.trans ⟨k.os, k.tape, k.output, k.size, fun i hi => k.block i (by omega) (fun e => by have := hs i (by omega) e; omega)⟩
end

/-- The row that a slice value lies in is not block g. -/
def off_ (A : Option Addr) (g : Nat) : Prop := ∀ a, A = some a → a.block ≠ g

/-- A slice value whose row the call owns: A, length, capacity; its elements' cells xs; e: the element's type. -/
structure Own (w : World) (base : Nat) (e : TypeId) (size : Nat) (A : Option Addr) (n cap : Nat) (xs : List Value) : Prop where
  len : xs.length = n * size
  form : (A = none ∧ n = 0 ∧ cap = 0) ∨ ∃ g cur, A = some ⟨g, 0, none⟩ ∧ base ≤ g ∧ Blk w g e cur ∧ n ≤ cap ∧ cap ≤ maxLen ∧ cur.size = cap * size ∧ cur.toList.take (n * size) = xs

section
variable {w w' : World} {base n cap size : Nat} {e : TypeId} {A : Option Addr} {xs : List Value} {S : Nat → Prop}
theorem Own.row (h : Own w base e size A n cap xs) : w.ownsRow base e size (.slice A n cap) n xs := by
  refine ⟨h.len, ?_⟩
  rcases h.form with ⟨rfl, rfl, rfl⟩ | ⟨g, cur, rfl, h1, h2, h3, h4, h5, h6⟩
  · exact .inl ⟨rfl, rfl⟩
  · exact .inr ⟨g, cap, cur, rfl, h1, h2, h3, h4, h5, h6⟩
theorem Own.of_row {v : Value} (h : w.ownsRow base e size v n xs) : ∃ A cap, v = .slice A n cap ∧ Own w base e size A n cap xs := by
  rcases h.2 with ⟨rfl, rfl⟩ | ⟨g, cap, cur, rfl, h1, h2, h3, h4, h5, h6⟩
  · exact ⟨none, 0, rfl, h.1, .inl ⟨rfl, rfl, rfl⟩⟩
  · exact ⟨_, cap, rfl, h.1, .inr ⟨g, cur, rfl, h1, h2, h3, h4, h5, h6⟩⟩
theorem Own.nil (w : World) (base : Nat) (e : TypeId) (size : Nat) : Own w base e size none 0 0 [] := ⟨by simp, .inl ⟨rfl, rfl, rfl⟩⟩
theorem Own.lt (h : Own w base e size A n cap xs) : ∀ a, A = some a → base ≤ a.block ∧ a.block < w.heap.size := by
  rintro a rfl
  rcases h.form with ⟨h1, _⟩ | ⟨g, cur, h0, h1, h2, _⟩
  · cases h1
  · cases h0
    exact ⟨h1, h2.lt⟩
theorem Own.mod (h : Own w base e size A n cap xs) (m : Mod w w' S) (hs : ∀ a, A = some a → ¬ S a.block) : Own w' base e size A n cap xs := by
  refine ⟨h.len, ?_⟩
  rcases h.form with h0 | ⟨g, cur, rfl, h1, h2, h3⟩
  · exact .inl h0
  · exact .inr ⟨g, cur, rfl, h1, m.blk h2 (hs _ rfl), h3⟩
theorem Own.drewN (h : Own w base e size A n cap xs) (k : Nat) : Own (w.drewN k) base e size A n cap xs := ⟨h.len, h.form⟩
theorem Own.alloc (h : Own w base e size A n cap xs) (o : Obj) : Own (w.alloc o) base e size A n cap xs :=
  h.mod ((Mod.refl w (fun _ => False)).alloc o) (fun _ _ h => h)
theorem Own.below {B : Nat} (h : Own w base e size A n cap xs) (hb : Below B w w') (hB : w.heap.size ≤ B) : Own w' base e size A n cap xs :=
  h.mod (Mod.of_below hb) (fun a ha hs => by have := (h.lt a ha).2; omega)
theorem Own.base_ {base' : Nat} (h : Own w base e size A n cap xs) (hb : base' ≤ base) : Own w base' e size A n cap xs := by
  refine ⟨h.len, ?_⟩
  rcases h.form with h0 | ⟨g, cur, rfl, h1, h3⟩
  · exact .inl h0
  · exact .inr ⟨g, cur, rfl, by omega, h3⟩
/-- A row of another element's type lies elsewhere. -/
theorem Own.ne {g : Nat} {t : TypeId} {cs : Array Value} (h : Own w base e size A n cap xs) (hb : Blk w g t cs) (hne : e ≠ t) : ∀ a, A = some a → a.block ≠ g := by
  rintro a rfl rfl
  rcases h.form with ⟨h1, _⟩ | ⟨g, cur, h0, h1, h2, _⟩
  · cases h1
  · cases h0
    unfold Blk at h2 hb
    rw [h2] at hb
    injection hb with hb
    injection hb with _ ht
    exact hne ht
theorem Own.at_ (h : Own w base e size A n cap xs) (hn : 0 < n) : ∃ g, A = some ⟨g, 0, none⟩ ∧ base ≤ g ∧ g < w.heap.size ∧ n ≤ cap ∧ cap ≤ maxLen ∧
    (∀ j u, xs[j]? = some u → w.cell? ⟨g, j, none⟩ = some u) ∧ ∀ j, w.frozen? ⟨g, j, none⟩ = false := by
  rcases h.form with ⟨_, h1, _⟩ | ⟨g, cur, rfl, h1, h2, h3, h4, h5, h6⟩
  · omega
  · refine ⟨g, rfl, h1, h2.lt, h3, h4, fun j u hu => ?_, fun j => h2.frozen j⟩
    rw [h2.cell j]
    rw [← h6, List.getElem?_take] at hu
    split at hu
    · simpa using hu
    · cases hu
/-- A cut at the front's end: 's[:k]'. -/
theorem Own.cut (h : Own w base e size A n cap xs) {k : Nat} (hk : k ≤ n) : Own w base e size A k cap (xs.take (k * size)) := by
  refine ⟨by rw [List.length_take, h.len]; exact Nat.min_eq_left (Nat.mul_le_mul_right _ hk), ?_⟩
  rcases h.form with ⟨h0, h1, h2⟩ | ⟨g, cur, rfl, h1, h2, h3, h4, h5, h6⟩
  · exact .inl ⟨h0, by omega, h2⟩
  · refine .inr ⟨g, cur, rfl, h1, h2, by omega, h4, h5, ?_⟩
    rw [← h6, List.take_take, Nat.min_eq_left (Nat.mul_le_mul_right _ hk)]

/-- A cell of a row stored over. -/
theorem Own.set_ {g : Nat} (h : Own w base e size (some ⟨g, 0, none⟩) n cap xs) {j : Nat} (hj : j < n * size) (u : Value) :
    Own (w.setCell ⟨g, j, none⟩ u) base e size (some ⟨g, 0, none⟩) n cap (xs.set j u) := by
  refine ⟨by rw [List.length_set]; exact h.len, ?_⟩
  rcases h.form with ⟨h0, _⟩ | ⟨g', cur, h0, h1, h2, h3, h4, h5, h6⟩
  · cases h0
  · cases h0
    refine .inr ⟨g, cur.setIfInBounds j u, rfl, h1, h2.set_ j u, h3, h4, by simpa using h5, ?_⟩
    rw [← h6]
    apply List.ext_getElem?
    intro i
    simp only [Array.toList_setIfInBounds, List.getElem?_take, List.getElem?_set, List.length_take, Array.length_toList]
    have hle : n * size ≤ cap * size := Nat.mul_le_mul_right _ h3
    by_cases hij : j = i
    · subst hij
      rw [if_pos hj, if_pos rfl, if_pos rfl, if_pos (by omega), if_pos (by rw [Nat.min_def]; split <;> omega)]
    · rw [if_neg hij, if_neg hij]

/-- 'append(s, x)': what is behind it. -/
theorem append_one {P : Program} {ops : Array Oper} {rest : List Oper} {o : Oper} {a : Act} {Q : Exit → Act → World → Prop} (hgd : o.guard = none) (s x : Operand) (t : TypeId)
    (ho : o.op = .call { callee := .builtin .append, args := #[s, x], argTypes := #[t, t] })
    (base : Nat) (e : TypeId) (i : TypeInfo) (z : Value) (bytes : Nat) (ht : P.underlying t = some (.slice e)) (hi : P.info? e = some i) (hz : i.zero = some z)
    (hsize : i.size = 1) (hby : i.bytes = bytes) (hzs : z.cells.size = 1)
    (A : Option Addr) (n cap : Nat) (xs : List Value) (hs : a.eval s = .slice A n cap) (hown : Own w base e 1 A n cap xs) (u : Value)
    (hx : a.eval x = .slice (some ⟨w.heap.size, 0, none⟩) 1 1) (h1 : u.oneCell' = true)
    (h63 : n + 1 ≤ maxLen) (hbytes : (n + 1) * bytes ≤ 140737488355328) (hbase : base ≤ w.heap.size)
    (h : ∀ A' cap' w', Own w' base e 1 A' (n + 1) cap' (xs ++ [u]) → Mod w w' (fun k => ∃ a, A = some a ∧ a.block = k) →
      (∀ a', A' = some a' → (∃ a, A = some a ∧ a.block = a'.block) ∨ w.heap.size ≤ a'.block) → wpList P ops Q rest (a.put o.dst (.slice A' (n + 1) cap')) w') :
    wpList P ops Q (o :: rest) a (w.alloc (.cells #[u] e)) := by
  refine wpList_append_own_at (w.alloc (.cells #[u] e)) hgd s x t ho base e i z 1 bytes ht hi hz hsize hby hzs (by omega) (.slice A n cap) n xs hs (hown.alloc _).row
    ⟨w.heap.size, 0, none⟩ 1 1 [u] hx (by simp) (cell_one_new _ _ _) (by simpa using h1) h63 hbytes (by simp; omega) ?_
  intro v' w' hown' hg _ hat
  obtain ⟨A', cap', rfl, hown2⟩ := Own.of_row hown'
  refine h A' cap' w' hown2 ?_ ?_
  · refine ((Mod.refl w _).alloc (.cells #[u] e)).trans (Mod.of_grown hg) ?_
    intro k hk hk2
    cases A with
    | none => simp [Value.ownBlock] at hk2
    | some a => exact ⟨a, rfl, by simpa [Value.ownBlock] using hk2⟩
  · rintro a' rfl
    rcases hat with hat | hat
    · cases A with
      | none => simp [Value.ownBlock] at hat
      | some a => exact .inl ⟨a, rfl, by simpa [Value.ownBlock] using hat.symm⟩
    · refine .inr ?_
      simp [Value.ownBlock] at hat
      omega
/-- 'append(s, x)', x of several cells: what is behind it. -/
theorem append_elem {P : Program} {ops : Array Oper} {rest : List Oper} {o : Oper} {a : Act} {Q : Exit → Act → World → Prop} (hgd : o.guard = none) (s x : Operand) (t : TypeId)
    (ho : o.op = .call { callee := .builtin .append, args := #[s, x], argTypes := #[t, t] })
    (base : Nat) (e : TypeId) (i : TypeInfo) (z : Value) (sz bytes : Nat) (ht : P.underlying t = some (.slice e)) (hi : P.info? e = some i) (hz : i.zero = some z)
    (hsize : i.size = sz) (hby : i.bytes = bytes) (hzs : z.cells.size = sz) (hsz : 0 < sz)
    (A : Option Addr) (n cap : Nat) (xs : List Value) (hs : a.eval s = .slice A n cap) (hown : Own w base e sz A n cap xs) (us : List Value) (hus : us.length = sz)
    (hx : a.eval x = .slice (some ⟨w.heap.size, 0, none⟩) 1 1) (h1 : ∀ u ∈ us, u.oneCell' = true)
    (h63 : n + 1 ≤ maxLen) (hbytes : (n + 1) * bytes ≤ 140737488355328) (hbase : base ≤ w.heap.size)
    (h : ∀ A' cap' w', Own w' base e sz A' (n + 1) cap' (xs ++ us) → Mod w w' (fun k => ∃ a, A = some a ∧ a.block = k) →
      (∀ a', A' = some a' → (∃ a, A = some a ∧ a.block = a'.block) ∨ w.heap.size ≤ a'.block) → wpList P ops Q rest (a.put o.dst (.slice A' (n + 1) cap')) w') :
    wpList P ops Q (o :: rest) a (w.alloc (.cells us.toArray e)) := by
  refine wpList_append_own_at (w.alloc (.cells us.toArray e)) hgd s x t ho base e i z sz bytes ht hi hz hsize hby hzs hsz (.slice A n cap) n xs hs (hown.alloc _).row
    ⟨w.heap.size, 0, none⟩ 1 1 us hx (by omega) (fun j u hu => ?_) h1 h63 hbytes (by simp; omega) ?_
  · have hadd : (⟨w.heap.size, 0, none⟩ : Addr).add j = ⟨w.heap.size, j, none⟩ := by unfold Addr.add; split <;> simp_all
    rw [hadd, (Blk.new w e us.toArray).cell j]
    simpa using hu
  intro v' w' hown' hg _ hat
  obtain ⟨A', cap', rfl, hown2⟩ := Own.of_row hown'
  refine h A' cap' w' hown2 ?_ ?_
  · refine ((Mod.refl w _).alloc (.cells us.toArray e)).trans (Mod.of_grown hg) ?_
    intro k hk hk2
    cases A with
    | none => simp [Value.ownBlock] at hk2
    | some a => exact ⟨a, rfl, by simpa [Value.ownBlock] using hk2⟩
  · rintro a' rfl
    rcases hat with hat | hat
    · cases A with
      | none => simp [Value.ownBlock] at hat
      | some a => exact .inl ⟨a, rfl, by simpa [Value.ownBlock] using hat.symm⟩
    · refine .inr ?_
      simp [Value.ownBlock] at hat
      omega
/-- A slice that can be read: its cells' values. -/
def Rd (w : World) (sz : Nat) (A : Option Addr) (n : Nat) (vs : List Value) : Prop :=
  vs.length = n * sz ∧ (0 < n → ∃ g off, A = some ⟨g, off, none⟩ ∧ g < w.heap.size ∧ ∀ j u, vs[j]? = some u → w.cell? ⟨g, off + j, none⟩ = some u)
theorem Own.rd (h : Own w base e size A n cap xs) : Rd w size A n xs := ⟨h.len, fun hn => by
  obtain ⟨g, rfl, _, hg, _, _, hc, _⟩ := h.at_ hn
  exact ⟨g, 0, rfl, hg, fun j u hu => by rw [Nat.zero_add]; exact hc j u hu⟩⟩
theorem Rd.mod {sz : Nat} {vs : List Value} (h : Rd w sz A n vs) (m : Mod w w' S) (hs : ∀ a, A = some a → ¬ S a.block) : Rd w' sz A n vs := ⟨h.1, fun hn => by
  obtain ⟨g, off, rfl, hg, hc⟩ := h.2 hn
  exact ⟨g, off, rfl, Nat.lt_of_lt_of_le hg m.size, fun j u hu => (World.cell?_of_block (a := ⟨g, off + j, none⟩) (m.block g hg (hs _ rfl))).trans (hc j u hu)⟩⟩
theorem Rd.below {sz B : Nat} {vs : List Value} (h : Rd w sz A n vs) (hb : Below B w w') (hB : w.heap.size ≤ B) : Rd w' sz A n vs := ⟨h.1, fun hn => by
  obtain ⟨g, off, rfl, hg, hc⟩ := h.2 hn
  exact ⟨g, off, rfl, Nat.lt_of_lt_of_le hg hb.size, fun j u hu => (hb.cell (p := ⟨g, off + j, none⟩) (Nat.lt_of_lt_of_le hg hB)).trans (hc j u hu)⟩⟩
theorem Rd.drewN {sz : Nat} {vs : List Value} (h : Rd w sz A n vs) (k : Nat) : Rd (w.drewN k) sz A n vs := h
theorem Rd.alloc {sz : Nat} {vs : List Value} (h : Rd w sz A n vs) (o : Obj) : Rd (w.alloc o) sz A n vs :=
  h.below ((Below.refl w.heap.size w).alloc (Nat.le_refl _) o) (Nat.le_refl _)
theorem Rd.nil (w : World) (sz : Nat) (A : Option Addr) : Rd w sz A 0 [] := ⟨by simp, fun h => absurd h (by omega)⟩
theorem Rd.cut {sz k : Nat} {vs : List Value} (h : Rd w sz A n vs) (hk : k ≤ n) : Rd w sz A k (vs.take (k * sz)) := by
  refine ⟨by rw [List.length_take, h.1]; exact Nat.min_eq_left (Nat.mul_le_mul_right _ hk), fun h0 => ?_⟩
  obtain ⟨g, off, rfl, hg, hc⟩ := h.2 (by omega)
  refine ⟨g, off, rfl, hg, fun j u hu => hc j u ?_⟩
  rw [List.getElem?_take] at hu
  split at hu
  · exact hu
  · cases hu

theorem run_append_rd {P : Program} (base : Nat) (t ty e : TypeId) (i : TypeInfo) (z : Value) (sz bytes : Nat) (ht : P.underlying t = some (.slice e)) (hi : P.info? e = some i) (hz : i.zero = some z)
    (hsize : i.size = sz) (hby : i.bytes = bytes) (hzs : z.cells.size = sz) (hsz : 0 < sz) (hown : Own w base e sz A n cap xs)
    (A2 : Option Addr) (m c2 : Nat) (vs : List Value) (hr : Rd w sz A2 m vs) (h1 : ∀ u ∈ vs, u.oneCell' = true) (h63 : n + m ≤ maxLen) (hbytes : (n + m) * bytes ≤ 140737488355328) (hbase : base ≤ w.heap.size) :
    ∃ A' cap' w', (Builtin.append_ #[t, t] ty #[.slice A n cap, .slice A2 m c2]).run P w = .ok (.slice A' (n + m) cap') w' ∧ Own w' base e sz A' (n + m) cap' (xs ++ vs) ∧
      Mod w w' (fun k => ∃ a, A = some a ∧ a.block = k) ∧ (∀ a', A' = some a' → (∃ a, A = some a ∧ a.block = a'.block) ∨ w.heap.size ≤ a'.block) := by
  rcases Nat.eq_zero_or_pos m with h0 | h0
  · subst h0
    have hv : vs = [] := List.eq_nil_of_length_eq_zero (by simpa using hr.1)
    subst hv
    cases A2 with
    | none =>
      have hrun : (Builtin.append_ #[t, t] ty #[.slice A n cap, .slice none 0 c2]).run P w = .ok (.slice A n cap) w := by
        have hnc : n ≤ cap := by rcases hown.form with ⟨_, h, h'⟩ | ⟨_, _, _, _, _, h, _⟩ <;> omega
        cases A with
        | none =>
          rcases hown.form with ⟨_, hn, hc⟩ | ⟨_, _, h, _⟩
          · subst hn hc
            simp [Builtin.append_, run_underlying ht, sizeOf, typeInfo, hi, Builtin.lenOf, Builtin.firstCells]
          · cases h
        | some a => simp [Builtin.append_, run_underlying ht, sizeOf, typeInfo, hi, Builtin.lenOf, Builtin.firstCells, hnc, storeCells]
      exact ⟨A, cap, w, hrun, by simpa using hown, Mod.refl w _, fun a' ha => .inl ⟨a', ha, rfl⟩⟩
    | some ad =>
      obtain ⟨v', w', hrun, h2, h3, _, h5⟩ := run_append_own_at (P := P) w base t ty e i z sz bytes ht hi hz hsize hby hzs hsz (.slice A n cap) n xs hown.row ad 0 c2 [] (by simp) (fun j u hu => by simp at hu) h1 h63 hbytes hbase
      obtain ⟨A', cap', rfl, hown2⟩ := Own.of_row h2
      refine ⟨A', cap', w', hrun, hown2, (Mod.of_grown h3).mono (fun k hk hk2 => ?_), ?_⟩
      · cases A with
        | none => simp [Value.ownBlock] at hk2
        | some a => exact ⟨a, rfl, by simpa [Value.ownBlock] using hk2⟩
      · rintro a' rfl
        rcases h5 with hat | hat
        · cases A with
          | none => simp [Value.ownBlock] at hat
          | some a => exact .inl ⟨a, rfl, by simpa [Value.ownBlock] using hat.symm⟩
        · refine .inr ?_
          simp [Value.ownBlock] at hat
          omega
  · obtain ⟨g, off, rfl, hg, hc⟩ := hr.2 h0
    obtain ⟨v', w', hrun, h2, h3, _, h5⟩ := run_append_own_at (P := P) w base t ty e i z sz bytes ht hi hz hsize hby hzs hsz (.slice A n cap) n xs hown.row ⟨g, off, none⟩ m c2 vs hr.1
      (fun j u hu => by
        have hadd : (⟨g, off, none⟩ : Addr).add j = ⟨g, off + j, none⟩ := by unfold Addr.add; split <;> simp_all
        rw [hadd]
        exact hc j u hu) h1 h63 hbytes hbase
    obtain ⟨A', cap', rfl, hown2⟩ := Own.of_row h2
    refine ⟨A', cap', w', hrun, hown2, (Mod.of_grown h3).mono (fun k hk hk2 => ?_), ?_⟩
    · cases A with
      | none => simp [Value.ownBlock] at hk2
      | some a => exact ⟨a, rfl, by simpa [Value.ownBlock] using hk2⟩
    · rintro a' rfl
      rcases h5 with hat | hat
      · cases A with
        | none => simp [Value.ownBlock] at hat
        | some a => exact .inl ⟨a, rfl, by simpa [Value.ownBlock] using hat.symm⟩
      · refine .inr ?_
        simp [Value.ownBlock] at hat
        omega

/-- 'append(s, x...)': what is behind it. -/
theorem append_rd {P : Program} {ops : Array Oper} {rest : List Oper} {o : Oper} {a : Act} {Q : Exit → Act → World → Prop} (hgd : o.guard = none) (s x : Operand) (t : TypeId)
    (ho : o.op = .call { callee := .builtin .append, args := #[s, x], argTypes := #[t, t] })
    (base : Nat) (e : TypeId) (i : TypeInfo) (z : Value) (sz bytes : Nat) (ht : P.underlying t = some (.slice e)) (hi : P.info? e = some i) (hz : i.zero = some z)
    (hsize : i.size = sz) (hby : i.bytes = bytes) (hzs : z.cells.size = sz) (hsz : 0 < sz)
    (A : Option Addr) (n cap : Nat) (xs : List Value) (hs : a.eval s = .slice A n cap) (hown : Own w base e sz A n cap xs)
    (A2 : Option Addr) (m c2 : Nat) (vs : List Value) (hx : a.eval x = .slice A2 m c2) (hr : Rd w sz A2 m vs) (h1 : ∀ u ∈ vs, u.oneCell' = true)
    (tot : Nat) (htot : n + m = tot) (ys : List Value) (hys : xs ++ vs = ys) (h63 : tot ≤ maxLen) (hbytes : tot * bytes ≤ 140737488355328) (hbase : base ≤ w.heap.size)
    (h : ∀ A' cap' w', Own w' base e sz A' tot cap' ys → Mod w w' (fun k => ∃ a, A = some a ∧ a.block = k) →
      (∀ a', A' = some a' → (∃ a, A = some a ∧ a.block = a'.block) ∨ w.heap.size ≤ a'.block) → wpList P ops Q rest (a.put o.dst (.slice A' tot cap')) w') :
    wpList P ops Q (o :: rest) a w := by
  subst htot hys
  refine wpList_plain hgd fun K hK => ?_
  obtain ⟨A', cap', w', hrun, h2, h3, h4⟩ := run_append_rd (P := P) base t o.type e i z sz bytes ht hi hz hsize hby hzs hsz hown A2 m c2 vs hr h1 h63 hbytes hbase
  unfold Oper.wp execOp
  simp only [ho, resolve, invoke, builtin, Sem.run_bind, Sem.run_pure, Result.andThen_ok, List.map_toArray, List.map_cons, List.map_nil, hs, hx, hrun]
  exact hK _ _ (h A' cap' w' h2 h3 h4)

/-- '[]T{}'. -/
theorem Own.empty (w : World) (base : Nat) (e : TypeId) (sz g : Nat) (hg : w.heap.size = g) (hb : base ≤ g) : Own (w.alloc (.cells #[] e)) base e sz (some ⟨g, 0, none⟩) 0 0 [] :=
  ⟨by simp, .inr ⟨g, #[], rfl, hb, by rw [← hg]; exact Blk.new w e #[], Nat.le_refl _, by unfold maxLen; omega, by simp, by simp⟩⟩
end
end Go.Proofs.Ytedbabkmbpkjlaa
