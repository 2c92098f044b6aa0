/- What holds of the two stacks, and what each call does to it: no walk here. -/
import Derived.Test.YtiememacpeflbaaWr
namespace Go.Proofs.Ytiememacpeflbaa
open Go.RowKit
set_option linter.unusedVariables false
set_option linter.unusedSimpArgs false

/-- The two stacks: the program's behind gs, the reference's in gw. -/
structure SS (B gs gw : Nat) (M : Int) (w0 w : World) (xs : List Int) (A : Option Addr) (n cap : Nat) (A' : Option Addr) (cap' : Nat) (ms : Int) : Prop where
  bg : B ≤ gs
  gg : gs < gw
  b : Below B w0 w
  g : Blk w gs 59 #[.slice A n cap, .int .i64 M, .int .i64 ms]
  o : Own w B 35 1 A n cap (ws xs)
  r : Blk w gw 38 #[.slice A' n cap', .int .i64 M, .int .i64 ms]
  rd : Rd w 1 A' n (ws xs)
  sep : ∀ a', A' = some a' → a'.block ≠ gs ∧ a'.block ≠ gw ∧ a'.block < w.heap.size ∧ ∀ a, A = some a → a.block ≠ a'.block
  cap1 : n ≤ cap'
  cap2 : cap' ≤ maxLen


theorem Blk.ne_ {w : World} {g g' : Nat} {t t' : TypeId} {cs cs' : Array Value} (h : Blk w g t cs) (h' : Blk w g' t' cs') (hne : t ≠ t') : g ≠ g' := by
  rintro rfl
  unfold Blk at h h'
  rw [h] at h'
  injection h' with h'
  injection h' with _ ht
  exact hne ht

section
variable {B gs gw : Nat} {M : Int} {w0 w w' : World} {xs : List Int} {A : Option Addr} {n cap : Nat} {A' : Option Addr} {cap' : Nat} {ms : Int}

theorem SS.size (h : SS B gs gw M w0 w xs A n cap A' cap' ms) : B ≤ w.heap.size := Nat.le_of_lt (Nat.lt_of_le_of_lt h.bg h.g.lt)

theorem SS.below {B' : Nat} (h : SS B gs gw M w0 w xs A n cap A' cap' ms) (hb : Below B' w w') (hB : w.heap.size ≤ B') : SS B gs gw M w0 w' xs A n cap A' cap' ms :=
  ⟨h.bg, h.gg, h.b.trans (hb.mono (Nat.le_trans h.size hB)), h.g.below hb (Nat.lt_of_lt_of_le h.g.lt hB), h.o.below hb hB, h.r.below hb (Nat.lt_of_lt_of_le h.r.lt hB), h.rd.below hb hB,
    fun a' ha => ⟨(h.sep a' ha).1, (h.sep a' ha).2.1, Nat.lt_of_lt_of_le (h.sep a' ha).2.2.1 hb.size, (h.sep a' ha).2.2.2⟩, h.cap1, h.cap2⟩
theorem SS.alloc (h : SS B gs gw M w0 w xs A n cap A' cap' ms) (o : Obj) : SS B gs gw M w0 (w.alloc o) xs A n cap A' cap' ms :=
  h.below ((Below.refl w.heap.size w).alloc (Nat.le_refl _) o) (Nat.le_refl _)
theorem SS.drewN (h : SS B gs gw M w0 w xs A n cap A' cap' ms) (q : Nat) : SS B gs gw M w0 (w.drewN q) xs A n cap A' cap' ms :=
  h.below (below_drewN (Below.refl w.heap.size w) q) (Nat.le_refl _)

/-- The reference's variable stored over: with what is read from it. -/
theorem SS.store {A2 : Option Addr} {n2 cap2 : Nat} {ms2 : Int} {xs2 : List Int} {A3 : Option Addr} {cap3 : Nat} (hbg : B ≤ gs) (hgg : gs < gw) (hb : Below B w0 w) (hg : Blk w gs 59 #[.slice A3 n2 cap3, .int .i64 M, .int .i64 ms2])
    (ho : Own w B 35 1 A3 n2 cap3 (ws xs2)) {c0 c1 c2 : Value} (hr : Blk w gw 38 #[c0, c1, c2]) (hrd : Rd w 1 A2 n2 (ws xs2))
    (hs : ∀ a', A2 = some a' → a'.block ≠ gs ∧ a'.block ≠ gw ∧ a'.block < w.heap.size ∧ ∀ a, A3 = some a → a.block ≠ a'.block) (h1 : n2 ≤ cap2) (h2 : cap2 ≤ maxLen) :
    SS B gs gw M w0 (store3 w gw (.slice A2 n2 cap2) (.int .i64 M) (.int .i64 ms2)) xs2 A3 n2 cap3 A2 cap2 ms2 := by
  have hM := Mod.of_grown (only_store3 w gw (.slice A2 n2 cap2) (.int .i64 M) (.int .i64 ms2))
  have hB : B ≤ w.heap.size := Nat.le_of_lt (Nat.lt_of_le_of_lt hbg hg.lt)
  refine ⟨hbg, hgg, Below.mod hb hM hB (fun k _ hk => by injection hk with hk; omega), hM.blk hg (fun hk => by injection hk with hk; omega), ho.mod hM (fun a ha hk => ?_), hr.store3 _ _ _, hrd.mod hM (fun a ha hk => ?_),
    fun a' ha => ⟨(hs a' ha).1, (hs a' ha).2.1, Nat.lt_of_lt_of_le (hs a' ha).2.2.1 hM.size, (hs a' ha).2.2.2⟩, h1, h2⟩
  · injection hk with hk
    exact ho.ne hr (by decide) a ha hk.symm
  · injection hk with hk
    exact (hs a ha).2.1 hk.symm

/-- The reference's count of what was missed set to 0. -/
theorem SS.set2 {A2 : Option Addr} {n2 cap2 : Nat} {xs2 : List Int} {A3 : Option Addr} {cap3 : Nat} {c2 : Value} (hbg : B ≤ gs) (hgg : gs < gw) (hb : Below B w0 w) (hg : Blk w gs 59 #[.slice A3 n2 cap3, .int .i64 M, .int .i64 0])
    (ho : Own w B 35 1 A3 n2 cap3 (ws xs2)) (hr : Blk w gw 38 #[.slice A2 n2 cap2, .int .i64 M, c2]) (hrd : Rd w 1 A2 n2 (ws xs2))
    (hs : ∀ a', A2 = some a' → a'.block ≠ gs ∧ a'.block ≠ gw ∧ a'.block < w.heap.size ∧ ∀ a, A3 = some a → a.block ≠ a'.block) (h1 : n2 ≤ cap2) (h2 : cap2 ≤ maxLen) :
    SS B gs gw M w0 (w.setCell ⟨gw, 2, none⟩ (.int .i64 0)) xs2 A3 n2 cap3 A2 cap2 0 := by
  have hM : Mod w (w.setCell ⟨gw, 2, none⟩ (.int .i64 0)) (fun k => k = gw) := Mod.set (S := fun k => k = gw) (Mod.refl w _) (.inr rfl) _
  have hB : B ≤ w.heap.size := Nat.le_of_lt (Nat.lt_of_le_of_lt hbg hg.lt)
  refine ⟨hbg, hgg, Below.mod hb hM hB (fun k _ hk => by omega), hM.blk hg (by omega), ho.mod hM (fun a ha hk => ho.ne hr (by decide) a ha hk), ?_, hrd.mod hM (fun a ha hk => (hs a ha).2.1 hk),
    fun a' ha => ⟨(hs a' ha).1, (hs a' ha).2.1, Nat.lt_of_lt_of_le (hs a' ha).2.2.1 hM.size, (hs a' ha).2.2.2⟩, h1, h2⟩
  refine Blk.conv (Blk.set_ hr 2 _) ?_
  simp

/-- What a call on the program's stack does to what the reference's variable and row are. -/
theorem SS.ref_mod {S : Nat → Prop} (h : SS B gs gw M w0 w xs A n cap A' cap' ms) (hM : Mod w w' S) (hS : ∀ k, S k → k = gs ∨ ∃ a, A = some a ∧ a.block = k) :
    Below B w0 w' ∧ Blk w' gw 38 #[.slice A' n cap', .int .i64 M, .int .i64 ms] ∧ Rd w' 1 A' n (ws xs) ∧ (∀ a', A' = some a' → a'.block < w'.heap.size) := by
  have h1 : ∀ k, S k → B ≤ k := fun k hk => by
    rcases hS k hk with rfl | ⟨a, ha, rfl⟩
    · exact h.bg
    · exact (h.o.lt a ha).1
  have h2 : ¬ S gw := fun hk => by
    rcases hS gw hk with e | ⟨a, ha, e⟩
    · have := h.gg; omega
    · exact h.o.ne h.r (by decide) a ha e
  refine ⟨Below.mod h.b hM h.size (fun k _ hk => h1 k hk), hM.blk h.r h2, h.rd.mod hM (fun a ha hk => ?_), fun a ha => Nat.lt_of_lt_of_le (h.sep a ha).2.2.1 hM.size⟩
  rcases hS _ hk with e | ⟨a2, ha2, e⟩
  · exact (h.sep a ha).1 e
  · exact (h.sep a ha).2.2.2 a2 ha2 e
end
end Go.Proofs.Ytiememacpeflbaa
