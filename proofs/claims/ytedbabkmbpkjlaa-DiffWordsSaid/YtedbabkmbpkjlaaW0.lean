/- Changes that are gathered: what holds of their rows in memory. -/
import Derived.Test.YtedbabkmbpkjlaaW4
import Derived.Test.YtedbabkmbpkjlaaSeg
namespace Go.Proofs.Ytedbabkmbpkjlaa
open Go.RowKit
set_option linter.unusedVariables false
set_option linter.unusedSimpArgs false

theorem frozen_mod {w w' : World} {S : Nat → Prop} {p : Addr} (m : Mod w w' S) (hlt : p.block < w.heap.size) (h : w.frozen? p = false) (hs : ¬ S p.block) : w'.frozen? p = false :=
  (World.frozen?_of_block (m.block p.block hlt hs)).trans h
theorem Own.apart {w : World} {B e sz n cap B' e' sz' n' cap' : Nat} {A A' : Option Addr} {xs xs' : List Value} (h : Own w B e sz A n cap xs) (h' : Own w B' e' sz' A' n' cap' xs') (hne : e ≠ e') : ∀ a, A = some a → ∀ a', A' = some a' → a.block ≠ a'.block := by
  intro a ha a' ha'
  rcases h'.form with ⟨h1, _⟩ | ⟨g, cur, h0, h1, h2, _⟩
  · rw [h1] at ha'; cases ha'
  · rw [h0] at ha'
    cases ha'
    exact h.ne h2 hne a ha
theorem Own.set_far {w : World} {B e sz n cap : Nat} {A : Option Addr} {xs : List Value} (h : Own w B e sz A n cap xs) {g j : Nat} (hne : ∀ a, A = some a → a.block ≠ g) (u : Value) : Own (w.setCell ⟨g, j, none⟩ u) B e sz A n cap xs :=
  h.mod (Mod.set (S := fun k => k = g) (Mod.refl w _) (p := ⟨g, j, none⟩) (.inr rfl) u) (fun a ha => hne a ha)

/-- The slices of segments: the blocks of their rows, and the capacities. -/
structure Bl where
  a : Nat
  ca : Nat
  b : Nat
  cb : Nat
def seg (ss : List (Nat × Nat)) (j : Nat) : Nat × Nat := ss.getD j (0, 0)
def hdOf (sa sb : List (Nat × Nat)) (bl : Nat → Bl) (j : Nat) : Hd :=
  ⟨some ⟨(bl j).a, 0, none⟩, (seg sa j).2 - (seg sa j).1, (bl j).ca, some ⟨(bl j).b, 0, none⟩, (seg sb j).2 - (seg sb j).1, (bl j).cb⟩
def posOf (ss : List (Nat × Nat)) (j : Nat) : Int := ((seg ss j).1 : Nat)

/-- What is gathered: segments sa of was, sb of now. -/
structure WCore (B : Nat) (was now : List Int) (sa sb : List (Nat × Nat)) (n : Nat) (A : Option Addr) (cap : Nat) (bl : Nat → Bl) (w0 wr : World) : Prop where
  out : Own wr B 27 3 A n cap (hcells (posOf sa) (hdOf sa sb bl) n)
  va : ∀ j, j < n → Own wr B 46 1 (some ⟨(bl j).a, 0, none⟩) ((seg sa j).2 - (seg sa j).1) (bl j).ca (ucells (sub was (seg sa j).1 (seg sa j).2))
  vb : ∀ j, j < n → Own wr B 46 1 (some ⟨(bl j).b, 0, none⟩) ((seg sb j).2 - (seg sb j).1) (bl j).cb (ucells (sub now (seg sb j).1 (seg sb j).2))
  sep : ∀ j l, j < l → l + 1 = n → (bl j).a ≠ (bl l).a ∧ (bl j).a ≠ (bl l).b ∧ (bl j).b ≠ (bl l).a ∧ (bl j).b ≠ (bl l).b
  two : ∀ l, l + 1 = n → (bl l).a ≠ (bl l).b
  b : Below B w0 wr

section
variable {B : Nat} {was now : List Int} {sa sb : List (Nat × Nat)} {n : Nat} {A : Option Addr} {cap : Nat} {bl : Nat → Bl} {w0 wr : World}
theorem WCore.drewN (h : WCore B was now sa sb n A cap bl w0 wr) (k : Nat) : WCore B was now sa sb n A cap bl w0 (wr.drewN k) :=
  ⟨h.out.drewN k, fun j hj => (h.va j hj).drewN k, fun j hj => (h.vb j hj).drewN k, h.sep, h.two, below_drewN h.b k⟩
theorem hcells_congr {pos pos' : Nat → Int} {hd hd' : Nat → Hd} (n : Nat) (h : ∀ j, j < n → pos j = pos' j ∧ hd j = hd' j) : hcells pos hd n = hcells pos' hd' n := by
  induction n with
  | zero => rfl
  | succ n ih =>
    rw [hcells_succ, hcells_succ, ih (fun j hj => h j (by omega)), (h n (by omega)).1, (h n (by omega)).2]
theorem seg_more_lt {ss : List (Nat × Nat)} {l j : Nat} {x : Nat × Nat} (hl : l ≤ ss.length) (h : j < l) : seg (ss.take l ++ [x]) j = seg ss j := by
  unfold seg
  rw [getD_snoc_lt (by rw [List.length_take]; omega), getD_take_lt h]
theorem seg_more_eq {ss : List (Nat × Nat)} {l : Nat} {x : Nat × Nat} (hl : l ≤ ss.length) : seg (ss.take l ++ [x]) l = x := by
  unfold seg
  rw [getD_snoc_eq (by rw [List.length_take]; omega)]
theorem set_at1 (pos : Nat → Int) (hd : Nat → Hd) (l : Nat) (u : Value) : (hcells pos hd (l + 1)).set (l * 3 + 1) u = hcells pos hd l ++ [.int .i64 (pos l), u, .slice (hd l).A2 (hd l).m (hd l).c2] := by
  rw [hcells_succ, List.set_append_right _ _ (by rw [hcells_len]; omega), hcells_len, show l * 3 + 1 - l * 3 = 1 by omega]
  rfl
theorem set_at2 (pos : Nat → Int) (hd : Nat → Hd) (l : Nat) (u : Value) : (hcells pos hd (l + 1)).set (l * 3 + 2) u = hcells pos hd l ++ [.int .i64 (pos l), .slice (hd l).A (hd l).n (hd l).c, u] := by
  rw [hcells_succ, List.set_append_right _ _ (by rw [hcells_len]; omega), hcells_len, show l * 3 + 2 - l * 3 = 2 by omega]
  rfl
theorem WCore.alt (h : WCore B was now sa sb n A cap bl w0 wr) {j : Nat} (hj : j < n) : B ≤ (bl j).a ∧ (bl j).a < wr.heap.size := (h.va j hj).lt _ rfl
theorem WCore.blt (h : WCore B was now sa sb n A cap bl w0 wr) {j : Nat} (hj : j < n) : B ≤ (bl j).b ∧ (bl j).b < wr.heap.size := (h.vb j hj).lt _ rfl

/-- The last one's old words are more. -/
theorem WCore.moreA {l go s0 f n6 c6 ga : Nat} {w6 : World} (h : WCore B was now sa sb (l + 1) (some ⟨go, 0, none⟩) cap bl w0 wr) (hla : l < sa.length) (hs : (seg sa l).1 = s0)
    (hO6 : Own w6 B 46 1 (some ⟨ga, 0, none⟩) n6 c6 (ucells (sub was s0 f))) (hn6 : n6 = f - s0) (hM6 : Mod wr w6 (fun k => ∃ a, some (⟨(bl l).a, 0, none⟩ : Addr) = some a ∧ a.block = k)) (hat : ga = (bl l).a ∨ wr.heap.size ≤ ga) :
    WCore B was now (sa.take l ++ [(s0, f)]) sb (l + 1) (some ⟨go, 0, none⟩) cap (fun j => if j = l then ⟨ga, c6, (bl l).b, (bl l).cb⟩ else bl j) w0 (w6.setCell ⟨go, l * 3 + 1, none⟩ (.slice (some ⟨ga, 0, none⟩) n6 c6)) := by
  have hS : ∀ b, b ≠ (bl l).a → ¬ ∃ a, some (⟨(bl l).a, 0, none⟩ : Addr) = some a ∧ a.block = b := by
    rintro b hb ⟨a, ha, e⟩
    cases ha
    exact hb e.symm
  have hgo : ∀ j, j < l + 1 → (bl j).a ≠ go := fun j hj e => (h.va j hj).apart h.out (by decide) _ rfl _ rfl e
  have hgo2 : ∀ j, j < l + 1 → (bl j).b ≠ go := fun j hj e => (h.vb j hj).apart h.out (by decide) _ rfl _ rfl e
  have hout := h.out.mod hM6 (fun a ha => by cases ha; exact hS go (fun e => hgo l (by omega) e.symm))
  have hga : ga ≠ go := fun e => hO6.apart hout (by decide) _ rfl _ rfl e
  have hgB : B ≤ go := (h.out.lt _ rfl).1
  have hlt : ∀ j, j < l → j ≠ l := fun j hj => by omega
  have hsa : ∀ j, j < l → seg (sa.take l ++ [(s0, f)]) j = seg sa j := fun j hj => seg_more_lt (by omega) hj
  have hsl : seg (sa.take l ++ [(s0, f)]) l = (s0, f) := seg_more_eq (by omega)
  refine ⟨?_, fun j hj => ?_, fun j hj => ?_, fun j k hj hk => ?_, fun k hk => ?_, ?_⟩
  · have := hout.set_ (j := l * 3 + 1) (by omega) (.slice (some ⟨ga, 0, none⟩) n6 c6)
    rw [set_at1] at this
    rw [hcells_succ]
    have e1 : hcells (posOf (sa.take l ++ [(s0, f)])) (hdOf (sa.take l ++ [(s0, f)]) sb (fun j => if j = l then ⟨ga, c6, (bl l).b, (bl l).cb⟩ else bl j)) l = hcells (posOf sa) (hdOf sa sb bl) l := by
      refine hcells_congr l (fun j hj => ⟨?_, ?_⟩)
      · unfold posOf; rw [hsa j hj]
      · unfold hdOf; rw [hsa j hj]; simp only [if_neg (hlt j hj)]
    rw [e1]
    unfold posOf hdOf at this ⊢
    rw [hsl]
    simp only [if_true]
    rw [hs] at this
    subst hn6
    exact this
  · by_cases hjl : j = l
    · subst hjl
      simp only [if_true]
      rw [hsl]
      subst hn6
      exact hO6.set_far (fun a ha => by cases ha; exact hga) _
    · have hj' : j < l := by omega
      simp only [if_neg hjl]
      rw [hsa j hj']
      exact ((h.va j hj).mod hM6 (fun a ha => by cases ha; exact hS _ (h.sep j l hj' rfl).1)).set_far (fun a ha => by cases ha; exact hgo j hj) _
  · have : ((fun j => if j = l then (⟨ga, c6, (bl l).b, (bl l).cb⟩ : Bl) else bl j) j).b = (bl j).b ∧ ((fun j => if j = l then (⟨ga, c6, (bl l).b, (bl l).cb⟩ : Bl) else bl j) j).cb = (bl j).cb := by
      by_cases hjl : j = l
      · subst hjl; simp
      · simp [hjl]
    rw [this.1, this.2]
    refine ((h.vb j hj).mod hM6 (fun a ha => by
      cases ha
      refine hS _ ?_
      by_cases hjl : j = l
      · subst hjl; exact fun e => h.two j rfl e.symm
      · exact (h.sep j l (by omega) rfl).2.2.1)).set_far (fun a ha => by cases ha; exact hgo2 j hj) _
  · obtain rfl : k = l := by omega
    simp only [if_neg (hlt j hj), if_true]
    obtain ⟨s1, s2, s3, s4⟩ := h.sep j k hj rfl
    refine ⟨?_, s2, ?_, s4⟩
    · rcases hat with e | e
      · rw [e]; exact s1
      · have := (h.alt (j := j) (by omega)).2; omega
    · rcases hat with e | e
      · rw [e]; exact s3
      · have := (h.blt (j := j) (by omega)).2; omega
  · obtain rfl : k = l := by omega
    simp only [if_true]
    rcases hat with e | e
    · rw [e]; exact h.two k rfl
    · have := (h.blt (j := k) (by omega)).2; omega
  · exact (Below.mod h.b hM6 (by have := h.alt (j := l) (by omega); omega) (fun b _ ⟨a, ha, e⟩ => by cases ha; rw [← e]; exact (h.alt (j := l) (by omega)).1)).setCell (p := ⟨go, l * 3 + 1, none⟩) hgB _

/-- The last one's new words are more. -/
theorem WCore.moreB {l go s0 f n6 c6 gb : Nat} {w6 : World} (h : WCore B was now sa sb (l + 1) (some ⟨go, 0, none⟩) cap bl w0 wr) (hlb : l < sb.length) (hs : (seg sb l).1 = s0)
    (hO6 : Own w6 B 46 1 (some ⟨gb, 0, none⟩) n6 c6 (ucells (sub now s0 f))) (hn6 : n6 = f - s0) (hM6 : Mod wr w6 (fun k => ∃ a, some (⟨(bl l).b, 0, none⟩ : Addr) = some a ∧ a.block = k)) (hat : gb = (bl l).b ∨ wr.heap.size ≤ gb) :
    WCore B was now sa (sb.take l ++ [(s0, f)]) (l + 1) (some ⟨go, 0, none⟩) cap (fun j => if j = l then ⟨(bl l).a, (bl l).ca, gb, c6⟩ else bl j) w0 (w6.setCell ⟨go, l * 3 + 2, none⟩ (.slice (some ⟨gb, 0, none⟩) n6 c6)) := by
  have hS : ∀ b, b ≠ (bl l).b → ¬ ∃ a, some (⟨(bl l).b, 0, none⟩ : Addr) = some a ∧ a.block = b := by
    rintro b hb ⟨a, ha, e⟩
    cases ha
    exact hb e.symm
  have hgo : ∀ j, j < l + 1 → (bl j).a ≠ go := fun j hj e => (h.va j hj).apart h.out (by decide) _ rfl _ rfl e
  have hgo2 : ∀ j, j < l + 1 → (bl j).b ≠ go := fun j hj e => (h.vb j hj).apart h.out (by decide) _ rfl _ rfl e
  have hout := h.out.mod hM6 (fun a ha => by cases ha; exact hS go (fun e => hgo2 l (by omega) e.symm))
  have hga : gb ≠ go := fun e => hO6.apart hout (by decide) _ rfl _ rfl e
  have hgB : B ≤ go := (h.out.lt _ rfl).1
  have hlt : ∀ j, j < l → j ≠ l := fun j hj => by omega
  have hsa : ∀ j, j < l → seg (sb.take l ++ [(s0, f)]) j = seg sb j := fun j hj => seg_more_lt (by omega) hj
  have hsl : seg (sb.take l ++ [(s0, f)]) l = (s0, f) := seg_more_eq (by omega)
  refine ⟨?_, fun j hj => ?_, fun j hj => ?_, fun j k hj hk => ?_, fun k hk => ?_, ?_⟩
  · have := hout.set_ (j := l * 3 + 2) (by omega) (.slice (some ⟨gb, 0, none⟩) n6 c6)
    rw [set_at2] at this
    rw [hcells_succ]
    have e1 : hcells (posOf sa) (hdOf sa (sb.take l ++ [(s0, f)]) (fun j => if j = l then ⟨(bl l).a, (bl l).ca, gb, c6⟩ else bl j)) l = hcells (posOf sa) (hdOf sa sb bl) l := by
      refine hcells_congr l (fun j hj => ⟨rfl, ?_⟩)
      unfold hdOf; rw [hsa j hj]; simp only [if_neg (hlt j hj)]
    rw [e1]
    unfold posOf hdOf at this ⊢
    rw [hsl]
    simp only [if_true]
    subst hn6
    exact this
  · have : ((fun j => if j = l then (⟨(bl l).a, (bl l).ca, gb, c6⟩ : Bl) else bl j) j).a = (bl j).a ∧ ((fun j => if j = l then (⟨(bl l).a, (bl l).ca, gb, c6⟩ : Bl) else bl j) j).ca = (bl j).ca := by
      by_cases hjl : j = l
      · subst hjl; simp
      · simp [hjl]
    rw [this.1, this.2]
    refine ((h.va j hj).mod hM6 (fun a ha => by
      cases ha
      refine hS _ ?_
      by_cases hjl : j = l
      · subst hjl; exact h.two j rfl
      · exact (h.sep j l (by omega) rfl).2.1)).set_far (fun a ha => by cases ha; exact hgo j hj) _
  · by_cases hjl : j = l
    · subst hjl
      simp only [if_true]
      rw [hsl]
      subst hn6
      exact hO6.set_far (fun a ha => by cases ha; exact hga) _
    · have hj' : j < l := by omega
      simp only [if_neg hjl]
      rw [hsa j hj']
      exact ((h.vb j hj).mod hM6 (fun a ha => by cases ha; exact hS _ (h.sep j l hj' rfl).2.2.2)).set_far (fun a ha => by cases ha; exact hgo2 j hj) _
  · obtain rfl : k = l := by omega
    simp only [if_neg (hlt j hj), if_true]
    obtain ⟨s1, s2, s3, s4⟩ := h.sep j k hj rfl
    refine ⟨s1, ?_, s3, ?_⟩
    · rcases hat with e | e
      · rw [e]; exact s2
      · have := (h.alt (j := j) (by omega)).2; omega
    · rcases hat with e | e
      · rw [e]; exact s4
      · have := (h.blt (j := j) (by omega)).2; omega
  · obtain rfl : k = l := by omega
    simp only [if_true]
    rcases hat with e | e
    · rw [e]; exact h.two k rfl
    · have := (h.alt (j := k) (by omega)).2; omega
  · exact (Below.mod h.b hM6 (by have := h.blt (j := l) (by omega); omega) (fun b _ ⟨a, ha, e⟩ => by cases ha; rw [← e]; exact (h.blt (j := l) (by omega)).1)).setCell (p := ⟨go, l * 3 + 2, none⟩) hgB _

/-- One more. -/
theorem WCore.push {i ga gb cap' : Nat} {y z : Int} {A' : Option Addr} {wX w6 : World} (h : WCore B was now sa sa n A cap bl w0 wr) (hn : sa.length = n) (hB : B ≤ wr.heap.size) (hga : wr.heap.size ≤ ga) (hgb : wr.heap.size ≤ gb) (hne : ga ≠ gb)
    (hX : Below wr.heap.size wr wX) (Ha : Blk wX ga 46 #[.int .u64 y]) (Hb : Blk wX gb 46 #[.int .u64 z]) (hya : sub was i (i + 1) = [y]) (hyb : sub now i (i + 1) = [z])
    (hO6 : Own w6 B 27 3 A' (n + 1) cap' (hcells (posOf sa) (hdOf sa sa bl) n ++ [.int .i64 (i : Nat), .slice (some ⟨ga, 0, none⟩) 1 1, .slice (some ⟨gb, 0, none⟩) 1 1]))
    (hM6 : Mod wX w6 (fun k => ∃ a, A = some a ∧ a.block = k)) :
    WCore B was now (sa ++ [(i, i + 1)]) (sa ++ [(i, i + 1)]) (n + 1) A' cap' (fun j => if j = n then ⟨ga, 1, gb, 1⟩ else bl j) w0 w6 := by
  subst hn
  have hlt : ∀ j, j < sa.length → j ≠ sa.length := fun j hj => by omega
  have hsa : ∀ j, j < sa.length → seg (sa ++ [(i, i + 1)]) j = seg sa j := fun j hj => getD_snoc_lt hj
  have hsl : seg (sa ++ [(i, i + 1)]) sa.length = (i, i + 1) := getD_snoc_eq rfl
  have hA : ∀ a, A = some a → a.block < wr.heap.size ∧ B ≤ a.block := fun a ha => ⟨(h.out.lt a ha).2, (h.out.lt a ha).1⟩
  have hS : ∀ b, (∀ a, A = some a → b ≠ a.block) → ¬ ∃ a, A = some a ∧ a.block = b := by
    rintro b hb ⟨a, ha, e⟩
    exact hb a ha e.symm
  have one : ∀ (g : Nat) (x : Int), Blk wX g 46 #[.int .u64 x] → wr.heap.size ≤ g → Own w6 B 46 1 (some ⟨g, 0, none⟩) 1 1 (ucells [x]) := by
    intro g x hg hl
    refine ⟨rfl, .inr ⟨g, _, rfl, by omega, hM6.blk hg (hS g (fun a ha e => by have := (hA a ha).1; omega)), Nat.le_refl _, by unfold maxLen; omega, rfl, rfl⟩⟩
  refine ⟨?_, fun j hj => ?_, fun j hj => ?_, fun j k hj hk => ?_, fun k hk => ?_, ?_⟩
  · rw [hcells_succ]
    have e1 : hcells (posOf (sa ++ [(i, i + 1)])) (hdOf (sa ++ [(i, i + 1)]) (sa ++ [(i, i + 1)]) (fun j => if j = sa.length then ⟨ga, 1, gb, 1⟩ else bl j)) sa.length = hcells (posOf sa) (hdOf sa sa bl) sa.length := by
      refine hcells_congr _ (fun j hj => ⟨?_, ?_⟩)
      · unfold posOf; rw [hsa j hj]
      · unfold hdOf; rw [hsa j hj]; simp only [if_neg (hlt j hj)]
    rw [e1]
    unfold posOf hdOf at hO6 ⊢
    rw [hsl]
    simp only [if_true]
    rw [show i + 1 - i = 1 by omega]
    exact hO6
  · by_cases hjl : j = sa.length
    · subst hjl
      simp only [if_true]
      rw [hsl]
      simp only [hya]
      rw [show i + 1 - i = 1 by omega]
      exact one ga y Ha hga
    · have hj' : j < sa.length := by omega
      simp only [if_neg hjl]
      rw [hsa j hj']
      exact ((h.va j hj').below hX (Nat.le_refl _)).mod hM6 (fun a ha => by cases ha; exact hS _ (fun a' ha' => (h.va j hj').apart h.out (by decide) _ rfl a' ha'))
  · by_cases hjl : j = sa.length
    · subst hjl
      simp only [if_true]
      rw [hsl]
      simp only [hyb]
      rw [show i + 1 - i = 1 by omega]
      exact one gb z Hb hgb
    · have hj' : j < sa.length := by omega
      simp only [if_neg hjl]
      rw [hsa j hj']
      exact ((h.vb j hj').below hX (Nat.le_refl _)).mod hM6 (fun a ha => by cases ha; exact hS _ (fun a' ha' => (h.vb j hj').apart h.out (by decide) _ rfl a' ha'))
  · obtain rfl : k = sa.length := by omega
    simp only [if_neg (hlt j hj), if_true]
    have h1 := (h.alt (j := j) hj).2
    have h2 := (h.blt (j := j) hj).2
    exact ⟨by omega, by omega, by omega, by omega⟩
  · obtain rfl : k = sa.length := by omega
    simp only [if_true]
    exact hne
  · exact Below.mod (h.b.trans (hX.mono hB)) hM6 (Nat.le_trans hB hX.size) (fun b _ ⟨a, ha, e⟩ => by rw [← e]; exact (hA a ha).2)
end
end Go.Proofs.Ytedbabkmbpkjlaa
