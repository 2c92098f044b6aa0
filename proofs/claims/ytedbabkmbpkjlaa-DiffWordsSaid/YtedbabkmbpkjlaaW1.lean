/- The walks of Right, of the reference's Right, and of Same. -/
import Derived.Test.YtedbabkmbpkjlaaProg
import Derived.Test.YtedbabkmbpkjlaaAgg
import Derived.Test.YtedbabkmbpkjlaaOpen
import Derived.WalkKit
import Derived.BigQuiet
import Derived.Deep.QuietTactic
import Derived.Handy
import Derived.WalkLawsBesides
import Derived.WalkSpells
namespace Go.Proofs.Ytedbabkmbpkjlaa
open Go.RowKit
set_option linter.unusedVariables false
set_option linter.unusedSimpArgs false

/-- May a change be of a row of so many words? -/
def okCh (a : Int) (n m : Nat) (words : Nat) : Prop := 0 ≤ a ∧ m = n ∧ 0 < m ∧ a ≤ words ∧ (m : Int) ≤ words - a
instance (a : Int) (n m words : Nat) : Decidable (okCh a n m words) := by unfold okCh; infer_instance

theorem right_any (a : Int) (A A2 : Option Addr) (n c m c2 words : Nat) (w : World) (hw : words ≤ 1000000) :
    Calls Try.prog 7 #[.agg #[.int .i64 a, .slice A n c, .slice A2 m c2], .int .i64 words] w fun e w' => e = .returned (.bool (decide (okCh a n m words))) ∧ Below w.heap.size w w' := by
  by_cases h : okCh a n m words
  · have hd := Lib.hid (decide_eq_true h)
    obtain ⟨h1, rfl, h3, h4, h5⟩ := h
    go_enter Try.func7, Try.ntmps7
    go_wp2_with fail
    go_ret
    rw [hd.out]
    exact ⟨rfl, (Below.refl _ _).alloc (Nat.le_refl _) _⟩
  · have hd := Lib.hid (decide_eq_false h)
    unfold okCh at h
    by_cases hca0 : a < 0
    · clear h
      go_enter Try.func7, Try.ntmps7
      go_wp2_with fail
      go_ret
      rw [hd.out]
      exact ⟨rfl, (Below.refl _ _).alloc (Nat.le_refl _) _⟩
    ·
      by_cases hceq : m ≠ n
      · clear h
        go_enter Try.func7, Try.ntmps7
        go_wp2_with fail
        go_ret
        rw [hd.out]
        exact ⟨rfl, (Below.refl _ _).alloc (Nat.le_refl _) _⟩
      · have he : m = n := by omega
        subst he
        by_cases hcpos : m = 0
        · clear h
          subst hcpos
          go_enter Try.func7, Try.ntmps7
          go_wp2_with fail
          go_ret
          rw [hd.out]
          exact ⟨rfl, (Below.refl _ _).alloc (Nat.le_refl _) _⟩
        ·
          by_cases hcle : (words : Int) < a
          · clear h
            go_enter Try.func7, Try.ntmps7
            go_wp2_with fail
            go_ret
            rw [hd.out]
            exact ⟨rfl, (Below.refl _ _).alloc (Nat.le_refl _) _⟩
          ·
            by_cases hcfit : (words : Int) - a < m
            · clear h
              have hf : decide ((m : Int) ≤ (words : Int) - a) = false := by rw [decide_eq_false_iff_not]; omega
              go_enter Try.func7, Try.ntmps7
              go_wp2_with fail
              go_ret
              rw [hd.out]
              exact ⟨rfl, (Below.refl _ _).alloc (Nat.le_refl _) _⟩
            · exfalso
              exact h ⟨by omega, by omega, by omega, by omega, by omega⟩

theorem refright_any (a : Int) (A A2 : Option Addr) (n c m c2 words : Nat) (w : World) (hw : words ≤ 1000000) :
    Calls Try.prog 8 #[.agg #[.int .i64 a, .slice A n c, .slice A2 m c2], .int .i64 words] w fun e w' => e = .returned (.bool (decide (okCh a n m words))) ∧ Below w.heap.size w w' := by
  by_cases h : okCh a n m words
  · have hd := Lib.hid (decide_eq_true h)
    obtain ⟨h1, rfl, h3, h4, h5⟩ := h
    go_enter Try.func8, Try.ntmps8
    go_wp2_with fail
    go_ret
    rw [hd.out]
    exact ⟨rfl, (Below.refl _ _).alloc (Nat.le_refl _) _⟩
  · have hd := Lib.hid (decide_eq_false h)
    unfold okCh at h
    by_cases hca0 : a < 0
    · clear h
      go_enter Try.func8, Try.ntmps8
      go_wp2_with fail
      go_ret
      rw [hd.out]
      exact ⟨rfl, (Below.refl _ _).alloc (Nat.le_refl _) _⟩
    ·
      by_cases hcpos : n = 0
      · clear h
        subst hcpos
        go_enter Try.func8, Try.ntmps8
        go_wp2_with fail
        go_ret
        rw [hd.out]
        exact ⟨rfl, (Below.refl _ _).alloc (Nat.le_refl _) _⟩
      ·
        by_cases hceq : m ≠ n
        · clear h
          go_enter Try.func8, Try.ntmps8
          go_wp2_with fail
          go_ret
          rw [hd.out]
          exact ⟨rfl, (Below.refl _ _).alloc (Nat.le_refl _) _⟩
        · have he : m = n := by omega
          subst he
          by_cases hcle : (words : Int) < a
          · clear h
            go_enter Try.func8, Try.ntmps8
            go_wp2_with fail
            go_ret
            rw [hd.out]
            exact ⟨rfl, (Below.refl _ _).alloc (Nat.le_refl _) _⟩
          ·
            by_cases hcfit : (words : Int) - a < m
            · clear h
              have hf : decide ((m : Int) ≤ (words : Int) - a) = false := by rw [decide_eq_false_iff_not]; omega
              go_enter Try.func8, Try.ntmps8
              go_wp2_with fail
              go_ret
              rw [hd.out]
              exact ⟨rfl, (Below.refl _ _).alloc (Nat.le_refl _) _⟩
            · exfalso
              exact h ⟨by omega, by omega, by omega, by omega, by omega⟩
end Go.Proofs.Ytedbabkmbpkjlaa
