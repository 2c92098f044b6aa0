/- The walks of regs: Right, Set, Get. -/
import Derived.Test.YtebdnggcnoaieaaProg
import Derived.Test.YtebdnggcnoaieaaAgg
import Derived.WalkKit
import Derived.BigQuiet
import Derived.Deep.QuietTactic
import Derived.Handy
import Derived.WalkLawsBesides
import Derived.WalkSpells
namespace Go.Proofs.Ytebdnggcnoaieaa
open Go.RowKit
set_option linter.unusedVariables false
set_option linter.unusedSimpArgs false

/-- The cells of a file. -/
def fcells (fs : List Int) : Array Value := (fs.map (Value.int .i64)).toArray
theorem fcells_size (fs : List Int) : (fcells fs).size = fs.length := by simp [fcells]
theorem fcells_at (fs : List Int) (j : Nat) (h : j < fs.length) : (fcells fs)[j]? = some (.int .i64 (fs.getD j 0)) := by
  simp [fcells, List.getD, h]
theorem fcells_set (fs : List Int) (j : Nat) (x : Int) : (fcells fs).setIfInBounds j (.int .i64 x) = fcells (fs.set j x) := by
  apply Array.ext'
  simp [fcells, List.map_set]

/-- Is there such a register? -/
def okName (m r : Int) : Prop := 0 ≤ m ∧ m < 4 ∧ 0 ≤ r ∧ r < 8
instance (m r : Int) : Decidable (okName m r) := by unfold okName; infer_instance

theorem right_yes (m r : Int) (w : World) (h : okName m r) :
    Calls Try.prog 7 #[.agg #[.int .i64 m, .int .i64 r]] w fun e w' => e = .returned (.bool true) ∧ Below w.heap.size w w' := by
  obtain ⟨h1, h2, h3, h4⟩ := h
  go_enter Try.func7, Try.ntmps7
  go_wp2
  go_ret
  exact ⟨rfl, (Below.refl _ _).alloc (Nat.le_refl _) _⟩

theorem right_no (m r : Int) (w : World) (h : ¬ okName m r) :
    Calls Try.prog 7 #[.agg #[.int .i64 m, .int .i64 r]] w fun e w' => e = .returned (.bool false) ∧ Below w.heap.size w w' := by
  unfold okName at h
  by_cases h1 : 0 ≤ m
  · by_cases h2 : m < 4
    · by_cases h3 : 0 ≤ r
      · have h4 : 8 ≤ r := by omega
        have hd : decide (r < 8) = false := by simp; omega
        clear h
        go_enter Try.func7, Try.ntmps7
        go_wp2
        go_ret
        exact ⟨rfl, (Below.refl _ _).alloc (Nat.le_refl _) _⟩
      · clear h
        go_enter Try.func7, Try.ntmps7
        go_wp2
        go_ret
        exact ⟨rfl, (Below.refl _ _).alloc (Nat.le_refl _) _⟩
    · clear h
      go_enter Try.func7, Try.ntmps7
      go_wp2
      go_ret
      exact ⟨rfl, (Below.refl _ _).alloc (Nat.le_refl _) _⟩
  · clear h
    go_enter Try.func7, Try.ntmps7
    go_wp2
    go_ret
    exact ⟨rfl, (Below.refl _ _).alloc (Nat.le_refl _) _⟩

theorem set_no (g : Nat) (m r x : Int) (w : World) (h : ¬ okName m r ∨ x < 0) :
    Calls Try.prog 6 #[.pointer (some ⟨g, 0, none⟩), .agg #[.int .i64 m, .int .i64 r], .int .i64 x] w fun e w' => e = .returned (.int .i64 1) ∧ Below w.heap.size w w' := by
  by_cases hr : okName m r
  · have hx : x < 0 := by rcases h with h | h; exact absurd hr h; exact h
    have HR := Lib.hid hr
    clear h hr
    go_enter Try.func6, Try.ntmps6
    go_wp2_with fail
    refine (right_yes m r _ HR.out).mono ?_
    rintro e w1 ⟨rfl, hb⟩
    have Hb := Lib.hid (((Below.refl _ w).alloc (Nat.le_refl _) _).trans (hb.mono (by simp)))
    clear hb
    go_wp2_with fail
    go_ret
    exact ⟨rfl, Hb.out⟩
  · have HR := Lib.hid hr
    clear h hr
    go_enter Try.func6, Try.ntmps6
    go_wp2_with fail
    refine (right_no m r _ HR.out).mono ?_
    rintro e w1 ⟨rfl, hb⟩
    have Hb := Lib.hid (((Below.refl _ w).alloc (Nat.le_refl _) _).trans (hb.mono (by simp)))
    clear hb
    go_wp2_with fail
    go_ret
    exact ⟨rfl, Hb.out⟩

set_option maxHeartbeats 400000 in
theorem set_yes (g m r : Nat) (x : Int) (fs : List Int) (w : World) (hm : m < 4) (hr : r < 8) (hx : 0 ≤ x) (hf : fs.length = 32) (hB : Blk w g 30 (fcells fs)) :
    Calls Try.prog 6 #[.pointer (some ⟨g, 0, none⟩), .agg #[.int .i64 m, .int .i64 r], .int .i64 x] w fun e w' => e = .returned (.int .i64 0) ∧
      Blk w' g 30 (fcells (fs.set (m * 8 + r) x)) ∧ Mod w w' (fun k => k = g) := by
  have hok : okName m r := ⟨by omega, by omega, by omega, by omega⟩
  have HR := Lib.hid hok
  have HB := Lib.hid hB
  have hg := hB.lt
  have Hf := Lib.hid hf
  clear hok hB hf
  go_enter Try.func6, Try.ntmps6
  go_wp2_with fail
  refine (right_yes m r _ HR.out).mono ?_
  rintro e w1 ⟨rfl, hb⟩
  have HB1 := Lib.hid ((HB.out.alloc _).below hb (by simp; omega))
  have c0 : w1.cell? ⟨w.heap.size, 0, none⟩ = some (.int .i64 m) := (hb.cell (p := ⟨w.heap.size, 0, none⟩) (by simp)).trans ((Blk.new w 24 _).cell 0)
  have c1 : w1.cell? ⟨w.heap.size, 1, none⟩ = some (.int .i64 r) := (hb.cell (p := ⟨w.heap.size, 1, none⟩) (by simp)).trans ((Blk.new w 24 _).cell 1)
  have Hb := Lib.hid (((Below.refl _ w).alloc (Nat.le_refl _) _).trans (hb.mono (by simp)))
  have cx : w1.cell? ⟨g, m * 8 + r, none⟩ = some (.int .i64 (fs.getD (m * 8 + r) 0)) := (HB1.out.cell _).trans (fcells_at fs _ (by rw [Hf.out]; omega))
  have fx := HB1.out.frozen (m * 8 + r)
  clear hb HB
  go_wp2_with fail
  go_region
  have HM := Lib.hid (Mod.set (S := fun k => k = g) (p := ⟨g, m * 8 + r, none⟩) (((Mod.of_below Hb.out).mono (fun k hk h => absurd h (by omega))).drewN 1) (.inr rfl) (.int .i64 x))
  have HB2 := Lib.hid (Blk.conv (((HB1.out.drewN 1).set_ (m * 8 + r) (.int .i64 x))) (fcells_set fs (m * 8 + r) x))
  go_wp2
  go_ret
  refine ⟨rfl, ?_, ?_⟩
  · exact HB2.out
  · exact HM.out

theorem get_no (g : Nat) (m r : Int) (w : World) (h : ¬ okName m r) :
    Calls Try.prog 8 #[.pointer (some ⟨g, 0, none⟩), .agg #[.int .i64 m, .int .i64 r]] w fun e w' => e = .returned (.tuple #[.int .i64 0, .int .i64 1]) ∧ Below w.heap.size w w' := by
  have HR := Lib.hid h
  clear h
  go_enter Try.func8, Try.ntmps8
  go_wp2_with fail
  refine (right_no m r _ HR.out).mono ?_
  rintro e w1 ⟨rfl, hb⟩
  have Hb := Lib.hid (((Below.refl _ w).alloc (Nat.le_refl _) _).trans (hb.mono (by simp)))
  clear hb
  go_wp2_with fail
  go_ret2
  exact ⟨rfl, Hb.out⟩

theorem get_yes (g m r : Nat) (fs : List Int) (w : World) (hm : m < 4) (hr : r < 8) (hf : fs.length = 32) (hB : Blk w g 30 (fcells fs)) :
    Calls Try.prog 8 #[.pointer (some ⟨g, 0, none⟩), .agg #[.int .i64 m, .int .i64 r]] w fun e w' => e = .returned (.tuple #[.int .i64 (fs.getD (m * 8 + r) 0), .int .i64 0]) ∧ Below w.heap.size w w' := by
  have hok : okName m r := ⟨by omega, by omega, by omega, by omega⟩
  have HR := Lib.hid hok
  have hcx : w.cell? ⟨g, m * 8 + r, none⟩ = some (.int .i64 (fs.getD (m * 8 + r) 0)) := (hB.cell _).trans (fcells_at fs _ (by omega))
  generalize fs.getD (m * 8 + r) 0 = x at *
  have HB := Lib.hid hB
  have hg := hB.lt
  have Hf := Lib.hid hf
  clear hok hB hf
  go_enter Try.func8, Try.ntmps8
  go_wp2_with fail
  refine (right_yes m r _ HR.out).mono ?_
  rintro e w1 ⟨rfl, hb⟩
  have HB1 := Lib.hid ((HB.out.alloc _).below hb (by simp; omega))
  have c0 : w1.cell? ⟨w.heap.size, 0, none⟩ = some (.int .i64 m) := (hb.cell (p := ⟨w.heap.size, 0, none⟩) (by simp)).trans ((Blk.new w 24 _).cell 0)
  have c1 : w1.cell? ⟨w.heap.size, 1, none⟩ = some (.int .i64 r) := (hb.cell (p := ⟨w.heap.size, 1, none⟩) (by simp)).trans ((Blk.new w 24 _).cell 1)
  have Hb := Lib.hid (((Below.refl _ w).alloc (Nat.le_refl _) _).trans (hb.mono (by simp)))
  have cx : w1.cell? ⟨g, m * 8 + r, none⟩ = some (.int .i64 x) := (hb.cell (p := ⟨g, m * 8 + r, none⟩) (by simp; omega)).trans ((World.cell?_alloc_lt w _ ⟨g, m * 8 + r, none⟩ hg).trans hcx)
  clear hb HB hcx
  go_wp2_with fail
  go_quiet (fail)
  go_wp2_with fail
  go_ret2
  exact ⟨rfl, below_drewN Hb.out _⟩
end Go.Proofs.Ytebdnggcnoaieaa
