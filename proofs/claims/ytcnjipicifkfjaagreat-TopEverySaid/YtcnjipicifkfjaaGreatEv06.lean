/- Rows made anew; slices.Clone. -/
import Derived.Test.YtcnjipicifkfjaaGreatEv05
import Derived.Lib.LazyBuf

namespace Go.Proofs.YtcnjipicifkfjaaGreat
open Go.RowKit
set_option linter.unusedVariables false
set_option linter.unusedSimpArgs false

theorem info28 : (Tryz.prog.info? 28).map (fun i => (i.size, i.bytes, i.zero)) = some (1, 8, some (.int .u64 0)) := by kernel_rfl
theorem info28s : ∃ i, Tryz.prog.info? 28 = some i ∧ i.zero = some (.int .u64 0) ∧ i.size = 1 ∧ i.bytes = 8 := by
  obtain ⟨i, hi, hi2⟩ := Option.map_eq_some_iff.1 info28
  simp only [Prod.mk.injEq] at hi2
  exact ⟨i, hi, hi2.2.2, hi2.1, hi2.2.1⟩
theorem info4 : (Tryz.prog.info? 4).map (fun i => (i.size, i.bytes, i.zero)) = some (1, 1, some (.bool false)) := by kernel_rfl
theorem info4s : ∃ i, Tryz.prog.info? 4 = some i ∧ i.zero = some (.bool false) ∧ i.size = 1 ∧ i.bytes = 1 := by
  obtain ⟨i, hi, hi2⟩ := Option.map_eq_some_iff.1 info4
  simp only [Prod.mk.injEq] at hi2
  exact ⟨i, hi, hi2.2.2, hi2.1, hi2.2.1⟩
theorem mk22 (n : Nat) (hn : n ≤ 1000000) : ∀ w : World, (Instr.makeSlice 22 (.int .i64 (n : Int)) (.int .i64 (n : Int))).run Tryz.prog w = .ok (.slice (some ⟨w.heap.size, 0, none⟩) n n) (w.alloc (.cells (madeCells #[.int .u64 0] n) 28)) := by
  intro w
  obtain ⟨i, hi, h3, h1, h2⟩ := info28s
  have hr := run_make (P := Tryz.prog) w 22 28 i (.int .u64 0) Tryz.underlying22 hi h3 .i64 .i64 n n (by omega) (by omega) (by rw [h2]; omega) (by omega)
  simp only [Int.toNat_natCast, h1, Nat.mul_one] at hr
  rw [hr]
  simp [Value.cells]
theorem mk88 (n : Nat) (hn : n ≤ 1000000) : ∀ w : World, (Instr.makeSlice 88 (.int .i64 (n : Int)) (.int .i64 (n : Int))).run Tryz.prog w = .ok (.slice (some ⟨w.heap.size, 0, none⟩) n n) (w.alloc (.cells (madeCells #[.bool false] n) 4)) := by
  intro w
  obtain ⟨i, hi, h3, h1, h2⟩ := info4s
  have hr := run_make (P := Tryz.prog) w 88 4 i (.bool false) Tryz.underlying88 hi h3 .i64 .i64 n n (by omega) (by omega) (by rw [h2]; omega) (by omega)
  simp only [Int.toNat_natCast, h1, Nat.mul_one] at hr
  rw [hr]
  simp [Value.cells]
def zerosN (n : Nat) : List Nat := List.replicate n 0
def falsesN (n : Nat) : List Bool := List.replicate n false
theorem own_made (w : World) (B : Nat) (e : TypeId) (z : Value) (n g : Nat) (hg : w.heap.size = g) (hB : B ≤ g) (hn : n ≤ 1000000) : Own (w.alloc (.cells (madeCells #[z] n) e)) B e 1 (some ⟨g, 0, none⟩) n n (List.replicate n z) := by
  have hb : Blk (w.alloc (.cells (madeCells #[z] n) e)) g e (madeCells #[z] n) := by rw [← hg]; exact Blk.new w e _
  have hs : (madeCells #[z] n).size = n * 1 := by rw [← Array.length_toList, toList_madeCells_one, List.length_replicate, Nat.mul_one]
  have ht : (madeCells #[z] n).toList.take (n * 1) = List.replicate n z := by rw [toList_madeCells_one, Nat.mul_one, List.take_of_length_le (by rw [List.length_replicate]; exact Nat.le_refl _)]
  have hm : n ≤ maxLen := by unfold maxLen; omega
  have hl : (List.replicate n z).length = n * 1 := by rw [List.length_replicate, Nat.mul_one]
  exact ⟨hl, .inr ⟨g, _, rfl, hB, hb, Nat.le_refl n, hm, hs, ht⟩⟩
theorem own_madeW (w : World) (B n g : Nat) (hg : w.heap.size = g) (hB : B ≤ g) (hm : n ≤ 800000) : Own (w.alloc (.cells (madeCells #[.int .u64 0] n) 28)) B 28 1 (some ⟨g, 0, none⟩) n n (wcells (zerosN n)) := by
  have := own_made w B 28 (.int .u64 0) n g hg hB (by omega)
  have e : wcells (zerosN n) = List.replicate n (.int .u64 0) := by simp [wcells, zerosN]
  rw [e]
  exact this
theorem own_madeB (w : World) (B m g : Nat) (hg : w.heap.size = g) (hB : B ≤ g) (hm : m ≤ 100000) : Own (w.alloc (.cells (madeCells #[.bool false] m) 4)) B 4 1 (some ⟨g, 0, none⟩) m m (blcells (falsesN m)) := by
  have := own_made w B 4 (.bool false) m g hg hB (by omega)
  have e : blcells (falsesN m) = List.replicate m (.bool false) := by simp [blcells, falsesN]
  rw [e]
  exact this

theorem clone_any (g n cap : Nat) (l : List Nat) (w : World) (hn0 : 0 < n) (hn : n ≤ 1000000) (hr : Rd w 1 (some ⟨g, 0, none⟩) n (wcells l)) :
    Calls Tryz.prog 90 #[.slice (some ⟨g, 0, none⟩) n cap] w fun e w' => ∃ g' cap', e = .returned (.slice (some ⟨g', 0, none⟩) n cap') ∧ Own w' w.heap.size 28 1 (some ⟨g', 0, none⟩) n cap' (wcells l) ∧ Below w.heap.size w w' := by
  obtain ⟨i, hi, h3, h1, h2⟩ := info28s
  have Hr := Lib.hid hr
  have heq : ∀ w, (binOp .eql 22 (.slice (some ⟨g, 0, none⟩) n cap) (.slice none 0 0)).run Tryz.prog w = .ok (.bool false) w := fun w => run_eql_slice_nil w 22 28 (some ⟨g, 0, none⟩) n cap Tryz.underlying22
  clear hr
  go_enter Tryz.func90, Tryz.ntmps90
  go_wp2_with (at_builtin; (refine append_rd rfl (.tmp 5) (.tmp 6) 22 rfl w.heap.size 28 i _ 1 8 Tryz.underlying22 hi h3 h1 h2 rfl (by omega) (some ⟨w.heap.size, 0, none⟩) 0 0 [] rfl (Own.empty w w.heap.size 28 1 w.heap.size rfl (Nat.le_refl _)) (some ⟨g, 0, none⟩) n cap (wcells l) rfl (Hr.out.alloc _) wcells_one n (by omega) (wcells l) rfl (by unfold maxLen; omega) (by omega) (by simp) ?_))
  intro A5 cap5 w5 hO5 hM5 hat5
  obtain ⟨g5, rfl, _⟩ := hO5.at_ hn0
  have HO5 := Lib.hid hO5
  have Hb5 := Lib.hid (Below.mod ((Below.refl _ w).alloc (Nat.le_refl _) (.cells #[] 28)) hM5 (by simp) (fun k _ h => by first | omega | (obtain ⟨a, ha, e⟩ := h; cases ha; simp only at e; omega)))
  clear hO5 hM5 hat5
  go_wp2_with fail
  go_ret
  exact ⟨g5, cap5, rfl, HO5.out, Hb5.out⟩
end Go.Proofs.YtcnjipicifkfjaaGreat
