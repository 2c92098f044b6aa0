/- The walk of the reference's choose. -/
import Derived.Test.YthpljhkjajaogaaW2
import Derived.Laws.MakeOwn
namespace Go.Proofs.Ythpljhkjajaogaa
open Go.RowKit
set_option linter.unusedVariables false
set_option linter.unusedSimpArgs false

/-- A row of m entries, the first j of them right. -/
def pcells (i m j : Nat) : Array Value := ((List.range m).map fun q => Value.int .i64 ((if q < j then cell i q else 0 : Nat))).toArray
/-- A row that is right. -/
def rcells (i m : Nat) : Array Value := ((List.range m).map fun q => Value.int .i64 (cell i q : Nat)).toArray
theorem pcells_at (i m j q : Nat) (h : q < m) : (pcells i m j)[q]? = some (.int .i64 ((if q < j then cell i q else 0 : Nat))) := by
  simp [pcells, h]
theorem rcells_at (i m q : Nat) (h : q < m) : (rcells i m)[q]? = some (.int .i64 (cell i q : Nat)) := by
  simp [rcells, h]
theorem pcells_set (i m j : Nat) (h : j < m) : (pcells i m j).setIfInBounds j (.int .i64 (cell i j : Nat)) = pcells i m (j + 1) := by
  apply Array.ext'
  simp only [pcells, List.setIfInBounds_toArray, List.toArray_inj]
  apply List.ext_getElem
  · simp
  · intro q h1 h2
    simp only [List.length_set, List.length_map, List.length_range] at h1
    simp only [List.getElem_set, List.getElem_map, List.getElem_range]
    by_cases hq : j = q
    · subst hq; simp
    · rw [if_neg hq]
      by_cases hlt : q < j
      · rw [if_pos hlt, if_pos (by omega)]
      · rw [if_neg hlt, if_neg (by omega)]
theorem pcells_full (i m : Nat) : pcells i m m = rcells i m := by
  unfold pcells rcells
  congr 1
  apply List.map_congr_left
  intro q hq
  rw [if_pos (List.mem_range.1 hq)]
theorem pcells_none (i m : Nat) : madeCells #[.int .i64 0] m = pcells i m 0 := by
  apply Array.ext'
  rw [toList_madeCells_one]
  simp only [pcells, Nat.not_lt_zero, if_false]
  rw [List.map_const', List.length_range]
  rfl

theorem info3 : (Try.prog.info? 3).map (fun i => (i.size, i.bytes, i.zero)) = some (1, 8, some (.int .i64 0)) := by kernel_rfl
theorem mk22 (m : Nat) (L : Int) (h : L = m) (hm : m ≤ 1000000) :
    ∀ w : World, (Instr.makeSlice 22 (.int .i64 L) (.int .i64 L)).run Try.prog w = .ok (.slice (some ⟨w.heap.size, 0, none⟩) m m) (w.alloc (.cells (madeCells #[.int .i64 0] m) 3)) := by
  intro w
  subst h
  obtain ⟨i, hi, hi2⟩ := Option.map_eq_some_iff.1 info3
  simp only [Prod.mk.injEq] at hi2
  obtain ⟨h1, h2, h3⟩ := hi2
  have hr := run_make (P := Try.prog) w 22 3 i (.int .i64 0) Try.underlying22 hi h3 .i64 .i64 m m (by omega) (by omega) (by rw [h2]; omega) (by omega)
  rw [hr, h1]
  simp [Value.cells]

/-- What holds at the outer loop's head: i rows are done. -/
def RHead (k B i : Nat) (w : World) (v5 : Value) (wr : World) : Prop :=
  ∃ g, v5 = .slice (some ⟨g, 0, none⟩) (min i k + 1) (min i k + 1) ∧ Blk wr g 3 (rcells i (min i k + 1)) ∧ B ≤ g ∧ Below B w wr
/-- What holds at the inner loop's head: j entries are done. -/
structure NHead (B g g2 i m lr j : Nat) (w wr : World) : Prop where
  row : Blk wr g 3 (rcells i lr)
  next : Blk wr g2 3 (pcells (i + 1) m j)
  b : Below B w wr

theorem NHead.set {B g g2 i m lr j : Nat} {w wr : World} (h : NHead B g g2 i m lr j w wr) (hne : g ≠ g2) (hB : B ≤ g2) (hj : j < m) {x : Int} (hx : x = (cell (i + 1) j : Nat)) :
    NHead B g g2 i m lr (j + 1) w (wr.setCell ⟨g2, j, none⟩ (.int .i64 x)) := by
  subst hx
  exact ⟨h.row.far hne _, Blk.conv (h.next.set_ j _) (pcells_set _ _ _ hj), h.b.setCell hB _⟩
/-- What holds ahead of the last store of a round: entry j is x. -/
structure MHead (B g g2 i m lr j x : Nat) (w wr : World) : Prop where
  row : Blk wr g 3 (rcells i lr)
  next : ∃ cs, Blk wr g2 3 cs ∧ cs[j]? = some (.int .i64 x) ∧ ∀ v, cs.setIfInBounds j v = (pcells (i + 1) m j).setIfInBounds j v
  b : Below B w wr
theorem NHead.first {B g g2 i m lr j : Nat} {w wr : World} (h : NHead B g g2 i m lr j w wr) (hne : g ≠ g2) (hB : B ≤ g2) (hj : j < m) (x : Nat) :
    MHead B g g2 i m lr j x w (wr.setCell ⟨g2, j, none⟩ (.int .i64 x)) := by
  refine ⟨h.row.far hne _, ⟨_, h.next.set_ j _, ?_, fun v => ?_⟩, h.b.setCell hB _⟩
  · rw [Array.getElem?_setIfInBounds_self_of_lt]
    simp [pcells, hj]
  · rw [Array.setIfInBounds_setIfInBounds]
theorem NHead.none_ {B g g2 i m lr j : Nat} {w wr : World} (h : NHead B g g2 i m lr j w wr) (hj : j < m) : MHead B g g2 i m lr j 0 w wr := by
  refine ⟨h.row, ⟨_, h.next, (pcells_at _ _ _ _ hj).trans ?_, fun v => rfl⟩, h.b⟩
  rw [if_neg (Nat.lt_irrefl j)]
theorem MHead.fin {B g g2 i m lr j x : Nat} {w wr : World} (h : MHead B g g2 i m lr j x w wr) (hne : g ≠ g2) (hB : B ≤ g2) (hj : j < m) (n : Nat) {v : Int} (hv : v = (cell (i + 1) j : Nat)) :
    NHead B g g2 i m lr (j + 1) w ((wr.drewN n).setCell ⟨g2, j, none⟩ (.int .i64 v)) := by
  subst hv
  obtain ⟨cs, h1, h2, h3⟩ := h.next
  refine ⟨Blk.far (Blk.drewN h.row n) hne _, Blk.conv (Blk.set_ (Blk.drewN h1 n) j _) ?_, (below_drewN h.b n).setCell hB _⟩
  rw [h3, pcells_set _ _ _ hj]

set_option maxRecDepth 100000 in
set_option maxHeartbeats 1000000 in
theorem choose_any (n k : Nat) (w : World) (hn : n ≤ 1024) (hk : k ≤ n) :
    Calls Try.prog 20 #[.int .i64 n, .int .i64 k] w fun e w' => e = .returned (.int .i64 (cell n k : Nat)) ∧ Below w.heap.size w w' := by
  have HS : Hid (RHead k w.heap.size 0 w (.slice (some ⟨w.heap.size, 0, none⟩) 1 1) (w.alloc (.cells #[.int .i64 1] 3))) := by
    refine ⟨w.heap.size, ?_, ?_, Nat.le_refl _, (Below.refl _ _).alloc (Nat.le_refl _) _⟩
    · simp
    · refine Blk.conv (Blk.new _ _ _) ?_
      simp [rcells, cell_zero, List.range_succ]
  go_enter Try.func20, Try.ntmps20
  go_wp2_with fail
  generalize w.alloc _ = w1 at *
  go_loopw [5, 6] (fun v5 v6 wr => ∃ i : Nat, v6 = .int .i64 ((i : Int) + 1) ∧ i ≤ n ∧ RHead k w.heap.size i w v5 wr) (fun _ v6 _ => n + 1 - (intOf v6).toNat)
  case atStart => exact ⟨0, rfl, Nat.zero_le _, HS.out⟩
  case round =>
    clear HS
    obtain ⟨i, rfl, hi, g, rfl, hB, hg, hbel⟩ := hrel
    have HB := Lib.hid hB
    have Hbel := Lib.hid hbel
    clear hB hbel
    by_cases hlt : i < n
    · obtain ⟨m, Hm⟩ : ∃ m, Hid (min (i + 1) k + 1 = m) := ⟨_, rfl⟩
      obtain ⟨lr, Hlr⟩ : ∃ lr, Hid (min i k + 1 = lr) := ⟨_, rfl⟩
      have hm := Hm.out
      have hlr := Hlr.out
      have hlr0 : 1 ≤ lr := by omega
      have hlr1 : lr ≤ m := by omega
      have hlr2 : m ≤ lr + 1 := by omega
      have hlr3 : lr ≤ i + 1 := by omega
      have hm5 : m ≤ 2000 := by omega
      have hlr4 : lr < m → lr = i + 1 := by omega
      have Hlr4 := Lib.hid hlr4
      clear hlr4
      rw [Hlr.out] at HB ⊢
      obtain ⟨g2, Hg2⟩ : ∃ g2, Hid (wr.heap.size = g2) := ⟨_, rfl⟩
      have hg2 : g < g2 := by rw [← Hg2.out]; exact HB.out.lt
      have HN : Hid (NHead w.heap.size g g2 i m lr 0 w (wr.alloc (.cells (madeCells #[.int .i64 0] m) 3))) := by
        refine ⟨HB.out.alloc _, ?_, Hbel.out.alloc Hbel.out.size _⟩
        rw [← Hg2.out, pcells_none (i + 1)]
        exact Blk.new _ _ _
      have hbs := Hbel.out.size
      rw [Hg2.out] at hbs
      have hcase : ((i : Int) + 1 ≤ k ∧ ∀ w : World, (Instr.makeSlice 22 (.int .i64 ((i : Int) + 1 + 1)) (.int .i64 ((i : Int) + 1 + 1))).run Try.prog w = .ok (.slice (some ⟨w.heap.size, 0, none⟩) m m) (w.alloc (.cells (madeCells #[.int .i64 0] m) 3))) ∨
          ((k : Int) < (i : Int) + 1 ∧ ∀ w : World, (Instr.makeSlice 22 (.int .i64 ((k : Int) + 1)) (.int .i64 ((k : Int) + 1))).run Try.prog w = .ok (.slice (some ⟨w.heap.size, 0, none⟩) m m) (w.alloc (.cells (madeCells #[.int .i64 0] m) 3))) := by
        by_cases hik : (i : Int) + 1 ≤ k
        · exact .inl ⟨hik, mk22 m _ (by omega) (by omega)⟩
        · exact .inr ⟨by omega, mk22 m _ (by omega) (by omega)⟩
      clear hm hlr
      rcases hcase with ⟨hik, hmk⟩ | ⟨hik, hmk⟩
      all_goals
        go_wp2_with fail
        rw [Hg2.out]
        generalize wr.alloc _ = w2 at *
        clear hmk Hg2 HB Hbel hik
        go_loopw [8] (fun v8 wx => ∃ j : Nat, v8 = .int .i64 j ∧ j ≤ m ∧ NHead w.heap.size g g2 i m lr j w wx) (fun v8 _ => m - (intOf v8).toNat)
        case atStart => exact ⟨0, rfl, Nat.zero_le _, HN.out⟩
        case round =>
          clear HN
          obtain ⟨j, rfl, hj, hhead⟩ := hrel
          have HN := Lib.hid hhead
          clear hhead
          by_cases hjm : j < m
          · have fn := HN.out.next.frozen j
            have cn : wr.cell? ⟨g2, j, none⟩ = some (.int .i64 0) := by
              refine (HN.out.next.cell j).trans ((pcells_at _ _ _ _ hjm).trans ?_)
              rw [if_neg (Nat.lt_irrefl j)]
              rfl
            by_cases hj0 : j = 0
            · subst hj0
              have c1 : wr.cell? ⟨g, 0, none⟩ = some (.int .i64 1) := by
                refine (HN.out.row.cell 0).trans ((rcells_at _ _ _ hlr0).trans ?_)
                rw [cell_zero]
                rfl
              have HN2 := Lib.hid (HN.out.set (x := 1) (by omega) hbs hjm (by rw [cell_zero]; rfl))
              clear HN
              go_wp2_with fail
              exact ⟨⟨1, by go_num, by omega, HN2.out⟩, by simp [intOf]; omega⟩
            · obtain ⟨j0, Hj0⟩ : ∃ j0, Hid (j = j0 + 1) := ⟨j - 1, by show j = _; omega⟩
              have hj1 := Hj0.out
              have c2 : wr.cell? ⟨g, j - 1, none⟩ = some (.int .i64 (cell i j0 : Nat)) := (HN.out.row.cell _).trans ((rcells_at _ _ _ (by omega)).trans (by rw [hj1]; rfl))
              have Hst : Hid (cell (i + 1) j = min (cell i j + cell i j0) 1099511627776) := by
                show cell _ _ = _
                rw [hj1]
                exact cell_step i j0
              have hy := cell_le i j0
              have hx := cell_le i j
              unfold top at hx hy
              have Hr2 : Hid ((rcells i lr)[j - 1]? = some (.int .i64 (cell i j0 : Nat))) := (rcells_at _ _ _ (by omega)).trans (by rw [hj1]; rfl)
              clear hj1
              by_cases hjl : j < lr
              · have c1 : wr.cell? ⟨g, j, none⟩ = some (.int .i64 (cell i j : Nat)) := (HN.out.row.cell j).trans (rcells_at _ _ _ hjl)
                generalize cell i j0 = y at *
                generalize cell i j = x at *
                go_wp2_with fail
                have HM := Lib.hid (HN.out.first (by omega) hbs hjm x)
                generalize wr.setCell _ _ = w3 at *
                obtain ⟨cs, hcs, d1, _⟩ := HM.out.next
                have f1 := hcs.frozen j
                have d1 := (hcs.cell j).trans d1
                have d2 : w3.cell? ⟨g, j - 1, none⟩ = some (.int .i64 (y : Nat)) := (HM.out.row.cell _).trans Hr2.out
                clear hcs cn c2 fn c1 HN
                by_cases hbig : ((x : Int) + (y : Int) < 1099511627776)
                · have HF : ∀ q, Hid (NHead w.heap.size g g2 i m lr (j + 1) w ((w3.drewN q).setCell ⟨g2, j, none⟩ (.int .i64 ((x : Int) + (y : Int))))) := fun q => HM.out.fin (by omega) hbs hjm q (by rw [Hst.out]; omega)
                  go_region
                  go_wp2_with fail
                  exact ⟨⟨j + 1, by go_num, by omega, (HF 1).out⟩, by simp [intOf]; omega⟩
                · have hbig2 : 1099511627776 ≤ (x : Int) + (y : Int) := by omega
                  have hbig3 : (if 1099511627776 < (x : Int) + (y : Int) then 1099511627776 else (x : Int) + (y : Int)) = 1099511627776 := by split <;> omega
                  have HF : ∀ q, Hid (NHead w.heap.size g g2 i m lr (j + 1) w ((w3.drewN q).setCell ⟨g2, j, none⟩ (.int .i64 1099511627776))) := fun q => HM.out.fin (by omega) hbs hjm q (by rw [Hst.out]; omega)
                  go_region
                  go_wp2_with fail
                  exact ⟨⟨j + 1, by go_num, by omega, (HF 1).out⟩, by simp [intOf]; omega⟩
              · have Hx0 : Hid (cell i j = 0) := cell_none i j (by have := Hlr4.out (by omega); omega)
                rw [Hx0.out] at Hst
                clear Hx0
                generalize cell i j0 = y at *
                go_wp2_with fail
                have HM := Lib.hid (HN.out.none_ hjm)
                obtain ⟨cs, hcs, d1, _⟩ := HM.out.next
                have f1 := hcs.frozen j
                have d1 := (hcs.cell j).trans d1
                have d2 : wr.cell? ⟨g, j - 1, none⟩ = some (.int .i64 (y : Nat)) := (HM.out.row.cell _).trans Hr2.out
                clear hcs cn c2 fn HN
                have HF : ∀ q, Hid (NHead w.heap.size g g2 i m lr (j + 1) w ((wr.drewN q).setCell ⟨g2, j, none⟩ (.int .i64 (y : Int)))) := fun q => HM.out.fin (by omega) hbs hjm q (by rw [Hst.out]; omega)
                go_region
                go_wp2_with fail
                exact ⟨⟨j + 1, by go_num, by omega, (HF 1).out⟩, by simp [intOf]; omega⟩
          · have hje : j = m := by omega
            have HF : Hid (RHead k w.heap.size (i + 1) w (.slice (some ⟨g2, 0, none⟩) m m) wr) := by
              refine ⟨g2, ?_, ?_, hbs, HN.out.b⟩
              · rw [Hm.out]
              · rw [Hm.out, ← pcells_full, ← hje]
                have := HN.out.next
                rwa [← hje] at this
            clear HN
            go_wp2_with fail
            exact ⟨⟨i + 1, by go_num, by omega, HF.out⟩, by simp [intOf]; omega⟩
    · have hie : i = n := by omega
      have hmin : min i k = k := by omega
      rw [hmin] at HB ⊢
      have c1 : wr.cell? ⟨g, k, none⟩ = some (.int .i64 (cell i k : Nat)) := (HB.out.cell k).trans (rcells_at _ _ _ (by omega))
      rw [hie] at c1
      clear hmin
      go_wp2_with fail
      go_ret
      exact ⟨rfl, Hbel.out⟩
end Go.Proofs.Ythpljhkjajaogaa
