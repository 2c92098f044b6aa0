/- The walk of Right: the order that a schedule tells is right. -/
import Derived.Test.YthpljhkjajaogaaW7
namespace Go.Proofs.Ythpljhkjajaogaa
open Go.RowKit
set_option linter.unusedVariables false
set_option linter.unusedSimpArgs false

theorem st_len (ls ps : List Int) (k : Nat) : (st ls ps k).1.length = k := by
  induction k with
  | zero => rfl
  | succ k ih => simp [st, ih]
theorem st_pre (ls ps : List Int) (k j : Nat) (h : j < k) : (st ls ps k).1.getD j (0, 0) = (pick ls ps (st ls ps j).2 j, (st ls ps j).2.getD (pick ls ps (st ls ps j).2 j) 0) := by
  induction k with
  | zero => omega
  | succ k ih =>
    simp only [st]
    rw [List.getD_eq_getElem?_getD, List.getElem?_append]
    by_cases hj : j < k
    · rw [if_pos (by rw [st_len]; exact hj), ← List.getD_eq_getElem?_getD]
      exact ih hj
    · obtain rfl : j = k := by omega
      rw [if_neg (by rw [st_len]; omega), st_len, Nat.sub_self]
      rfl
theorem left_nil {ls : List Int} {nx : List Nat} (h : left ls nx = []) (i : Nat) (hi : i < ls.length) : ls.getD i 0 ≤ (nx.getD i 0 : Nat) := by
  rcases Int.lt_or_le ((nx.getD i 0 : Nat) : Int) (ls.getD i 0) with hlt | hle
  · exfalso
    have : i ∈ left ls nx := by
      unfold left leftTo
      rw [List.mem_filter]
      exact ⟨List.mem_range.2 hi, by simpa using hlt⟩
    rw [h] at this
    cases this
  · exact hle

/-- What holds at the head: j things are done. -/
def RgHead (ls ps : List Int) (k g B : Nat) (w : World) (v : Value) (wr : World) : Prop :=
  ∃ j : Nat, v = .int .i64 j ∧ j ≤ k ∧ Blk wr g 3 (icells (st ls ps j).2).toArray ∧ Below B w wr
theorem icells_set (nx : List Nat) (z y : Nat) {v : Int} (hv : v = (y : Int)) : (icells nx).toArray.setIfInBounds z (.int .i64 v) = (icells (nx.set z y)).toArray := by
  subst hv
  apply Array.ext'
  simp [icells, List.map_set]

set_option maxRecDepth 100000 in
set_option maxHeartbeats 2000000 in
theorem right_any (A : Option Addr) (len cap : Nat) (ls ps : List Int) (A2 : Option Addr) (k cap2 : Nat) (w : World) (hl : ls.length = len) (hlen : len ≤ 100) (htot : total ls ≤ 100000)
    (hrow : Row w A len 1 (fun i => [.int .i64 (ls.getD i 0)])) (hk : ∀ i, i < len → -9223372036854775808 ≤ ls.getD i 0 ∧ ls.getD i 0 ≤ 9223372036854775807) (hE : Ends ls ps k) (hr : Rd w 2 A2 k (tcells (st ls ps k).1)) :
    Calls Try.prog 14 #[.slice A len cap, .slice A2 k cap2] w fun e w' => e = .returned (.bool true) ∧ Below w.heap.size w w' := by
  have Hl := Lib.hid hl
  have HE := Lib.hid hE
  have Hr := Lib.hid hr
  have Hk := Lib.hid hk
  have hkb := Nat.le_trans (st_fine ls ps k hE.2).bound htot
  have Hcell : Hid (∀ wr : World, Below w.heap.size w wr → ∀ j, j < len → ∃ b off, A = some ⟨b, off, none⟩ ∧ wr.cell? ⟨b, off + j, none⟩ = some (.int .i64 (ls.getD j 0))) := by
    intro wr hb j hj
    obtain ⟨b, off, rfl, _, hcell⟩ := (hrow.mono hb (Nat.le_refl _)) (by omega)
    refine ⟨b, off, rfl, ?_⟩
    simpa using hcell j hj 0 _ rfl
  have hmk := mk22 len len rfl (by omega)
  have HH : Hid (Blk (w.alloc (.cells (madeCells #[.int .i64 0] len) 3)) w.heap.size 3 (icells (st ls ps 0).2).toArray ∧ Below w.heap.size w (w.alloc (.cells (madeCells #[.int .i64 0] len) 3))) := by
    refine ⟨?_, (Below.refl _ _).alloc (Nat.le_refl _) _⟩
    refine Blk.conv (Blk.new _ _ _) ?_
    apply Array.ext'
    rw [toList_madeCells_one]
    simp [st, icells, hl]
  clear hrow hl hE hr hk htot
  go_enter Try.func14, Try.ntmps14
  go_wp2_with fail
  obtain ⟨g, Hg⟩ : ∃ g, Hid (w.heap.size = g) := ⟨_, rfl⟩
  rw [Hg.out] at HH Hcell ⊢
  generalize w.alloc _ = w1 at *
  clear hmk
  go_loopw [15] (fun v15 wr => RgHead ls ps k g g w v15 wr) (fun v15 _ => k - (intOf v15).toNat)
  case atStart => exact ⟨0, rfl, Nat.zero_le _, HH.out.1, HH.out.2⟩
  case round =>
    clear HH
    obtain ⟨j, rfl, hj, hB, hb⟩ := hrel
    have HB := Lib.hid hB
    have Hb := Lib.hid hb
    have hgN := hB.lt
    clear hB hb
    have HF := Lib.hid (st_fine ls ps j (fun i hi => HE.out.2 i (by omega)))
    obtain ⟨nx, Hnx⟩ : ∃ nx, Hid ((st ls ps j).2 = nx) := ⟨_, rfl⟩
    have hnl : Hid (nx.length = len) := by show nx.length = len; rw [← Hnx.out, HF.out.len, Hl.out]
    rw [Hnx.out] at HB
    by_cases hlt : j < k
    · have Hpre := Lib.hid (st_pre ls ps k j hlt)
      have hpl := pick_left (ps := ps) (k := j) (HE.out.2 j hlt)
      obtain ⟨_, g2, off2, rfl, hg2, hc⟩ := Rd.things Hr.out (by omega)
      have hg2' : g2 < g := by rw [← Hg.out]; exact hg2
      have c0 := (Hb.out.cell (p := ⟨g2, off2 + j * 2, none⟩) hg2').trans (hc j hlt).1
      have c1 := (Hb.out.cell (p := ⟨g2, off2 + j * 2 + 1, none⟩) hg2').trans (hc j hlt).2
      rw [Hpre.out, Hnx.out] at c0 c1
      rw [Hnx.out] at hpl
      obtain ⟨z, Hz⟩ : ∃ z, Hid (pick ls ps nx j = z) := ⟨_, rfl⟩
      obtain ⟨y, Hy⟩ : ∃ y, Hid (nx.getD z 0 = y) := ⟨_, rfl⟩
      have hyb : y ≤ 100000 := by
        rw [← Hy.out]
        have h1 := getD_le_sum nx z
        have h2 := HF.out.sum
        rw [Hnx.out] at h2
        omega
      simp only [Hz.out, Hy.out] at c0 c1
      have hzl : z < len := by rw [← Hz.out, ← Hl.out]; exact hpl.1
      have cz : wr.cell? ⟨g, z, none⟩ = some (.int .i64 (y : Nat)) := by
        refine (HB.out.cell z).trans ?_
        rw [List.getElem?_toArray, icells_at _ _ (by rw [hnl.out]; exact hzl), Hy.out]
      have fz := HB.out.frozen z
      have Hst : Hid ((st ls ps (j + 1)).2 = nx.set z (y + 1)) := by
        show (st ls ps (j + 1)).2 = _
        simp only [st, Hnx.out, Hz.out, Hy.out]
      clear hpl hc Hpre
      have d1 : decide ((z : Int) < 0) = false := by simp
      have d2 : decide ((len : Int) ≤ (z : Int)) = false := by simp; omega
      go_wp2_with fail
      go_quiet (fail)
      have HB2 : Hid (Blk (((wr.alloc (Obj.cells #[Value.int IntKind.i64 ↑z, Value.int IntKind.i64 ↑y] 31)).drewN nq).setCell { block := g, off := z } (Value.int IntKind.i64 (↑y + 1))) g 3 (icells (st ls ps (j + 1)).2).toArray) := by
        rw [Hst.out]
        exact Blk.conv ((HB.out.alloc _).drewN nq |>.set_ z _) (icells_set nx z (y + 1) (by omega))
      go_wp2_with fail
      exact ⟨⟨j + 1, by go_num, by omega, HB2.out, (below_drewN (Hb.out.alloc (Nat.le_of_lt hgN) _) nq).setCell (Nat.le_refl _) _⟩, by simp [intOf]; omega⟩
    · have hje : j = k := by omega
      have HLN : Hid (∀ i, i < len → ls.getD i 0 ≤ (nx.getD i 0 : Nat)) := by
        intro i hi
        refine left_nil ?_ i (by rw [Hl.out]; exact hi)
        rw [← Hnx.out, hje]
        exact HE.out.1
      have HLE : Hid (∀ i, i < len → nx.getD i 0 ≤ nn (ls.getD i 0)) := by
        intro i hi
        have := HF.out.le i (by rw [HF.out.len, Hl.out]; exact hi)
        rw [Hnx.out] at this
        exact this
      clear HF hje
      go_wp2_with fail
      go_loopw [49] (fun v49 wx => ∃ i : Nat, v49 = .int .i64 i ∧ i ≤ len ∧ wr = wx) (fun v49 _ => len - (intOf v49).toNat)
      case atStart => exact ⟨0, rfl, Nat.zero_le _, rfl⟩
      case round =>
        obtain ⟨i, rfl, hi, rfl⟩ := hrel
        by_cases hlt2 : i < len
        · obtain ⟨b, off, rfl, hcell⟩ := Hcell.out wr Hb.out i hlt2
          have c1 : wr.cell? ⟨g, i, none⟩ = some (.int .i64 (nx.getD i 0 : Nat)) := by
            refine (HB.out.cell i).trans ?_
            rw [List.getElem?_toArray]
            exact icells_at _ _ (by rw [hnl.out]; exact hlt2)
          have h1 := HLN.out i hlt2
          have h2 := HLE.out i hlt2
          have h3 := Hk.out i hlt2
          unfold nn at h2
          generalize ls.getD i 0 = x at *
          generalize nx.getD i 0 = y at *
          by_cases hx : x < 0
          · obtain rfl : y = 0 := by omega
            clear h1 h2
            go_wp2_with fail
            exact ⟨⟨i + 1, by go_num, by omega, by trivial⟩, by simp [intOf]; omega⟩
          · obtain rfl : x = (y : Int) := by omega
            clear h1 h2
            go_wp2_with fail
            exact ⟨⟨i + 1, by go_num, by omega, by trivial⟩, by simp [intOf]; omega⟩
        · go_wp2_with fail
          go_ret
          rw [Hg.out]
          exact ⟨rfl, Hb.out⟩
end Go.Proofs.Ythpljhkjajaogaa
