/- The walk of weave's Order. -/
import Derived.Test.YthpljhkjajaogaaW3
import Derived.Test.YthpljhkjajaogaaOrd
namespace Go.Proofs.Ythpljhkjajaogaa
open Go.RowKit
set_option linter.unusedVariables false
set_option linter.unusedSimpArgs false

def icells (l : List Nat) : List Value := l.map fun n => Value.int .i64 (n : Nat)
def tcells (l : List (Nat × Nat)) : List Value := l.flatMap fun x => [Value.int .i64 (x.1 : Nat), Value.int .i64 (x.2 : Nat)]
theorem icells_snoc (l : List Nat) (n : Nat) : icells (l ++ [n]) = icells l ++ [.int .i64 (n : Nat)] := by simp [icells]
theorem tcells_snoc (l : List (Nat × Nat)) (x : Nat × Nat) : tcells (l ++ [x]) = tcells l ++ [.int .i64 (x.1 : Nat), .int .i64 (x.2 : Nat)] := by simp [tcells]
theorem icells_at (l : List Nat) (j : Nat) (h : j < l.length) : (icells l)[j]? = some (.int .i64 (l.getD j 0 : Nat)) := by simp [icells, h, List.getD_eq_getElem?_getD]

/-- What is gathered of those that are left, of the first i. -/
def LHead (N i : Nat) (ls : List Int) (nx : List Nat) (w0 : World) (v : Value) (wr : World) : Prop :=
  ∃ A m cap, v = .slice A m cap ∧ m = (leftTo ls nx i).length ∧ Own wr N 3 1 A m cap (icells (leftTo ls nx i)) ∧ Below N w0 wr ∧ N ≤ wr.heap.size
/-- What holds at the head behind k picks. -/
structure OHead (B g : Nat) (ls ps : List Int) (k : Nat) (w : World) (A : Option Addr) (cap : Nat) (wr : World) : Prop where
  out : Own wr B 31 2 A k cap (tcells (st ls ps k).1)
  next : Blk wr g 3 (icells (st ls ps k).2).toArray
  b : Below B w wr
  left : ∀ j, j < k → left ls (st ls ps j).2 ≠ []
  gB : B ≤ g

theorem getD_le_sum (l : List Nat) (j : Nat) : l.getD j 0 ≤ l.sum := by
  induction l generalizing j with
  | nil => simp
  | cons a l ih =>
    cases j with
    | zero => simp
    | succ j =>
      have := ih j
      simp only [List.getD_cons_succ, List.sum_cons]
      omega
theorem OHead.step {B g k z y : Nat} {ls ps : List Int} {w w6 : World} {A' : Option Addr} {cap' : Nat} {nx : List Nat} (hB : B ≤ g) (hnx : (st ls ps k).2 = nx) (hl : ∀ j, j < k → Go.Proofs.Ythpljhkjajaogaa.left ls (st ls ps j).2 ≠ [])
    (hne : Go.Proofs.Ythpljhkjajaogaa.left ls nx ≠ []) (hz : pick ls ps nx k = z) (hy : nx.getD z 0 = y)
    (ho : Own w6 B 31 2 A' (k + 1) cap' (tcells (st ls ps k).1 ++ [.int .i64 (z : Nat), .int .i64 (y : Nat)])) (hn : Blk w6 g 3 (icells nx).toArray) (hb : Below B w w6) {v : Int} (hv : v = (y : Int) + 1) :
    OHead B g ls ps (k + 1) w A' cap' (w6.setCell ⟨g, z, none⟩ (.int .i64 v)) := by
  subst hv
  refine ⟨?_, ?_, hb.setCell hB _, ?_, hB⟩
  · have hne := ho.ne hn (by decide)
    have := ho.mod (Mod.set (S := fun q => q = g) (Mod.refl w6 _) (p := ⟨g, z, none⟩) (.inr rfl) (.int .i64 ((y : Int) + 1))) (fun a ha => hne a ha)
    simp only [st, tcells_snoc, hnx, hz, hy]
    exact this
  · refine Blk.conv (hn.set_ z _) ?_
    apply Array.ext'
    simp only [st, hnx, hz, hy]
    simp [icells, List.map_set]
  · intro j hj
    rcases Nat.lt_or_ge j k with h | h
    · exact hl j h
    · obtain rfl : j = k := by omega
      rw [hnx]
      exact hne

theorem info3s : ∃ i, Try.prog.info? 3 = some i ∧ i.zero = some (.int .i64 0) ∧ i.size = 1 ∧ i.bytes = 8 := by
  obtain ⟨i, hi, hi2⟩ := Option.map_eq_some_iff.1 info3
  simp only [Prod.mk.injEq] at hi2
  exact ⟨i, hi, hi2.2.2, hi2.1, hi2.2.1⟩
theorem info31 : (Try.prog.info? 31).map (fun i => (i.size, i.bytes, i.zero)) = some (2, 16, some (.agg #[.int .i64 0, .int .i64 0])) := by kernel_rfl
theorem info31s : ∃ i, Try.prog.info? 31 = some i ∧ i.zero = some (.agg #[.int .i64 0, .int .i64 0]) ∧ i.size = 2 ∧ i.bytes = 16 := by
  obtain ⟨i, hi, hi2⟩ := Option.map_eq_some_iff.1 info31
  simp only [Prod.mk.injEq] at hi2
  exact ⟨i, hi, hi2.2.2, hi2.1, hi2.2.1⟩

set_option maxRecDepth 100000 in
set_option maxHeartbeats 2000000 in
theorem order_any (A : Option Addr) (len cap : Nat) (ls : List Int) (A2 : Option Addr) (len2 cap2 : Nat) (ps : List Int) (w : World) (hl : ls.length = len) (hlen : len ≤ 100) (htot : total ls ≤ 100000)
    (hrow : Row w A len 1 (fun i => [.int .i64 (ls.getD i 0)])) (hrow2 : Row w A2 len2 1 (fun i => [.int .u8 (ps.getD i 0)])) (hl2 : ps.length = len2) (hlen2 : len2 ≤ 9223372036854775807) (hps : ∀ i, i < len2 → 0 ≤ ps.getD i 0 ∧ ps.getD i 0 ≤ 255) :
    Calls Try.prog 10 #[.slice A len cap, .slice A2 len2 cap2] w fun e w' => ∃ k A' cap', e = .returned (.slice A' k cap') ∧ Ends ls ps k ∧ Own w' w.heap.size 31 2 A' k cap' (tcells (st ls ps k).1) ∧ Below w.heap.size w w' := by
  obtain ⟨i0, hi0, hz0, hz1, hz2⟩ := info3s
  obtain ⟨i1, hi1, hy0, hy1, hy2⟩ := info31s
  have Htot := Lib.hid htot
  have Hl := Lib.hid hl
  have Hl2 := Lib.hid hl2
  have Hps := Lib.hid hps
  have Hcell : Hid (∀ wr : World, Below w.heap.size w wr → ∀ j, j < len → ∃ b off, A = some ⟨b, off, none⟩ ∧ wr.cell? ⟨b, off + j, none⟩ = some (.int .i64 (ls.getD j 0))) := by
    intro wr hb j hj
    obtain ⟨b, off, rfl, _, hcell⟩ := (hrow.mono hb (Nat.le_refl _)) (by omega)
    refine ⟨b, off, rfl, ?_⟩
    simpa using hcell j hj 0 _ rfl
  have Hcell2 : Hid (∀ wr : World, Below w.heap.size w wr → ∀ j, j < len2 → ∃ b off, A2 = some ⟨b, off, none⟩ ∧ wr.cell? ⟨b, off + j, none⟩ = some (.int .u8 (ps.getD j 0))) := by
    intro wr hb j hj
    obtain ⟨b, off, rfl, _, hcell⟩ := (hrow2.mono hb (Nat.le_refl _)) (by omega)
    refine ⟨b, off, rfl, ?_⟩
    simpa using hcell j hj 0 _ rfl
  have hmk := mk22 len len rfl (by omega)
  clear hrow hrow2 hl hl2 hps htot
  have HH : Hid (OHead w.heap.size w.heap.size ls ps 0 w none 0 (w.alloc (.cells (madeCells #[.int .i64 0] len) 3))) := by
    refine ⟨Own.nil _ _ _ _, ?_, (Below.refl _ _).alloc (Nat.le_refl _) _, fun j hj => absurd hj (by omega), Nat.le_refl _⟩
    refine Blk.conv (Blk.new _ _ _) ?_
    apply Array.ext'
    rw [toList_madeCells_one]
    simp [st, icells, Hl.out]
  go_enter Try.func10, Try.ntmps10
  go_wp2_with fail
  obtain ⟨g, Hg⟩ : ∃ g, Hid (w.heap.size = g) := ⟨_, rfl⟩
  rw [Hg.out] at HH Hcell Hcell2 ⊢
  generalize w.alloc _ = w1 at *
  clear hmk
  go_loopw [6, 7] (fun v6 v7 wr => ∃ k A3 cap3, v7 = .int .i64 ((k : Nat) : Int) ∧ v6 = .slice A3 k cap3 ∧ OHead g g ls ps k w A3 cap3 wr) (fun _ v7 _ => 200000 - (intOf v7).toNat)
  case atStart => exact ⟨0, none, 0, rfl, rfl, HH.out⟩
  case round =>
    clear HH
    obtain ⟨k, A3, cap3, rfl, rfl, hh⟩ := hrel
    have HH := Lib.hid hh
    clear hh
    have HF := Lib.hid (st_fine ls ps k HH.out.left)
    have hk := Nat.le_trans HF.out.bound Htot.out
    obtain ⟨nx, Hnx⟩ : ∃ nx, Hid ((st ls ps k).2 = nx) := ⟨_, rfl⟩
    have HN : Hid (Blk wr g 3 (icells nx).toArray) := by rw [← Hnx.out]; exact HH.out.next
    obtain ⟨N, HNN⟩ : ∃ N, Hid (wr.heap.size = N) := ⟨_, rfl⟩
    have HL : Hid (LHead N 0 ls nx wr (.slice none 0 0) wr) := ⟨none, 0, 0, rfl, rfl, Own.nil _ _ _ _, Below.refl _ _, by rw [HNN.out]; exact Nat.le_refl _⟩
    have hgN : g < N := by rw [← HNN.out]; exact HN.out.lt
    have HB := Lib.hid HH.out.b
    have hnl : Hid (nx.length = len) := by show nx.length = len; rw [← Hnx.out, HF.out.len, Hl.out]
    have hnb : Hid (∀ j, nx.getD j 0 ≤ 100000) := by
      intro j
      have h1 := getD_le_sum nx j
      have h2 := HF.out.sum
      rw [Hnx.out] at h2
      omega
    go_wp2_with fail
    go_loopw [8, 19] (fun v8 v19 wx => ∃ i : Nat, v19 = .int .i64 i ∧ i ≤ len ∧ LHead N i ls nx wr v8 wx) (fun _ v19 _ => len - (intOf v19).toNat)
    case atStart => exact ⟨0, rfl, Nat.zero_le _, HL.out⟩
    case round =>
      clear HL
      obtain ⟨i, rfl, hi, A4, m, cap4, rfl, hm, hO, hb, hN⟩ := hrel
      have HO := Lib.hid hO
      have Hb := Lib.hid hb
      have Hm := Lib.hid hm
      have hml := leftTo_len ls nx i
      rw [← hm] at hml
      clear hm hO hb
      have HN2 := Lib.hid (HN.out.below Hb.out hgN)
      have HB2 := Lib.hid (HB.out.trans (Hb.out.mono (Nat.le_of_lt hgN)))
      by_cases hlt : i < len
      · obtain ⟨b, off, rfl, hcell⟩ := Hcell.out wr HB2.out i hlt
        have c1 : wr.cell? ⟨g, i, none⟩ = some (.int .i64 (nx.getD i 0 : Nat)) := by
          refine (HN2.out.cell i).trans ?_
          rw [List.getElem?_toArray]
          exact icells_at _ _ (by rw [hnl.out]; exact hlt)
        by_cases hless : ((nx.getD i 0 : Nat) : Int) < ls.getD i 0
        · have HY := Lib.hid (leftTo_yes ls nx i hless)
          generalize ls.getD i 0 = x at *
          generalize nx.getD i 0 = y at *
          go_wp2_with (at_builtin; (refine append_elem rfl (.tmp 30) (.tmp 32) 22 rfl N 3 i0 _ 1 8 Try.underlying22 hi0 hz0 hz1 hz2 rfl (by omega) A4 m cap4 _ rfl HO.out [.int .i64 (i : Nat)] rfl rfl (by simp [Value.oneCell']) (by unfold maxLen; omega) (by omega) hN ?_))
          intro A5 cap5 w5 hO5 hM5 hat5
          have HO5 := Lib.hid hO5
          have Hb5 := Lib.hid (Below.mod Hb.out hM5 hN (fun k _ ⟨a, ha, e⟩ => by rw [← e]; exact (HO.out.lt a ha).1))
          clear hO5 hM5 hat5
          go_wp2_with fail
          refine ⟨⟨i + 1, by go_num, by omega, A5, m + 1, cap5, rfl, ?_, ?_, Hb5.out, ?_⟩, by simp [intOf]; omega⟩
          · rw [HY.out, List.length_append, ← Hm.out]; rfl
          · rw [HY.out, icells_snoc]; exact HO5.out
          · have := Hb5.out.size; rw [HNN.out] at this; exact this
        · have HY := Lib.hid (leftTo_no ls nx i hless)
          generalize ls.getD i 0 = x at *
          generalize nx.getD i 0 = y at *
          go_wp2_with fail
          exact ⟨⟨i + 1, by go_num, by omega, A4, m, cap4, rfl, by rw [HY.out]; exact Hm.out, by rw [HY.out]; exact HO.out, Hb.out, hN⟩, by simp [intOf]; omega⟩
      · have hie : len = i := by omega
        have HLL : Hid (leftTo ls nx i = left ls nx) := by show _ = _; unfold left; rw [Hl.out, hie]
        have HOut := Lib.hid (HH.out.out.below Hb.out (by rw [HNN.out]; exact Nat.le_refl _))
        have Hleft := Lib.hid HH.out.left
        clear HH HN
        rw [HLL.out] at HO Hm
        clear HLL
        subst hie
        by_cases hm0 : m = 0
        · have HE : Hid (Ends ls ps k) := ⟨by rw [Hnx.out]; exact List.eq_nil_of_length_eq_zero (by rw [← Hm.out]; exact hm0), Hleft.out⟩
          subst hm0
          go_wp2_with fail
          go_ret
          rw [Hg.out]
          exact ⟨k, A3, cap3, rfl, HE.out, HOut.out, HB2.out⟩
        · have Hne : Hid (left ls nx ≠ []) := by
            intro h0
            rw [h0] at Hm
            exact hm0 Hm.out
          obtain ⟨g4, rfl, hg4, hg4lt, hm4, _, hc4, _⟩ := HO.out.at_ (by omega)
          have HC4 : Hid (∀ j, j < m → wr.cell? ⟨g4, j, none⟩ = some (.int .i64 ((left ls nx).getD j 0 : Nat))) := fun j hj => hc4 j _ (icells_at _ _ (by rw [← Hm.out]; exact hj))
          clear hc4
          obtain ⟨q, Hq⟩ : ∃ q, Hid (pickAt ls ps nx k = q) := ⟨_, rfl⟩
          have hqm : q < m := by rw [← Hq.out, Hm.out]; exact pickAt_lt Hne.out
          obtain ⟨z, Hz⟩ : ∃ z, Hid (pick ls ps nx k = z) := ⟨_, rfl⟩
          obtain ⟨y, Hy⟩ : ∃ y, Hid (nx.getD z 0 = y) := ⟨_, rfl⟩
          have hzl : z < len := by rw [← Hz.out, ← Hl.out]; exact (pick_left Hne.out).1
          have hyb : y ≤ 100000 := by rw [← Hy.out]; exact hnb.out z
          have cq : wr.cell? ⟨g4, q, none⟩ = some (.int .i64 (z : Nat)) := by
            rw [HC4.out q hqm, ← Hz.out, ← Hq.out]
            rfl
          have cz : wr.cell? ⟨g, z, none⟩ = some (.int .i64 (y : Nat)) := by
            refine (HN2.out.cell z).trans ?_
            rw [List.getElem?_toArray, icells_at _ _ (by rw [hnl.out]; exact hzl), Hy.out]
          have c0 := HC4.out 0 (by omega)
          have hcase : (k < len2 ∧ ∃ p : Nat, ps.getD k 0 = (p : Nat) ∧ p ≤ 255 ∧ (p : Int) % (m : Int) = (q : Int)) ∨ (¬ k < len2 ∧ q = 0) := by
            have hq := Hq.out
            unfold pickAt at hq
            by_cases hk2 : k < len2
            · rw [if_pos (by rw [Hl2.out]; exact hk2), ← Hm.out] at hq
              obtain ⟨h1, h2⟩ := Hps.out k hk2
              refine .inl ⟨hk2, (ps.getD k 0).toNat, by omega, by omega, ?_⟩
              rw [← hq]
              simp
            · rw [if_neg (by rw [Hl2.out]; exact hk2)] at hq
              exact .inr ⟨hk2, hq.symm⟩
          have hm0' : 0 < m := by omega
          have hmk0 : ¬ (m : Int) = 0 := by omega
          clear HC4
          rcases hcase with ⟨hk2, p, hp, hp2, hpq⟩ | ⟨hk2, hq0⟩
          · obtain ⟨b2, off2, rfl, hcell2⟩ := Hcell2.out wr HB2.out k hk2
            rw [hp] at hcell2
            clear hp
            go_wp2_with (at_builtin; (refine append_elem rfl (.tmp 57) (.tmp 64) 28 rfl g 31 i1 _ 2 16 Try.underlying28 hi1 hy0 hy1 hy2 rfl (by omega) A3 k cap3 _ rfl HOut.out [.int .i64 (z : Nat), .int .i64 (y : Nat)] rfl rfl (by simp [Value.oneCell']) (by unfold maxLen; omega) (by omega) (by have := HB2.out.size; rw [Hg.out] at this; exact this) ?_))
            intro A6 cap6 w6 hO6 hM6 hat6
            have HO6 := Lib.hid hO6
            have Hb6 := Lib.hid (Below.mod HB2.out hM6 (by have := HB2.out.size; rw [Hg.out] at this; exact this) (fun k _ ⟨a, ha, e⟩ => by rw [← e]; exact (HOut.out.lt a ha).1))
            have HN6 := Lib.hid (hM6.blk HN2.out (fun ⟨a, ha, e⟩ => HOut.out.ne HN2.out (by decide) a ha e))
            have d1 : w6.cell? ⟨g, z, none⟩ = some (.int .i64 (y : Nat)) := by
              refine (HN6.out.cell z).trans ?_
              rw [List.getElem?_toArray, icells_at _ _ (by rw [hnl.out]; exact hzl), Hy.out]
            have d2 := HN6.out.frozen z
            have HF6 := Lib.hid (OHead.step (Nat.le_refl g) Hnx.out Hleft.out Hne.out Hz.out Hy.out HO6.out HN6.out Hb6.out (v := (y : Int) + 1) rfl)
            clear hO6 hM6 hat6 cq cz c0
            go_wp2_with fail
            exact ⟨⟨k + 1, A6, cap6, by go_num, rfl, HF6.out⟩, by simp [intOf]; omega⟩
          · subst hq0
            clear c0
            have c0 := cq
            go_wp2_with (at_builtin; (refine append_elem rfl (.tmp 57) (.tmp 64) 28 rfl g 31 i1 _ 2 16 Try.underlying28 hi1 hy0 hy1 hy2 rfl (by omega) A3 k cap3 _ rfl HOut.out [.int .i64 (z : Nat), .int .i64 (y : Nat)] rfl rfl (by simp [Value.oneCell']) (by unfold maxLen; omega) (by omega) (by have := HB2.out.size; rw [Hg.out] at this; exact this) ?_))
            intro A6 cap6 w6 hO6 hM6 hat6
            have HO6 := Lib.hid hO6
            have Hb6 := Lib.hid (Below.mod HB2.out hM6 (by have := HB2.out.size; rw [Hg.out] at this; exact this) (fun k _ ⟨a, ha, e⟩ => by rw [← e]; exact (HOut.out.lt a ha).1))
            have HN6 := Lib.hid (hM6.blk HN2.out (fun ⟨a, ha, e⟩ => HOut.out.ne HN2.out (by decide) a ha e))
            have d1 : w6.cell? ⟨g, z, none⟩ = some (.int .i64 (y : Nat)) := by
              refine (HN6.out.cell z).trans ?_
              rw [List.getElem?_toArray, icells_at _ _ (by rw [hnl.out]; exact hzl), Hy.out]
            have d2 := HN6.out.frozen z
            have HF6 := Lib.hid (OHead.step (Nat.le_refl g) Hnx.out Hleft.out Hne.out Hz.out Hy.out HO6.out HN6.out Hb6.out (v := (y : Int) + 1) rfl)
            clear hO6 hM6 hat6 cq cz c0
            go_wp2_with fail
            exact ⟨⟨k + 1, A6, cap6, by go_num, rfl, HF6.out⟩, by simp [intOf]; omega⟩
end Go.Proofs.Ythpljhkjajaogaa
