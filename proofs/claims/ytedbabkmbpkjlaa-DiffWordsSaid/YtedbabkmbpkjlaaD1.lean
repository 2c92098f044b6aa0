/- The walk of the reference's Words. -/
import Derived.Test.YtedbabkmbpkjlaaW5
import Derived.Test.YtedbabkmbpkjlaaPl
namespace Go.Proofs.Ytedbabkmbpkjlaa
open Go.RowKit
set_option linter.unusedVariables false
set_option linter.unusedSimpArgs false

/-- The document's slices: parts of the rows themselves. -/
def hdr (g1 o1 c1 g2 o2 c2 : Nat) (ss : List (Nat × Nat)) (j : Nat) : Hd :=
  ⟨some ⟨g1, o1 + (seg ss j).1, none⟩, (seg ss j).2 - (seg ss j).1, c1 - (seg ss j).1, some ⟨g2, o2 + (seg ss j).1, none⟩, (seg ss j).2 - (seg ss j).1, c2 - (seg ss j).1⟩
def lastOf (ss : List (Nat × Nat)) : Nat := endOf ss - 1
theorem Own.three {w : World} {B cap l go : Nat} {pos : Nat → Int} {hd : Nat → Hd} (h : Own w B 30 3 (some ⟨go, 0, none⟩) (l + 1) cap (hcells pos hd (l + 1))) (u0 u1 u2 : Value) :
    Own (((w.setCell ⟨go, l * 3, none⟩ u0).setCell ⟨go, l * 3 + 1, none⟩ u1).setCell ⟨go, l * 3 + 2, none⟩ u2) B 30 3 (some ⟨go, 0, none⟩) (l + 1) cap (hcells pos hd l ++ [u0, u1, u2]) := by
  have := ((h.set_ (j := l * 3) (by omega) u0).set_ (j := l * 3 + 1) (by omega) u1).set_ (j := l * 3 + 2) (by omega) u2
  rw [hcells_succ, List.set_append_right _ _ (by rw [hcells_len]; omega), hcells_len, List.set_append_right _ _ (by rw [hcells_len]; omega), hcells_len, List.set_append_right _ _ (by rw [hcells_len]; omega), hcells_len,
    show l * 3 - l * 3 = 0 by omega, show l * 3 + 1 - l * 3 = 1 by omega, show l * 3 + 2 - l * 3 = 2 by omega] at this
  exact this
def RHead (B g1 o1 c1 g2 o2 c2 : Nat) (was now : List Int) (gap : Int) (m : Nat) (w0 : World) (v5 v6 v : Value) (wr : World) : Prop :=
  ∃ (i : Nat) (A : Option Addr) (cap : Nat), v = .int .i64 i ∧ i ≤ m ∧ v5 = .slice A (segs was now gap i).length cap ∧ v6 = .int .i64 (lastOf (segs was now gap i) : Nat) ∧
    Own wr B 30 3 A (segs was now gap i).length cap (hcells (posOf (segs was now gap i)) (hdr g1 o1 c1 g2 o2 c2 (segs was now gap i)) (segs was now gap i).length) ∧ Below B w0 wr

set_option maxRecDepth 100000 in
set_option maxHeartbeats 2000000 in
theorem refwords_pos (g1 o1 g2 o2 : Nat) (m cap1 cap2 : Nat) (was now : List Int) (gap : Int) (w : World) (hm0 : 0 < m) (hm : m ≤ 1000) (hg0 : -9223372036854775808 ≤ gap) (hg1 : gap ≤ 9223372036854775807) (hc1 : m ≤ cap1) (hc2 : m ≤ cap2)
    (hw : Rd w 1 (some ⟨g1, o1, none⟩) m (ucells was)) (hw2 : Rd w 1 (some ⟨g2, o2, none⟩) m (ucells now)) :
    Calls Try.prog 14 #[.slice (some ⟨g1, o1, none⟩) m cap1, .slice (some ⟨g2, o2, none⟩) m cap2, .int .i64 gap] w fun e w' => ∃ A cap, e = .returned (.tuple #[.slice A (segs was now gap m).length cap, .bool true]) ∧
      Own w' w.heap.size 30 3 A (segs was now gap m).length cap (hcells (posOf (segs was now gap m)) (hdr g1 o1 cap1 g2 o2 cap2 (segs was now gap m)) (segs was now gap m).length) ∧ Below w.heap.size w w' := by
  obtain ⟨i2, hi2, hx0, hx1, hx2⟩ := info30s
  have Hw := Lib.hid hw
  have Hw2 := Lib.hid hw2
  obtain ⟨_, _, e1, hg1', hc1'⟩ := hw.word hm0
  cases e1
  obtain ⟨_, _, e2, hg2', hc2'⟩ := hw2.word hm0
  cases e2
  have Hc1 := Lib.hid hc1'
  have Hc2 := Lib.hid hc2'
  clear hw hw2 hc1' hc2'
  go_enter Try.func14, Try.ntmps14
  go_wp2_with fail
  go_loopw [8, 9, 10] (fun v5 v6 v7 wr => RHead w.heap.size g1 o1 cap1 g2 o2 cap2 was now gap m w v5 v6 v7 wr) (fun _ _ v7 _ => m - (intOf v7).toNat)
  case atStart => exact ⟨0, none, 0, rfl, Nat.zero_le _, rfl, rfl, Own.nil _ _ _ _, Below.refl _ _⟩
  case round =>
    obtain ⟨i, A, cap, rfl, hi, rfl, rfl, hO, hb⟩ := hrel
    have HO := Lib.hid hO
    have Hb := Lib.hid hb
    have hBs := hb.size
    clear hO hb
    have hsl := segs_le was now gap i
    by_cases hlt : i < m
    · have c0 := (Hb.out.cell (p := ⟨g1, o1 + i, none⟩) hg1').trans (Hc1.out i hlt)
      have d0 := (Hb.out.cell (p := ⟨g2, o2 + i, none⟩) hg2').trans (Hc2.out i hlt)
      by_cases hy : was.getD i 0 = now.getD i 0
      · have HS := Lib.hid (segs_same (gap := gap) hy)
        rw [← hy] at d0
        clear hy
        generalize was.getD i 0 = y at *
        go_wp2_with fail
        go_quiet (fail)
        go_wp2_with fail
        refine ⟨⟨i + 1, A, cap, by go_num, by omega, ?_, ?_, ?_, below_drewN Hb.out nq⟩, by simp [intOf]; omega⟩
        · rw [HS.out]
        · rw [HS.out]
        · rw [HS.out]; exact HO.out.drewN nq
      · have HSm := Lib.hid (fun hn hg => segs_more (gap := gap) hy hn hg)
        have HSn := Lib.hid (fun hg => segs_new (gap := gap) hy hg)
        have HR := Lib.hid (segs_rise was now gap i)
        have hyb : (was.getD i 0 == now.getD i 0) = false := by rw [beq_eq_false_iff_ne]; exact hy
        clear hy
        generalize was.getD i 0 = y at *
        generalize now.getD i 0 = z at *
        generalize segs was now gap i = ss at *
        go_wp2_with fail
        go_quiet (fail)
        have HOq := Lib.hid (HO.out.drewN nq)
        have Hbq := Lib.hid (below_drewN Hb.out nq)
        have hBq : w.heap.size ≤ (wr.drewN nq).heap.size := hBs
        generalize wr.drewN nq = wq at *
        clear c0 d0 HO Hb hBs
        have hel := HR.out.last
        obtain ⟨n, Hn⟩ : ∃ n, Hid (ss.length = n) := ⟨_, rfl⟩
        obtain ⟨E, HE⟩ : ∃ E, Hid (endOf ss = E) := ⟨_, rfl⟩
        have hL : lastOf ss = E - 1 := by unfold lastOf; rw [HE.out]
        rw [hL]
        simp only [Hn.out, HE.out] at hsl hel HSm HSn HOq ⊢
        by_cases hx : n ≠ 0 ∧ (i = E ∨ (i : Int) - E < gap)
        · obtain ⟨hn0, hx2⟩ := hx
          have HSN := Lib.hid (HSm.out hn0 hx2)
          have hn1 : 0 < n := by omega
          obtain ⟨go, hA, hgo, hgolt, hnc, hcm, hco, hfo⟩ := HOq.out.at_ hn1
          subst hA
          obtain ⟨l, Hl⟩ : ∃ l, Hid (n = l + 1) := ⟨n - 1, by show n = _; omega⟩
          have hl := Hl.out
          subst hl
          have hs1 : (seg ss l).1 < (seg ss l).2 := HR.out.one l (by rw [Hn.out]; omega)
          have Hs2 : Hid ((seg ss l).2 = E) := by
            show _ = E
            rw [← HE.out, endOf_last (by rw [Hn.out]; omega), Hn.out]
            rfl
          obtain ⟨s0, Hs0⟩ : ∃ s0, Hid ((seg ss l).1 = s0) := ⟨_, rfl⟩
          rw [Hs2.out, Hs0.out] at hs1
          have k0 := hco (l * 3) _ (hcells_at _ _ _ l (by omega)).1
          have k1 := hco (l * 3 + 1) _ (hcells_at _ _ _ l (by omega)).2.1
          have k2 := hco (l * 3 + 2) _ (hcells_at _ _ _ l (by omega)).2.2
          have f0 := hfo (l * 3)
          have f1 := hfo (l * 3 + 1)
          have f2 := hfo (l * 3 + 2)
          unfold hdr at k1 k2
          unfold posOf at k0
          simp only [Hs0.out] at k0 k1 k2
          clear hco hfo
          obtain ⟨L, HLE⟩ : ∃ L, Hid (E = L + 1) := ⟨E - 1, by show E = _; omega⟩
          have hLE := HLE.out
          subst hLE
          simp only [Nat.add_sub_cancel]
          have hcase : (((i : Int) == (L : Int) + 1) = true ∧ (i == L + 1) = true) ∨ (((i : Int) == (L : Int) + 1) = false ∧ (i == L + 1) = false ∧ decide ((i : Int) - (L : Int) - 1 < gap) = true) := by
            by_cases h0 : i = L + 1
            · exact .inl ⟨by subst h0; simp, by simpa using h0⟩
            · right
              refine ⟨by rw [beq_eq_false_iff_ne]; omega, by rw [beq_eq_false_iff_ne]; omega, ?_⟩
              rw [decide_eq_true_eq]
              rcases hx2 with h | h
              · exact absurd h h0
              · omega
          clear hx2 HSm HSn hn0
          have q1 : (0 : Int) ≤ (s0 : Int) := by omega
          have q2 : (s0 : Int) ≤ (i : Int) + 1 := by omega
          have q3 : (i : Int) + 1 ≤ (cap1 : Int) := by omega
          have q4 : (i : Int) + 1 ≤ (cap2 : Int) := by omega
          have s1 : ∀ w, (Instr.slice 22 (.slice (some ⟨g1, o1, none⟩) m cap1) (some (.int .i64 (s0 : Int))) (some (.int .i64 ((i : Int) + 1))) none).run Try.prog w = .ok (.slice (some ⟨g1, o1 + s0, none⟩) (i + 1 - s0) (cap1 - s0)) w :=
            run_slice_sub 22 46 Try.underlying22 size46 g1 o1 m cap1 s0 (i + 1) (by omega) (by omega) (by omega) _ _ rfl (by omega)
          have s2 : ∀ w, (Instr.slice 22 (.slice (some ⟨g2, o2, none⟩) m cap2) (some (.int .i64 (s0 : Int))) (some (.int .i64 ((i : Int) + 1))) none).run Try.prog w = .ok (.slice (some ⟨g2, o2 + s0, none⟩) (i + 1 - s0) (cap2 - s0)) w :=
            run_slice_sub 22 46 Try.underlying22 size46 g2 o2 m cap2 s0 (i + 1) (by omega) (by omega) (by omega) _ _ rfl (by omega)
          have hwr : IntKind.i64.wrap ((i : Int) + 1) = (i : Int) + 1 := by rw [IntKind.wrap_i64]; omega
          have hwl : IntKind.i64.wrap (((l + 1 : Nat) : Int) - 1) = (l : Int) := by rw [IntKind.wrap_i64]; omega
          clear q1 q2 q3 q4
          have HO3 : Hid (∀ u0 u1 u2 : Value, Own (((wq.setCell ⟨go, l * 3, none⟩ u0).setCell ⟨go, l * 3 + 1, none⟩ u1).setCell ⟨go, l * 3 + 2, none⟩ u2) w.heap.size 30 3 (some ⟨go, 0, none⟩) (l + 1) cap (hcells (posOf ss) (hdr g1 o1 cap1 g2 o2 cap2 ss) l ++ [u0, u1, u2])) := fun u0 u1 u2 => HOq.out.three u0 u1 u2
          have Hc3 : Hid (∀ u0 u1 u2 : Value, (((wq.setCell ⟨go, l * 3, none⟩ u0).setCell ⟨go, l * 3 + 1, none⟩ u1).setCell ⟨go, l * 3 + 2, none⟩ u2).drew.cell? ⟨go, l * 3, none⟩ = some u0) := by
            intro u0 u1 u2
            obtain ⟨_, e, _, _, _, _, hx, _⟩ := (HO3.out u0 u1 u2).at_ (by omega)
            cases e
            exact hx (l * 3) u0 (by rw [List.getElem?_append_right (by rw [hcells_len]; omega), hcells_len, Nat.sub_self]; rfl)
          have Hb3 : Hid (∀ u0 u1 u2 : Value, Below w.heap.size w (((wq.setCell ⟨go, l * 3, none⟩ u0).setCell ⟨go, l * 3 + 1, none⟩ u1).setCell ⟨go, l * 3 + 2, none⟩ u2).drew) := fun u0 u1 u2 =>
            below_drewN (((Hbq.out.setCell (p := ⟨go, l * 3, none⟩) hgo u0).setCell (p := ⟨go, l * 3 + 1, none⟩) hgo u1).setCell (p := ⟨go, l * 3 + 2, none⟩) hgo u2) 1
          have HC2 : Hid (hcells (posOf ss) (hdr g1 o1 cap1 g2 o2 cap2 ss) l ++ [.int .i64 s0, .slice (some ⟨g1, o1 + s0, none⟩) (i + 1 - s0) (cap1 - s0), .slice (some ⟨g2, o2 + s0, none⟩) (i + 1 - s0) (cap2 - s0)] = hcells (posOf (segs was now gap (i + 1))) (hdr g1 o1 cap1 g2 o2 cap2 (segs was now gap (i + 1))) (l + 1)) := by
            show _ = _
            have hsa : ∀ j, j < l → seg (ss.take l ++ [(s0, i + 1)]) j = seg ss j := fun j hj => seg_more_lt (by rw [Hn.out]; omega) hj
            have hsl : seg (ss.take l ++ [(s0, i + 1)]) l = (s0, i + 1) := seg_more_eq (by rw [Hn.out]; omega)
            have hse : segs was now gap (i + 1) = ss.take l ++ [(s0, i + 1)] := by
              rw [HSN.out, Nat.add_sub_cancel, ← Hs0.out]
              rfl
            rw [hse, hcells_succ]
            have e1 : hcells (posOf (ss.take l ++ [(s0, i + 1)])) (hdr g1 o1 cap1 g2 o2 cap2 (ss.take l ++ [(s0, i + 1)])) l = hcells (posOf ss) (hdr g1 o1 cap1 g2 o2 cap2 ss) l := by
              refine hcells_congr l (fun j hj => ⟨?_, ?_⟩)
              · unfold posOf; rw [hsa j hj]
              · unfold hdr; rw [hsa j hj]
            rw [e1]
            unfold posOf hdr
            rw [hsl]
          have HSL : Hid ((segs was now gap (i + 1)).length = l + 1 ∧ lastOf (segs was now gap (i + 1)) = i) := by
            show _ ∧ _
            unfold lastOf
            rw [HSN.out, endOf_snoc, List.length_append, List.length_take, Hn.out]
            exact ⟨by simp, by simp⟩
          rcases hcase with ⟨e0, e1⟩ | ⟨e0, e1, e2⟩
          all_goals
            go_wp2_with fail
            have hwl2 : (l : Int) + 1 - 1 = (l : Int) := by omega
            have hwl3 : IntKind.i64.wrap ((l : Int) + 1 - 1) = (l : Int) := by rw [IntKind.wrap_i64]; omega
            have hwl4 : IntKind.i64.wrap (l : Int) = (l : Int) := by rw [IntKind.wrap_i64]; omega
            have hl5 : (0 : Int) ≤ (l : Int) := by omega
            have hl6 : (l : Int) < (l : Int) + 1 := by omega
            have fd0 : wq.drew.frozen? ⟨go, l * 3, none⟩ = false := f0
            have fd1 : wq.drew.frozen? ⟨go, l * 3 + 1, none⟩ = false := f1
            have fd2 : wq.drew.frozen? ⟨go, l * 3 + 2, none⟩ = false := f2
            have kd1 : wq.drew.cell? ⟨go, l * 3 + 1, none⟩ = some _ := k1
            have kd2 : wq.drew.cell? ⟨go, l * 3 + 2, none⟩ = some _ := k2
            go_region_held3 (fun w' => w'.cell? ⟨go, l * 3, none⟩ = some (.int .i64 s0)) (first | exact k0 | exact Hc3.out _ _ _ | go_keep) (fail)
            go_wp2_with fail
            refine ⟨⟨i + 1, some ⟨go, 0, none⟩, cap, by go_num, by omega, ?_, ?_, ?_, Hb3.out _ _ _⟩, by simp [intOf]; omega⟩
            · rw [HSL.out.1]
            · rw [HSL.out.2]
            · rw [HSL.out.1, ← HC2.out]
              exact (HO3.out _ _ _).drewN 1
        · have hnew : segs was now gap (i + 1) = ss ++ [(i, i + 1)] := HSn.out hx
          have hcase : n = 0 ∨ (0 < n ∧ ((i : Int) == ((E - 1 : Nat) : Int) + 1) = false ∧ (i == E - 1 + 1) = false ∧ decide ((i : Int) - ((E - 1 : Nat) : Int) - 1 < gap) = false) := by
            by_cases h0 : n = 0
            · exact .inl h0
            · right
              have hE : 0 < E := by
                have h1 := HR.out.one (ss.length - 1) (by rw [Hn.out]; omega)
                rw [← HE.out, endOf_last (by rw [Hn.out]; omega)]
                omega
              refine ⟨by omega, ?_, ?_, ?_⟩
              · rw [beq_eq_false_iff_ne]; intro h; exact hx ⟨h0, .inl (by omega)⟩
              · rw [beq_eq_false_iff_ne]; intro h; exact hx ⟨h0, .inl (by omega)⟩
              · rw [decide_eq_false_iff_not]; intro h; exact hx ⟨h0, .inr (by omega)⟩
          clear hx HSm HSn
          have q1 : (0 : Int) ≤ (i : Int) := by omega
          have s1 : ∀ w, (Instr.slice 22 (.slice (some ⟨g1, o1, none⟩) m cap1) (some (.int .i64 (i : Int))) (some (.int .i64 ((i : Int) + 1))) none).run Try.prog w = .ok (.slice (some ⟨g1, o1 + i, none⟩) (i + 1 - i) (cap1 - i)) w :=
            run_slice_sub 22 46 Try.underlying22 size46 g1 o1 m cap1 i (i + 1) (by omega) (by omega) (by omega) _ _ rfl (by omega)
          have s2 : ∀ w, (Instr.slice 22 (.slice (some ⟨g2, o2, none⟩) m cap2) (some (.int .i64 (i : Int))) (some (.int .i64 ((i : Int) + 1))) none).run Try.prog w = .ok (.slice (some ⟨g2, o2 + i, none⟩) (i + 1 - i) (cap2 - i)) w :=
            run_slice_sub 22 46 Try.underlying22 size46 g2 o2 m cap2 i (i + 1) (by omega) (by omega) (by omega) _ _ rfl (by omega)
          obtain ⟨q, Hq⟩ : ∃ q, Hid (i + 1 - i = q) := ⟨_, rfl⟩
          rw [Hq.out] at s1 s2
          obtain ⟨L, HL⟩ : ∃ L, Hid (E - 1 = L) := ⟨_, rfl⟩
          have hLi : L ≤ i := by rw [← HL.out]; omega
          rw [HL.out] at hcase ⊢
          have hiw : IntKind.i64.wrap ((i : Int) + 1) = (i : Int) + 1 := by rw [IntKind.wrap_i64]; omega
          have HP : Hid (∀ (w6 : World) (A6 : Option Addr) (cap6 : Nat), Own w6 w.heap.size 30 3 A6 (n + 1) cap6 (hcells (posOf ss) (hdr g1 o1 cap1 g2 o2 cap2 ss) n ++ [.int .i64 i, .slice (some ⟨g1, o1 + i, none⟩) q (cap1 - i), .slice (some ⟨g2, o2 + i, none⟩) q (cap2 - i)]) → Below w.heap.size w w6 →
              RHead w.heap.size g1 o1 cap1 g2 o2 cap2 was now gap m w (.slice A6 (n + 1) cap6) (.int .i64 i) (.int .i64 ((i : Int) + 1)) w6) := by
            intro w6 A6 cap6 hO6 hb6
            refine ⟨i + 1, A6, cap6, by go_num, by omega, ?_, ?_, ?_, hb6⟩
            · rw [hnew, List.length_append, Hn.out]; rfl
            · unfold lastOf; rw [hnew, endOf_snoc]; rfl
            · have hsa : ∀ j, j < n → seg (ss ++ [(i, i + 1)]) j = seg ss j := fun j hj => getD_snoc_lt (by rw [Hn.out]; exact hj)
              have hsl : seg (ss ++ [(i, i + 1)]) n = (i, i + 1) := getD_snoc_eq Hn.out.symm
              rw [hnew, List.length_append, Hn.out]
              show Own w6 w.heap.size 30 3 A6 (n + 1) cap6 (hcells _ _ (n + 1))
              rw [hcells_succ]
              have e1 : hcells (posOf (ss ++ [(i, i + 1)])) (hdr g1 o1 cap1 g2 o2 cap2 (ss ++ [(i, i + 1)])) n = hcells (posOf ss) (hdr g1 o1 cap1 g2 o2 cap2 ss) n := by
                refine hcells_congr n (fun j hj => ⟨?_, ?_⟩)
                · unfold posOf; rw [hsa j hj]
                · unfold hdr; rw [hsa j hj]
              rw [e1]
              unfold posOf hdr
              rw [hsl]
              simp only [Hq.out]
              exact hO6
          have Hnew := Lib.hid hnew
          clear hnew
          rcases hcase with e0 | ⟨e4, e0, e1, e2⟩
          · subst e0
            go_wp2_with fail
            go_region_held3 (fun w' => True) (trivial)
              ((refine step_append_elem (by rfl) _ _ _ (by rfl) w.heap.size 30 i2 _ 3 56 Try.underlying31 hi2 hx0 hx1 hx2 rfl (by omega) A 0 cap _ (by rfl) ((HOq.out.alloc _).drewN 1) [.int .i64 i, .slice (some ⟨g1, o1 + i, none⟩) q (cap1 - i), .slice (some ⟨g2, o2 + i, none⟩) q (cap2 - i)] (by rfl) wq.heap.size (by rfl) ((Blk.new _ _ _).drewN 1) (by simp [Value.oneCell']) (by unfold maxLen; omega) (by omega) (by simp; omega) ?_; intro A6 cap6 w6 hO6 hM6 hat6))
            have HP6 := Lib.hid (HP.out w6 A6 cap6 hO6 (Below.mod (below_drewN (Hbq.out.alloc hBq _) 1) hM6 (by simp; omega) (fun k _ ⟨a, ha, e⟩ => by rw [← e]; exact (HOq.out.lt a ha).1)))
            clear hO6 hM6 hat6
            go_wp2_with fail
            exact ⟨HP6.out, by simp [intOf]; omega⟩
          · have e5 : decide ((0 : Int) < (n : Int)) = true := by rw [decide_eq_true_eq]; omega
            go_wp2_with fail
            go_region_held3 (fun w' => True) (trivial)
              ((refine step_append_elem (by rfl) _ _ _ (by rfl) w.heap.size 30 i2 _ 3 56 Try.underlying31 hi2 hx0 hx1 hx2 rfl (by omega) A n cap _ (by rfl) ((HOq.out.alloc _).drewN 1) [.int .i64 i, .slice (some ⟨g1, o1 + i, none⟩) q (cap1 - i), .slice (some ⟨g2, o2 + i, none⟩) q (cap2 - i)] (by rfl) wq.heap.size (by rfl) ((Blk.new _ _ _).drewN 1) (by simp [Value.oneCell']) (by unfold maxLen; omega) (by omega) (by simp; omega) ?_; intro A6 cap6 w6 hO6 hM6 hat6))
            have HP6 := Lib.hid (HP.out w6 A6 cap6 hO6 (Below.mod (below_drewN (Hbq.out.alloc hBq _) 1) hM6 (by simp; omega) (fun k _ ⟨a, ha, e⟩ => by rw [← e]; exact (HOq.out.lt a ha).1)))
            clear hO6 hM6 hat6
            go_wp2_with fail
            exact ⟨HP6.out, by simp [intOf]; omega⟩
    · have hie : i = m := by omega
      subst hie
      go_wp2_with fail
      go_ret2
      exact ⟨A, cap, rfl, HO.out, Hb.out⟩
end Go.Proofs.Ytedbabkmbpkjlaa
