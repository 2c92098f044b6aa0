/- The walk of Write. -/
import Derived.Test.YtpflhgidcjlcjaaW1
namespace Go.Proofs.Ytpflhgidcjlcjaa
open Go.RowKit
set_option linter.unusedVariables false
set_option linter.unusedSimpArgs false

theorem write_no (gl gw : Nat) (x : Int) (s : Lv) (w : World) (hs : Fine s) (hx : x < 0 ∨ s.N ≤ x) (hl : LAt w gl gw s) :
    Calls Try.prog 8 #[.pointer (some ⟨gl, 0, none⟩), .int .i64 x] w fun e w' => e = .returned (.tuple #[.agg #[.int .i64 0, .int .i64 0], .bool false, .bool false]) ∧ Below w.heap.size w w' := by
  have HL := Lib.hid hl
  have Hs := Lib.hid hs
  have Hx := Lib.hid hx
  clear hl hs hx
  go_enter Try.func8, Try.ntmps8
  go_wp2_with fail
  refine (place_no gl gw x s _ Hs.out Hx.out (HL.out.below ((Below.refl _ w).alloc (Nat.le_refl _) _) (Nat.le_refl _))).mono ?_
  rintro e w1 ⟨rfl, hb⟩
  have HR := Lib.hid ((Blk.new w 28 #[.int .i64 0, .int .i64 0]).below hb (by simp))
  have Hb := Lib.hid (((Below.refl _ w).alloc (Nat.le_refl _) (.cells #[.int .i64 0, .int .i64 0] 28)).trans (hb.mono (by simp)))
  clear hb
  have r0 := HR.out.cell 0
  have r1 := HR.out.cell 1
  have t0 := HR.out.frozen 0
  have t1 := HR.out.frozen 1
  simp only [List.getElem?_toArray, List.getElem?_cons_zero, List.getElem?_cons_succ] at r0 r1
  go_wp2_with fail
  have HRf : Hid (Blk ((w1.setCell ⟨w.heap.size, 0, none⟩ (.int .i64 0)).setCell ⟨w.heap.size, 1, none⟩ (.int .i64 0)) w.heap.size 28 #[.int .i64 0, .int .i64 0]) := Blk.conv ((HR.out.set_ 0 _).set_ 1 _) (by simp)
  have Hbf : Hid (Below w.heap.size w ((w1.setCell ⟨w.heap.size, 0, none⟩ (.int .i64 0)).setCell ⟨w.heap.size, 1, none⟩ (.int .i64 0))) := (Hb.out.setCell (Nat.le_refl _) _).setCell (Nat.le_refl _) _
  generalize World.setCell _ _ _ = w2 at *
  have d0 := HRf.out.cell 0
  have d1 := HRf.out.cell 1
  simp only [List.getElem?_toArray, List.getElem?_cons_zero, List.getElem?_cons_succ] at d0 d1
  refine bodyPost_ret (v := .tuple #[.agg #[.int .i64 0, .int .i64 0], .bool false, .bool false]) (by simp [results, Try.results8, go_sem, d0, d1]) rfl ?_
  exact ⟨rfl, Hbf.out⟩

/-- Does something move? -/
def mvd (s : Lv) : Prop := (s.W + 1) % s.K = 0
instance (s : Lv) : Decidable (mvd s) := by unfold mvd; infer_instance
theorem wr_yes {s : Lv} (h : mvd s) (x : Nat) : wr s x = move (wr0 s x) := by unfold wr; exact if_pos h
theorem wr_no {s : Lv} (h : ¬ mvd s) (x : Nat) : wr s x = wr0 s x := by unfold wr; exact if_neg h
/-- What Write answers. -/
def said (s : Lv) : Value := if mvd s then .tuple #[.agg #[.int .i64 (frm s : Nat), .int .i64 (s.G : Nat)], .bool true, .bool true] else .tuple #[.agg #[.int .i64 0, .int .i64 0], .bool false, .bool true]

set_option maxHeartbeats 1000000 in
theorem write_yes (gl gw x : Nat) (s : Lv) (w : World) (hs : Fine s) (hw : s.W ≤ 1000000000) (hx : x < s.N) (hl : LAt w gl gw s) :
    Calls Try.prog 8 #[.pointer (some ⟨gl, 0, none⟩), .int .i64 x] w fun e w' => e = .returned (said s) ∧ LAt w' gl gw (wr s x) ∧ Mod w w' (fun k => k = gl ∨ k = gw) := by
  have Hs := Lib.hid hs
  have hne := hl.ne
  have hll := hl.l.lt
  have hwl := hl.w.lt
  have hpl := place_le hs x
  have hmb := hs.mb
  have hwb := hs.wb (place s x)
  obtain ⟨p, Hp⟩ : ∃ p, Hid (place s x = p) := ⟨_, rfl⟩
  rw [Hp.out] at hpl hwb
  have HL := Lib.hid hl
  have hxx := hx
  clear hs hl
  go_enter Try.func8, Try.ntmps8
  go_wp2_with fail
  refine (place_yes gl gw x s _ Hs.out hxx (HL.out.below ((Below.refl _ w).alloc (Nat.le_refl _) _) (Nat.le_refl _))).mono ?_
  rintro e w1 ⟨rfl, hb⟩
  rw [Hp.out]
  have HR := Lib.hid ((Blk.new w 28 #[.int .i64 0, .int .i64 0]).below hb (by simp))
  have HL1 := Lib.hid ((HL.out.below ((Below.refl _ w).alloc (Nat.le_refl _) (.cells #[.int .i64 0, .int .i64 0] 28)) (Nat.le_refl _)).below hb (Nat.le_refl _))
  have Hb := Lib.hid (((Below.refl _ w).alloc (Nat.le_refl _) (.cells #[.int .i64 0, .int .i64 0] 28)).trans (hb.mono (by simp)))
  clear hb
  obtain ⟨N, K, S, G, W, M, wn⟩ := s
  have a1 := HL1.out.l.cell 1
  have a4 := HL1.out.l.cell 4
  have a6 := HL1.out.l.cell 6
  have f4 := HL1.out.l.frozen 4
  unfold lcells at a1 a4 a6
  simp only [List.getElem?_toArray, List.getElem?_cons_zero, List.getElem?_cons_succ] at a1 a4 a6
  simp only at hw hx hpl hmb hwb
  have hk1 : 1 ≤ K := Hs.out.k1
  have hk2 : K ≤ 65536 := Hs.out.k2
  have hn2 : N ≤ 65536 := Hs.out.n2
  have w0 : w1.cell? ⟨gw, p, none⟩ = some (.int .i64 (wn.getD p 0 : Nat)) := by
    refine (HL1.out.w.cell p).trans ?_
    rw [List.getElem?_toArray]
    exact icells_at _ _ (by rw [Hs.out.len]; simp only; omega)
  have g0 := HL1.out.w.frozen p
  obtain ⟨y, Hy⟩ : ∃ y, Hid (wn.getD p 0 = y) := ⟨_, rfl⟩
  rw [Hy.out] at w0 hwb
  have hpn : p < N + 1 := by omega
  go_wp2_with fail
  have HW0 : Hid (wr0 ⟨N, K, S, G, W, M, wn⟩ x = ⟨N, K, S, G, W + 1, M, bump wn p⟩) := by show wr0 _ _ = _; unfold wr0; rw [Hp.out]
  have HF0 := Lib.hid (Hs.out.wr0 x)
  rw [HW0.out] at HF0
  have HL2 : Hid (LAt ((w1.setCell ⟨gw, p, none⟩ (.int .i64 ((y : Int) + 1))).setCell ⟨gl, 4, none⟩ (.int .i64 ((W : Int) + 1))) gl gw ⟨N, K, S, G, W + 1, M, bump wn p⟩) :=
    ⟨Blk.conv ((HL1.out.l.far (p := ⟨gw, p, none⟩) hne _).set_ 4 _) (by simp [lcells]), Blk.conv ((HL1.out.w.set_ p _).far (p := ⟨gl, 4, none⟩) hne.symm _) (icells_bump wn p (by rw [Hy.out]))⟩
  have HR2 : Hid (Blk ((w1.setCell ⟨gw, p, none⟩ (.int .i64 ((y : Int) + 1))).setCell ⟨gl, 4, none⟩ (.int .i64 ((W : Int) + 1))) w.heap.size 28 #[.int .i64 0, .int .i64 0]) :=
    (HR.out.far (p := ⟨gw, p, none⟩) (show w.heap.size ≠ gw by omega) _).far (p := ⟨gl, 4, none⟩) (show w.heap.size ≠ gl by omega) _
  have HM2 : Hid (Mod w ((w1.setCell ⟨gw, p, none⟩ (.int .i64 ((y : Int) + 1))).setCell ⟨gl, 4, none⟩ (.int .i64 ((W : Int) + 1))) (fun k => k = gl ∨ k = gw)) :=
    (((Mod.of_below Hb.out).mono (fun k hk h => absurd h (by omega))).set (p := ⟨gw, p, none⟩) (.inr (.inr rfl)) _).set (p := ⟨gl, 4, none⟩) (.inr (.inl rfl)) _
  clear a1 a4 a6 f4 w0 g0 HL HL1 HR Hb Hy
  generalize World.setCell _ _ _ = w2 at *
  have b1 := HL2.out.l.cell 1
  have b4 := HL2.out.l.cell 4
  unfold lcells at b1 b4
  simp only [List.getElem?_toArray, List.getElem?_cons_zero, List.getElem?_cons_succ] at b1 b4
  rw [show ((W + 1 : Nat) : Int) = (W : Int) + 1 by omega] at b4
  obtain ⟨r, Hr⟩ : ∃ r, Hid ((W + 1) % K = r) := ⟨_, rfl⟩
  have hri : ((W : Int) + 1) % (K : Int) = (r : Int) := by rw [← Hr.out]; simp
  go_quiet (fail)
  simp only [hri]
  have HL3 := Lib.hid (HL2.out.drewN nq)
  have HR3 := Lib.hid (HR2.out.drewN nq)
  have HM3 := Lib.hid (HM2.out.drewN nq)
  generalize World.drewN _ _ = w3 at *
  clear b1 b4 hri HL2 HR2 HM2
  by_cases hr0 : r = 0
  · have HM : Hid (mvd ⟨N, K, S, G, W, M, wn⟩) := by show mvd _; unfold mvd; rw [Hr.out, hr0]
    have HWR : Hid (wr ⟨N, K, S, G, W, M, wn⟩ x = move ⟨N, K, S, G, W + 1, M, bump wn p⟩) := by
      show wr _ _ = _
      rw [wr_yes HM.out, HW0.out]
    subst hr0
    go_wp2_with fail
    refine (move_any gl gw ⟨N, K, S, G, W + 1, M, bump wn p⟩ _ HF0.out (by simp only; omega) (by simp only; omega) HL3.out).mono ?_
    rintro e w4 ⟨rfl, hl4, hm4⟩
    have HL4 := Lib.hid hl4
    have HR4 := Lib.hid (hm4.blk HR3.out (by omega))
    have HM4 := Lib.hid (HM3.out.trans hm4 (fun k hk h => h))
    clear hl4 hm4
    have r0 := HR4.out.cell 0
    have r1 := HR4.out.cell 1
    have t0 := HR4.out.frozen 0
    have t1 := HR4.out.frozen 1
    simp only [List.getElem?_toArray, List.getElem?_cons_zero, List.getElem?_cons_succ] at r0 r1
    go_wp2_with fail
    have HRf : Hid (Blk ((w4.setCell ⟨w.heap.size, 0, none⟩ (.int .i64 (frm ⟨N, K, S, G, W + 1, M, bump wn p⟩ : Nat))).setCell ⟨w.heap.size, 1, none⟩ (.int .i64 (G : Nat))) w.heap.size 28 #[.int .i64 (frm ⟨N, K, S, G, W + 1, M, bump wn p⟩ : Nat), .int .i64 (G : Nat)]) := Blk.conv ((HR4.out.set_ 0 _).set_ 1 _) (by simp)
    have HLf : Hid (LAt ((w4.setCell ⟨w.heap.size, 0, none⟩ (.int .i64 (frm ⟨N, K, S, G, W + 1, M, bump wn p⟩ : Nat))).setCell ⟨w.heap.size, 1, none⟩ (.int .i64 (G : Nat))) gl gw (move ⟨N, K, S, G, W + 1, M, bump wn p⟩)) :=
      ⟨(HL4.out.l.far (p := ⟨w.heap.size, 0, none⟩) (show gl ≠ w.heap.size by omega) _).far (p := ⟨w.heap.size, 1, none⟩) (show gl ≠ w.heap.size by omega) _, (HL4.out.w.far (p := ⟨w.heap.size, 0, none⟩) (show gw ≠ w.heap.size by omega) _).far (p := ⟨w.heap.size, 1, none⟩) (show gw ≠ w.heap.size by omega) _⟩
    have HMf : Hid (Mod w ((w4.setCell ⟨w.heap.size, 0, none⟩ (.int .i64 (frm ⟨N, K, S, G, W + 1, M, bump wn p⟩ : Nat))).setCell ⟨w.heap.size, 1, none⟩ (.int .i64 (G : Nat))) (fun k => k = gl ∨ k = gw)) := (HM4.out.set (p := ⟨w.heap.size, 0, none⟩) (.inl (Nat.le_refl _)) _).set (p := ⟨w.heap.size, 1, none⟩) (.inl (Nat.le_refl _)) _
    generalize World.setCell _ _ _ = w5 at *
    have d0 := HRf.out.cell 0
    have d1 := HRf.out.cell 1
    simp only [List.getElem?_toArray, List.getElem?_cons_zero, List.getElem?_cons_succ] at d0 d1
    refine bodyPost_ret (v := .tuple #[.agg #[.int .i64 (frm ⟨N, K, S, G, W + 1, M, bump wn p⟩ : Nat), .int .i64 (G : Nat)], .bool true, .bool true]) (by simp [results, Try.results8, go_sem, d0, d1]) rfl ?_
    rw [HWR.out]
    refine ⟨?_, HLf.out, HMf.out⟩
    unfold said
    rw [if_pos HM.out]
    rfl
  · have HM : Hid (¬ mvd ⟨N, K, S, G, W, M, wn⟩) := by show ¬ mvd _; unfold mvd; rw [Hr.out]; exact hr0
    have HWR : Hid (wr ⟨N, K, S, G, W, M, wn⟩ x = ⟨N, K, S, G, W + 1, M, bump wn p⟩) := by
      show wr _ _ = _
      rw [wr_no HM.out, HW0.out]
    have hrb : ((r : Int) == 0) = false := by rw [beq_eq_false_iff_ne]; omega
    have r0 := HR3.out.cell 0
    have r1 := HR3.out.cell 1
    have t0 := HR3.out.frozen 0
    have t1 := HR3.out.frozen 1
    simp only [List.getElem?_toArray, List.getElem?_cons_zero, List.getElem?_cons_succ] at r0 r1
    go_wp2_with fail
    have HRf : Hid (Blk ((w3.setCell ⟨w.heap.size, 0, none⟩ (.int .i64 0)).setCell ⟨w.heap.size, 1, none⟩ (.int .i64 0)) w.heap.size 28 #[.int .i64 0, .int .i64 0]) := Blk.conv ((HR3.out.set_ 0 _).set_ 1 _) (by simp)
    have HLf : Hid (LAt ((w3.setCell ⟨w.heap.size, 0, none⟩ (.int .i64 0)).setCell ⟨w.heap.size, 1, none⟩ (.int .i64 0)) gl gw ⟨N, K, S, G, W + 1, M, bump wn p⟩) :=
      ⟨(HL3.out.l.far (p := ⟨w.heap.size, 0, none⟩) (show gl ≠ w.heap.size by omega) _).far (p := ⟨w.heap.size, 1, none⟩) (show gl ≠ w.heap.size by omega) _, (HL3.out.w.far (p := ⟨w.heap.size, 0, none⟩) (show gw ≠ w.heap.size by omega) _).far (p := ⟨w.heap.size, 1, none⟩) (show gw ≠ w.heap.size by omega) _⟩
    have HMf : Hid (Mod w ((w3.setCell ⟨w.heap.size, 0, none⟩ (.int .i64 0)).setCell ⟨w.heap.size, 1, none⟩ (.int .i64 0)) (fun k => k = gl ∨ k = gw)) := (HM3.out.set (p := ⟨w.heap.size, 0, none⟩) (.inl (Nat.le_refl _)) _).set (p := ⟨w.heap.size, 1, none⟩) (.inl (Nat.le_refl _)) _
    generalize World.setCell _ _ _ = w5 at *
    have d0 := HRf.out.cell 0
    have d1 := HRf.out.cell 1
    simp only [List.getElem?_toArray, List.getElem?_cons_zero, List.getElem?_cons_succ] at d0 d1
    refine bodyPost_ret (v := .tuple #[.agg #[.int .i64 0, .int .i64 0], .bool false, .bool true]) (by simp [results, Try.results8, go_sem, d0, d1]) rfl ?_
    rw [HWR.out]
    refine ⟨?_, HLf.out, HMf.out⟩
    unfold said
    rw [if_neg HM.out]
end Go.Proofs.Ytpflhgidcjlcjaa
