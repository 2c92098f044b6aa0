/- The walks of awake and of DiffApplies. -/
import Derived.Test.YtedbabkmbpkjlaaW5
namespace Go.Proofs.Ytedbabkmbpkjlaa
open Go.RowKit
set_option linter.unusedVariables false
set_option linter.unusedSimpArgs false

theorem rd_new (w : World) (e : TypeId) (vs : List Value) (n : Nat) (h : vs.length = n) : Rd (w.alloc (.cells vs.toArray e)) 1 (some ⟨w.heap.size, 0, none⟩) n vs :=
  ⟨by omega, fun _ => ⟨_, 0, rfl, by simp, fun j u hu => by rw [Nat.zero_add, (Blk.new w e _).cell]; simpa using hu⟩⟩
theorem segs_awake : segs [1, 2, 3] [1, 5, 3] 0 3 = [(1, 2)] := by decide

set_option maxRecDepth 100000 in
theorem awake_any (w : World) : Calls Try.prog 5 #[] w fun e w' => e = .returned (.bool true) ∧ Below w.heap.size w w' := by
  have h1 : Rd ((w.alloc (.cells #[.int .u64 1, .int .u64 2, .int .u64 3] 46)).alloc (.cells #[.int .u64 1, .int .u64 5, .int .u64 3] 46)) 1 (some ⟨w.heap.size, 0, none⟩) 3 (ucells [1, 2, 3]) :=
    (rd_new w 46 [.int .u64 1, .int .u64 2, .int .u64 3] 3 rfl).alloc _
  have h2 : Rd ((w.alloc (.cells #[.int .u64 1, .int .u64 2, .int .u64 3] 46)).alloc (.cells #[.int .u64 1, .int .u64 5, .int .u64 3] 46)) 1 (some ⟨w.heap.size + 1, 0, none⟩) 3 (ucells [1, 5, 3]) := by
    have := rd_new (w.alloc (.cells #[.int .u64 1, .int .u64 2, .int .u64 3] 46)) 46 [.int .u64 1, .int .u64 5, .int .u64 3] 3 rfl
    rw [show (w.alloc (.cells #[.int .u64 1, .int .u64 2, .int .u64 3] 46)).heap.size = w.heap.size + 1 by simp] at this
    exact this
  have H1 := Lib.hid h1
  have H2 := Lib.hid h2
  clear h1 h2
  go_enter Try.func5, Try.ntmps5
  go_wp2_with fail
  refine (words_any _ _ 3 3 3 [1, 2, 3] [1, 5, 3] 0 _ (by omega) (by omega) (by omega) (by omega) (by omega) H1.out H2.out).mono ?_
  rintro e w2 ⟨A, cap, bl, rfl, hC⟩
  rw [segs_awake] at hC ⊢
  have hl : ([(1, 2)] : List (Nat × Nat)).length = 1 := rfl
  rw [hl] at hC ⊢
  obtain ⟨g, rfl, _, _, hnc, hcm, hc, _⟩ := hC.out.at_ (by omega)
  unfold maxLen at hcm
  have k0 := hc 0 _ rfl
  have k1 := hc 1 _ rfl
  have k2 := hc 2 _ rfl
  obtain ⟨ga, ha, _, _, _, _, hca, _⟩ := (hC.va 0 (by omega)).at_ (by decide)
  cases ha
  have m0 := hca 0 (.int .u64 2) rfl
  obtain ⟨gb, hb, _, _, _, _, hcb, _⟩ := (hC.vb 0 (by omega)).at_ (by decide)
  cases hb
  have n0 := hcb 0 (.int .u64 5) rfl
  have k0' : w2.cell? ⟨g, 0, none⟩ = some (.int .i64 1) := k0
  have k1' : w2.cell? ⟨g, 1, none⟩ = some (.slice (some ⟨(bl 0).a, 0, none⟩) 1 (bl 0).ca) := k1
  have k2' : w2.cell? ⟨g, 2, none⟩ = some (.slice (some ⟨(bl 0).b, 0, none⟩) 1 (bl 0).cb) := k2
  clear k0 k1 k2
  have Hb := Lib.hid hC.b
  generalize (bl 0).a = ba at *
  generalize (bl 0).b = bb at *
  clear hC hc hca hcb H1 H2
  go_wp2_with fail
  go_ret
  exact ⟨rfl, (((Below.refl _ w).alloc (Nat.le_refl _) _).alloc (by simp) _).trans (Hb.out.mono (by simp; omega))⟩

theorem apl_code (words : List Int) (pos : Nat → Int) (was now : Nat → List Int) (j : Nat) : (apl words pos was now j).1 = 0 ∨ (apl words pos was now j).1 = 1 ∨ (apl words pos was now j).1 = 2 := by
  induction j with
  | zero => exact .inl rfl
  | succ j ih =>
    simp only [apl]
    split
    · split
      · split
        · exact .inl rfl
        · exact .inr (.inr rfl)
      · exact .inr (.inl rfl)
    · exact ih

set_option maxRecDepth 100000 in
set_option maxHeartbeats 2000000 in
theorem da_any (A1 : Option Addr) (m cap1 : Nat) (words : List Int) (A : Option Addr) (n cap : Nat) (pos : Nat → Int) (hd : Nat → Hd) (was now : Nat → List Int) (w : World) (hm : m ≤ cap1) (hc1 : cap1 ≤ maxLen) (hn : n ≤ cap) (hc : cap ≤ maxLen)
    (hw : Rd w 1 A1 m (ucells words)) (hr : ChRow w A n pos hd) (hv : ChVals w n hd was now) :
    Calls Try.prog 3 #[.slice A1 m cap1, .slice A n cap] w fun e w' => e = .returned (.bool true) ∧ Below w.heap.size w w' := by
  have Hw := Lib.hid hw
  have Hr := Lib.hid hr
  have Hv := Lib.hid hv
  have Hc := Lib.hid hc
  have hc1' := hc1
  have hc' := hc
  unfold maxLen at hc1' hc'
  clear hw hr hv hc hc1
  go_enter Try.func3, Try.ntmps3
  go_wp2_with fail
  refine (awake_any _).mono ?_
  rintro e w1 ⟨rfl, hb1⟩
  have Hb1 := Lib.hid hb1
  clear hb1
  by_cases h300 : 300 < m
  · have hdec : decide ((300 : Int) < (m : Int)) = true := by rw [decide_eq_true_eq]; omega
    go_wp2_with fail
    go_ret
    exact ⟨rfl, Hb1.out⟩
  · have hdec : decide ((300 : Int) < (m : Int)) = false := by rw [decide_eq_false_iff_not]; omega
    go_wp2_with fail
    refine (few_any A n cap pos _ _ hn Hc.out (Hr.out.below Hb1.out (Nat.le_refl _))).mono ?_
    rintro e w2 ⟨⟨b, rfl, hfew⟩, hb2⟩
    have Hb2 := Lib.hid (Hb1.out.trans (hb2.mono Hb1.out.size))
    clear hb2 Hb1
    cases b with
    | false =>
      clear hfew
      go_wp2_with fail
      go_ret
      exact ⟨rfl, Hb2.out⟩
    | true =>
      have h40 := hfew rfl
      clear hfew
      go_wp2_with fail
      go_loopw [5] (fun v5 wr => ∃ i : Nat, v5 = .int .i64 i ∧ i ≤ n ∧ Below w.heap.size w wr) (fun v5 _ => n - (intOf v5).toNat)
      case atStart => exact ⟨0, rfl, Nat.zero_le _, Hb2.out⟩
      case round =>
        obtain ⟨i, rfl, hi, hb⟩ := hrel
        have Hb := Lib.hid hb
        clear hb
        by_cases hlt : i < n
        · obtain ⟨g, off, rfl, hg, hcc⟩ := Hr.out.below Hb.out (Nat.le_refl _) (by omega)
          obtain ⟨e0, e1, e2⟩ := hcc i hlt
          clear hcc
          obtain ⟨hh, Hhh⟩ : ∃ h, Hid (hd i = h) := ⟨_, rfl⟩
          obtain ⟨p, Hp⟩ : ∃ p, Hid (pos i = p) := ⟨_, rfl⟩
          rw [Hhh.out] at e1 e2
          rw [Hp.out] at e0
          obtain ⟨B1, n1, k1, B2, n2, k2⟩ := hh
          simp only at e1 e2
          obtain ⟨b, Hbd⟩ : ∃ b, Hid (decide (okCh p n1 n2 m) = b) := ⟨_, rfl⟩
          go_wp2_with fail
          refine (right_any p B1 B2 n1 k1 n2 k2 m _ (by omega)).mono ?_
          rintro e w3 ⟨rfl, hb3⟩
          rw [Hbd.out]
          have Hb3 := Lib.hid (Hb.out.trans (hb3.mono Hb.out.size))
          clear hb3 Hb e0 e1 e2
          go_wp2_with fail
          refine (refs_any _ n cap pos hd _ (by omega) (Hr.out.below Hb3.out (Nat.le_refl _))).mono ?_
          rintro e w4 ⟨A4, cap4, rfl, hr4, hb4⟩
          have Hb4 := Lib.hid (Hb3.out.trans (hb4.mono Hb3.out.size))
          obtain ⟨g4, off4, rfl, hg4, hc4⟩ := hr4 (by omega)
          obtain ⟨e0, e1, e2⟩ := hc4 i hlt
          rw [Hhh.out] at e1 e2
          rw [Hp.out] at e0
          simp only at e1 e2
          clear hr4 hb4 hc4 Hb3
          go_wp2_with fail
          refine (refright_any p B1 B2 n1 k1 n2 k2 m _ (by omega)).mono ?_
          rintro e w5 ⟨rfl, hb5⟩
          rw [Hbd.out]
          have Hb5 := Lib.hid (Hb4.out.trans (hb5.mono Hb4.out.size))
          clear hb5 Hb4 e0 e1 e2
          go_wp2_with fail
          exact ⟨⟨i + 1, by go_num, by omega, Hb5.out⟩, by simp [intOf]; omega⟩
        · go_wp2_with fail
          refine (apply_any A1 m cap1 words A n cap pos hd was now _ (by omega) (by omega) (Hw.out.below Hb.out (Nat.le_refl _)) (Hr.out.below Hb.out (Nat.le_refl _)) (Hv.out.below Hb.out (Nat.le_refl _))).mono ?_
          rintro e w3 ⟨v3, rfl, hA3, hb3⟩
          have Hb3 := Lib.hid (Hb.out.trans (hb3.mono Hb.out.size))
          have HA3 := Lib.hid hA3
          have hs3 := hb3.size
          clear hb3 hA3 Hb
          go_wp2_with fail
          refine (refs_any A n cap pos hd _ (by omega) (Hr.out.below Hb3.out (Nat.le_refl _))).mono ?_
          rintro e w4 ⟨A4, cap4, rfl, hr4, hb4⟩
          have Hb4 := Lib.hid (Hb3.out.trans (hb4.mono Hb3.out.size))
          have Hr4 := Lib.hid hr4
          have Hb34 := Lib.hid hb4
          clear hr4 hb4 Hb3
          go_wp2_with fail
          refine (refapply_any A1 m cap1 words A4 n cap4 pos hd was now _ (by omega) (by omega) (Hw.out.below Hb4.out (Nat.le_refl _)) Hr4.out (Hv.out.below Hb4.out (Nat.le_refl _))).mono ?_
          rintro e w5 ⟨v5, rfl, hA5, hb5⟩
          have Hb5 := Lib.hid (Hb4.out.trans (hb5.mono Hb4.out.size))
          have HA5 := Lib.hid hA5
          rcases apl_code words pos was now n with h0 | h0
          · have ha : acode (apl words pos was now n).1 = 0 := by rw [h0]; rfl
            rcases HA3.out with ⟨_, B3, k3, rfl, hO3⟩ | ⟨h, _⟩
            · rcases HA5.out with ⟨_, B5, k5, rfl, hO5⟩ | ⟨h, _⟩
              · rw [h0, show acode 0 = 0 by rfl]
                have Hr3 := Lib.hid ((hO3.rd.below Hb34.out (Nat.le_refl _)).below hb5 (Nat.le_refl _))
                have Hr5 := Lib.hid hO5.rd
                clear hO3 hO5 ha h0 HA3 HA5 hA5 hb5
                go_wp2_with fail
                refine (same_any B3 m k3 B5 k5 _ _ (by omega) Hr3.out Hr5.out).mono ?_
                rintro e w6 ⟨rfl, hb6⟩
                have Hb6 := Lib.hid (Hb5.out.trans (hb6.mono Hb5.out.size))
                clear hb6
                go_wp2_with fail
                go_ret
                exact ⟨rfl, Hb6.out⟩
              · exact absurd h0 h
            · exact absurd h0 h
          · have hne : (apl words pos was now n).1 ≠ 0 := by omega
            rcases HA3.out with ⟨h, _⟩ | ⟨_, rfl⟩
            · exact absurd h hne
            · rcases h0 with h0 | h0
              · rw [h0, show acode 1 = 26 by rfl]
                clear HA3 HA5 hA5 hb5 hne h0
                go_wp2_with fail
                go_ret
                exact ⟨rfl, Hb5.out⟩
              · rw [h0, show acode 2 = 42 by rfl]
                clear HA3 HA5 hA5 hb5 hne h0
                go_wp2_with fail
                go_ret
                exact ⟨rfl, Hb5.out⟩
end Go.Proofs.Ytedbabkmbpkjlaa
