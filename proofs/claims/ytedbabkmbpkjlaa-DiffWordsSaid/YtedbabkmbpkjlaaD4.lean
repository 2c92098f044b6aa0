/- The walk of Back (printed by genback.py). -/
import Derived.Test.YtedbabkmbpkjlaaD1
namespace Go.Proofs.Ytedbabkmbpkjlaa
open Go.RowKit
set_option linter.unusedVariables false
set_option linter.unusedSimpArgs false

/-- Changes turned round: the rows that the call owns. -/
structure BK (w0 W : World) (k : Nat) (A : Option Addr) (cap : Nat) (pos : Nat → Int) (hd : Nat → Hd) (was now : Nat → List Int) : Prop where
  be : Below w0.heap.size w0 W
  out : Own W w0.heap.size 27 3 A k cap (hcells pos hd k)
  va : ∀ j, j < k → Own W w0.heap.size 46 1 (hd j).A (hd j).n (hd j).c (ucells (was j))
  vb : ∀ j, j < k → Own W w0.heap.size 46 1 (hd j).A2 (hd j).m (hd j).c2 (ucells (now j))
theorem BK.below {w0 w w' : World} {k cap B : Nat} {A : Option Addr} {pos : Nat → Int} {hd : Nat → Hd} {was now : Nat → List Int} (h : BK w0 w k A cap pos hd was now) (hb : Below B w w') (hB : w.heap.size ≤ B) : BK w0 w' k A cap pos hd was now :=
  ⟨h.be.trans (hb.mono (Nat.le_trans h.be.size hB)), h.out.below hb hB, fun j hj => (h.va j hj).below hb hB, fun j hj => (h.vb j hj).below hb hB⟩
theorem BK.drewN {w0 w : World} {k cap : Nat} {A : Option Addr} {pos : Nat → Int} {hd : Nat → Hd} {was now : Nat → List Int} (h : BK w0 w k A cap pos hd was now) (q : Nat) : BK w0 (w.drewN q) k A cap pos hd was now :=
  ⟨below_drewN h.be q, h.out.drewN q, fun j hj => (h.va j hj).drewN q, fun j hj => (h.vb j hj).drewN q⟩
theorem BK.push {p : Int} {w0 w w' : World} {k cap cap' n1 c1 m1 c2 : Nat} {A A' A1 A2 : Option Addr} {pos : Nat → Int} {hd : Nat → Hd} {was now : Nat → List Int} (h : BK w0 w k A cap pos hd was now) (hB : w0.heap.size ≤ w.heap.size)
    (h1 : Own w w0.heap.size 46 1 A1 n1 c1 (ucells (was k))) (h2 : Own w w0.heap.size 46 1 A2 m1 c2 (ucells (now k))) (hp : pos k = p)
    (hO : Own w' w0.heap.size 27 3 A' (k + 1) cap' (hcells pos hd k ++ [.int .i64 p, .slice A1 n1 c1, .slice A2 m1 c2])) (hM : Mod w w' (fun b => ∃ a, A = some a ∧ a.block = b)) :
    BK w0 w' (k + 1) A' cap' pos (fun j => if j = k then ⟨A1, n1, c1, A2, m1, c2⟩ else hd j) was now := by
  have hne : ∀ {A3 : Option Addr} {n c : Nat} {xs : List Value}, Own w w0.heap.size 46 1 A3 n c xs → Own w' w0.heap.size 46 1 A3 n c xs := fun ho =>
    ho.mod hM (fun a ha ⟨a', ha', e⟩ => ho.apart h.out (by decide) a ha a' ha' e.symm)
  refine ⟨Below.mod h.be hM hB (fun b _ ⟨a, ha, e⟩ => by rw [← e]; exact (h.out.lt a ha).1), ?_, fun j hj => ?_, fun j hj => ?_⟩
  · rw [hcells_succ]
    have e1 : hcells pos (fun j => if j = k then ⟨A1, n1, c1, A2, m1, c2⟩ else hd j) k = hcells pos hd k :=
      hcells_congr k (fun j hj => ⟨rfl, by rw [if_neg (by omega)]⟩)
    rw [e1, hp]
    simp only [if_true]
    exact hO
  · by_cases hjk : j = k
    · subst hjk; simp only [if_true]; exact hne h1
    · simp only [if_neg hjk]; exact hne (h.va j (by omega))
  · by_cases hjk : j = k
    · subst hjk; simp only [if_true]; exact hne h2
    · simp only [if_neg hjk]; exact hne (h.vb j (by omega))

set_option maxRecDepth 100000 in
set_option maxHeartbeats 2000000 in
theorem back_any (A : Option Addr) (n cap : Nat) (pos : Nat → Int) (hd : Nat → Hd) (was now : Nat → List Int) (w : World) (hn : n ≤ 100000) (hl : ∀ j, j < n → (was j).length ≤ 100000 ∧ (now j).length = (was j).length)
    (hr : ChRow w A n pos hd) (hv : ChVals w n hd was now) :
    Calls Try.prog 16 #[.slice A n cap] w fun e w' => ∃ A' cap' hd', e = .returned (.slice A' n cap') ∧ ChRow w' A' n (fun j => pos (n - 1 - j)) hd' ∧ ChVals w' n hd' (fun j => now (n - 1 - j)) (fun j => was (n - 1 - j)) ∧ Below w.heap.size w w' := by
  obtain ⟨i1, hi1, hy0, hy1, hy2⟩ := info46s
  obtain ⟨i2, hi2, hx0, hx1, hx2⟩ := info27s
  have Hr := Lib.hid hr
  have Hv := Lib.hid hv
  have Hl := Lib.hid hl
  clear hr hv hl
  go_enter Try.func16, Try.ntmps16
  go_wp2_with fail
  go_loopw [3, 4] (fun v3 v4 wr => ∃ (k : Nat) (A' : Option Addr) (cap' : Nat) (hd' : Nat → Hd), v4 = .int .i64 ((n : Int) - 1 - k) ∧ k ≤ n ∧ v3 = .slice A' k cap' ∧ BK w wr k A' cap' (fun j => pos (n - 1 - j)) hd' (fun j => now (n - 1 - j)) (fun j => was (n - 1 - j))) (fun _ v4 _ => (intOf v4 + 1).toNat)
  case atStart => exact ⟨0, none, 0, fun _ => ⟨none, 0, 0, none, 0, 0⟩, by simp, Nat.zero_le _, rfl, ⟨Below.refl _ _, Own.nil _ _ _ _, fun j hj => absurd hj (Nat.not_lt_zero _), fun j hj => absurd hj (Nat.not_lt_zero _)⟩⟩
  case round =>
    obtain ⟨k, A', cap', hd', rfl, hk, rfl, hbk⟩ := hrel
    have HK := Lib.hid hbk
    have hBs := hbk.be.size
    clear hbk
    by_cases hlt : k < n
    · obtain ⟨i, hi⟩ : ∃ i, n - 1 - k = i := ⟨_, rfl⟩
      have hv4 : (n : Int) - 1 - (k : Int) = (i : Int) := by omega
      have hin : i < n := by omega
      rw [hv4]
      obtain ⟨g, off, rfl, hg, hc⟩ := Hr.out (by omega)
      obtain ⟨e0, e1, e2⟩ := hc i hin
      have c0 := (HK.out.be.cell (p := ⟨g, off + i * 3, none⟩) hg).trans e0
      have c1 := (HK.out.be.cell (p := ⟨g, off + i * 3 + 1, none⟩) hg).trans e1
      have c2 := (HK.out.be.cell (p := ⟨g, off + i * 3 + 2, none⟩) hg).trans e2
      obtain ⟨hv1, hv2⟩ := Hv.out i hin
      have HV1 := Lib.hid (hv1.below HK.out.be (Nat.le_refl _))
      have HV2 := Lib.hid (hv2.below HK.out.be (Nat.le_refl _))
      obtain ⟨hl1, hl2⟩ := Hl.out i hin
      have HX : Hid ((fun j => now (n - 1 - j)) k = now i ∧ (fun j => was (n - 1 - j)) k = was i ∧ (fun j => pos (n - 1 - j)) k = pos i) := by show _ ∧ _ ∧ _; simp only [hi]; exact ⟨trivial, trivial, trivial⟩
      obtain ⟨pr, Hpr⟩ : ∃ f, Hid ((fun j => pos (n - 1 - j)) = f) := ⟨_, rfl⟩
      obtain ⟨nr, Hnr⟩ : ∃ f, Hid ((fun j => now (n - 1 - j)) = f) := ⟨_, rfl⟩
      obtain ⟨wsr, Hwr⟩ : ∃ f, Hid ((fun j => was (n - 1 - j)) = f) := ⟨_, rfl⟩
      rw [Hpr.out, Hnr.out, Hwr.out] at HK HX ⊢
      clear hc e0 e1 e2 hv1 hv2
      generalize pos i = p at *
      generalize was i = ws at *
      generalize now i = ns at *
      generalize hd i = hh at *
      obtain ⟨B1, n1, k1, B2, n2, k2⟩ := hh
      simp only at c1 c2 HV1 HV2
      have Hl1 := Lib.hid HV1.out.ulen
      have Hl2 := Lib.hid HV2.out.ulen
      obtain rfl : n1 = n2 := by rw [← Hl1.out, ← Hl2.out]; exact hl2.symm
      have hn1 : n1 ≤ 100000 := by rw [← Hl1.out]; exact hl1
      clear hl1 hl2
      go_wp2_with fail
      obtain ⟨N, HNN⟩ : ∃ N, Hid (wr.heap.size = N) := ⟨_, rfl⟩
      have HZ := Lib.hid (Blk.new wr 27 #[.int .i64 p, .slice B1 n1 k1, .slice B2 n1 k2])
      have HKs := Lib.hid (HK.out.below ((Below.refl _ wr).alloc (Nat.le_refl _) (.cells #[.int .i64 p, .slice B1 n1 k1, .slice B2 n1 k2] 27)) (Nat.le_refl _))
      have HV3 := Lib.hid (HV1.out.alloc (.cells #[.int .i64 p, .slice B1 n1 k1, .slice B2 n1 k2] 27))
      have HV4 := Lib.hid (HV2.out.alloc (.cells #[.int .i64 p, .slice B1 n1 k1, .slice B2 n1 k2] 27))
      have hsz : (wr.alloc (.cells #[.int .i64 p, .slice B1 n1 k1, .slice B2 n1 k2] 27)).heap.size = N + 1 := by simp [HNN.out]
      rw [HNN.out] at HZ hBs
      rw [HNN.out]
      have HoutN : Hid (∀ a, A' = some a → a.block < N) := fun a ha => by have := (HK.out.out.lt a ha).2; rw [HNN.out] at this; exact this
      clear c0 c1 c2 HK HV1 HV2
      generalize wr.alloc _ = w6 at *
      refine wp_region_noPanic ?_
      refine wp_region_held_drew (S := fun W => Blk W N 27 #[.int .i64 p, .slice B1 n1 k1, .slice B2 n1 k2]) (by kernel_rfl) HZ.out (fun hHeld => ?_)
      have HKs := Lib.hid (HKs.out.drewN 1)
      have HV1 := Lib.hid (HV3.out.drewN 1)
      have HV2 := Lib.hid (HV4.out.drewN 1)
      have hsS : N + 1 ≤ (w6.drewN 1).heap.size := Nat.le_of_eq hsz.symm
      change wpAnyH _ _ _ _ _ _ _ _ (w6.drewN 1)
      change Blk (w6.drewN 1) _ _ _ at hHeld
      clear HZ HV3 HV4 hsz
      generalize w6.drewN 1 = wS at *
      obtain ⟨T, HT⟩ : ∃ T, Hid (wS.heap.size = T) := ⟨_, rfl⟩
      rw [HT.out] at hsS
      have HB := Lib.hid (Below.refl T wS)
      have hTc : T ≤ wS.heap.size := Nat.le_of_eq HT.out.symm
      refine wpAnyH_take (i := 0) (oi := _) (v := _) rfl (by kernel_rfl) (by kernel_rfl) (by kernel_rfl) (fun _ _ _ h => h) (Or.inl ⟨by rfl, (by intro w hSw; go_simp; try with_reducible rfl)⟩) hHeld ?_
      try simp only [Act.put, List.setIfInBounds_toArray, List.set_cons_zero, List.set_cons_succ, List.getElem_toArray, List.getElem_cons_zero, List.getElem_cons_succ]
      refine wpAnyH_take (i := 1) (oi := _) (v := .pointer (some ⟨N, 0, none⟩)) rfl (by kernel_rfl) (by kernel_rfl) (by kernel_rfl) (fun _ _ _ h => h) (Or.inl ⟨by rfl, (by intro w hSw; go_simp; try with_reducible rfl)⟩) hHeld ?_
      try simp only [Act.put, List.setIfInBounds_toArray, List.set_cons_zero, List.set_cons_succ, List.getElem_toArray, List.getElem_cons_zero, List.getElem_cons_succ]
      refine wpAnyH_take (i := 4) (oi := _) (v := .pointer (some ⟨N, 2, none⟩)) rfl (by kernel_rfl) (by kernel_rfl) (by kernel_rfl) (fun _ _ _ h => h) (Or.inl ⟨by rfl, (by intro w hSw; go_simp; try with_reducible rfl)⟩) hHeld ?_
      try simp only [Act.put, List.setIfInBounds_toArray, List.set_cons_zero, List.set_cons_succ, List.getElem_toArray, List.getElem_cons_zero, List.getElem_cons_succ]
      refine wpAnyH_take (i := 8) (oi := _) (v := .pointer (some ⟨N, 1, none⟩)) rfl (by kernel_rfl) (by kernel_rfl) (by kernel_rfl) (fun _ _ _ h => h) (Or.inl ⟨by rfl, (by intro w hSw; go_simp; try with_reducible rfl)⟩) hHeld ?_
      try simp only [Act.put, List.setIfInBounds_toArray, List.set_cons_zero, List.set_cons_succ, List.getElem_toArray, List.getElem_cons_zero, List.getElem_cons_succ]
      refine wpAnyH_take (i := 2) (oi := _) (v := .int .i64 p) rfl (by kernel_rfl) (by kernel_rfl) (by kernel_rfl) (fun _ _ _ h => h) (Or.inl ⟨by rfl, (by intro w hSw; have hx := hSw.cell 0; simp only [List.getElem?_toArray, List.getElem?_cons_zero, List.getElem?_cons_succ] at hx; go_simp; try with_reducible rfl)⟩) hHeld ?_
      try simp only [Act.put, List.setIfInBounds_toArray, List.set_cons_zero, List.set_cons_succ, List.getElem_toArray, List.getElem_cons_zero, List.getElem_cons_succ]
      refine wpAnyH_take (i := 5) (oi := _) (v := .slice B2 n1 k2) rfl (by kernel_rfl) (by kernel_rfl) (by kernel_rfl) (fun _ _ _ h => h) (Or.inl ⟨by rfl, (by intro w hSw; have hx := hSw.cell 2; simp only [List.getElem?_toArray, List.getElem?_cons_zero, List.getElem?_cons_succ] at hx; go_simp; try with_reducible rfl)⟩) hHeld ?_
      try simp only [Act.put, List.setIfInBounds_toArray, List.set_cons_zero, List.set_cons_succ, List.getElem_toArray, List.getElem_cons_zero, List.getElem_cons_succ]
      refine wpAnyH_take (i := 9) (oi := _) (v := .slice B1 n1 k1) rfl (by kernel_rfl) (by kernel_rfl) (by kernel_rfl) (fun _ _ _ h => h) (Or.inl ⟨by rfl, (by intro w hSw; have hx := hSw.cell 1; simp only [List.getElem?_toArray, List.getElem?_cons_zero, List.getElem?_cons_succ] at hx; go_simp; try with_reducible rfl)⟩) hHeld ?_
      try simp only [Act.put, List.setIfInBounds_toArray, List.set_cons_zero, List.set_cons_succ, List.getElem_toArray, List.getElem_cons_zero, List.getElem_cons_succ]
      refine wpAnyH_ready (rs := [3, 7]) (by kernel_rfl) (by simp) ?_
      refine AllReadyH.cons (o := _) rfl (fun K1 hK1 => ?_) (AllReadyH.cons (o := _) rfl (fun K1 hK1 => ?_) AllReadyH.nil)
      · go_simp
        refine hK1.out _ _ (hHeld.alloc _) (fun hHeld => ?_)
        clear hK1 K1
        try simp only [Act.put, List.setIfInBounds_toArray, List.set_cons_zero, List.set_cons_succ, List.getElem_toArray, List.getElem_cons_zero, List.getElem_cons_succ]
        obtain ⟨b1, Hb1⟩ : ∃ b, Hid (wS.heap.size = b) := ⟨_, rfl⟩
        have hB1 := hTc
        have HE1 := Lib.hid (Own.empty wS w.heap.size 46 1 b1 Hb1.out (by rw [← Hb1.out]; omega))
        have HB := Lib.hid (HB.out.alloc hTc (.cells #[] 46))
        have hTc : T ≤ (wS.alloc (.cells #[] 46)).heap.size := by simp; omega
        rw [Hb1.out] at hB1 ⊢
        have hszl1 : b1 < (wS.alloc (.cells #[] 46)).heap.size := by rw [← Hb1.out]; simp
        generalize wS.alloc (.cells #[] 46) = w1_1 at *
        refine wpAnyH_ready (rs := [6, 7]) (by kernel_rfl) (by simp) ?_
        refine AllReadyH.cons (o := _) rfl (fun K1 hK1 => ?_) (AllReadyH.cons (o := _) rfl (fun K1 hK1 => ?_) AllReadyH.nil)
        · refine step_append_rd (by rfl) _ _ _ (by rfl) w.heap.size 46 i1 _ 1 8 Try.underlying22 hi1 hy0 hy1 hy2 rfl (by omega) (some ⟨b1, 0, none⟩) 0 0 [] (by rfl) HE1.out (B2) (n1) (k2) (ucells ns) (by rfl) (HV2.out.below HB.out (Nat.le_of_eq HT.out)) ucells_one (by unfold maxLen; omega) (by omega) (by omega) ?_
          intro A1 cap1 v1_2 hO1 hM1 hat1
          rw [Nat.zero_add, List.nil_append] at hO1
          have HO1 := Lib.hid hO1
          have hszl1 := Nat.lt_of_lt_of_le hszl1 hM1.size
          have HB := Lib.hid (Below.mod HB.out hM1 hTc (fun b _ e => by obtain ⟨a, ha, e⟩ := e; cases ha; simp only at e; omega))
          have hTc := Nat.le_trans hTc hM1.size
          refine hK1.out _ _ (hM1.blk hHeld (fun e => by obtain ⟨a, ha, e⟩ := e; cases ha; simp only at e; omega)) (fun hHeld => ?_)
          clear hK1 K1 hO1 hM1 hat1 HE1
          try simp only [Act.put, List.setIfInBounds_toArray, List.set_cons_zero, List.set_cons_succ, List.getElem_toArray, List.getElem_cons_zero, List.getElem_cons_succ]
          try simp only [Nat.zero_add]
          refine wpAnyH_ready (rs := [7]) (by kernel_rfl) (by simp) ?_
          refine AllReadyH.cons (o := _) rfl (fun K1 hK1 => ?_) AllReadyH.nil
          have HO1q := HO1
          go_simp
          refine hK1.out _ _ (hHeld.alloc _) (fun hHeld => ?_)
          clear hK1 K1
          try simp only [Act.put, List.setIfInBounds_toArray, List.set_cons_zero, List.set_cons_succ, List.getElem_toArray, List.getElem_cons_zero, List.getElem_cons_succ]
          obtain ⟨b2, Hb2⟩ : ∃ b, Hid (v1_2.heap.size = b) := ⟨_, rfl⟩
          have hB2 := hTc
          have HE2 := Lib.hid (Own.empty v1_2 w.heap.size 46 1 b2 Hb2.out (by rw [← Hb2.out]; omega))
          have HB := Lib.hid (HB.out.alloc hTc (.cells #[] 46))
          have hTc : T ≤ (v1_2.alloc (.cells #[] 46)).heap.size := by simp; omega
          have HO1 := Lib.hid (HO1.out.alloc (.cells #[] 46))
          rw [Hb2.out] at hB2 ⊢
          have hlt12 := hszl1
          rw [Hb2.out] at hlt12
          have hszl1 : b1 < (v1_2.alloc (.cells #[] 46)).heap.size := by simp; omega
          have hszl2 : b2 < (v1_2.alloc (.cells #[] 46)).heap.size := by rw [← Hb2.out]; simp
          generalize v1_2.alloc (.cells #[] 46) = w2_3 at *
          have Hne1 : Hid (∀ a, A1 = some a → a.block ≠ b2) := fun a ha e => by have := (HO1q.out.lt a ha).2; rw [Hb2.out] at this; omega
          refine wpAnyH_ready (rs := [10]) (by kernel_rfl) (by simp) ?_
          refine AllReadyH.cons (o := _) rfl (fun K1 hK1 => ?_) AllReadyH.nil
          refine step_append_rd (by rfl) _ _ _ (by rfl) w.heap.size 46 i1 _ 1 8 Try.underlying22 hi1 hy0 hy1 hy2 rfl (by omega) (some ⟨b2, 0, none⟩) 0 0 [] (by rfl) HE2.out (B1) (n1) (k1) (ucells ws) (by rfl) (HV1.out.below HB.out (Nat.le_of_eq HT.out)) ucells_one (by unfold maxLen; omega) (by omega) (by omega) ?_
          intro A2 cap2 v2_4 hO2 hM2 hat2
          rw [Nat.zero_add, List.nil_append] at hO2
          have HO2 := Lib.hid hO2
          have HO1 := Lib.hid (HO1.out.mod hM2 (fun a ha ⟨a2, ha2, e⟩ => by cases ha2; exact Hne1.out a ha e.symm))
          have hszl1 := Nat.lt_of_lt_of_le hszl1 hM2.size
          have hszl2 := Nat.lt_of_lt_of_le hszl2 hM2.size
          have HB := Lib.hid (Below.mod HB.out hM2 hTc (fun b _ e => by obtain ⟨a, ha, e⟩ := e; cases ha; simp only at e; omega))
          have hTc := Nat.le_trans hTc hM2.size
          refine hK1.out _ _ (hM2.blk hHeld (fun e => by obtain ⟨a, ha, e⟩ := e; cases ha; simp only at e; omega)) (fun hHeld => ?_)
          clear hK1 K1 hO2 hM2 hat2 HE2
          try simp only [Act.put, List.setIfInBounds_toArray, List.set_cons_zero, List.set_cons_succ, List.getElem_toArray, List.getElem_cons_zero, List.getElem_cons_succ]
          try simp only [Nat.zero_add]
          have HKw := Lib.hid (HKs.out.below HB.out (Nat.le_of_eq HT.out))
          have hBw : w.heap.size ≤ v2_4.heap.size := by omega
          refine wpAnyH_take (i := 11) (oi := _) (v := .agg #[.int .i64 p, .slice A1 n1 cap1, .slice A2 n1 cap2]) rfl (by kernel_rfl) (by kernel_rfl) (by kernel_rfl) (fun _ _ _ h => h) (Or.inl ⟨by rfl, (by intro w hSw; go_simp; try with_reducible rfl)⟩) hHeld ?_
          try simp only [Act.put, List.setIfInBounds_toArray, List.set_cons_zero, List.set_cons_succ, List.getElem_toArray, List.getElem_cons_zero, List.getElem_cons_succ]
          refine wpAnyH_ready (rs := [12]) (by kernel_rfl) (by simp) ?_
          refine AllReadyH.cons (o := _) rfl (fun K1 hK1 => ?_) AllReadyH.nil
          go_simp
          refine hK1.out _ _ (hHeld.alloc _) (fun hHeld => ?_)
          clear hK1 K1
          try simp only [Act.put, List.setIfInBounds_toArray, List.set_cons_zero, List.set_cons_succ, List.getElem_toArray, List.getElem_cons_zero, List.getElem_cons_succ]
          refine wpAnyH_ready (rs := [13]) (by kernel_rfl) (by simp) ?_
          refine AllReadyH.cons (o := _) rfl (fun K1 hK1 => ?_) AllReadyH.nil
          refine step_append_elem (by rfl) _ _ _ (by rfl) w.heap.size 27 i2 _ 3 56 Try.underlying23 hi2 hx0 hx1 hx2 rfl (by omega) A' k cap' _ (by rfl) (HKw.out.out.alloc _) [.int .i64 p, .slice A1 n1 cap1, .slice A2 n1 cap2] (by rfl) v2_4.heap.size (by rfl) (Blk.new _ _ _) (by simp [Value.oneCell']) (by unfold maxLen; omega) (by omega) (by simp; omega) ?_
          intro A9 cap9 w9 hO9 hM9 hat9
          have HP := Lib.hid (BK.push (HKw.out.below ((Below.refl v2_4.heap.size v2_4).alloc (Nat.le_refl _) (.cells #[.int .i64 p, .slice A1 n1 cap1, .slice A2 n1 cap2] 27)) (Nat.le_refl _)) (by simp; omega) (HX.out.1 ▸ HO1.out.alloc _) (HX.out.2.1 ▸ HO2.out.alloc _) HX.out.2.2 hO9 hM9)
          refine hK1.out _ _ (hM9.blk hHeld (fun ⟨a, ha, e⟩ => by have := HoutN.out a ha; omega)) (fun hHeld => ?_)
          clear hK1 K1 hO9 hM9 hat9
          try simp only [Act.put, List.setIfInBounds_toArray, List.set_cons_zero, List.set_cons_succ, List.getElem_toArray, List.getElem_cons_zero, List.getElem_cons_succ]
          refine wpAnyH_take (i := 14) (oi := _) (v := .slice A9 (k + 1) cap9) rfl (by kernel_rfl) (by kernel_rfl) (by kernel_rfl) (fun _ _ _ h => h) (Or.inl ⟨by rfl, (by intro w hSw; go_simp; try with_reducible rfl)⟩) hHeld ?_
          try simp only [Act.put, List.setIfInBounds_toArray, List.set_cons_zero, List.set_cons_succ, List.getElem_toArray, List.getElem_cons_zero, List.getElem_cons_succ]
          refine wpAnyH_done (by kernel_rfl) ?_ _
          refine NoPanic.normal ?_
          clear hHeld
          go_wp2_with fail
          exact ⟨⟨k + 1, A9, cap9, _, by go_num, by omega, rfl, HP.out⟩, by simp [intOf] <;> omega⟩
        · go_simp
          refine hK1.out _ _ (hHeld.alloc _) (fun hHeld => ?_)
          clear hK1 K1
          try simp only [Act.put, List.setIfInBounds_toArray, List.set_cons_zero, List.set_cons_succ, List.getElem_toArray, List.getElem_cons_zero, List.getElem_cons_succ]
          obtain ⟨b2, Hb2⟩ : ∃ b, Hid (w1_1.heap.size = b) := ⟨_, rfl⟩
          have hB2 := hTc
          have HE2 := Lib.hid (Own.empty w1_1 w.heap.size 46 1 b2 Hb2.out (by rw [← Hb2.out]; omega))
          have HB := Lib.hid (HB.out.alloc hTc (.cells #[] 46))
          have hTc : T ≤ (w1_1.alloc (.cells #[] 46)).heap.size := by simp; omega
          have HE1 := Lib.hid (HE1.out.alloc (.cells #[] 46))
          rw [Hb2.out] at hB2 ⊢
          have hlt12 := hszl1
          rw [Hb2.out] at hlt12
          have hszl1 : b1 < (w1_1.alloc (.cells #[] 46)).heap.size := by simp; omega
          have hszl2 : b2 < (w1_1.alloc (.cells #[] 46)).heap.size := by rw [← Hb2.out]; simp
          generalize w1_1.alloc (.cells #[] 46) = w2_2 at *
          refine wpAnyH_ready (rs := [6]) (by kernel_rfl) (by simp) ?_
          refine AllReadyH.cons (o := _) rfl (fun K1 hK1 => ?_) AllReadyH.nil
          refine step_append_rd (by rfl) _ _ _ (by rfl) w.heap.size 46 i1 _ 1 8 Try.underlying22 hi1 hy0 hy1 hy2 rfl (by omega) (some ⟨b1, 0, none⟩) 0 0 [] (by rfl) HE1.out (B2) (n1) (k2) (ucells ns) (by rfl) (HV2.out.below HB.out (Nat.le_of_eq HT.out)) ucells_one (by unfold maxLen; omega) (by omega) (by omega) ?_
          intro A1 cap1 v1_3 hO1 hM1 hat1
          rw [Nat.zero_add, List.nil_append] at hO1
          have HO1 := Lib.hid hO1
          have HE2 := Lib.hid (HE2.out.mod hM1 (fun a ha e => by cases ha; obtain ⟨a, ha, e⟩ := e; cases ha; simp only at e; omega))
          have Hne1 : Hid (∀ a, A1 = some a → a.block ≠ b2) := fun a ha e => by
            rcases hat1 a ha with ⟨a2, ha2, e2⟩ | h
            · cases ha2; simp only at e2; omega
            · omega
          have hszl1 := Nat.lt_of_lt_of_le hszl1 hM1.size
          have hszl2 := Nat.lt_of_lt_of_le hszl2 hM1.size
          have HB := Lib.hid (Below.mod HB.out hM1 hTc (fun b _ e => by obtain ⟨a, ha, e⟩ := e; cases ha; simp only at e; omega))
          have hTc := Nat.le_trans hTc hM1.size
          refine hK1.out _ _ (hM1.blk hHeld (fun e => by obtain ⟨a, ha, e⟩ := e; cases ha; simp only at e; omega)) (fun hHeld => ?_)
          clear hK1 K1 hO1 hM1 hat1 HE1
          try simp only [Act.put, List.setIfInBounds_toArray, List.set_cons_zero, List.set_cons_succ, List.getElem_toArray, List.getElem_cons_zero, List.getElem_cons_succ]
          try simp only [Nat.zero_add]
          refine wpAnyH_ready (rs := [10]) (by kernel_rfl) (by simp) ?_
          refine AllReadyH.cons (o := _) rfl (fun K1 hK1 => ?_) AllReadyH.nil
          refine step_append_rd (by rfl) _ _ _ (by rfl) w.heap.size 46 i1 _ 1 8 Try.underlying22 hi1 hy0 hy1 hy2 rfl (by omega) (some ⟨b2, 0, none⟩) 0 0 [] (by rfl) HE2.out (B1) (n1) (k1) (ucells ws) (by rfl) (HV1.out.below HB.out (Nat.le_of_eq HT.out)) ucells_one (by unfold maxLen; omega) (by omega) (by omega) ?_
          intro A2 cap2 v2_4 hO2 hM2 hat2
          rw [Nat.zero_add, List.nil_append] at hO2
          have HO2 := Lib.hid hO2
          have HO1 := Lib.hid (HO1.out.mod hM2 (fun a ha ⟨a2, ha2, e⟩ => by cases ha2; exact Hne1.out a ha e.symm))
          have hszl1 := Nat.lt_of_lt_of_le hszl1 hM2.size
          have hszl2 := Nat.lt_of_lt_of_le hszl2 hM2.size
          have HB := Lib.hid (Below.mod HB.out hM2 hTc (fun b _ e => by obtain ⟨a, ha, e⟩ := e; cases ha; simp only at e; omega))
          have hTc := Nat.le_trans hTc hM2.size
          refine hK1.out _ _ (hM2.blk hHeld (fun e => by obtain ⟨a, ha, e⟩ := e; cases ha; simp only at e; omega)) (fun hHeld => ?_)
          clear hK1 K1 hO2 hM2 hat2 HE2
          try simp only [Act.put, List.setIfInBounds_toArray, List.set_cons_zero, List.set_cons_succ, List.getElem_toArray, List.getElem_cons_zero, List.getElem_cons_succ]
          try simp only [Nat.zero_add]
          have HKw := Lib.hid (HKs.out.below HB.out (Nat.le_of_eq HT.out))
          have hBw : w.heap.size ≤ v2_4.heap.size := by omega
          refine wpAnyH_take (i := 11) (oi := _) (v := .agg #[.int .i64 p, .slice A1 n1 cap1, .slice A2 n1 cap2]) rfl (by kernel_rfl) (by kernel_rfl) (by kernel_rfl) (fun _ _ _ h => h) (Or.inl ⟨by rfl, (by intro w hSw; go_simp; try with_reducible rfl)⟩) hHeld ?_
          try simp only [Act.put, List.setIfInBounds_toArray, List.set_cons_zero, List.set_cons_succ, List.getElem_toArray, List.getElem_cons_zero, List.getElem_cons_succ]
          refine wpAnyH_ready (rs := [12]) (by kernel_rfl) (by simp) ?_
          refine AllReadyH.cons (o := _) rfl (fun K1 hK1 => ?_) AllReadyH.nil
          go_simp
          refine hK1.out _ _ (hHeld.alloc _) (fun hHeld => ?_)
          clear hK1 K1
          try simp only [Act.put, List.setIfInBounds_toArray, List.set_cons_zero, List.set_cons_succ, List.getElem_toArray, List.getElem_cons_zero, List.getElem_cons_succ]
          refine wpAnyH_ready (rs := [13]) (by kernel_rfl) (by simp) ?_
          refine AllReadyH.cons (o := _) rfl (fun K1 hK1 => ?_) AllReadyH.nil
          refine step_append_elem (by rfl) _ _ _ (by rfl) w.heap.size 27 i2 _ 3 56 Try.underlying23 hi2 hx0 hx1 hx2 rfl (by omega) A' k cap' _ (by rfl) (HKw.out.out.alloc _) [.int .i64 p, .slice A1 n1 cap1, .slice A2 n1 cap2] (by rfl) v2_4.heap.size (by rfl) (Blk.new _ _ _) (by simp [Value.oneCell']) (by unfold maxLen; omega) (by omega) (by simp; omega) ?_
          intro A9 cap9 w9 hO9 hM9 hat9
          have HP := Lib.hid (BK.push (HKw.out.below ((Below.refl v2_4.heap.size v2_4).alloc (Nat.le_refl _) (.cells #[.int .i64 p, .slice A1 n1 cap1, .slice A2 n1 cap2] 27)) (Nat.le_refl _)) (by simp; omega) (HX.out.1 ▸ HO1.out.alloc _) (HX.out.2.1 ▸ HO2.out.alloc _) HX.out.2.2 hO9 hM9)
          refine hK1.out _ _ (hM9.blk hHeld (fun ⟨a, ha, e⟩ => by have := HoutN.out a ha; omega)) (fun hHeld => ?_)
          clear hK1 K1 hO9 hM9 hat9
          try simp only [Act.put, List.setIfInBounds_toArray, List.set_cons_zero, List.set_cons_succ, List.getElem_toArray, List.getElem_cons_zero, List.getElem_cons_succ]
          refine wpAnyH_take (i := 14) (oi := _) (v := .slice A9 (k + 1) cap9) rfl (by kernel_rfl) (by kernel_rfl) (by kernel_rfl) (fun _ _ _ h => h) (Or.inl ⟨by rfl, (by intro w hSw; go_simp; try with_reducible rfl)⟩) hHeld ?_
          try simp only [Act.put, List.setIfInBounds_toArray, List.set_cons_zero, List.set_cons_succ, List.getElem_toArray, List.getElem_cons_zero, List.getElem_cons_succ]
          refine wpAnyH_done (by kernel_rfl) ?_ _
          refine NoPanic.normal ?_
          clear hHeld
          go_wp2_with fail
          exact ⟨⟨k + 1, A9, cap9, _, by go_num, by omega, rfl, HP.out⟩, by simp [intOf] <;> omega⟩
      · go_simp
        refine hK1.out _ _ (hHeld.alloc _) (fun hHeld => ?_)
        clear hK1 K1
        try simp only [Act.put, List.setIfInBounds_toArray, List.set_cons_zero, List.set_cons_succ, List.getElem_toArray, List.getElem_cons_zero, List.getElem_cons_succ]
        obtain ⟨b2, Hb2⟩ : ∃ b, Hid (wS.heap.size = b) := ⟨_, rfl⟩
        have hB2 := hTc
        have HE2 := Lib.hid (Own.empty wS w.heap.size 46 1 b2 Hb2.out (by rw [← Hb2.out]; omega))
        have HB := Lib.hid (HB.out.alloc hTc (.cells #[] 46))
        have hTc : T ≤ (wS.alloc (.cells #[] 46)).heap.size := by simp; omega
        rw [Hb2.out] at hB2 ⊢
        have hszl2 : b2 < (wS.alloc (.cells #[] 46)).heap.size := by rw [← Hb2.out]; simp
        generalize wS.alloc (.cells #[] 46) = w2_1 at *
        refine wpAnyH_ready (rs := [3]) (by kernel_rfl) (by simp) ?_
        refine AllReadyH.cons (o := _) rfl (fun K1 hK1 => ?_) AllReadyH.nil
        go_simp
        refine hK1.out _ _ (hHeld.alloc _) (fun hHeld => ?_)
        clear hK1 K1
        try simp only [Act.put, List.setIfInBounds_toArray, List.set_cons_zero, List.set_cons_succ, List.getElem_toArray, List.getElem_cons_zero, List.getElem_cons_succ]
        obtain ⟨b1, Hb1⟩ : ∃ b, Hid (w2_1.heap.size = b) := ⟨_, rfl⟩
        have hB1 := hTc
        have HE1 := Lib.hid (Own.empty w2_1 w.heap.size 46 1 b1 Hb1.out (by rw [← Hb1.out]; omega))
        have HB := Lib.hid (HB.out.alloc hTc (.cells #[] 46))
        have hTc : T ≤ (w2_1.alloc (.cells #[] 46)).heap.size := by simp; omega
        have HE2 := Lib.hid (HE2.out.alloc (.cells #[] 46))
        rw [Hb1.out] at hB1 ⊢
        have hlt12 := hszl2
        rw [Hb1.out] at hlt12
        have hszl2 : b2 < (w2_1.alloc (.cells #[] 46)).heap.size := by simp; omega
        have hszl1 : b1 < (w2_1.alloc (.cells #[] 46)).heap.size := by rw [← Hb1.out]; simp
        generalize w2_1.alloc (.cells #[] 46) = w1_2 at *
        refine wpAnyH_ready (rs := [6]) (by kernel_rfl) (by simp) ?_
        refine AllReadyH.cons (o := _) rfl (fun K1 hK1 => ?_) AllReadyH.nil
        refine step_append_rd (by rfl) _ _ _ (by rfl) w.heap.size 46 i1 _ 1 8 Try.underlying22 hi1 hy0 hy1 hy2 rfl (by omega) (some ⟨b1, 0, none⟩) 0 0 [] (by rfl) HE1.out (B2) (n1) (k2) (ucells ns) (by rfl) (HV2.out.below HB.out (Nat.le_of_eq HT.out)) ucells_one (by unfold maxLen; omega) (by omega) (by omega) ?_
        intro A1 cap1 v1_3 hO1 hM1 hat1
        rw [Nat.zero_add, List.nil_append] at hO1
        have HO1 := Lib.hid hO1
        have HE2 := Lib.hid (HE2.out.mod hM1 (fun a ha e => by cases ha; obtain ⟨a, ha, e⟩ := e; cases ha; simp only at e; omega))
        have Hne1 : Hid (∀ a, A1 = some a → a.block ≠ b2) := fun a ha e => by
          rcases hat1 a ha with ⟨a2, ha2, e2⟩ | h
          · cases ha2; simp only at e2; omega
          · omega
        have hszl2 := Nat.lt_of_lt_of_le hszl2 hM1.size
        have hszl1 := Nat.lt_of_lt_of_le hszl1 hM1.size
        have HB := Lib.hid (Below.mod HB.out hM1 hTc (fun b _ e => by obtain ⟨a, ha, e⟩ := e; cases ha; simp only at e; omega))
        have hTc := Nat.le_trans hTc hM1.size
        refine hK1.out _ _ (hM1.blk hHeld (fun e => by obtain ⟨a, ha, e⟩ := e; cases ha; simp only at e; omega)) (fun hHeld => ?_)
        clear hK1 K1 hO1 hM1 hat1 HE1
        try simp only [Act.put, List.setIfInBounds_toArray, List.set_cons_zero, List.set_cons_succ, List.getElem_toArray, List.getElem_cons_zero, List.getElem_cons_succ]
        try simp only [Nat.zero_add]
        refine wpAnyH_ready (rs := [10]) (by kernel_rfl) (by simp) ?_
        refine AllReadyH.cons (o := _) rfl (fun K1 hK1 => ?_) AllReadyH.nil
        refine step_append_rd (by rfl) _ _ _ (by rfl) w.heap.size 46 i1 _ 1 8 Try.underlying22 hi1 hy0 hy1 hy2 rfl (by omega) (some ⟨b2, 0, none⟩) 0 0 [] (by rfl) HE2.out (B1) (n1) (k1) (ucells ws) (by rfl) (HV1.out.below HB.out (Nat.le_of_eq HT.out)) ucells_one (by unfold maxLen; omega) (by omega) (by omega) ?_
        intro A2 cap2 v2_4 hO2 hM2 hat2
        rw [Nat.zero_add, List.nil_append] at hO2
        have HO2 := Lib.hid hO2
        have HO1 := Lib.hid (HO1.out.mod hM2 (fun a ha ⟨a2, ha2, e⟩ => by cases ha2; exact Hne1.out a ha e.symm))
        have hszl2 := Nat.lt_of_lt_of_le hszl2 hM2.size
        have hszl1 := Nat.lt_of_lt_of_le hszl1 hM2.size
        have HB := Lib.hid (Below.mod HB.out hM2 hTc (fun b _ e => by obtain ⟨a, ha, e⟩ := e; cases ha; simp only at e; omega))
        have hTc := Nat.le_trans hTc hM2.size
        refine hK1.out _ _ (hM2.blk hHeld (fun e => by obtain ⟨a, ha, e⟩ := e; cases ha; simp only at e; omega)) (fun hHeld => ?_)
        clear hK1 K1 hO2 hM2 hat2 HE2
        try simp only [Act.put, List.setIfInBounds_toArray, List.set_cons_zero, List.set_cons_succ, List.getElem_toArray, List.getElem_cons_zero, List.getElem_cons_succ]
        try simp only [Nat.zero_add]
        have HKw := Lib.hid (HKs.out.below HB.out (Nat.le_of_eq HT.out))
        have hBw : w.heap.size ≤ v2_4.heap.size := by omega
        refine wpAnyH_take (i := 11) (oi := _) (v := .agg #[.int .i64 p, .slice A1 n1 cap1, .slice A2 n1 cap2]) rfl (by kernel_rfl) (by kernel_rfl) (by kernel_rfl) (fun _ _ _ h => h) (Or.inl ⟨by rfl, (by intro w hSw; go_simp; try with_reducible rfl)⟩) hHeld ?_
        try simp only [Act.put, List.setIfInBounds_toArray, List.set_cons_zero, List.set_cons_succ, List.getElem_toArray, List.getElem_cons_zero, List.getElem_cons_succ]
        refine wpAnyH_ready (rs := [12]) (by kernel_rfl) (by simp) ?_
        refine AllReadyH.cons (o := _) rfl (fun K1 hK1 => ?_) AllReadyH.nil
        go_simp
        refine hK1.out _ _ (hHeld.alloc _) (fun hHeld => ?_)
        clear hK1 K1
        try simp only [Act.put, List.setIfInBounds_toArray, List.set_cons_zero, List.set_cons_succ, List.getElem_toArray, List.getElem_cons_zero, List.getElem_cons_succ]
        refine wpAnyH_ready (rs := [13]) (by kernel_rfl) (by simp) ?_
        refine AllReadyH.cons (o := _) rfl (fun K1 hK1 => ?_) AllReadyH.nil
        refine step_append_elem (by rfl) _ _ _ (by rfl) w.heap.size 27 i2 _ 3 56 Try.underlying23 hi2 hx0 hx1 hx2 rfl (by omega) A' k cap' _ (by rfl) (HKw.out.out.alloc _) [.int .i64 p, .slice A1 n1 cap1, .slice A2 n1 cap2] (by rfl) v2_4.heap.size (by rfl) (Blk.new _ _ _) (by simp [Value.oneCell']) (by unfold maxLen; omega) (by omega) (by simp; omega) ?_
        intro A9 cap9 w9 hO9 hM9 hat9
        have HP := Lib.hid (BK.push (HKw.out.below ((Below.refl v2_4.heap.size v2_4).alloc (Nat.le_refl _) (.cells #[.int .i64 p, .slice A1 n1 cap1, .slice A2 n1 cap2] 27)) (Nat.le_refl _)) (by simp; omega) (HX.out.1 ▸ HO1.out.alloc _) (HX.out.2.1 ▸ HO2.out.alloc _) HX.out.2.2 hO9 hM9)
        refine hK1.out _ _ (hM9.blk hHeld (fun ⟨a, ha, e⟩ => by have := HoutN.out a ha; omega)) (fun hHeld => ?_)
        clear hK1 K1 hO9 hM9 hat9
        try simp only [Act.put, List.setIfInBounds_toArray, List.set_cons_zero, List.set_cons_succ, List.getElem_toArray, List.getElem_cons_zero, List.getElem_cons_succ]
        refine wpAnyH_take (i := 14) (oi := _) (v := .slice A9 (k + 1) cap9) rfl (by kernel_rfl) (by kernel_rfl) (by kernel_rfl) (fun _ _ _ h => h) (Or.inl ⟨by rfl, (by intro w hSw; go_simp; try with_reducible rfl)⟩) hHeld ?_
        try simp only [Act.put, List.setIfInBounds_toArray, List.set_cons_zero, List.set_cons_succ, List.getElem_toArray, List.getElem_cons_zero, List.getElem_cons_succ]
        refine wpAnyH_done (by kernel_rfl) ?_ _
        refine NoPanic.normal ?_
        clear hHeld
        go_wp2_with fail
        exact ⟨⟨k + 1, A9, cap9, _, by go_num, by omega, rfl, HP.out⟩, by simp [intOf] <;> omega⟩
    · obtain rfl : k = n := by omega
      have hv4 : (k : Int) - 1 - (k : Int) = -1 := by omega
      rw [hv4]
      go_wp2_with fail
      go_ret
      exact ⟨A', cap', hd', rfl, HK.out.out.chrow, fun j hj => ⟨(HK.out.va j hj).rd, (HK.out.vb j hj).rd⟩, HK.out.be⟩
end Go.Proofs.Ytedbabkmbpkjlaa
