/- nvm.load: four rows, made in whatever order (printed by genload.py). -/
import Derived.Test.YtcnjipicifkfjaaGreatRm07

namespace Go.Proofs.YtcnjipicifkfjaaGreat
open Go.RowKit
set_option linter.unusedVariables false
set_option linter.unusedSimpArgs false

/-- A device of words that last. -/
def fresh (L : List Nat) (m : Nat) : DS := ⟨L, L, zerosN (8 * m), falsesN m, falsesN m, 0, 0, false, false⟩

theorem dev_made (B gl cl gC cC gF gD gP m W : Nat) (L : List Nat) (w : World) {T : Nat} (hl : Own w B 28 1 (some ⟨gl, 0, none⟩) W cl (wcells L)) {BC : Nat} (hc : Own w BC 28 1 (some ⟨gC, 0, none⟩) W cC (wcells L)) (hf : Own w B 28 1 (some ⟨gF, 0, none⟩) W W (wcells (zerosN W)))
    (hd : Own w B 4 1 (some ⟨gD, 0, none⟩) m m (blcells (falsesN m))) (hp : Own w B 4 1 (some ⟨gP, 0, none⟩) m m (blcells (falsesN m))) (hBT : B ≤ T) (hTw : T ≤ w.heap.size) (h1 : gl < T) (h2 : T ≤ gC) (h3 : T ≤ gF) (h4 : T ≤ gD) (h5 : T ≤ gP) (h6 : gC ≠ gF) (h7 : gD ≠ gP) (hW : 8 * m = W) :
    Dev B (w.alloc (.cells #[.slice (some ⟨gl, 0, none⟩) W cl, .slice (some ⟨gC, 0, none⟩) W cC, .slice (some ⟨gF, 0, none⟩) W W, .slice (some ⟨gD, 0, none⟩) m m, .slice (some ⟨gP, 0, none⟩) m m, .int .i64 0, .int .i64 0, .bool false, .bool false] 90))
      ⟨w.heap.size, gl, gC, gF, gD, gP, cl, cC, W, m, m⟩ m (fresh L m) := by
  subst hW
  have hc' : Own w B 28 1 (some ⟨gC, 0, none⟩) (8 * m) cC (wcells L) := by
    refine ⟨hc.len, ?_⟩
    rcases hc.form with h | ⟨g, cur, e, _, h⟩
    · exact .inl h
    · cases e
      exact .inr ⟨gC, cur, rfl, by omega, h⟩
  exact ⟨Blk.new w 90 _, hl.alloc _, hc'.alloc _, hf.alloc _, hd.alloc _, hp.alloc _, ⟨by simp only; omega, by simp only; omega, h6, h7⟩, Nat.le_trans hBT hTw⟩

set_option maxRecDepth 100000 in
set_option maxHeartbeats 8000000 in
theorem load_any (B gl cl m : Nat) (L : List Nat) (w : World) (hm0 : 0 < m) (hm : m ≤ 100000) (hO : Own w B 28 1 (some ⟨gl, 0, none⟩) (8 * m) cl (wcells L)) (hBw : B ≤ w.heap.size) :
    Calls Tryz.prog 68 #[.slice (some ⟨gl, 0, none⟩) (8 * m) cl] w fun e w' => ∃ b : DB, e = .returned (.pointer (some ⟨b.d, 0, none⟩)) ∧ Dev B w' b m (fresh L m) ∧ b.gl = gl ∧ b.cl = cl ∧ (∀ k, b.has k → k = gl ∨ w.heap.size ≤ k) ∧ Below w.heap.size w w' := by
  have hgl : B ≤ gl ∧ gl < w.heap.size := hO.lt _ rfl
  obtain ⟨T, HT⟩ : ∃ T, Hid (w.heap.size = T) := ⟨_, rfl⟩
  have hglT : gl < T := by rw [← HT.out]; exact hgl.2
  have hBT : B ≤ T := by rw [← HT.out]; exact hBw
  obtain ⟨W, HW⟩ : ∃ W, Hid (8 * m = W) := ⟨_, rfl⟩
  have hW : W ≤ 800000 := by rw [← HW.out]; omega
  have hW0 : 0 < W := by rw [← HW.out]; omega
  have hq : (W : Int) / 8 = (m : Int) := by rw [← HW.out]; omega
  rw [HW.out] at hO ⊢
  have HO := Lib.hid hO
  clear hO
  have h22 := mk22 W (by omega)
  have h88 := mk88 m (by omega)
  go_enter Tryz.func68, Tryz.ntmps68
  go_wp2_with fail
  refine wp_region_noPanic ?_
  refine wp_region_held_drew (S := fun W => True) (by kernel_rfl) trivial (fun hHeld => ?_)
  have HLs : Hid (Own (w.drewN 1) B 28 1 (some ⟨gl, 0, none⟩) W cl (wcells L)) := HO.out.drewN 1
  have hsz : (w.drewN 1).heap.size = T := HT.out
  have HBs : Hid (Below T w (w.drewN 1)) := by rw [← HT.out]; exact below_drewN (Below.refl _ w) 1
  change wpAnyH _ _ _ _ _ _ _ _ (w.drewN 1)
  generalize w.drewN 1 = wS at *
  have hTc : T ≤ wS.heap.size := Nat.le_of_eq hsz.symm
  have Hcl : Hid (∀ w2, Below T w w2 → Calls Tryz.prog 90 #[.slice (some ⟨gl, 0, none⟩) W cl] w2 fun e w' => ∃ g' cap', e = .returned (.slice (some ⟨g', 0, none⟩) W cap') ∧ Own w' w2.heap.size 28 1 (some ⟨g', 0, none⟩) W cap' (wcells L) ∧ Below w2.heap.size w2 w') :=
    fun w2 h => clone_any gl W cl L w2 hW0 (by omega) (HO.out.below h (by rw [HT.out]; exact Nat.le_refl _)).rd
  have HB := HBs
  clear hsz
  refine wpAnyH_take (i := 0) (oi := _) (v := _) rfl (by kernel_rfl) (by kernel_rfl) (by kernel_rfl) (fun _ _ _ h => h) (Or.inl ⟨by rfl, (by intro w hSw; go_simp; try with_reducible rfl)⟩) hHeld ?_
  try simp only [Act.put, List.setIfInBounds_toArray, List.set_cons_zero, List.set_cons_succ, List.getElem_toArray, List.getElem_cons_zero, List.getElem_cons_succ]
  refine wpAnyH_take (i := 1) (oi := _) (v := _) rfl (by kernel_rfl) (by kernel_rfl) (by kernel_rfl) (fun _ _ _ h => h) (Or.inl ⟨by rfl, (by intro w hSw; go_simp; try with_reducible rfl)⟩) hHeld ?_
  try simp only [Act.put, List.setIfInBounds_toArray, List.set_cons_zero, List.set_cons_succ, List.getElem_toArray, List.getElem_cons_zero, List.getElem_cons_succ]
  refine wpAnyH_take (i := 3) (oi := _) (v := _) rfl (by kernel_rfl) (by kernel_rfl) (by kernel_rfl) (fun _ _ _ h => h) (Or.inl ⟨by rfl, (by intro w hSw; go_simp; try with_reducible rfl)⟩) hHeld ?_
  try simp only [Act.put, List.setIfInBounds_toArray, List.set_cons_zero, List.set_cons_succ, List.getElem_toArray, List.getElem_cons_zero, List.getElem_cons_succ]
  refine wpAnyH_take (i := 4) (oi := _) (v := _) rfl (by kernel_rfl) (by kernel_rfl) (by kernel_rfl) (fun _ _ _ h => h) (Or.inl ⟨by rfl, (by intro w hSw; go_simp; try with_reducible rfl)⟩) hHeld ?_
  try simp only [Act.put, List.setIfInBounds_toArray, List.set_cons_zero, List.set_cons_succ, List.getElem_toArray, List.getElem_cons_zero, List.getElem_cons_succ]
  refine wpAnyH_take (i := 6) (oi := _) (v := _) rfl (by kernel_rfl) (by kernel_rfl) (by kernel_rfl) (fun _ _ _ h => h) (Or.inl ⟨by rfl, (by intro w hSw; go_simp; try with_reducible rfl)⟩) hHeld ?_
  try simp only [Act.put, List.setIfInBounds_toArray, List.set_cons_zero, List.set_cons_succ, List.getElem_toArray, List.getElem_cons_zero, List.getElem_cons_succ]
  refine wpAnyH_take (i := 8) (oi := _) (v := _) rfl (by kernel_rfl) (by kernel_rfl) (by kernel_rfl) (fun _ _ _ h => h) (Or.inl ⟨by rfl, (by intro w hSw; go_simp; try with_reducible rfl)⟩) hHeld ?_
  try simp only [Act.put, List.setIfInBounds_toArray, List.set_cons_zero, List.set_cons_succ, List.getElem_toArray, List.getElem_cons_zero, List.getElem_cons_succ]
  refine wpAnyH_ready (rs := [2, 5, 7, 9]) (by kernel_rfl) (by simp) ?_
  refine AllReadyH.cons (o := _) rfl (fun K1 hK1 => ?_) (AllReadyH.cons (o := _) rfl (fun K1 hK1 => ?_) (AllReadyH.cons (o := _) rfl (fun K1 hK1 => ?_) (AllReadyH.cons (o := _) rfl (fun K1 hK1 => ?_) (AllReadyH.nil))))
  · go_simp
    refine (Hcl.out wS HB.out).mono ?_
    rintro e w1 ⟨gC, cC, rfl, hOC, hbC⟩
    have hszC : wS.heap.size ≤ gC ∧ gC < w1.heap.size := hOC.lt _ rfl
    have HOC := Lib.hid hOC
    have HBn := Lib.hid (HB.out.trans (hbC.mono hTc))
    have hgTC : T ≤ gC := by omega
    have hltC : gC < w1.heap.size := hszC.2
    have hTc := Nat.le_trans hTc hbC.size
    have HB := HBn
    clear hOC hbC hszC HBn
    go_wp2_with fail
    refine hK1.out _ _ trivial (fun hHeld => ?_)
    clear hK1 K1
    try simp only [Act.put, List.setIfInBounds_toArray, List.set_cons_zero, List.set_cons_succ, List.getElem_toArray, List.getElem_cons_zero, List.getElem_cons_succ]
    refine wpAnyH_ready (rs := [5, 7, 9]) (by kernel_rfl) (by simp) ?_
    refine AllReadyH.cons (o := _) rfl (fun K1 hK1 => ?_) (AllReadyH.cons (o := _) rfl (fun K1 hK1 => ?_) (AllReadyH.cons (o := _) rfl (fun K1 hK1 => ?_) (AllReadyH.nil)))
    · go_simp
      refine hK1.out _ _ trivial (fun hHeld => ?_)
      clear hK1 K1
      try simp only [Act.put, List.setIfInBounds_toArray, List.set_cons_zero, List.set_cons_succ, List.getElem_toArray, List.getElem_cons_zero, List.getElem_cons_succ]
      obtain ⟨gF, HgF⟩ : ∃ g, Hid (w1.heap.size = g) := ⟨_, rfl⟩
      have hgTF := hTc
      have hneCF := hltC
      rw [HgF.out] at hgTF hneCF ⊢
      have hneCF := Nat.ne_of_lt hneCF
      have HOF := Lib.hid (own_madeW w1 B W gF HgF.out (by omega) (by omega))
      have HOC := Lib.hid (HOC.out.alloc (.cells (madeCells #[.int .u64 0] (W)) 28))
      have hltC : gC < (w1.alloc (.cells (madeCells #[.int .u64 0] (W)) 28)).heap.size := by simp; omega
      have hltF : gF < (w1.alloc (.cells (madeCells #[.int .u64 0] (W)) 28)).heap.size := by rw [← HgF.out]; simp
      have HB := Lib.hid (HB.out.alloc hTc (.cells (madeCells #[.int .u64 0] (W)) 28))
      have hTc : T ≤ (w1.alloc (.cells (madeCells #[.int .u64 0] (W)) 28)).heap.size := by simp; omega
      generalize w1.alloc (.cells (madeCells #[.int .u64 0] (W)) 28) = w2 at *
      refine wpAnyH_ready (rs := [7, 9]) (by kernel_rfl) (by simp) ?_
      refine AllReadyH.cons (o := _) rfl (fun K1 hK1 => ?_) (AllReadyH.cons (o := _) rfl (fun K1 hK1 => ?_) (AllReadyH.nil))
      · go_simp
        refine hK1.out _ _ trivial (fun hHeld => ?_)
        clear hK1 K1
        try simp only [Act.put, List.setIfInBounds_toArray, List.set_cons_zero, List.set_cons_succ, List.getElem_toArray, List.getElem_cons_zero, List.getElem_cons_succ]
        obtain ⟨gD, HgD⟩ : ∃ g, Hid (w2.heap.size = g) := ⟨_, rfl⟩
        have hgTD := hTc
        have hneCD := hltC
        have hneFD := hltF
        rw [HgD.out] at hgTD hneCD hneFD ⊢
        have hneCD := Nat.ne_of_lt hneCD
        have hneFD := Nat.ne_of_lt hneFD
        have HOD := Lib.hid (own_madeB w2 B m gD HgD.out (by omega) (by omega))
        have HOC := Lib.hid (HOC.out.alloc (.cells (madeCells #[.bool false] (m)) 4))
        have hltC : gC < (w2.alloc (.cells (madeCells #[.bool false] (m)) 4)).heap.size := by simp; omega
        have HOF := Lib.hid (HOF.out.alloc (.cells (madeCells #[.bool false] (m)) 4))
        have hltF : gF < (w2.alloc (.cells (madeCells #[.bool false] (m)) 4)).heap.size := by simp; omega
        have hltD : gD < (w2.alloc (.cells (madeCells #[.bool false] (m)) 4)).heap.size := by rw [← HgD.out]; simp
        have HB := Lib.hid (HB.out.alloc hTc (.cells (madeCells #[.bool false] (m)) 4))
        have hTc : T ≤ (w2.alloc (.cells (madeCells #[.bool false] (m)) 4)).heap.size := by simp; omega
        generalize w2.alloc (.cells (madeCells #[.bool false] (m)) 4) = w3 at *
        refine wpAnyH_ready (rs := [9]) (by kernel_rfl) (by simp) ?_
        refine AllReadyH.cons (o := _) rfl (fun K1 hK1 => ?_) (AllReadyH.nil)
        · go_simp
          refine hK1.out _ _ trivial (fun hHeld => ?_)
          clear hK1 K1
          try simp only [Act.put, List.setIfInBounds_toArray, List.set_cons_zero, List.set_cons_succ, List.getElem_toArray, List.getElem_cons_zero, List.getElem_cons_succ]
          obtain ⟨gP, HgP⟩ : ∃ g, Hid (w3.heap.size = g) := ⟨_, rfl⟩
          have hgTP := hTc
          have hneCP := hltC
          have hneFP := hltF
          have hneDP := hltD
          rw [HgP.out] at hgTP hneCP hneFP hneDP ⊢
          have hneCP := Nat.ne_of_lt hneCP
          have hneFP := Nat.ne_of_lt hneFP
          have hneDP := Nat.ne_of_lt hneDP
          have HOP := Lib.hid (own_madeB w3 B m gP HgP.out (by omega) (by omega))
          have HOC := Lib.hid (HOC.out.alloc (.cells (madeCells #[.bool false] (m)) 4))
          have hltC : gC < (w3.alloc (.cells (madeCells #[.bool false] (m)) 4)).heap.size := by simp; omega
          have HOF := Lib.hid (HOF.out.alloc (.cells (madeCells #[.bool false] (m)) 4))
          have hltF : gF < (w3.alloc (.cells (madeCells #[.bool false] (m)) 4)).heap.size := by simp; omega
          have HOD := Lib.hid (HOD.out.alloc (.cells (madeCells #[.bool false] (m)) 4))
          have hltD : gD < (w3.alloc (.cells (madeCells #[.bool false] (m)) 4)).heap.size := by simp; omega
          have hltP : gP < (w3.alloc (.cells (madeCells #[.bool false] (m)) 4)).heap.size := by rw [← HgP.out]; simp
          have HB := Lib.hid (HB.out.alloc hTc (.cells (madeCells #[.bool false] (m)) 4))
          have hTc : T ≤ (w3.alloc (.cells (madeCells #[.bool false] (m)) 4)).heap.size := by simp; omega
          generalize w3.alloc (.cells (madeCells #[.bool false] (m)) 4) = w4 at *
          refine wpAnyH_take (i := 10) (oi := _) (v := _) rfl (by kernel_rfl) (by kernel_rfl) (by kernel_rfl) (fun _ _ _ h => h) (Or.inl ⟨by rfl, (by intro w hSw; go_simp; try with_reducible rfl)⟩) hHeld ?_
          try simp only [Act.put, List.setIfInBounds_toArray, List.set_cons_zero, List.set_cons_succ, List.getElem_toArray, List.getElem_cons_zero, List.getElem_cons_succ]
          refine wpAnyH_ready (rs := [11]) (by kernel_rfl) (by simp) ?_
          refine AllReadyH.cons (o := _) rfl (fun K1 hK1 => ?_) AllReadyH.nil
          go_simp
          refine hK1.out _ _ trivial (fun hHeld => ?_)
          clear hK1 K1
          try simp only [Act.put, List.setIfInBounds_toArray, List.set_cons_zero, List.set_cons_succ, List.getElem_toArray, List.getElem_cons_zero, List.getElem_cons_succ]
          refine wpAnyH_take (i := 12) (oi := _) (v := _) rfl (by kernel_rfl) (by kernel_rfl) (by kernel_rfl) (fun _ _ _ h => h) (Or.inl ⟨by rfl, (by intro w hSw; go_simp; try with_reducible rfl)⟩) hHeld ?_
          try simp only [Act.put, List.setIfInBounds_toArray, List.set_cons_zero, List.set_cons_succ, List.getElem_toArray, List.getElem_cons_zero, List.getElem_cons_succ]
          refine wpAnyH_done (by kernel_rfl) ?_ _
          refine NoPanic.normal ?_
          clear hHeld
          have HDV := Lib.hid (dev_made B gl cl gC cC gF gD gP m W L w4 (HO.out.below HB.out (by rw [HT.out]; exact Nat.le_refl _)) HOC.out HOF.out HOD.out HOP.out hBT hTc hglT hgTC hgTF hgTD hgTP (by omega) (by omega) HW.out)
          have HBX := Lib.hid (HB.out.alloc hTc (.cells #[.slice (some ⟨gl, 0, none⟩) W cl, .slice (some ⟨gC, 0, none⟩) W cC, .slice (some ⟨gF, 0, none⟩) W W, .slice (some ⟨gD, 0, none⟩) m m, .slice (some ⟨gP, 0, none⟩) m m, .int .i64 0, .int .i64 0, .bool false, .bool false] 90))
          go_wp2_with fail
          go_ret
          refine ⟨_, rfl, HDV.out, rfl, rfl, ?_, HT.out ▸ HBX.out⟩
          rintro k (rfl | rfl | rfl | rfl | rfl | rfl)
          · right; rw [HT.out]; exact hTc
          · left; rfl
          · right; rw [HT.out]; exact hgTC
          · right; rw [HT.out]; exact hgTF
          · right; rw [HT.out]; exact hgTD
          · right; rw [HT.out]; exact hgTP
      · go_simp
        refine hK1.out _ _ trivial (fun hHeld => ?_)
        clear hK1 K1
        try simp only [Act.put, List.setIfInBounds_toArray, List.set_cons_zero, List.set_cons_succ, List.getElem_toArray, List.getElem_cons_zero, List.getElem_cons_succ]
        obtain ⟨gP, HgP⟩ : ∃ g, Hid (w2.heap.size = g) := ⟨_, rfl⟩
        have hgTP := hTc
        have hneCP := hltC
        have hneFP := hltF
        rw [HgP.out] at hgTP hneCP hneFP ⊢
        have hneCP := Nat.ne_of_lt hneCP
        have hneFP := Nat.ne_of_lt hneFP
        have HOP := Lib.hid (own_madeB w2 B m gP HgP.out (by omega) (by omega))
        have HOC := Lib.hid (HOC.out.alloc (.cells (madeCells #[.bool false] (m)) 4))
        have hltC : gC < (w2.alloc (.cells (madeCells #[.bool false] (m)) 4)).heap.size := by simp; omega
        have HOF := Lib.hid (HOF.out.alloc (.cells (madeCells #[.bool false] (m)) 4))
        have hltF : gF < (w2.alloc (.cells (madeCells #[.bool false] (m)) 4)).heap.size := by simp; omega
        have hltP : gP < (w2.alloc (.cells (madeCells #[.bool false] (m)) 4)).heap.size := by rw [← HgP.out]; simp
        have HB := Lib.hid (HB.out.alloc hTc (.cells (madeCells #[.bool false] (m)) 4))
        have hTc : T ≤ (w2.alloc (.cells (madeCells #[.bool false] (m)) 4)).heap.size := by simp; omega
        generalize w2.alloc (.cells (madeCells #[.bool false] (m)) 4) = w5 at *
        refine wpAnyH_ready (rs := [7]) (by kernel_rfl) (by simp) ?_
        refine AllReadyH.cons (o := _) rfl (fun K1 hK1 => ?_) (AllReadyH.nil)
        · go_simp
          refine hK1.out _ _ trivial (fun hHeld => ?_)
          clear hK1 K1
          try simp only [Act.put, List.setIfInBounds_toArray, List.set_cons_zero, List.set_cons_succ, List.getElem_toArray, List.getElem_cons_zero, List.getElem_cons_succ]
          obtain ⟨gD, HgD⟩ : ∃ g, Hid (w5.heap.size = g) := ⟨_, rfl⟩
          have hgTD := hTc
          have hneCD := hltC
          have hneFD := hltF
          have hnePD := hltP
          rw [HgD.out] at hgTD hneCD hneFD hnePD ⊢
          have hneCD := Nat.ne_of_lt hneCD
          have hneFD := Nat.ne_of_lt hneFD
          have hnePD := Nat.ne_of_lt hnePD
          have HOD := Lib.hid (own_madeB w5 B m gD HgD.out (by omega) (by omega))
          have HOC := Lib.hid (HOC.out.alloc (.cells (madeCells #[.bool false] (m)) 4))
          have hltC : gC < (w5.alloc (.cells (madeCells #[.bool false] (m)) 4)).heap.size := by simp; omega
          have HOF := Lib.hid (HOF.out.alloc (.cells (madeCells #[.bool false] (m)) 4))
          have hltF : gF < (w5.alloc (.cells (madeCells #[.bool false] (m)) 4)).heap.size := by simp; omega
          have HOP := Lib.hid (HOP.out.alloc (.cells (madeCells #[.bool false] (m)) 4))
          have hltP : gP < (w5.alloc (.cells (madeCells #[.bool false] (m)) 4)).heap.size := by simp; omega
          have hltD : gD < (w5.alloc (.cells (madeCells #[.bool false] (m)) 4)).heap.size := by rw [← HgD.out]; simp
          have HB := Lib.hid (HB.out.alloc hTc (.cells (madeCells #[.bool false] (m)) 4))
          have hTc : T ≤ (w5.alloc (.cells (madeCells #[.bool false] (m)) 4)).heap.size := by simp; omega
          generalize w5.alloc (.cells (madeCells #[.bool false] (m)) 4) = w6 at *
          refine wpAnyH_take (i := 10) (oi := _) (v := _) rfl (by kernel_rfl) (by kernel_rfl) (by kernel_rfl) (fun _ _ _ h => h) (Or.inl ⟨by rfl, (by intro w hSw; go_simp; try with_reducible rfl)⟩) hHeld ?_
          try simp only [Act.put, List.setIfInBounds_toArray, List.set_cons_zero, List.set_cons_succ, List.getElem_toArray, List.getElem_cons_zero, List.getElem_cons_succ]
          refine wpAnyH_ready (rs := [11]) (by kernel_rfl) (by simp) ?_
          refine AllReadyH.cons (o := _) rfl (fun K1 hK1 => ?_) AllReadyH.nil
          go_simp
          refine hK1.out _ _ trivial (fun hHeld => ?_)
          clear hK1 K1
          try simp only [Act.put, List.setIfInBounds_toArray, List.set_cons_zero, List.set_cons_succ, List.getElem_toArray, List.getElem_cons_zero, List.getElem_cons_succ]
          refine wpAnyH_take (i := 12) (oi := _) (v := _) rfl (by kernel_rfl) (by kernel_rfl) (by kernel_rfl) (fun _ _ _ h => h) (Or.inl ⟨by rfl, (by intro w hSw; go_simp; try with_reducible rfl)⟩) hHeld ?_
          try simp only [Act.put, List.setIfInBounds_toArray, List.set_cons_zero, List.set_cons_succ, List.getElem_toArray, List.getElem_cons_zero, List.getElem_cons_succ]
          refine wpAnyH_done (by kernel_rfl) ?_ _
          refine NoPanic.normal ?_
          clear hHeld
          have HDV := Lib.hid (dev_made B gl cl gC cC gF gD gP m W L w6 (HO.out.below HB.out (by rw [HT.out]; exact Nat.le_refl _)) HOC.out HOF.out HOD.out HOP.out hBT hTc hglT hgTC hgTF hgTD hgTP (by omega) (by omega) HW.out)
          have HBX := Lib.hid (HB.out.alloc hTc (.cells #[.slice (some ⟨gl, 0, none⟩) W cl, .slice (some ⟨gC, 0, none⟩) W cC, .slice (some ⟨gF, 0, none⟩) W W, .slice (some ⟨gD, 0, none⟩) m m, .slice (some ⟨gP, 0, none⟩) m m, .int .i64 0, .int .i64 0, .bool false, .bool false] 90))
          go_wp2_with fail
          go_ret
          refine ⟨_, rfl, HDV.out, rfl, rfl, ?_, HT.out ▸ HBX.out⟩
          rintro k (rfl | rfl | rfl | rfl | rfl | rfl)
          · right; rw [HT.out]; exact hTc
          · left; rfl
          · right; rw [HT.out]; exact hgTC
          · right; rw [HT.out]; exact hgTF
          · right; rw [HT.out]; exact hgTD
          · right; rw [HT.out]; exact hgTP
    · go_simp
      refine hK1.out _ _ trivial (fun hHeld => ?_)
      clear hK1 K1
      try simp only [Act.put, List.setIfInBounds_toArray, List.set_cons_zero, List.set_cons_succ, List.getElem_toArray, List.getElem_cons_zero, List.getElem_cons_succ]
      obtain ⟨gD, HgD⟩ : ∃ g, Hid (w1.heap.size = g) := ⟨_, rfl⟩
      have hgTD := hTc
      have hneCD := hltC
      rw [HgD.out] at hgTD hneCD ⊢
      have hneCD := Nat.ne_of_lt hneCD
      have HOD := Lib.hid (own_madeB w1 B m gD HgD.out (by omega) (by omega))
      have HOC := Lib.hid (HOC.out.alloc (.cells (madeCells #[.bool false] (m)) 4))
      have hltC : gC < (w1.alloc (.cells (madeCells #[.bool false] (m)) 4)).heap.size := by simp; omega
      have hltD : gD < (w1.alloc (.cells (madeCells #[.bool false] (m)) 4)).heap.size := by rw [← HgD.out]; simp
      have HB := Lib.hid (HB.out.alloc hTc (.cells (madeCells #[.bool false] (m)) 4))
      have hTc : T ≤ (w1.alloc (.cells (madeCells #[.bool false] (m)) 4)).heap.size := by simp; omega
      generalize w1.alloc (.cells (madeCells #[.bool false] (m)) 4) = w7 at *
      refine wpAnyH_ready (rs := [5, 9]) (by kernel_rfl) (by simp) ?_
      refine AllReadyH.cons (o := _) rfl (fun K1 hK1 => ?_) (AllReadyH.cons (o := _) rfl (fun K1 hK1 => ?_) (AllReadyH.nil))
      · go_simp
        refine hK1.out _ _ trivial (fun hHeld => ?_)
        clear hK1 K1
        try simp only [Act.put, List.setIfInBounds_toArray, List.set_cons_zero, List.set_cons_succ, List.getElem_toArray, List.getElem_cons_zero, List.getElem_cons_succ]
        obtain ⟨gF, HgF⟩ : ∃ g, Hid (w7.heap.size = g) := ⟨_, rfl⟩
        have hgTF := hTc
        have hneCF := hltC
        have hneDF := hltD
        rw [HgF.out] at hgTF hneCF hneDF ⊢
        have hneCF := Nat.ne_of_lt hneCF
        have hneDF := Nat.ne_of_lt hneDF
        have HOF := Lib.hid (own_madeW w7 B W gF HgF.out (by omega) (by omega))
        have HOC := Lib.hid (HOC.out.alloc (.cells (madeCells #[.int .u64 0] (W)) 28))
        have hltC : gC < (w7.alloc (.cells (madeCells #[.int .u64 0] (W)) 28)).heap.size := by simp; omega
        have HOD := Lib.hid (HOD.out.alloc (.cells (madeCells #[.int .u64 0] (W)) 28))
        have hltD : gD < (w7.alloc (.cells (madeCells #[.int .u64 0] (W)) 28)).heap.size := by simp; omega
        have hltF : gF < (w7.alloc (.cells (madeCells #[.int .u64 0] (W)) 28)).heap.size := by rw [← HgF.out]; simp
        have HB := Lib.hid (HB.out.alloc hTc (.cells (madeCells #[.int .u64 0] (W)) 28))
        have hTc : T ≤ (w7.alloc (.cells (madeCells #[.int .u64 0] (W)) 28)).heap.size := by simp; omega
        generalize w7.alloc (.cells (madeCells #[.int .u64 0] (W)) 28) = w8 at *
        refine wpAnyH_ready (rs := [9]) (by kernel_rfl) (by simp) ?_
        refine AllReadyH.cons (o := _) rfl (fun K1 hK1 => ?_) (AllReadyH.nil)
        · go_simp
          refine hK1.out _ _ trivial (fun hHeld => ?_)
          clear hK1 K1
          try simp only [Act.put, List.setIfInBounds_toArray, List.set_cons_zero, List.set_cons_succ, List.getElem_toArray, List.getElem_cons_zero, List.getElem_cons_succ]
          obtain ⟨gP, HgP⟩ : ∃ g, Hid (w8.heap.size = g) := ⟨_, rfl⟩
          have hgTP := hTc
          have hneCP := hltC
          have hneDP := hltD
          have hneFP := hltF
          rw [HgP.out] at hgTP hneCP hneDP hneFP ⊢
          have hneCP := Nat.ne_of_lt hneCP
          have hneDP := Nat.ne_of_lt hneDP
          have hneFP := Nat.ne_of_lt hneFP
          have HOP := Lib.hid (own_madeB w8 B m gP HgP.out (by omega) (by omega))
          have HOC := Lib.hid (HOC.out.alloc (.cells (madeCells #[.bool false] (m)) 4))
          have hltC : gC < (w8.alloc (.cells (madeCells #[.bool false] (m)) 4)).heap.size := by simp; omega
          have HOD := Lib.hid (HOD.out.alloc (.cells (madeCells #[.bool false] (m)) 4))
          have hltD : gD < (w8.alloc (.cells (madeCells #[.bool false] (m)) 4)).heap.size := by simp; omega
          have HOF := Lib.hid (HOF.out.alloc (.cells (madeCells #[.bool false] (m)) 4))
          have hltF : gF < (w8.alloc (.cells (madeCells #[.bool false] (m)) 4)).heap.size := by simp; omega
          have hltP : gP < (w8.alloc (.cells (madeCells #[.bool false] (m)) 4)).heap.size := by rw [← HgP.out]; simp
          have HB := Lib.hid (HB.out.alloc hTc (.cells (madeCells #[.bool false] (m)) 4))
          have hTc : T ≤ (w8.alloc (.cells (madeCells #[.bool false] (m)) 4)).heap.size := by simp; omega
          generalize w8.alloc (.cells (madeCells #[.bool false] (m)) 4) = w9 at *
          refine wpAnyH_take (i := 10) (oi := _) (v := _) rfl (by kernel_rfl) (by kernel_rfl) (by kernel_rfl) (fun _ _ _ h => h) (Or.inl ⟨by rfl, (by intro w hSw; go_simp; try with_reducible rfl)⟩) hHeld ?_
          try simp only [Act.put, List.setIfInBounds_toArray, List.set_cons_zero, List.set_cons_succ, List.getElem_toArray, List.getElem_cons_zero, List.getElem_cons_succ]
          refine wpAnyH_ready (rs := [11]) (by kernel_rfl) (by simp) ?_
          refine AllReadyH.cons (o := _) rfl (fun K1 hK1 => ?_) AllReadyH.nil
          go_simp
          refine hK1.out _ _ trivial (fun hHeld => ?_)
          clear hK1 K1
          try simp only [Act.put, List.setIfInBounds_toArray, List.set_cons_zero, List.set_cons_succ, List.getElem_toArray, List.getElem_cons_zero, List.getElem_cons_succ]
          refine wpAnyH_take (i := 12) (oi := _) (v := _) rfl (by kernel_rfl) (by kernel_rfl) (by kernel_rfl) (fun _ _ _ h => h) (Or.inl ⟨by rfl, (by intro w hSw; go_simp; try with_reducible rfl)⟩) hHeld ?_
          try simp only [Act.put, List.setIfInBounds_toArray, List.set_cons_zero, List.set_cons_succ, List.getElem_toArray, List.getElem_cons_zero, List.getElem_cons_succ]
          refine wpAnyH_done (by kernel_rfl) ?_ _
          refine NoPanic.normal ?_
          clear hHeld
          have HDV := Lib.hid (dev_made B gl cl gC cC gF gD gP m W L w9 (HO.out.below HB.out (by rw [HT.out]; exact Nat.le_refl _)) HOC.out HOF.out HOD.out HOP.out hBT hTc hglT hgTC hgTF hgTD hgTP (by omega) (by omega) HW.out)
          have HBX := Lib.hid (HB.out.alloc hTc (.cells #[.slice (some ⟨gl, 0, none⟩) W cl, .slice (some ⟨gC, 0, none⟩) W cC, .slice (some ⟨gF, 0, none⟩) W W, .slice (some ⟨gD, 0, none⟩) m m, .slice (some ⟨gP, 0, none⟩) m m, .int .i64 0, .int .i64 0, .bool false, .bool false] 90))
          go_wp2_with fail
          go_ret
          refine ⟨_, rfl, HDV.out, rfl, rfl, ?_, HT.out ▸ HBX.out⟩
          rintro k (rfl | rfl | rfl | rfl | rfl | rfl)
          · right; rw [HT.out]; exact hTc
          · left; rfl
          · right; rw [HT.out]; exact hgTC
          · right; rw [HT.out]; exact hgTF
          · right; rw [HT.out]; exact hgTD
          · right; rw [HT.out]; exact hgTP
      · go_simp
        refine hK1.out _ _ trivial (fun hHeld => ?_)
        clear hK1 K1
        try simp only [Act.put, List.setIfInBounds_toArray, List.set_cons_zero, List.set_cons_succ, List.getElem_toArray, List.getElem_cons_zero, List.getElem_cons_succ]
        obtain ⟨gP, HgP⟩ : ∃ g, Hid (w7.heap.size = g) := ⟨_, rfl⟩
        have hgTP := hTc
        have hneCP := hltC
        have hneDP := hltD
        rw [HgP.out] at hgTP hneCP hneDP ⊢
        have hneCP := Nat.ne_of_lt hneCP
        have hneDP := Nat.ne_of_lt hneDP
        have HOP := Lib.hid (own_madeB w7 B m gP HgP.out (by omega) (by omega))
        have HOC := Lib.hid (HOC.out.alloc (.cells (madeCells #[.bool false] (m)) 4))
        have hltC : gC < (w7.alloc (.cells (madeCells #[.bool false] (m)) 4)).heap.size := by simp; omega
        have HOD := Lib.hid (HOD.out.alloc (.cells (madeCells #[.bool false] (m)) 4))
        have hltD : gD < (w7.alloc (.cells (madeCells #[.bool false] (m)) 4)).heap.size := by simp; omega
        have hltP : gP < (w7.alloc (.cells (madeCells #[.bool false] (m)) 4)).heap.size := by rw [← HgP.out]; simp
        have HB := Lib.hid (HB.out.alloc hTc (.cells (madeCells #[.bool false] (m)) 4))
        have hTc : T ≤ (w7.alloc (.cells (madeCells #[.bool false] (m)) 4)).heap.size := by simp; omega
        generalize w7.alloc (.cells (madeCells #[.bool false] (m)) 4) = w10 at *
        refine wpAnyH_ready (rs := [5]) (by kernel_rfl) (by simp) ?_
        refine AllReadyH.cons (o := _) rfl (fun K1 hK1 => ?_) (AllReadyH.nil)
        · go_simp
          refine hK1.out _ _ trivial (fun hHeld => ?_)
          clear hK1 K1
          try simp only [Act.put, List.setIfInBounds_toArray, List.set_cons_zero, List.set_cons_succ, List.getElem_toArray, List.getElem_cons_zero, List.getElem_cons_succ]
          obtain ⟨gF, HgF⟩ : ∃ g, Hid (w10.heap.size = g) := ⟨_, rfl⟩
          have hgTF := hTc
          have hneCF := hltC
          have hneDF := hltD
          have hnePF := hltP
          rw [HgF.out] at hgTF hneCF hneDF hnePF ⊢
          have hneCF := Nat.ne_of_lt hneCF
          have hneDF := Nat.ne_of_lt hneDF
          have hnePF := Nat.ne_of_lt hnePF
          have HOF := Lib.hid (own_madeW w10 B W gF HgF.out (by omega) (by omega))
          have HOC := Lib.hid (HOC.out.alloc (.cells (madeCells #[.int .u64 0] (W)) 28))
          have hltC : gC < (w10.alloc (.cells (madeCells #[.int .u64 0] (W)) 28)).heap.size := by simp; omega
          have HOD := Lib.hid (HOD.out.alloc (.cells (madeCells #[.int .u64 0] (W)) 28))
          have hltD : gD < (w10.alloc (.cells (madeCells #[.int .u64 0] (W)) 28)).heap.size := by simp; omega
          have HOP := Lib.hid (HOP.out.alloc (.cells (madeCells #[.int .u64 0] (W)) 28))
          have hltP : gP < (w10.alloc (.cells (madeCells #[.int .u64 0] (W)) 28)).heap.size := by simp; omega
          have hltF : gF < (w10.alloc (.cells (madeCells #[.int .u64 0] (W)) 28)).heap.size := by rw [← HgF.out]; simp
          have HB := Lib.hid (HB.out.alloc hTc (.cells (madeCells #[.int .u64 0] (W)) 28))
          have hTc : T ≤ (w10.alloc (.cells (madeCells #[.int .u64 0] (W)) 28)).heap.size := by simp; omega
          generalize w10.alloc (.cells (madeCells #[.int .u64 0] (W)) 28) = w11 at *
          refine wpAnyH_take (i := 10) (oi := _) (v := _) rfl (by kernel_rfl) (by kernel_rfl) (by kernel_rfl) (fun _ _ _ h => h) (Or.inl ⟨by rfl, (by intro w hSw; go_simp; try with_reducible rfl)⟩) hHeld ?_
          try simp only [Act.put, List.setIfInBounds_toArray, List.set_cons_zero, List.set_cons_succ, List.getElem_toArray, List.getElem_cons_zero, List.getElem_cons_succ]
          refine wpAnyH_ready (rs := [11]) (by kernel_rfl) (by simp) ?_
          refine AllReadyH.cons (o := _) rfl (fun K1 hK1 => ?_) AllReadyH.nil
          go_simp
          refine hK1.out _ _ trivial (fun hHeld => ?_)
          clear hK1 K1
          try simp only [Act.put, List.setIfInBounds_toArray, List.set_cons_zero, List.set_cons_succ, List.getElem_toArray, List.getElem_cons_zero, List.getElem_cons_succ]
          refine wpAnyH_take (i := 12) (oi := _) (v := _) rfl (by kernel_rfl) (by kernel_rfl) (by kernel_rfl) (fun _ _ _ h => h) (Or.inl ⟨by rfl, (by intro w hSw; go_simp; try with_reducible rfl)⟩) hHeld ?_
          try simp only [Act.put, List.setIfInBounds_toArray, List.set_cons_zero, List.set_cons_succ, List.getElem_toArray, List.getElem_cons_zero, List.getElem_cons_succ]
          refine wpAnyH_done (by kernel_rfl) ?_ _
          refine NoPanic.normal ?_
          clear hHeld
          have HDV := Lib.hid (dev_made B gl cl gC cC gF gD gP m W L w11 (HO.out.below HB.out (by rw [HT.out]; exact Nat.le_refl _)) HOC.out HOF.out HOD.out HOP.out hBT hTc hglT hgTC hgTF hgTD hgTP (by omega) (by omega) HW.out)
          have HBX := Lib.hid (HB.out.alloc hTc (.cells #[.slice (some ⟨gl, 0, none⟩) W cl, .slice (some ⟨gC, 0, none⟩) W cC, .slice (some ⟨gF, 0, none⟩) W W, .slice (some ⟨gD, 0, none⟩) m m, .slice (some ⟨gP, 0, none⟩) m m, .int .i64 0, .int .i64 0, .bool false, .bool false] 90))
          go_wp2_with fail
          go_ret
          refine ⟨_, rfl, HDV.out, rfl, rfl, ?_, HT.out ▸ HBX.out⟩
          rintro k (rfl | rfl | rfl | rfl | rfl | rfl)
          · right; rw [HT.out]; exact hTc
          · left; rfl
          · right; rw [HT.out]; exact hgTC
          · right; rw [HT.out]; exact hgTF
          · right; rw [HT.out]; exact hgTD
          · right; rw [HT.out]; exact hgTP
    · go_simp
      refine hK1.out _ _ trivial (fun hHeld => ?_)
      clear hK1 K1
      try simp only [Act.put, List.setIfInBounds_toArray, List.set_cons_zero, List.set_cons_succ, List.getElem_toArray, List.getElem_cons_zero, List.getElem_cons_succ]
      obtain ⟨gP, HgP⟩ : ∃ g, Hid (w1.heap.size = g) := ⟨_, rfl⟩
      have hgTP := hTc
      have hneCP := hltC
      rw [HgP.out] at hgTP hneCP ⊢
      have hneCP := Nat.ne_of_lt hneCP
      have HOP := Lib.hid (own_madeB w1 B m gP HgP.out (by omega) (by omega))
      have HOC := Lib.hid (HOC.out.alloc (.cells (madeCells #[.bool false] (m)) 4))
      have hltC : gC < (w1.alloc (.cells (madeCells #[.bool false] (m)) 4)).heap.size := by simp; omega
      have hltP : gP < (w1.alloc (.cells (madeCells #[.bool false] (m)) 4)).heap.size := by rw [← HgP.out]; simp
      have HB := Lib.hid (HB.out.alloc hTc (.cells (madeCells #[.bool false] (m)) 4))
      have hTc : T ≤ (w1.alloc (.cells (madeCells #[.bool false] (m)) 4)).heap.size := by simp; omega
      generalize w1.alloc (.cells (madeCells #[.bool false] (m)) 4) = w12 at *
      refine wpAnyH_ready (rs := [5, 7]) (by kernel_rfl) (by simp) ?_
      refine AllReadyH.cons (o := _) rfl (fun K1 hK1 => ?_) (AllReadyH.cons (o := _) rfl (fun K1 hK1 => ?_) (AllReadyH.nil))
      · go_simp
        refine hK1.out _ _ trivial (fun hHeld => ?_)
        clear hK1 K1
        try simp only [Act.put, List.setIfInBounds_toArray, List.set_cons_zero, List.set_cons_succ, List.getElem_toArray, List.getElem_cons_zero, List.getElem_cons_succ]
        obtain ⟨gF, HgF⟩ : ∃ g, Hid (w12.heap.size = g) := ⟨_, rfl⟩
        have hgTF := hTc
        have hneCF := hltC
        have hnePF := hltP
        rw [HgF.out] at hgTF hneCF hnePF ⊢
        have hneCF := Nat.ne_of_lt hneCF
        have hnePF := Nat.ne_of_lt hnePF
        have HOF := Lib.hid (own_madeW w12 B W gF HgF.out (by omega) (by omega))
        have HOC := Lib.hid (HOC.out.alloc (.cells (madeCells #[.int .u64 0] (W)) 28))
        have hltC : gC < (w12.alloc (.cells (madeCells #[.int .u64 0] (W)) 28)).heap.size := by simp; omega
        have HOP := Lib.hid (HOP.out.alloc (.cells (madeCells #[.int .u64 0] (W)) 28))
        have hltP : gP < (w12.alloc (.cells (madeCells #[.int .u64 0] (W)) 28)).heap.size := by simp; omega
        have hltF : gF < (w12.alloc (.cells (madeCells #[.int .u64 0] (W)) 28)).heap.size := by rw [← HgF.out]; simp
        have HB := Lib.hid (HB.out.alloc hTc (.cells (madeCells #[.int .u64 0] (W)) 28))
        have hTc : T ≤ (w12.alloc (.cells (madeCells #[.int .u64 0] (W)) 28)).heap.size := by simp; omega
        generalize w12.alloc (.cells (madeCells #[.int .u64 0] (W)) 28) = w13 at *
        refine wpAnyH_ready (rs := [7]) (by kernel_rfl) (by simp) ?_
        refine AllReadyH.cons (o := _) rfl (fun K1 hK1 => ?_) (AllReadyH.nil)
        · go_simp
          refine hK1.out _ _ trivial (fun hHeld => ?_)
          clear hK1 K1
          try simp only [Act.put, List.setIfInBounds_toArray, List.set_cons_zero, List.set_cons_succ, List.getElem_toArray, List.getElem_cons_zero, List.getElem_cons_succ]
          obtain ⟨gD, HgD⟩ : ∃ g, Hid (w13.heap.size = g) := ⟨_, rfl⟩
          have hgTD := hTc
          have hneCD := hltC
          have hnePD := hltP
          have hneFD := hltF
          rw [HgD.out] at hgTD hneCD hnePD hneFD ⊢
          have hneCD := Nat.ne_of_lt hneCD
          have hnePD := Nat.ne_of_lt hnePD
          have hneFD := Nat.ne_of_lt hneFD
          have HOD := Lib.hid (own_madeB w13 B m gD HgD.out (by omega) (by omega))
          have HOC := Lib.hid (HOC.out.alloc (.cells (madeCells #[.bool false] (m)) 4))
          have hltC : gC < (w13.alloc (.cells (madeCells #[.bool false] (m)) 4)).heap.size := by simp; omega
          have HOP := Lib.hid (HOP.out.alloc (.cells (madeCells #[.bool false] (m)) 4))
          have hltP : gP < (w13.alloc (.cells (madeCells #[.bool false] (m)) 4)).heap.size := by simp; omega
          have HOF := Lib.hid (HOF.out.alloc (.cells (madeCells #[.bool false] (m)) 4))
          have hltF : gF < (w13.alloc (.cells (madeCells #[.bool false] (m)) 4)).heap.size := by simp; omega
          have hltD : gD < (w13.alloc (.cells (madeCells #[.bool false] (m)) 4)).heap.size := by rw [← HgD.out]; simp
          have HB := Lib.hid (HB.out.alloc hTc (.cells (madeCells #[.bool false] (m)) 4))
          have hTc : T ≤ (w13.alloc (.cells (madeCells #[.bool false] (m)) 4)).heap.size := by simp; omega
          generalize w13.alloc (.cells (madeCells #[.bool false] (m)) 4) = w14 at *
          refine wpAnyH_take (i := 10) (oi := _) (v := _) rfl (by kernel_rfl) (by kernel_rfl) (by kernel_rfl) (fun _ _ _ h => h) (Or.inl ⟨by rfl, (by intro w hSw; go_simp; try with_reducible rfl)⟩) hHeld ?_
          try simp only [Act.put, List.setIfInBounds_toArray, List.set_cons_zero, List.set_cons_succ, List.getElem_toArray, List.getElem_cons_zero, List.getElem_cons_succ]
          refine wpAnyH_ready (rs := [11]) (by kernel_rfl) (by simp) ?_
          refine AllReadyH.cons (o := _) rfl (fun K1 hK1 => ?_) AllReadyH.nil
          go_simp
          refine hK1.out _ _ trivial (fun hHeld => ?_)
          clear hK1 K1
          try simp only [Act.put, List.setIfInBounds_toArray, List.set_cons_zero, List.set_cons_succ, List.getElem_toArray, List.getElem_cons_zero, List.getElem_cons_succ]
          refine wpAnyH_take (i := 12) (oi := _) (v := _) rfl (by kernel_rfl) (by kernel_rfl) (by kernel_rfl) (fun _ _ _ h => h) (Or.inl ⟨by rfl, (by intro w hSw; go_simp; try with_reducible rfl)⟩) hHeld ?_
          try simp only [Act.put, List.setIfInBounds_toArray, List.set_cons_zero, List.set_cons_succ, List.getElem_toArray, List.getElem_cons_zero, List.getElem_cons_succ]
          refine wpAnyH_done (by kernel_rfl) ?_ _
          refine NoPanic.normal ?_
          clear hHeld
          have HDV := Lib.hid (dev_made B gl cl gC cC gF gD gP m W L w14 (HO.out.below HB.out (by rw [HT.out]; exact Nat.le_refl _)) HOC.out HOF.out HOD.out HOP.out hBT hTc hglT hgTC hgTF hgTD hgTP (by omega) (by omega) HW.out)
          have HBX := Lib.hid (HB.out.alloc hTc (.cells #[.slice (some ⟨gl, 0, none⟩) W cl, .slice (some ⟨gC, 0, none⟩) W cC, .slice (some ⟨gF, 0, none⟩) W W, .slice (some ⟨gD, 0, none⟩) m m, .slice (some ⟨gP, 0, none⟩) m m, .int .i64 0, .int .i64 0, .bool false, .bool false] 90))
          go_wp2_with fail
          go_ret
          refine ⟨_, rfl, HDV.out, rfl, rfl, ?_, HT.out ▸ HBX.out⟩
          rintro k (rfl | rfl | rfl | rfl | rfl | rfl)
          · right; rw [HT.out]; exact hTc
          · left; rfl
          · right; rw [HT.out]; exact hgTC
          · right; rw [HT.out]; exact hgTF
          · right; rw [HT.out]; exact hgTD
          · right; rw [HT.out]; exact hgTP
      · go_simp
        refine hK1.out _ _ trivial (fun hHeld => ?_)
        clear hK1 K1
        try simp only [Act.put, List.setIfInBounds_toArray, List.set_cons_zero, List.set_cons_succ, List.getElem_toArray, List.getElem_cons_zero, List.getElem_cons_succ]
        obtain ⟨gD, HgD⟩ : ∃ g, Hid (w12.heap.size = g) := ⟨_, rfl⟩
        have hgTD := hTc
        have hneCD := hltC
        have hnePD := hltP
        rw [HgD.out] at hgTD hneCD hnePD ⊢
        have hneCD := Nat.ne_of_lt hneCD
        have hnePD := Nat.ne_of_lt hnePD
        have HOD := Lib.hid (own_madeB w12 B m gD HgD.out (by omega) (by omega))
        have HOC := Lib.hid (HOC.out.alloc (.cells (madeCells #[.bool false] (m)) 4))
        have hltC : gC < (w12.alloc (.cells (madeCells #[.bool false] (m)) 4)).heap.size := by simp; omega
        have HOP := Lib.hid (HOP.out.alloc (.cells (madeCells #[.bool false] (m)) 4))
        have hltP : gP < (w12.alloc (.cells (madeCells #[.bool false] (m)) 4)).heap.size := by simp; omega
        have hltD : gD < (w12.alloc (.cells (madeCells #[.bool false] (m)) 4)).heap.size := by rw [← HgD.out]; simp
        have HB := Lib.hid (HB.out.alloc hTc (.cells (madeCells #[.bool false] (m)) 4))
        have hTc : T ≤ (w12.alloc (.cells (madeCells #[.bool false] (m)) 4)).heap.size := by simp; omega
        generalize w12.alloc (.cells (madeCells #[.bool false] (m)) 4) = w15 at *
        refine wpAnyH_ready (rs := [5]) (by kernel_rfl) (by simp) ?_
        refine AllReadyH.cons (o := _) rfl (fun K1 hK1 => ?_) (AllReadyH.nil)
        · go_simp
          refine hK1.out _ _ trivial (fun hHeld => ?_)
          clear hK1 K1
          try simp only [Act.put, List.setIfInBounds_toArray, List.set_cons_zero, List.set_cons_succ, List.getElem_toArray, List.getElem_cons_zero, List.getElem_cons_succ]
          obtain ⟨gF, HgF⟩ : ∃ g, Hid (w15.heap.size = g) := ⟨_, rfl⟩
          have hgTF := hTc
          have hneCF := hltC
          have hnePF := hltP
          have hneDF := hltD
          rw [HgF.out] at hgTF hneCF hnePF hneDF ⊢
          have hneCF := Nat.ne_of_lt hneCF
          have hnePF := Nat.ne_of_lt hnePF
          have hneDF := Nat.ne_of_lt hneDF
          have HOF := Lib.hid (own_madeW w15 B W gF HgF.out (by omega) (by omega))
          have HOC := Lib.hid (HOC.out.alloc (.cells (madeCells #[.int .u64 0] (W)) 28))
          have hltC : gC < (w15.alloc (.cells (madeCells #[.int .u64 0] (W)) 28)).heap.size := by simp; omega
          have HOP := Lib.hid (HOP.out.alloc (.cells (madeCells #[.int .u64 0] (W)) 28))
          have hltP : gP < (w15.alloc (.cells (madeCells #[.int .u64 0] (W)) 28)).heap.size := by simp; omega
          have HOD := Lib.hid (HOD.out.alloc (.cells (madeCells #[.int .u64 0] (W)) 28))
          have hltD : gD < (w15.alloc (.cells (madeCells #[.int .u64 0] (W)) 28)).heap.size := by simp; omega
          have hltF : gF < (w15.alloc (.cells (madeCells #[.int .u64 0] (W)) 28)).heap.size := by rw [← HgF.out]; simp
          have HB := Lib.hid (HB.out.alloc hTc (.cells (madeCells #[.int .u64 0] (W)) 28))
          have hTc : T ≤ (w15.alloc (.cells (madeCells #[.int .u64 0] (W)) 28)).heap.size := by simp; omega
          generalize w15.alloc (.cells (madeCells #[.int .u64 0] (W)) 28) = w16 at *
          refine wpAnyH_take (i := 10) (oi := _) (v := _) rfl (by kernel_rfl) (by kernel_rfl) (by kernel_rfl) (fun _ _ _ h => h) (Or.inl ⟨by rfl, (by intro w hSw; go_simp; try with_reducible rfl)⟩) hHeld ?_
          try simp only [Act.put, List.setIfInBounds_toArray, List.set_cons_zero, List.set_cons_succ, List.getElem_toArray, List.getElem_cons_zero, List.getElem_cons_succ]
          refine wpAnyH_ready (rs := [11]) (by kernel_rfl) (by simp) ?_
          refine AllReadyH.cons (o := _) rfl (fun K1 hK1 => ?_) AllReadyH.nil
          go_simp
          refine hK1.out _ _ trivial (fun hHeld => ?_)
          clear hK1 K1
          try simp only [Act.put, List.setIfInBounds_toArray, List.set_cons_zero, List.set_cons_succ, List.getElem_toArray, List.getElem_cons_zero, List.getElem_cons_succ]
          refine wpAnyH_take (i := 12) (oi := _) (v := _) rfl (by kernel_rfl) (by kernel_rfl) (by kernel_rfl) (fun _ _ _ h => h) (Or.inl ⟨by rfl, (by intro w hSw; go_simp; try with_reducible rfl)⟩) hHeld ?_
          try simp only [Act.put, List.setIfInBounds_toArray, List.set_cons_zero, List.set_cons_succ, List.getElem_toArray, List.getElem_cons_zero, List.getElem_cons_succ]
          refine wpAnyH_done (by kernel_rfl) ?_ _
          refine NoPanic.normal ?_
          clear hHeld
          have HDV := Lib.hid (dev_made B gl cl gC cC gF gD gP m W L w16 (HO.out.below HB.out (by rw [HT.out]; exact Nat.le_refl _)) HOC.out HOF.out HOD.out HOP.out hBT hTc hglT hgTC hgTF hgTD hgTP (by omega) (by omega) HW.out)
          have HBX := Lib.hid (HB.out.alloc hTc (.cells #[.slice (some ⟨gl, 0, none⟩) W cl, .slice (some ⟨gC, 0, none⟩) W cC, .slice (some ⟨gF, 0, none⟩) W W, .slice (some ⟨gD, 0, none⟩) m m, .slice (some ⟨gP, 0, none⟩) m m, .int .i64 0, .int .i64 0, .bool false, .bool false] 90))
          go_wp2_with fail
          go_ret
          refine ⟨_, rfl, HDV.out, rfl, rfl, ?_, HT.out ▸ HBX.out⟩
          rintro k (rfl | rfl | rfl | rfl | rfl | rfl)
          · right; rw [HT.out]; exact hTc
          · left; rfl
          · right; rw [HT.out]; exact hgTC
          · right; rw [HT.out]; exact hgTF
          · right; rw [HT.out]; exact hgTD
          · right; rw [HT.out]; exact hgTP
  · go_simp
    refine hK1.out _ _ trivial (fun hHeld => ?_)
    clear hK1 K1
    try simp only [Act.put, List.setIfInBounds_toArray, List.set_cons_zero, List.set_cons_succ, List.getElem_toArray, List.getElem_cons_zero, List.getElem_cons_succ]
    obtain ⟨gF, HgF⟩ : ∃ g, Hid (wS.heap.size = g) := ⟨_, rfl⟩
    have hgTF := hTc
    rw [HgF.out] at hgTF ⊢
    have HOF := Lib.hid (own_madeW wS B W gF HgF.out (by omega) (by omega))
    have hltF : gF < (wS.alloc (.cells (madeCells #[.int .u64 0] (W)) 28)).heap.size := by rw [← HgF.out]; simp
    have HB := Lib.hid (HB.out.alloc hTc (.cells (madeCells #[.int .u64 0] (W)) 28))
    have hTc : T ≤ (wS.alloc (.cells (madeCells #[.int .u64 0] (W)) 28)).heap.size := by simp; omega
    generalize wS.alloc (.cells (madeCells #[.int .u64 0] (W)) 28) = w17 at *
    refine wpAnyH_ready (rs := [2, 7, 9]) (by kernel_rfl) (by simp) ?_
    refine AllReadyH.cons (o := _) rfl (fun K1 hK1 => ?_) (AllReadyH.cons (o := _) rfl (fun K1 hK1 => ?_) (AllReadyH.cons (o := _) rfl (fun K1 hK1 => ?_) (AllReadyH.nil)))
    · go_simp
      refine (Hcl.out w17 HB.out).mono ?_
      rintro e w18 ⟨gC, cC, rfl, hOC, hbC⟩
      have hszC : w17.heap.size ≤ gC ∧ gC < w18.heap.size := hOC.lt _ rfl
      have HOC := Lib.hid hOC
      have HBn := Lib.hid (HB.out.trans (hbC.mono hTc))
      have HOF := Lib.hid (HOF.out.below hbC (Nat.le_refl _))
      have hneFC : gF ≠ gC := by omega
      have hltF := Nat.lt_of_lt_of_le hltF hbC.size
      have hgTC : T ≤ gC := by omega
      have hltC : gC < w18.heap.size := hszC.2
      have hTc := Nat.le_trans hTc hbC.size
      have HB := HBn
      clear hOC hbC hszC HBn
      go_wp2_with fail
      refine hK1.out _ _ trivial (fun hHeld => ?_)
      clear hK1 K1
      try simp only [Act.put, List.setIfInBounds_toArray, List.set_cons_zero, List.set_cons_succ, List.getElem_toArray, List.getElem_cons_zero, List.getElem_cons_succ]
      refine wpAnyH_ready (rs := [7, 9]) (by kernel_rfl) (by simp) ?_
      refine AllReadyH.cons (o := _) rfl (fun K1 hK1 => ?_) (AllReadyH.cons (o := _) rfl (fun K1 hK1 => ?_) (AllReadyH.nil))
      · go_simp
        refine hK1.out _ _ trivial (fun hHeld => ?_)
        clear hK1 K1
        try simp only [Act.put, List.setIfInBounds_toArray, List.set_cons_zero, List.set_cons_succ, List.getElem_toArray, List.getElem_cons_zero, List.getElem_cons_succ]
        obtain ⟨gD, HgD⟩ : ∃ g, Hid (w18.heap.size = g) := ⟨_, rfl⟩
        have hgTD := hTc
        have hneFD := hltF
        have hneCD := hltC
        rw [HgD.out] at hgTD hneFD hneCD ⊢
        have hneFD := Nat.ne_of_lt hneFD
        have hneCD := Nat.ne_of_lt hneCD
        have HOD := Lib.hid (own_madeB w18 B m gD HgD.out (by omega) (by omega))
        have HOF := Lib.hid (HOF.out.alloc (.cells (madeCells #[.bool false] (m)) 4))
        have hltF : gF < (w18.alloc (.cells (madeCells #[.bool false] (m)) 4)).heap.size := by simp; omega
        have HOC := Lib.hid (HOC.out.alloc (.cells (madeCells #[.bool false] (m)) 4))
        have hltC : gC < (w18.alloc (.cells (madeCells #[.bool false] (m)) 4)).heap.size := by simp; omega
        have hltD : gD < (w18.alloc (.cells (madeCells #[.bool false] (m)) 4)).heap.size := by rw [← HgD.out]; simp
        have HB := Lib.hid (HB.out.alloc hTc (.cells (madeCells #[.bool false] (m)) 4))
        have hTc : T ≤ (w18.alloc (.cells (madeCells #[.bool false] (m)) 4)).heap.size := by simp; omega
        generalize w18.alloc (.cells (madeCells #[.bool false] (m)) 4) = w19 at *
        refine wpAnyH_ready (rs := [9]) (by kernel_rfl) (by simp) ?_
        refine AllReadyH.cons (o := _) rfl (fun K1 hK1 => ?_) (AllReadyH.nil)
        · go_simp
          refine hK1.out _ _ trivial (fun hHeld => ?_)
          clear hK1 K1
          try simp only [Act.put, List.setIfInBounds_toArray, List.set_cons_zero, List.set_cons_succ, List.getElem_toArray, List.getElem_cons_zero, List.getElem_cons_succ]
          obtain ⟨gP, HgP⟩ : ∃ g, Hid (w19.heap.size = g) := ⟨_, rfl⟩
          have hgTP := hTc
          have hneFP := hltF
          have hneCP := hltC
          have hneDP := hltD
          rw [HgP.out] at hgTP hneFP hneCP hneDP ⊢
          have hneFP := Nat.ne_of_lt hneFP
          have hneCP := Nat.ne_of_lt hneCP
          have hneDP := Nat.ne_of_lt hneDP
          have HOP := Lib.hid (own_madeB w19 B m gP HgP.out (by omega) (by omega))
          have HOF := Lib.hid (HOF.out.alloc (.cells (madeCells #[.bool false] (m)) 4))
          have hltF : gF < (w19.alloc (.cells (madeCells #[.bool false] (m)) 4)).heap.size := by simp; omega
          have HOC := Lib.hid (HOC.out.alloc (.cells (madeCells #[.bool false] (m)) 4))
          have hltC : gC < (w19.alloc (.cells (madeCells #[.bool false] (m)) 4)).heap.size := by simp; omega
          have HOD := Lib.hid (HOD.out.alloc (.cells (madeCells #[.bool false] (m)) 4))
          have hltD : gD < (w19.alloc (.cells (madeCells #[.bool false] (m)) 4)).heap.size := by simp; omega
          have hltP : gP < (w19.alloc (.cells (madeCells #[.bool false] (m)) 4)).heap.size := by rw [← HgP.out]; simp
          have HB := Lib.hid (HB.out.alloc hTc (.cells (madeCells #[.bool false] (m)) 4))
          have hTc : T ≤ (w19.alloc (.cells (madeCells #[.bool false] (m)) 4)).heap.size := by simp; omega
          generalize w19.alloc (.cells (madeCells #[.bool false] (m)) 4) = w20 at *
          refine wpAnyH_take (i := 10) (oi := _) (v := _) rfl (by kernel_rfl) (by kernel_rfl) (by kernel_rfl) (fun _ _ _ h => h) (Or.inl ⟨by rfl, (by intro w hSw; go_simp; try with_reducible rfl)⟩) hHeld ?_
          try simp only [Act.put, List.setIfInBounds_toArray, List.set_cons_zero, List.set_cons_succ, List.getElem_toArray, List.getElem_cons_zero, List.getElem_cons_succ]
          refine wpAnyH_ready (rs := [11]) (by kernel_rfl) (by simp) ?_
          refine AllReadyH.cons (o := _) rfl (fun K1 hK1 => ?_) AllReadyH.nil
          go_simp
          refine hK1.out _ _ trivial (fun hHeld => ?_)
          clear hK1 K1
          try simp only [Act.put, List.setIfInBounds_toArray, List.set_cons_zero, List.set_cons_succ, List.getElem_toArray, List.getElem_cons_zero, List.getElem_cons_succ]
          refine wpAnyH_take (i := 12) (oi := _) (v := _) rfl (by kernel_rfl) (by kernel_rfl) (by kernel_rfl) (fun _ _ _ h => h) (Or.inl ⟨by rfl, (by intro w hSw; go_simp; try with_reducible rfl)⟩) hHeld ?_
          try simp only [Act.put, List.setIfInBounds_toArray, List.set_cons_zero, List.set_cons_succ, List.getElem_toArray, List.getElem_cons_zero, List.getElem_cons_succ]
          refine wpAnyH_done (by kernel_rfl) ?_ _
          refine NoPanic.normal ?_
          clear hHeld
          have HDV := Lib.hid (dev_made B gl cl gC cC gF gD gP m W L w20 (HO.out.below HB.out (by rw [HT.out]; exact Nat.le_refl _)) HOC.out HOF.out HOD.out HOP.out hBT hTc hglT hgTC hgTF hgTD hgTP (by omega) (by omega) HW.out)
          have HBX := Lib.hid (HB.out.alloc hTc (.cells #[.slice (some ⟨gl, 0, none⟩) W cl, .slice (some ⟨gC, 0, none⟩) W cC, .slice (some ⟨gF, 0, none⟩) W W, .slice (some ⟨gD, 0, none⟩) m m, .slice (some ⟨gP, 0, none⟩) m m, .int .i64 0, .int .i64 0, .bool false, .bool false] 90))
          go_wp2_with fail
          go_ret
          refine ⟨_, rfl, HDV.out, rfl, rfl, ?_, HT.out ▸ HBX.out⟩
          rintro k (rfl | rfl | rfl | rfl | rfl | rfl)
          · right; rw [HT.out]; exact hTc
          · left; rfl
          · right; rw [HT.out]; exact hgTC
          · right; rw [HT.out]; exact hgTF
          · right; rw [HT.out]; exact hgTD
          · right; rw [HT.out]; exact hgTP
      · go_simp
        refine hK1.out _ _ trivial (fun hHeld => ?_)
        clear hK1 K1
        try simp only [Act.put, List.setIfInBounds_toArray, List.set_cons_zero, List.set_cons_succ, List.getElem_toArray, List.getElem_cons_zero, List.getElem_cons_succ]
        obtain ⟨gP, HgP⟩ : ∃ g, Hid (w18.heap.size = g) := ⟨_, rfl⟩
        have hgTP := hTc
        have hneFP := hltF
        have hneCP := hltC
        rw [HgP.out] at hgTP hneFP hneCP ⊢
        have hneFP := Nat.ne_of_lt hneFP
        have hneCP := Nat.ne_of_lt hneCP
        have HOP := Lib.hid (own_madeB w18 B m gP HgP.out (by omega) (by omega))
        have HOF := Lib.hid (HOF.out.alloc (.cells (madeCells #[.bool false] (m)) 4))
        have hltF : gF < (w18.alloc (.cells (madeCells #[.bool false] (m)) 4)).heap.size := by simp; omega
        have HOC := Lib.hid (HOC.out.alloc (.cells (madeCells #[.bool false] (m)) 4))
        have hltC : gC < (w18.alloc (.cells (madeCells #[.bool false] (m)) 4)).heap.size := by simp; omega
        have hltP : gP < (w18.alloc (.cells (madeCells #[.bool false] (m)) 4)).heap.size := by rw [← HgP.out]; simp
        have HB := Lib.hid (HB.out.alloc hTc (.cells (madeCells #[.bool false] (m)) 4))
        have hTc : T ≤ (w18.alloc (.cells (madeCells #[.bool false] (m)) 4)).heap.size := by simp; omega
        generalize w18.alloc (.cells (madeCells #[.bool false] (m)) 4) = w21 at *
        refine wpAnyH_ready (rs := [7]) (by kernel_rfl) (by simp) ?_
        refine AllReadyH.cons (o := _) rfl (fun K1 hK1 => ?_) (AllReadyH.nil)
        · go_simp
          refine hK1.out _ _ trivial (fun hHeld => ?_)
          clear hK1 K1
          try simp only [Act.put, List.setIfInBounds_toArray, List.set_cons_zero, List.set_cons_succ, List.getElem_toArray, List.getElem_cons_zero, List.getElem_cons_succ]
          obtain ⟨gD, HgD⟩ : ∃ g, Hid (w21.heap.size = g) := ⟨_, rfl⟩
          have hgTD := hTc
          have hneFD := hltF
          have hneCD := hltC
          have hnePD := hltP
          rw [HgD.out] at hgTD hneFD hneCD hnePD ⊢
          have hneFD := Nat.ne_of_lt hneFD
          have hneCD := Nat.ne_of_lt hneCD
          have hnePD := Nat.ne_of_lt hnePD
          have HOD := Lib.hid (own_madeB w21 B m gD HgD.out (by omega) (by omega))
          have HOF := Lib.hid (HOF.out.alloc (.cells (madeCells #[.bool false] (m)) 4))
          have hltF : gF < (w21.alloc (.cells (madeCells #[.bool false] (m)) 4)).heap.size := by simp; omega
          have HOC := Lib.hid (HOC.out.alloc (.cells (madeCells #[.bool false] (m)) 4))
          have hltC : gC < (w21.alloc (.cells (madeCells #[.bool false] (m)) 4)).heap.size := by simp; omega
          have HOP := Lib.hid (HOP.out.alloc (.cells (madeCells #[.bool false] (m)) 4))
          have hltP : gP < (w21.alloc (.cells (madeCells #[.bool false] (m)) 4)).heap.size := by simp; omega
          have hltD : gD < (w21.alloc (.cells (madeCells #[.bool false] (m)) 4)).heap.size := by rw [← HgD.out]; simp
          have HB := Lib.hid (HB.out.alloc hTc (.cells (madeCells #[.bool false] (m)) 4))
          have hTc : T ≤ (w21.alloc (.cells (madeCells #[.bool false] (m)) 4)).heap.size := by simp; omega
          generalize w21.alloc (.cells (madeCells #[.bool false] (m)) 4) = w22 at *
          refine wpAnyH_take (i := 10) (oi := _) (v := _) rfl (by kernel_rfl) (by kernel_rfl) (by kernel_rfl) (fun _ _ _ h => h) (Or.inl ⟨by rfl, (by intro w hSw; go_simp; try with_reducible rfl)⟩) hHeld ?_
          try simp only [Act.put, List.setIfInBounds_toArray, List.set_cons_zero, List.set_cons_succ, List.getElem_toArray, List.getElem_cons_zero, List.getElem_cons_succ]
          refine wpAnyH_ready (rs := [11]) (by kernel_rfl) (by simp) ?_
          refine AllReadyH.cons (o := _) rfl (fun K1 hK1 => ?_) AllReadyH.nil
          go_simp
          refine hK1.out _ _ trivial (fun hHeld => ?_)
          clear hK1 K1
          try simp only [Act.put, List.setIfInBounds_toArray, List.set_cons_zero, List.set_cons_succ, List.getElem_toArray, List.getElem_cons_zero, List.getElem_cons_succ]
          refine wpAnyH_take (i := 12) (oi := _) (v := _) rfl (by kernel_rfl) (by kernel_rfl) (by kernel_rfl) (fun _ _ _ h => h) (Or.inl ⟨by rfl, (by intro w hSw; go_simp; try with_reducible rfl)⟩) hHeld ?_
          try simp only [Act.put, List.setIfInBounds_toArray, List.set_cons_zero, List.set_cons_succ, List.getElem_toArray, List.getElem_cons_zero, List.getElem_cons_succ]
          refine wpAnyH_done (by kernel_rfl) ?_ _
          refine NoPanic.normal ?_
          clear hHeld
          have HDV := Lib.hid (dev_made B gl cl gC cC gF gD gP m W L w22 (HO.out.below HB.out (by rw [HT.out]; exact Nat.le_refl _)) HOC.out HOF.out HOD.out HOP.out hBT hTc hglT hgTC hgTF hgTD hgTP (by omega) (by omega) HW.out)
          have HBX := Lib.hid (HB.out.alloc hTc (.cells #[.slice (some ⟨gl, 0, none⟩) W cl, .slice (some ⟨gC, 0, none⟩) W cC, .slice (some ⟨gF, 0, none⟩) W W, .slice (some ⟨gD, 0, none⟩) m m, .slice (some ⟨gP, 0, none⟩) m m, .int .i64 0, .int .i64 0, .bool false, .bool false] 90))
          go_wp2_with fail
          go_ret
          refine ⟨_, rfl, HDV.out, rfl, rfl, ?_, HT.out ▸ HBX.out⟩
          rintro k (rfl | rfl | rfl | rfl | rfl | rfl)
          · right; rw [HT.out]; exact hTc
          · left; rfl
          · right; rw [HT.out]; exact hgTC
          · right; rw [HT.out]; exact hgTF
          · right; rw [HT.out]; exact hgTD
          · right; rw [HT.out]; exact hgTP
    · go_simp
      refine hK1.out _ _ trivial (fun hHeld => ?_)
      clear hK1 K1
      try simp only [Act.put, List.setIfInBounds_toArray, List.set_cons_zero, List.set_cons_succ, List.getElem_toArray, List.getElem_cons_zero, List.getElem_cons_succ]
      obtain ⟨gD, HgD⟩ : ∃ g, Hid (w17.heap.size = g) := ⟨_, rfl⟩
      have hgTD := hTc
      have hneFD := hltF
      rw [HgD.out] at hgTD hneFD ⊢
      have hneFD := Nat.ne_of_lt hneFD
      have HOD := Lib.hid (own_madeB w17 B m gD HgD.out (by omega) (by omega))
      have HOF := Lib.hid (HOF.out.alloc (.cells (madeCells #[.bool false] (m)) 4))
      have hltF : gF < (w17.alloc (.cells (madeCells #[.bool false] (m)) 4)).heap.size := by simp; omega
      have hltD : gD < (w17.alloc (.cells (madeCells #[.bool false] (m)) 4)).heap.size := by rw [← HgD.out]; simp
      have HB := Lib.hid (HB.out.alloc hTc (.cells (madeCells #[.bool false] (m)) 4))
      have hTc : T ≤ (w17.alloc (.cells (madeCells #[.bool false] (m)) 4)).heap.size := by simp; omega
      generalize w17.alloc (.cells (madeCells #[.bool false] (m)) 4) = w23 at *
      refine wpAnyH_ready (rs := [2, 9]) (by kernel_rfl) (by simp) ?_
      refine AllReadyH.cons (o := _) rfl (fun K1 hK1 => ?_) (AllReadyH.cons (o := _) rfl (fun K1 hK1 => ?_) (AllReadyH.nil))
      · go_simp
        refine (Hcl.out w23 HB.out).mono ?_
        rintro e w24 ⟨gC, cC, rfl, hOC, hbC⟩
        have hszC : w23.heap.size ≤ gC ∧ gC < w24.heap.size := hOC.lt _ rfl
        have HOC := Lib.hid hOC
        have HBn := Lib.hid (HB.out.trans (hbC.mono hTc))
        have HOF := Lib.hid (HOF.out.below hbC (Nat.le_refl _))
        have hneFC : gF ≠ gC := by omega
        have hltF := Nat.lt_of_lt_of_le hltF hbC.size
        have HOD := Lib.hid (HOD.out.below hbC (Nat.le_refl _))
        have hneDC : gD ≠ gC := by omega
        have hltD := Nat.lt_of_lt_of_le hltD hbC.size
        have hgTC : T ≤ gC := by omega
        have hltC : gC < w24.heap.size := hszC.2
        have hTc := Nat.le_trans hTc hbC.size
        have HB := HBn
        clear hOC hbC hszC HBn
        go_wp2_with fail
        refine hK1.out _ _ trivial (fun hHeld => ?_)
        clear hK1 K1
        try simp only [Act.put, List.setIfInBounds_toArray, List.set_cons_zero, List.set_cons_succ, List.getElem_toArray, List.getElem_cons_zero, List.getElem_cons_succ]
        refine wpAnyH_ready (rs := [9]) (by kernel_rfl) (by simp) ?_
        refine AllReadyH.cons (o := _) rfl (fun K1 hK1 => ?_) (AllReadyH.nil)
        · go_simp
          refine hK1.out _ _ trivial (fun hHeld => ?_)
          clear hK1 K1
          try simp only [Act.put, List.setIfInBounds_toArray, List.set_cons_zero, List.set_cons_succ, List.getElem_toArray, List.getElem_cons_zero, List.getElem_cons_succ]
          obtain ⟨gP, HgP⟩ : ∃ g, Hid (w24.heap.size = g) := ⟨_, rfl⟩
          have hgTP := hTc
          have hneFP := hltF
          have hneDP := hltD
          have hneCP := hltC
          rw [HgP.out] at hgTP hneFP hneDP hneCP ⊢
          have hneFP := Nat.ne_of_lt hneFP
          have hneDP := Nat.ne_of_lt hneDP
          have hneCP := Nat.ne_of_lt hneCP
          have HOP := Lib.hid (own_madeB w24 B m gP HgP.out (by omega) (by omega))
          have HOF := Lib.hid (HOF.out.alloc (.cells (madeCells #[.bool false] (m)) 4))
          have hltF : gF < (w24.alloc (.cells (madeCells #[.bool false] (m)) 4)).heap.size := by simp; omega
          have HOD := Lib.hid (HOD.out.alloc (.cells (madeCells #[.bool false] (m)) 4))
          have hltD : gD < (w24.alloc (.cells (madeCells #[.bool false] (m)) 4)).heap.size := by simp; omega
          have HOC := Lib.hid (HOC.out.alloc (.cells (madeCells #[.bool false] (m)) 4))
          have hltC : gC < (w24.alloc (.cells (madeCells #[.bool false] (m)) 4)).heap.size := by simp; omega
          have hltP : gP < (w24.alloc (.cells (madeCells #[.bool false] (m)) 4)).heap.size := by rw [← HgP.out]; simp
          have HB := Lib.hid (HB.out.alloc hTc (.cells (madeCells #[.bool false] (m)) 4))
          have hTc : T ≤ (w24.alloc (.cells (madeCells #[.bool false] (m)) 4)).heap.size := by simp; omega
          generalize w24.alloc (.cells (madeCells #[.bool false] (m)) 4) = w25 at *
          refine wpAnyH_take (i := 10) (oi := _) (v := _) rfl (by kernel_rfl) (by kernel_rfl) (by kernel_rfl) (fun _ _ _ h => h) (Or.inl ⟨by rfl, (by intro w hSw; go_simp; try with_reducible rfl)⟩) hHeld ?_
          try simp only [Act.put, List.setIfInBounds_toArray, List.set_cons_zero, List.set_cons_succ, List.getElem_toArray, List.getElem_cons_zero, List.getElem_cons_succ]
          refine wpAnyH_ready (rs := [11]) (by kernel_rfl) (by simp) ?_
          refine AllReadyH.cons (o := _) rfl (fun K1 hK1 => ?_) AllReadyH.nil
          go_simp
          refine hK1.out _ _ trivial (fun hHeld => ?_)
          clear hK1 K1
          try simp only [Act.put, List.setIfInBounds_toArray, List.set_cons_zero, List.set_cons_succ, List.getElem_toArray, List.getElem_cons_zero, List.getElem_cons_succ]
          refine wpAnyH_take (i := 12) (oi := _) (v := _) rfl (by kernel_rfl) (by kernel_rfl) (by kernel_rfl) (fun _ _ _ h => h) (Or.inl ⟨by rfl, (by intro w hSw; go_simp; try with_reducible rfl)⟩) hHeld ?_
          try simp only [Act.put, List.setIfInBounds_toArray, List.set_cons_zero, List.set_cons_succ, List.getElem_toArray, List.getElem_cons_zero, List.getElem_cons_succ]
          refine wpAnyH_done (by kernel_rfl) ?_ _
          refine NoPanic.normal ?_
          clear hHeld
          have HDV := Lib.hid (dev_made B gl cl gC cC gF gD gP m W L w25 (HO.out.below HB.out (by rw [HT.out]; exact Nat.le_refl _)) HOC.out HOF.out HOD.out HOP.out hBT hTc hglT hgTC hgTF hgTD hgTP (by omega) (by omega) HW.out)
          have HBX := Lib.hid (HB.out.alloc hTc (.cells #[.slice (some ⟨gl, 0, none⟩) W cl, .slice (some ⟨gC, 0, none⟩) W cC, .slice (some ⟨gF, 0, none⟩) W W, .slice (some ⟨gD, 0, none⟩) m m, .slice (some ⟨gP, 0, none⟩) m m, .int .i64 0, .int .i64 0, .bool false, .bool false] 90))
          go_wp2_with fail
          go_ret
          refine ⟨_, rfl, HDV.out, rfl, rfl, ?_, HT.out ▸ HBX.out⟩
          rintro k (rfl | rfl | rfl | rfl | rfl | rfl)
          · right; rw [HT.out]; exact hTc
          · left; rfl
          · right; rw [HT.out]; exact hgTC
          · right; rw [HT.out]; exact hgTF
          · right; rw [HT.out]; exact hgTD
          · right; rw [HT.out]; exact hgTP
      · go_simp
        refine hK1.out _ _ trivial (fun hHeld => ?_)
        clear hK1 K1
        try simp only [Act.put, List.setIfInBounds_toArray, List.set_cons_zero, List.set_cons_succ, List.getElem_toArray, List.getElem_cons_zero, List.getElem_cons_succ]
        obtain ⟨gP, HgP⟩ : ∃ g, Hid (w23.heap.size = g) := ⟨_, rfl⟩
        have hgTP := hTc
        have hneFP := hltF
        have hneDP := hltD
        rw [HgP.out] at hgTP hneFP hneDP ⊢
        have hneFP := Nat.ne_of_lt hneFP
        have hneDP := Nat.ne_of_lt hneDP
        have HOP := Lib.hid (own_madeB w23 B m gP HgP.out (by omega) (by omega))
        have HOF := Lib.hid (HOF.out.alloc (.cells (madeCells #[.bool false] (m)) 4))
        have hltF : gF < (w23.alloc (.cells (madeCells #[.bool false] (m)) 4)).heap.size := by simp; omega
        have HOD := Lib.hid (HOD.out.alloc (.cells (madeCells #[.bool false] (m)) 4))
        have hltD : gD < (w23.alloc (.cells (madeCells #[.bool false] (m)) 4)).heap.size := by simp; omega
        have hltP : gP < (w23.alloc (.cells (madeCells #[.bool false] (m)) 4)).heap.size := by rw [← HgP.out]; simp
        have HB := Lib.hid (HB.out.alloc hTc (.cells (madeCells #[.bool false] (m)) 4))
        have hTc : T ≤ (w23.alloc (.cells (madeCells #[.bool false] (m)) 4)).heap.size := by simp; omega
        generalize w23.alloc (.cells (madeCells #[.bool false] (m)) 4) = w26 at *
        refine wpAnyH_ready (rs := [2]) (by kernel_rfl) (by simp) ?_
        refine AllReadyH.cons (o := _) rfl (fun K1 hK1 => ?_) (AllReadyH.nil)
        · go_simp
          refine (Hcl.out w26 HB.out).mono ?_
          rintro e w27 ⟨gC, cC, rfl, hOC, hbC⟩
          have hszC : w26.heap.size ≤ gC ∧ gC < w27.heap.size := hOC.lt _ rfl
          have HOC := Lib.hid hOC
          have HBn := Lib.hid (HB.out.trans (hbC.mono hTc))
          have HOF := Lib.hid (HOF.out.below hbC (Nat.le_refl _))
          have hneFC : gF ≠ gC := by omega
          have hltF := Nat.lt_of_lt_of_le hltF hbC.size
          have HOD := Lib.hid (HOD.out.below hbC (Nat.le_refl _))
          have hneDC : gD ≠ gC := by omega
          have hltD := Nat.lt_of_lt_of_le hltD hbC.size
          have HOP := Lib.hid (HOP.out.below hbC (Nat.le_refl _))
          have hnePC : gP ≠ gC := by omega
          have hltP := Nat.lt_of_lt_of_le hltP hbC.size
          have hgTC : T ≤ gC := by omega
          have hltC : gC < w27.heap.size := hszC.2
          have hTc := Nat.le_trans hTc hbC.size
          have HB := HBn
          clear hOC hbC hszC HBn
          go_wp2_with fail
          refine hK1.out _ _ trivial (fun hHeld => ?_)
          clear hK1 K1
          try simp only [Act.put, List.setIfInBounds_toArray, List.set_cons_zero, List.set_cons_succ, List.getElem_toArray, List.getElem_cons_zero, List.getElem_cons_succ]
          refine wpAnyH_take (i := 10) (oi := _) (v := _) rfl (by kernel_rfl) (by kernel_rfl) (by kernel_rfl) (fun _ _ _ h => h) (Or.inl ⟨by rfl, (by intro w hSw; go_simp; try with_reducible rfl)⟩) hHeld ?_
          try simp only [Act.put, List.setIfInBounds_toArray, List.set_cons_zero, List.set_cons_succ, List.getElem_toArray, List.getElem_cons_zero, List.getElem_cons_succ]
          refine wpAnyH_ready (rs := [11]) (by kernel_rfl) (by simp) ?_
          refine AllReadyH.cons (o := _) rfl (fun K1 hK1 => ?_) AllReadyH.nil
          go_simp
          refine hK1.out _ _ trivial (fun hHeld => ?_)
          clear hK1 K1
          try simp only [Act.put, List.setIfInBounds_toArray, List.set_cons_zero, List.set_cons_succ, List.getElem_toArray, List.getElem_cons_zero, List.getElem_cons_succ]
          refine wpAnyH_take (i := 12) (oi := _) (v := _) rfl (by kernel_rfl) (by kernel_rfl) (by kernel_rfl) (fun _ _ _ h => h) (Or.inl ⟨by rfl, (by intro w hSw; go_simp; try with_reducible rfl)⟩) hHeld ?_
          try simp only [Act.put, List.setIfInBounds_toArray, List.set_cons_zero, List.set_cons_succ, List.getElem_toArray, List.getElem_cons_zero, List.getElem_cons_succ]
          refine wpAnyH_done (by kernel_rfl) ?_ _
          refine NoPanic.normal ?_
          clear hHeld
          have HDV := Lib.hid (dev_made B gl cl gC cC gF gD gP m W L w27 (HO.out.below HB.out (by rw [HT.out]; exact Nat.le_refl _)) HOC.out HOF.out HOD.out HOP.out hBT hTc hglT hgTC hgTF hgTD hgTP (by omega) (by omega) HW.out)
          have HBX := Lib.hid (HB.out.alloc hTc (.cells #[.slice (some ⟨gl, 0, none⟩) W cl, .slice (some ⟨gC, 0, none⟩) W cC, .slice (some ⟨gF, 0, none⟩) W W, .slice (some ⟨gD, 0, none⟩) m m, .slice (some ⟨gP, 0, none⟩) m m, .int .i64 0, .int .i64 0, .bool false, .bool false] 90))
          go_wp2_with fail
          go_ret
          refine ⟨_, rfl, HDV.out, rfl, rfl, ?_, HT.out ▸ HBX.out⟩
          rintro k (rfl | rfl | rfl | rfl | rfl | rfl)
          · right; rw [HT.out]; exact hTc
          · left; rfl
          · right; rw [HT.out]; exact hgTC
          · right; rw [HT.out]; exact hgTF
          · right; rw [HT.out]; exact hgTD
          · right; rw [HT.out]; exact hgTP
    · go_simp
      refine hK1.out _ _ trivial (fun hHeld => ?_)
      clear hK1 K1
      try simp only [Act.put, List.setIfInBounds_toArray, List.set_cons_zero, List.set_cons_succ, List.getElem_toArray, List.getElem_cons_zero, List.getElem_cons_succ]
      obtain ⟨gP, HgP⟩ : ∃ g, Hid (w17.heap.size = g) := ⟨_, rfl⟩
      have hgTP := hTc
      have hneFP := hltF
      rw [HgP.out] at hgTP hneFP ⊢
      have hneFP := Nat.ne_of_lt hneFP
      have HOP := Lib.hid (own_madeB w17 B m gP HgP.out (by omega) (by omega))
      have HOF := Lib.hid (HOF.out.alloc (.cells (madeCells #[.bool false] (m)) 4))
      have hltF : gF < (w17.alloc (.cells (madeCells #[.bool false] (m)) 4)).heap.size := by simp; omega
      have hltP : gP < (w17.alloc (.cells (madeCells #[.bool false] (m)) 4)).heap.size := by rw [← HgP.out]; simp
      have HB := Lib.hid (HB.out.alloc hTc (.cells (madeCells #[.bool false] (m)) 4))
      have hTc : T ≤ (w17.alloc (.cells (madeCells #[.bool false] (m)) 4)).heap.size := by simp; omega
      generalize w17.alloc (.cells (madeCells #[.bool false] (m)) 4) = w28 at *
      refine wpAnyH_ready (rs := [2, 7]) (by kernel_rfl) (by simp) ?_
      refine AllReadyH.cons (o := _) rfl (fun K1 hK1 => ?_) (AllReadyH.cons (o := _) rfl (fun K1 hK1 => ?_) (AllReadyH.nil))
      · go_simp
        refine (Hcl.out w28 HB.out).mono ?_
        rintro e w29 ⟨gC, cC, rfl, hOC, hbC⟩
        have hszC : w28.heap.size ≤ gC ∧ gC < w29.heap.size := hOC.lt _ rfl
        have HOC := Lib.hid hOC
        have HBn := Lib.hid (HB.out.trans (hbC.mono hTc))
        have HOF := Lib.hid (HOF.out.below hbC (Nat.le_refl _))
        have hneFC : gF ≠ gC := by omega
        have hltF := Nat.lt_of_lt_of_le hltF hbC.size
        have HOP := Lib.hid (HOP.out.below hbC (Nat.le_refl _))
        have hnePC : gP ≠ gC := by omega
        have hltP := Nat.lt_of_lt_of_le hltP hbC.size
        have hgTC : T ≤ gC := by omega
        have hltC : gC < w29.heap.size := hszC.2
        have hTc := Nat.le_trans hTc hbC.size
        have HB := HBn
        clear hOC hbC hszC HBn
        go_wp2_with fail
        refine hK1.out _ _ trivial (fun hHeld => ?_)
        clear hK1 K1
        try simp only [Act.put, List.setIfInBounds_toArray, List.set_cons_zero, List.set_cons_succ, List.getElem_toArray, List.getElem_cons_zero, List.getElem_cons_succ]
        refine wpAnyH_ready (rs := [7]) (by kernel_rfl) (by simp) ?_
        refine AllReadyH.cons (o := _) rfl (fun K1 hK1 => ?_) (AllReadyH.nil)
        · go_simp
          refine hK1.out _ _ trivial (fun hHeld => ?_)
          clear hK1 K1
          try simp only [Act.put, List.setIfInBounds_toArray, List.set_cons_zero, List.set_cons_succ, List.getElem_toArray, List.getElem_cons_zero, List.getElem_cons_succ]
          obtain ⟨gD, HgD⟩ : ∃ g, Hid (w29.heap.size = g) := ⟨_, rfl⟩
          have hgTD := hTc
          have hneFD := hltF
          have hnePD := hltP
          have hneCD := hltC
          rw [HgD.out] at hgTD hneFD hnePD hneCD ⊢
          have hneFD := Nat.ne_of_lt hneFD
          have hnePD := Nat.ne_of_lt hnePD
          have hneCD := Nat.ne_of_lt hneCD
          have HOD := Lib.hid (own_madeB w29 B m gD HgD.out (by omega) (by omega))
          have HOF := Lib.hid (HOF.out.alloc (.cells (madeCells #[.bool false] (m)) 4))
          have hltF : gF < (w29.alloc (.cells (madeCells #[.bool false] (m)) 4)).heap.size := by simp; omega
          have HOP := Lib.hid (HOP.out.alloc (.cells (madeCells #[.bool false] (m)) 4))
          have hltP : gP < (w29.alloc (.cells (madeCells #[.bool false] (m)) 4)).heap.size := by simp; omega
          have HOC := Lib.hid (HOC.out.alloc (.cells (madeCells #[.bool false] (m)) 4))
          have hltC : gC < (w29.alloc (.cells (madeCells #[.bool false] (m)) 4)).heap.size := by simp; omega
          have hltD : gD < (w29.alloc (.cells (madeCells #[.bool false] (m)) 4)).heap.size := by rw [← HgD.out]; simp
          have HB := Lib.hid (HB.out.alloc hTc (.cells (madeCells #[.bool false] (m)) 4))
          have hTc : T ≤ (w29.alloc (.cells (madeCells #[.bool false] (m)) 4)).heap.size := by simp; omega
          generalize w29.alloc (.cells (madeCells #[.bool false] (m)) 4) = w30 at *
          refine wpAnyH_take (i := 10) (oi := _) (v := _) rfl (by kernel_rfl) (by kernel_rfl) (by kernel_rfl) (fun _ _ _ h => h) (Or.inl ⟨by rfl, (by intro w hSw; go_simp; try with_reducible rfl)⟩) hHeld ?_
          try simp only [Act.put, List.setIfInBounds_toArray, List.set_cons_zero, List.set_cons_succ, List.getElem_toArray, List.getElem_cons_zero, List.getElem_cons_succ]
          refine wpAnyH_ready (rs := [11]) (by kernel_rfl) (by simp) ?_
          refine AllReadyH.cons (o := _) rfl (fun K1 hK1 => ?_) AllReadyH.nil
          go_simp
          refine hK1.out _ _ trivial (fun hHeld => ?_)
          clear hK1 K1
          try simp only [Act.put, List.setIfInBounds_toArray, List.set_cons_zero, List.set_cons_succ, List.getElem_toArray, List.getElem_cons_zero, List.getElem_cons_succ]
          refine wpAnyH_take (i := 12) (oi := _) (v := _) rfl (by kernel_rfl) (by kernel_rfl) (by kernel_rfl) (fun _ _ _ h => h) (Or.inl ⟨by rfl, (by intro w hSw; go_simp; try with_reducible rfl)⟩) hHeld ?_
          try simp only [Act.put, List.setIfInBounds_toArray, List.set_cons_zero, List.set_cons_succ, List.getElem_toArray, List.getElem_cons_zero, List.getElem_cons_succ]
          refine wpAnyH_done (by kernel_rfl) ?_ _
          refine NoPanic.normal ?_
          clear hHeld
          have HDV := Lib.hid (dev_made B gl cl gC cC gF gD gP m W L w30 (HO.out.below HB.out (by rw [HT.out]; exact Nat.le_refl _)) HOC.out HOF.out HOD.out HOP.out hBT hTc hglT hgTC hgTF hgTD hgTP (by omega) (by omega) HW.out)
          have HBX := Lib.hid (HB.out.alloc hTc (.cells #[.slice (some ⟨gl, 0, none⟩) W cl, .slice (some ⟨gC, 0, none⟩) W cC, .slice (some ⟨gF, 0, none⟩) W W, .slice (some ⟨gD, 0, none⟩) m m, .slice (some ⟨gP, 0, none⟩) m m, .int .i64 0, .int .i64 0, .bool false, .bool false] 90))
          go_wp2_with fail
          go_ret
          refine ⟨_, rfl, HDV.out, rfl, rfl, ?_, HT.out ▸ HBX.out⟩
          rintro k (rfl | rfl | rfl | rfl | rfl | rfl)
          · right; rw [HT.out]; exact hTc
          · left; rfl
          · right; rw [HT.out]; exact hgTC
          · right; rw [HT.out]; exact hgTF
          · right; rw [HT.out]; exact hgTD
          · right; rw [HT.out]; exact hgTP
      · go_simp
        refine hK1.out _ _ trivial (fun hHeld => ?_)
        clear hK1 K1
        try simp only [Act.put, List.setIfInBounds_toArray, List.set_cons_zero, List.set_cons_succ, List.getElem_toArray, List.getElem_cons_zero, List.getElem_cons_succ]
        obtain ⟨gD, HgD⟩ : ∃ g, Hid (w28.heap.size = g) := ⟨_, rfl⟩
        have hgTD := hTc
        have hneFD := hltF
        have hnePD := hltP
        rw [HgD.out] at hgTD hneFD hnePD ⊢
        have hneFD := Nat.ne_of_lt hneFD
        have hnePD := Nat.ne_of_lt hnePD
        have HOD := Lib.hid (own_madeB w28 B m gD HgD.out (by omega) (by omega))
        have HOF := Lib.hid (HOF.out.alloc (.cells (madeCells #[.bool false] (m)) 4))
        have hltF : gF < (w28.alloc (.cells (madeCells #[.bool false] (m)) 4)).heap.size := by simp; omega
        have HOP := Lib.hid (HOP.out.alloc (.cells (madeCells #[.bool false] (m)) 4))
        have hltP : gP < (w28.alloc (.cells (madeCells #[.bool false] (m)) 4)).heap.size := by simp; omega
        have hltD : gD < (w28.alloc (.cells (madeCells #[.bool false] (m)) 4)).heap.size := by rw [← HgD.out]; simp
        have HB := Lib.hid (HB.out.alloc hTc (.cells (madeCells #[.bool false] (m)) 4))
        have hTc : T ≤ (w28.alloc (.cells (madeCells #[.bool false] (m)) 4)).heap.size := by simp; omega
        generalize w28.alloc (.cells (madeCells #[.bool false] (m)) 4) = w31 at *
        refine wpAnyH_ready (rs := [2]) (by kernel_rfl) (by simp) ?_
        refine AllReadyH.cons (o := _) rfl (fun K1 hK1 => ?_) (AllReadyH.nil)
        · go_simp
          refine (Hcl.out w31 HB.out).mono ?_
          rintro e w32 ⟨gC, cC, rfl, hOC, hbC⟩
          have hszC : w31.heap.size ≤ gC ∧ gC < w32.heap.size := hOC.lt _ rfl
          have HOC := Lib.hid hOC
          have HBn := Lib.hid (HB.out.trans (hbC.mono hTc))
          have HOF := Lib.hid (HOF.out.below hbC (Nat.le_refl _))
          have hneFC : gF ≠ gC := by omega
          have hltF := Nat.lt_of_lt_of_le hltF hbC.size
          have HOP := Lib.hid (HOP.out.below hbC (Nat.le_refl _))
          have hnePC : gP ≠ gC := by omega
          have hltP := Nat.lt_of_lt_of_le hltP hbC.size
          have HOD := Lib.hid (HOD.out.below hbC (Nat.le_refl _))
          have hneDC : gD ≠ gC := by omega
          have hltD := Nat.lt_of_lt_of_le hltD hbC.size
          have hgTC : T ≤ gC := by omega
          have hltC : gC < w32.heap.size := hszC.2
          have hTc := Nat.le_trans hTc hbC.size
          have HB := HBn
          clear hOC hbC hszC HBn
          go_wp2_with fail
          refine hK1.out _ _ trivial (fun hHeld => ?_)
          clear hK1 K1
          try simp only [Act.put, List.setIfInBounds_toArray, List.set_cons_zero, List.set_cons_succ, List.getElem_toArray, List.getElem_cons_zero, List.getElem_cons_succ]
          refine wpAnyH_take (i := 10) (oi := _) (v := _) rfl (by kernel_rfl) (by kernel_rfl) (by kernel_rfl) (fun _ _ _ h => h) (Or.inl ⟨by rfl, (by intro w hSw; go_simp; try with_reducible rfl)⟩) hHeld ?_
          try simp only [Act.put, List.setIfInBounds_toArray, List.set_cons_zero, List.set_cons_succ, List.getElem_toArray, List.getElem_cons_zero, List.getElem_cons_succ]
          refine wpAnyH_ready (rs := [11]) (by kernel_rfl) (by simp) ?_
          refine AllReadyH.cons (o := _) rfl (fun K1 hK1 => ?_) AllReadyH.nil
          go_simp
          refine hK1.out _ _ trivial (fun hHeld => ?_)
          clear hK1 K1
          try simp only [Act.put, List.setIfInBounds_toArray, List.set_cons_zero, List.set_cons_succ, List.getElem_toArray, List.getElem_cons_zero, List.getElem_cons_succ]
          refine wpAnyH_take (i := 12) (oi := _) (v := _) rfl (by kernel_rfl) (by kernel_rfl) (by kernel_rfl) (fun _ _ _ h => h) (Or.inl ⟨by rfl, (by intro w hSw; go_simp; try with_reducible rfl)⟩) hHeld ?_
          try simp only [Act.put, List.setIfInBounds_toArray, List.set_cons_zero, List.set_cons_succ, List.getElem_toArray, List.getElem_cons_zero, List.getElem_cons_succ]
          refine wpAnyH_done (by kernel_rfl) ?_ _
          refine NoPanic.normal ?_
          clear hHeld
          have HDV := Lib.hid (dev_made B gl cl gC cC gF gD gP m W L w32 (HO.out.below HB.out (by rw [HT.out]; exact Nat.le_refl _)) HOC.out HOF.out HOD.out HOP.out hBT hTc hglT hgTC hgTF hgTD hgTP (by omega) (by omega) HW.out)
          have HBX := Lib.hid (HB.out.alloc hTc (.cells #[.slice (some ⟨gl, 0, none⟩) W cl, .slice (some ⟨gC, 0, none⟩) W cC, .slice (some ⟨gF, 0, none⟩) W W, .slice (some ⟨gD, 0, none⟩) m m, .slice (some ⟨gP, 0, none⟩) m m, .int .i64 0, .int .i64 0, .bool false, .bool false] 90))
          go_wp2_with fail
          go_ret
          refine ⟨_, rfl, HDV.out, rfl, rfl, ?_, HT.out ▸ HBX.out⟩
          rintro k (rfl | rfl | rfl | rfl | rfl | rfl)
          · right; rw [HT.out]; exact hTc
          · left; rfl
          · right; rw [HT.out]; exact hgTC
          · right; rw [HT.out]; exact hgTF
          · right; rw [HT.out]; exact hgTD
          · right; rw [HT.out]; exact hgTP
  · go_simp
    refine hK1.out _ _ trivial (fun hHeld => ?_)
    clear hK1 K1
    try simp only [Act.put, List.setIfInBounds_toArray, List.set_cons_zero, List.set_cons_succ, List.getElem_toArray, List.getElem_cons_zero, List.getElem_cons_succ]
    obtain ⟨gD, HgD⟩ : ∃ g, Hid (wS.heap.size = g) := ⟨_, rfl⟩
    have hgTD := hTc
    rw [HgD.out] at hgTD ⊢
    have HOD := Lib.hid (own_madeB wS B m gD HgD.out (by omega) (by omega))
    have hltD : gD < (wS.alloc (.cells (madeCells #[.bool false] (m)) 4)).heap.size := by rw [← HgD.out]; simp
    have HB := Lib.hid (HB.out.alloc hTc (.cells (madeCells #[.bool false] (m)) 4))
    have hTc : T ≤ (wS.alloc (.cells (madeCells #[.bool false] (m)) 4)).heap.size := by simp; omega
    generalize wS.alloc (.cells (madeCells #[.bool false] (m)) 4) = w33 at *
    refine wpAnyH_ready (rs := [2, 5, 9]) (by kernel_rfl) (by simp) ?_
    refine AllReadyH.cons (o := _) rfl (fun K1 hK1 => ?_) (AllReadyH.cons (o := _) rfl (fun K1 hK1 => ?_) (AllReadyH.cons (o := _) rfl (fun K1 hK1 => ?_) (AllReadyH.nil)))
    · go_simp
      refine (Hcl.out w33 HB.out).mono ?_
      rintro e w34 ⟨gC, cC, rfl, hOC, hbC⟩
      have hszC : w33.heap.size ≤ gC ∧ gC < w34.heap.size := hOC.lt _ rfl
      have HOC := Lib.hid hOC
      have HBn := Lib.hid (HB.out.trans (hbC.mono hTc))
      have HOD := Lib.hid (HOD.out.below hbC (Nat.le_refl _))
      have hneDC : gD ≠ gC := by omega
      have hltD := Nat.lt_of_lt_of_le hltD hbC.size
      have hgTC : T ≤ gC := by omega
      have hltC : gC < w34.heap.size := hszC.2
      have hTc := Nat.le_trans hTc hbC.size
      have HB := HBn
      clear hOC hbC hszC HBn
      go_wp2_with fail
      refine hK1.out _ _ trivial (fun hHeld => ?_)
      clear hK1 K1
      try simp only [Act.put, List.setIfInBounds_toArray, List.set_cons_zero, List.set_cons_succ, List.getElem_toArray, List.getElem_cons_zero, List.getElem_cons_succ]
      refine wpAnyH_ready (rs := [5, 9]) (by kernel_rfl) (by simp) ?_
      refine AllReadyH.cons (o := _) rfl (fun K1 hK1 => ?_) (AllReadyH.cons (o := _) rfl (fun K1 hK1 => ?_) (AllReadyH.nil))
      · go_simp
        refine hK1.out _ _ trivial (fun hHeld => ?_)
        clear hK1 K1
        try simp only [Act.put, List.setIfInBounds_toArray, List.set_cons_zero, List.set_cons_succ, List.getElem_toArray, List.getElem_cons_zero, List.getElem_cons_succ]
        obtain ⟨gF, HgF⟩ : ∃ g, Hid (w34.heap.size = g) := ⟨_, rfl⟩
        have hgTF := hTc
        have hneDF := hltD
        have hneCF := hltC
        rw [HgF.out] at hgTF hneDF hneCF ⊢
        have hneDF := Nat.ne_of_lt hneDF
        have hneCF := Nat.ne_of_lt hneCF
        have HOF := Lib.hid (own_madeW w34 B W gF HgF.out (by omega) (by omega))
        have HOD := Lib.hid (HOD.out.alloc (.cells (madeCells #[.int .u64 0] (W)) 28))
        have hltD : gD < (w34.alloc (.cells (madeCells #[.int .u64 0] (W)) 28)).heap.size := by simp; omega
        have HOC := Lib.hid (HOC.out.alloc (.cells (madeCells #[.int .u64 0] (W)) 28))
        have hltC : gC < (w34.alloc (.cells (madeCells #[.int .u64 0] (W)) 28)).heap.size := by simp; omega
        have hltF : gF < (w34.alloc (.cells (madeCells #[.int .u64 0] (W)) 28)).heap.size := by rw [← HgF.out]; simp
        have HB := Lib.hid (HB.out.alloc hTc (.cells (madeCells #[.int .u64 0] (W)) 28))
        have hTc : T ≤ (w34.alloc (.cells (madeCells #[.int .u64 0] (W)) 28)).heap.size := by simp; omega
        generalize w34.alloc (.cells (madeCells #[.int .u64 0] (W)) 28) = w35 at *
        refine wpAnyH_ready (rs := [9]) (by kernel_rfl) (by simp) ?_
        refine AllReadyH.cons (o := _) rfl (fun K1 hK1 => ?_) (AllReadyH.nil)
        · go_simp
          refine hK1.out _ _ trivial (fun hHeld => ?_)
          clear hK1 K1
          try simp only [Act.put, List.setIfInBounds_toArray, List.set_cons_zero, List.set_cons_succ, List.getElem_toArray, List.getElem_cons_zero, List.getElem_cons_succ]
          obtain ⟨gP, HgP⟩ : ∃ g, Hid (w35.heap.size = g) := ⟨_, rfl⟩
          have hgTP := hTc
          have hneDP := hltD
          have hneCP := hltC
          have hneFP := hltF
          rw [HgP.out] at hgTP hneDP hneCP hneFP ⊢
          have hneDP := Nat.ne_of_lt hneDP
          have hneCP := Nat.ne_of_lt hneCP
          have hneFP := Nat.ne_of_lt hneFP
          have HOP := Lib.hid (own_madeB w35 B m gP HgP.out (by omega) (by omega))
          have HOD := Lib.hid (HOD.out.alloc (.cells (madeCells #[.bool false] (m)) 4))
          have hltD : gD < (w35.alloc (.cells (madeCells #[.bool false] (m)) 4)).heap.size := by simp; omega
          have HOC := Lib.hid (HOC.out.alloc (.cells (madeCells #[.bool false] (m)) 4))
          have hltC : gC < (w35.alloc (.cells (madeCells #[.bool false] (m)) 4)).heap.size := by simp; omega
          have HOF := Lib.hid (HOF.out.alloc (.cells (madeCells #[.bool false] (m)) 4))
          have hltF : gF < (w35.alloc (.cells (madeCells #[.bool false] (m)) 4)).heap.size := by simp; omega
          have hltP : gP < (w35.alloc (.cells (madeCells #[.bool false] (m)) 4)).heap.size := by rw [← HgP.out]; simp
          have HB := Lib.hid (HB.out.alloc hTc (.cells (madeCells #[.bool false] (m)) 4))
          have hTc : T ≤ (w35.alloc (.cells (madeCells #[.bool false] (m)) 4)).heap.size := by simp; omega
          generalize w35.alloc (.cells (madeCells #[.bool false] (m)) 4) = w36 at *
          refine wpAnyH_take (i := 10) (oi := _) (v := _) rfl (by kernel_rfl) (by kernel_rfl) (by kernel_rfl) (fun _ _ _ h => h) (Or.inl ⟨by rfl, (by intro w hSw; go_simp; try with_reducible rfl)⟩) hHeld ?_
          try simp only [Act.put, List.setIfInBounds_toArray, List.set_cons_zero, List.set_cons_succ, List.getElem_toArray, List.getElem_cons_zero, List.getElem_cons_succ]
          refine wpAnyH_ready (rs := [11]) (by kernel_rfl) (by simp) ?_
          refine AllReadyH.cons (o := _) rfl (fun K1 hK1 => ?_) AllReadyH.nil
          go_simp
          refine hK1.out _ _ trivial (fun hHeld => ?_)
          clear hK1 K1
          try simp only [Act.put, List.setIfInBounds_toArray, List.set_cons_zero, List.set_cons_succ, List.getElem_toArray, List.getElem_cons_zero, List.getElem_cons_succ]
          refine wpAnyH_take (i := 12) (oi := _) (v := _) rfl (by kernel_rfl) (by kernel_rfl) (by kernel_rfl) (fun _ _ _ h => h) (Or.inl ⟨by rfl, (by intro w hSw; go_simp; try with_reducible rfl)⟩) hHeld ?_
          try simp only [Act.put, List.setIfInBounds_toArray, List.set_cons_zero, List.set_cons_succ, List.getElem_toArray, List.getElem_cons_zero, List.getElem_cons_succ]
          refine wpAnyH_done (by kernel_rfl) ?_ _
          refine NoPanic.normal ?_
          clear hHeld
          have HDV := Lib.hid (dev_made B gl cl gC cC gF gD gP m W L w36 (HO.out.below HB.out (by rw [HT.out]; exact Nat.le_refl _)) HOC.out HOF.out HOD.out HOP.out hBT hTc hglT hgTC hgTF hgTD hgTP (by omega) (by omega) HW.out)
          have HBX := Lib.hid (HB.out.alloc hTc (.cells #[.slice (some ⟨gl, 0, none⟩) W cl, .slice (some ⟨gC, 0, none⟩) W cC, .slice (some ⟨gF, 0, none⟩) W W, .slice (some ⟨gD, 0, none⟩) m m, .slice (some ⟨gP, 0, none⟩) m m, .int .i64 0, .int .i64 0, .bool false, .bool false] 90))
          go_wp2_with fail
          go_ret
          refine ⟨_, rfl, HDV.out, rfl, rfl, ?_, HT.out ▸ HBX.out⟩
          rintro k (rfl | rfl | rfl | rfl | rfl | rfl)
          · right; rw [HT.out]; exact hTc
          · left; rfl
          · right; rw [HT.out]; exact hgTC
          · right; rw [HT.out]; exact hgTF
          · right; rw [HT.out]; exact hgTD
          · right; rw [HT.out]; exact hgTP
      · go_simp
        refine hK1.out _ _ trivial (fun hHeld => ?_)
        clear hK1 K1
        try simp only [Act.put, List.setIfInBounds_toArray, List.set_cons_zero, List.set_cons_succ, List.getElem_toArray, List.getElem_cons_zero, List.getElem_cons_succ]
        obtain ⟨gP, HgP⟩ : ∃ g, Hid (w34.heap.size = g) := ⟨_, rfl⟩
        have hgTP := hTc
        have hneDP := hltD
        have hneCP := hltC
        rw [HgP.out] at hgTP hneDP hneCP ⊢
        have hneDP := Nat.ne_of_lt hneDP
        have hneCP := Nat.ne_of_lt hneCP
        have HOP := Lib.hid (own_madeB w34 B m gP HgP.out (by omega) (by omega))
        have HOD := Lib.hid (HOD.out.alloc (.cells (madeCells #[.bool false] (m)) 4))
        have hltD : gD < (w34.alloc (.cells (madeCells #[.bool false] (m)) 4)).heap.size := by simp; omega
        have HOC := Lib.hid (HOC.out.alloc (.cells (madeCells #[.bool false] (m)) 4))
        have hltC : gC < (w34.alloc (.cells (madeCells #[.bool false] (m)) 4)).heap.size := by simp; omega
        have hltP : gP < (w34.alloc (.cells (madeCells #[.bool false] (m)) 4)).heap.size := by rw [← HgP.out]; simp
        have HB := Lib.hid (HB.out.alloc hTc (.cells (madeCells #[.bool false] (m)) 4))
        have hTc : T ≤ (w34.alloc (.cells (madeCells #[.bool false] (m)) 4)).heap.size := by simp; omega
        generalize w34.alloc (.cells (madeCells #[.bool false] (m)) 4) = w37 at *
        refine wpAnyH_ready (rs := [5]) (by kernel_rfl) (by simp) ?_
        refine AllReadyH.cons (o := _) rfl (fun K1 hK1 => ?_) (AllReadyH.nil)
        · go_simp
          refine hK1.out _ _ trivial (fun hHeld => ?_)
          clear hK1 K1
          try simp only [Act.put, List.setIfInBounds_toArray, List.set_cons_zero, List.set_cons_succ, List.getElem_toArray, List.getElem_cons_zero, List.getElem_cons_succ]
          obtain ⟨gF, HgF⟩ : ∃ g, Hid (w37.heap.size = g) := ⟨_, rfl⟩
          have hgTF := hTc
          have hneDF := hltD
          have hneCF := hltC
          have hnePF := hltP
          rw [HgF.out] at hgTF hneDF hneCF hnePF ⊢
          have hneDF := Nat.ne_of_lt hneDF
          have hneCF := Nat.ne_of_lt hneCF
          have hnePF := Nat.ne_of_lt hnePF
          have HOF := Lib.hid (own_madeW w37 B W gF HgF.out (by omega) (by omega))
          have HOD := Lib.hid (HOD.out.alloc (.cells (madeCells #[.int .u64 0] (W)) 28))
          have hltD : gD < (w37.alloc (.cells (madeCells #[.int .u64 0] (W)) 28)).heap.size := by simp; omega
          have HOC := Lib.hid (HOC.out.alloc (.cells (madeCells #[.int .u64 0] (W)) 28))
          have hltC : gC < (w37.alloc (.cells (madeCells #[.int .u64 0] (W)) 28)).heap.size := by simp; omega
          have HOP := Lib.hid (HOP.out.alloc (.cells (madeCells #[.int .u64 0] (W)) 28))
          have hltP : gP < (w37.alloc (.cells (madeCells #[.int .u64 0] (W)) 28)).heap.size := by simp; omega
          have hltF : gF < (w37.alloc (.cells (madeCells #[.int .u64 0] (W)) 28)).heap.size := by rw [← HgF.out]; simp
          have HB := Lib.hid (HB.out.alloc hTc (.cells (madeCells #[.int .u64 0] (W)) 28))
          have hTc : T ≤ (w37.alloc (.cells (madeCells #[.int .u64 0] (W)) 28)).heap.size := by simp; omega
          generalize w37.alloc (.cells (madeCells #[.int .u64 0] (W)) 28) = w38 at *
          refine wpAnyH_take (i := 10) (oi := _) (v := _) rfl (by kernel_rfl) (by kernel_rfl) (by kernel_rfl) (fun _ _ _ h => h) (Or.inl ⟨by rfl, (by intro w hSw; go_simp; try with_reducible rfl)⟩) hHeld ?_
          try simp only [Act.put, List.setIfInBounds_toArray, List.set_cons_zero, List.set_cons_succ, List.getElem_toArray, List.getElem_cons_zero, List.getElem_cons_succ]
          refine wpAnyH_ready (rs := [11]) (by kernel_rfl) (by simp) ?_
          refine AllReadyH.cons (o := _) rfl (fun K1 hK1 => ?_) AllReadyH.nil
          go_simp
          refine hK1.out _ _ trivial (fun hHeld => ?_)
          clear hK1 K1
          try simp only [Act.put, List.setIfInBounds_toArray, List.set_cons_zero, List.set_cons_succ, List.getElem_toArray, List.getElem_cons_zero, List.getElem_cons_succ]
          refine wpAnyH_take (i := 12) (oi := _) (v := _) rfl (by kernel_rfl) (by kernel_rfl) (by kernel_rfl) (fun _ _ _ h => h) (Or.inl ⟨by rfl, (by intro w hSw; go_simp; try with_reducible rfl)⟩) hHeld ?_
          try simp only [Act.put, List.setIfInBounds_toArray, List.set_cons_zero, List.set_cons_succ, List.getElem_toArray, List.getElem_cons_zero, List.getElem_cons_succ]
          refine wpAnyH_done (by kernel_rfl) ?_ _
          refine NoPanic.normal ?_
          clear hHeld
          have HDV := Lib.hid (dev_made B gl cl gC cC gF gD gP m W L w38 (HO.out.below HB.out (by rw [HT.out]; exact Nat.le_refl _)) HOC.out HOF.out HOD.out HOP.out hBT hTc hglT hgTC hgTF hgTD hgTP (by omega) (by omega) HW.out)
          have HBX := Lib.hid (HB.out.alloc hTc (.cells #[.slice (some ⟨gl, 0, none⟩) W cl, .slice (some ⟨gC, 0, none⟩) W cC, .slice (some ⟨gF, 0, none⟩) W W, .slice (some ⟨gD, 0, none⟩) m m, .slice (some ⟨gP, 0, none⟩) m m, .int .i64 0, .int .i64 0, .bool false, .bool false] 90))
          go_wp2_with fail
          go_ret
          refine ⟨_, rfl, HDV.out, rfl, rfl, ?_, HT.out ▸ HBX.out⟩
          rintro k (rfl | rfl | rfl | rfl | rfl | rfl)
          · right; rw [HT.out]; exact hTc
          · left; rfl
          · right; rw [HT.out]; exact hgTC
          · right; rw [HT.out]; exact hgTF
          · right; rw [HT.out]; exact hgTD
          · right; rw [HT.out]; exact hgTP
    · go_simp
      refine hK1.out _ _ trivial (fun hHeld => ?_)
      clear hK1 K1
      try simp only [Act.put, List.setIfInBounds_toArray, List.set_cons_zero, List.set_cons_succ, List.getElem_toArray, List.getElem_cons_zero, List.getElem_cons_succ]
      obtain ⟨gF, HgF⟩ : ∃ g, Hid (w33.heap.size = g) := ⟨_, rfl⟩
      have hgTF := hTc
      have hneDF := hltD
      rw [HgF.out] at hgTF hneDF ⊢
      have hneDF := Nat.ne_of_lt hneDF
      have HOF := Lib.hid (own_madeW w33 B W gF HgF.out (by omega) (by omega))
      have HOD := Lib.hid (HOD.out.alloc (.cells (madeCells #[.int .u64 0] (W)) 28))
      have hltD : gD < (w33.alloc (.cells (madeCells #[.int .u64 0] (W)) 28)).heap.size := by simp; omega
      have hltF : gF < (w33.alloc (.cells (madeCells #[.int .u64 0] (W)) 28)).heap.size := by rw [← HgF.out]; simp
      have HB := Lib.hid (HB.out.alloc hTc (.cells (madeCells #[.int .u64 0] (W)) 28))
      have hTc : T ≤ (w33.alloc (.cells (madeCells #[.int .u64 0] (W)) 28)).heap.size := by simp; omega
      generalize w33.alloc (.cells (madeCells #[.int .u64 0] (W)) 28) = w39 at *
      refine wpAnyH_ready (rs := [2, 9]) (by kernel_rfl) (by simp) ?_
      refine AllReadyH.cons (o := _) rfl (fun K1 hK1 => ?_) (AllReadyH.cons (o := _) rfl (fun K1 hK1 => ?_) (AllReadyH.nil))
      · go_simp
        refine (Hcl.out w39 HB.out).mono ?_
        rintro e w40 ⟨gC, cC, rfl, hOC, hbC⟩
        have hszC : w39.heap.size ≤ gC ∧ gC < w40.heap.size := hOC.lt _ rfl
        have HOC := Lib.hid hOC
        have HBn := Lib.hid (HB.out.trans (hbC.mono hTc))
        have HOD := Lib.hid (HOD.out.below hbC (Nat.le_refl _))
        have hneDC : gD ≠ gC := by omega
        have hltD := Nat.lt_of_lt_of_le hltD hbC.size
        have HOF := Lib.hid (HOF.out.below hbC (Nat.le_refl _))
        have hneFC : gF ≠ gC := by omega
        have hltF := Nat.lt_of_lt_of_le hltF hbC.size
        have hgTC : T ≤ gC := by omega
        have hltC : gC < w40.heap.size := hszC.2
        have hTc := Nat.le_trans hTc hbC.size
        have HB := HBn
        clear hOC hbC hszC HBn
        go_wp2_with fail
        refine hK1.out _ _ trivial (fun hHeld => ?_)
        clear hK1 K1
        try simp only [Act.put, List.setIfInBounds_toArray, List.set_cons_zero, List.set_cons_succ, List.getElem_toArray, List.getElem_cons_zero, List.getElem_cons_succ]
        refine wpAnyH_ready (rs := [9]) (by kernel_rfl) (by simp) ?_
        refine AllReadyH.cons (o := _) rfl (fun K1 hK1 => ?_) (AllReadyH.nil)
        · go_simp
          refine hK1.out _ _ trivial (fun hHeld => ?_)
          clear hK1 K1
          try simp only [Act.put, List.setIfInBounds_toArray, List.set_cons_zero, List.set_cons_succ, List.getElem_toArray, List.getElem_cons_zero, List.getElem_cons_succ]
          obtain ⟨gP, HgP⟩ : ∃ g, Hid (w40.heap.size = g) := ⟨_, rfl⟩
          have hgTP := hTc
          have hneDP := hltD
          have hneFP := hltF
          have hneCP := hltC
          rw [HgP.out] at hgTP hneDP hneFP hneCP ⊢
          have hneDP := Nat.ne_of_lt hneDP
          have hneFP := Nat.ne_of_lt hneFP
          have hneCP := Nat.ne_of_lt hneCP
          have HOP := Lib.hid (own_madeB w40 B m gP HgP.out (by omega) (by omega))
          have HOD := Lib.hid (HOD.out.alloc (.cells (madeCells #[.bool false] (m)) 4))
          have hltD : gD < (w40.alloc (.cells (madeCells #[.bool false] (m)) 4)).heap.size := by simp; omega
          have HOF := Lib.hid (HOF.out.alloc (.cells (madeCells #[.bool false] (m)) 4))
          have hltF : gF < (w40.alloc (.cells (madeCells #[.bool false] (m)) 4)).heap.size := by simp; omega
          have HOC := Lib.hid (HOC.out.alloc (.cells (madeCells #[.bool false] (m)) 4))
          have hltC : gC < (w40.alloc (.cells (madeCells #[.bool false] (m)) 4)).heap.size := by simp; omega
          have hltP : gP < (w40.alloc (.cells (madeCells #[.bool false] (m)) 4)).heap.size := by rw [← HgP.out]; simp
          have HB := Lib.hid (HB.out.alloc hTc (.cells (madeCells #[.bool false] (m)) 4))
          have hTc : T ≤ (w40.alloc (.cells (madeCells #[.bool false] (m)) 4)).heap.size := by simp; omega
          generalize w40.alloc (.cells (madeCells #[.bool false] (m)) 4) = w41 at *
          refine wpAnyH_take (i := 10) (oi := _) (v := _) rfl (by kernel_rfl) (by kernel_rfl) (by kernel_rfl) (fun _ _ _ h => h) (Or.inl ⟨by rfl, (by intro w hSw; go_simp; try with_reducible rfl)⟩) hHeld ?_
          try simp only [Act.put, List.setIfInBounds_toArray, List.set_cons_zero, List.set_cons_succ, List.getElem_toArray, List.getElem_cons_zero, List.getElem_cons_succ]
          refine wpAnyH_ready (rs := [11]) (by kernel_rfl) (by simp) ?_
          refine AllReadyH.cons (o := _) rfl (fun K1 hK1 => ?_) AllReadyH.nil
          go_simp
          refine hK1.out _ _ trivial (fun hHeld => ?_)
          clear hK1 K1
          try simp only [Act.put, List.setIfInBounds_toArray, List.set_cons_zero, List.set_cons_succ, List.getElem_toArray, List.getElem_cons_zero, List.getElem_cons_succ]
          refine wpAnyH_take (i := 12) (oi := _) (v := _) rfl (by kernel_rfl) (by kernel_rfl) (by kernel_rfl) (fun _ _ _ h => h) (Or.inl ⟨by rfl, (by intro w hSw; go_simp; try with_reducible rfl)⟩) hHeld ?_
          try simp only [Act.put, List.setIfInBounds_toArray, List.set_cons_zero, List.set_cons_succ, List.getElem_toArray, List.getElem_cons_zero, List.getElem_cons_succ]
          refine wpAnyH_done (by kernel_rfl) ?_ _
          refine NoPanic.normal ?_
          clear hHeld
          have HDV := Lib.hid (dev_made B gl cl gC cC gF gD gP m W L w41 (HO.out.below HB.out (by rw [HT.out]; exact Nat.le_refl _)) HOC.out HOF.out HOD.out HOP.out hBT hTc hglT hgTC hgTF hgTD hgTP (by omega) (by omega) HW.out)
          have HBX := Lib.hid (HB.out.alloc hTc (.cells #[.slice (some ⟨gl, 0, none⟩) W cl, .slice (some ⟨gC, 0, none⟩) W cC, .slice (some ⟨gF, 0, none⟩) W W, .slice (some ⟨gD, 0, none⟩) m m, .slice (some ⟨gP, 0, none⟩) m m, .int .i64 0, .int .i64 0, .bool false, .bool false] 90))
          go_wp2_with fail
          go_ret
          refine ⟨_, rfl, HDV.out, rfl, rfl, ?_, HT.out ▸ HBX.out⟩
          rintro k (rfl | rfl | rfl | rfl | rfl | rfl)
          · right; rw [HT.out]; exact hTc
          · left; rfl
          · right; rw [HT.out]; exact hgTC
          · right; rw [HT.out]; exact hgTF
          · right; rw [HT.out]; exact hgTD
          · right; rw [HT.out]; exact hgTP
      · go_simp
        refine hK1.out _ _ trivial (fun hHeld => ?_)
        clear hK1 K1
        try simp only [Act.put, List.setIfInBounds_toArray, List.set_cons_zero, List.set_cons_succ, List.getElem_toArray, List.getElem_cons_zero, List.getElem_cons_succ]
        obtain ⟨gP, HgP⟩ : ∃ g, Hid (w39.heap.size = g) := ⟨_, rfl⟩
        have hgTP := hTc
        have hneDP := hltD
        have hneFP := hltF
        rw [HgP.out] at hgTP hneDP hneFP ⊢
        have hneDP := Nat.ne_of_lt hneDP
        have hneFP := Nat.ne_of_lt hneFP
        have HOP := Lib.hid (own_madeB w39 B m gP HgP.out (by omega) (by omega))
        have HOD := Lib.hid (HOD.out.alloc (.cells (madeCells #[.bool false] (m)) 4))
        have hltD : gD < (w39.alloc (.cells (madeCells #[.bool false] (m)) 4)).heap.size := by simp; omega
        have HOF := Lib.hid (HOF.out.alloc (.cells (madeCells #[.bool false] (m)) 4))
        have hltF : gF < (w39.alloc (.cells (madeCells #[.bool false] (m)) 4)).heap.size := by simp; omega
        have hltP : gP < (w39.alloc (.cells (madeCells #[.bool false] (m)) 4)).heap.size := by rw [← HgP.out]; simp
        have HB := Lib.hid (HB.out.alloc hTc (.cells (madeCells #[.bool false] (m)) 4))
        have hTc : T ≤ (w39.alloc (.cells (madeCells #[.bool false] (m)) 4)).heap.size := by simp; omega
        generalize w39.alloc (.cells (madeCells #[.bool false] (m)) 4) = w42 at *
        refine wpAnyH_ready (rs := [2]) (by kernel_rfl) (by simp) ?_
        refine AllReadyH.cons (o := _) rfl (fun K1 hK1 => ?_) (AllReadyH.nil)
        · go_simp
          refine (Hcl.out w42 HB.out).mono ?_
          rintro e w43 ⟨gC, cC, rfl, hOC, hbC⟩
          have hszC : w42.heap.size ≤ gC ∧ gC < w43.heap.size := hOC.lt _ rfl
          have HOC := Lib.hid hOC
          have HBn := Lib.hid (HB.out.trans (hbC.mono hTc))
          have HOD := Lib.hid (HOD.out.below hbC (Nat.le_refl _))
          have hneDC : gD ≠ gC := by omega
          have hltD := Nat.lt_of_lt_of_le hltD hbC.size
          have HOF := Lib.hid (HOF.out.below hbC (Nat.le_refl _))
          have hneFC : gF ≠ gC := by omega
          have hltF := Nat.lt_of_lt_of_le hltF hbC.size
          have HOP := Lib.hid (HOP.out.below hbC (Nat.le_refl _))
          have hnePC : gP ≠ gC := by omega
          have hltP := Nat.lt_of_lt_of_le hltP hbC.size
          have hgTC : T ≤ gC := by omega
          have hltC : gC < w43.heap.size := hszC.2
          have hTc := Nat.le_trans hTc hbC.size
          have HB := HBn
          clear hOC hbC hszC HBn
          go_wp2_with fail
          refine hK1.out _ _ trivial (fun hHeld => ?_)
          clear hK1 K1
          try simp only [Act.put, List.setIfInBounds_toArray, List.set_cons_zero, List.set_cons_succ, List.getElem_toArray, List.getElem_cons_zero, List.getElem_cons_succ]
          refine wpAnyH_take (i := 10) (oi := _) (v := _) rfl (by kernel_rfl) (by kernel_rfl) (by kernel_rfl) (fun _ _ _ h => h) (Or.inl ⟨by rfl, (by intro w hSw; go_simp; try with_reducible rfl)⟩) hHeld ?_
          try simp only [Act.put, List.setIfInBounds_toArray, List.set_cons_zero, List.set_cons_succ, List.getElem_toArray, List.getElem_cons_zero, List.getElem_cons_succ]
          refine wpAnyH_ready (rs := [11]) (by kernel_rfl) (by simp) ?_
          refine AllReadyH.cons (o := _) rfl (fun K1 hK1 => ?_) AllReadyH.nil
          go_simp
          refine hK1.out _ _ trivial (fun hHeld => ?_)
          clear hK1 K1
          try simp only [Act.put, List.setIfInBounds_toArray, List.set_cons_zero, List.set_cons_succ, List.getElem_toArray, List.getElem_cons_zero, List.getElem_cons_succ]
          refine wpAnyH_take (i := 12) (oi := _) (v := _) rfl (by kernel_rfl) (by kernel_rfl) (by kernel_rfl) (fun _ _ _ h => h) (Or.inl ⟨by rfl, (by intro w hSw; go_simp; try with_reducible rfl)⟩) hHeld ?_
          try simp only [Act.put, List.setIfInBounds_toArray, List.set_cons_zero, List.set_cons_succ, List.getElem_toArray, List.getElem_cons_zero, List.getElem_cons_succ]
          refine wpAnyH_done (by kernel_rfl) ?_ _
          refine NoPanic.normal ?_
          clear hHeld
          have HDV := Lib.hid (dev_made B gl cl gC cC gF gD gP m W L w43 (HO.out.below HB.out (by rw [HT.out]; exact Nat.le_refl _)) HOC.out HOF.out HOD.out HOP.out hBT hTc hglT hgTC hgTF hgTD hgTP (by omega) (by omega) HW.out)
          have HBX := Lib.hid (HB.out.alloc hTc (.cells #[.slice (some ⟨gl, 0, none⟩) W cl, .slice (some ⟨gC, 0, none⟩) W cC, .slice (some ⟨gF, 0, none⟩) W W, .slice (some ⟨gD, 0, none⟩) m m, .slice (some ⟨gP, 0, none⟩) m m, .int .i64 0, .int .i64 0, .bool false, .bool false] 90))
          go_wp2_with fail
          go_ret
          refine ⟨_, rfl, HDV.out, rfl, rfl, ?_, HT.out ▸ HBX.out⟩
          rintro k (rfl | rfl | rfl | rfl | rfl | rfl)
          · right; rw [HT.out]; exact hTc
          · left; rfl
          · right; rw [HT.out]; exact hgTC
          · right; rw [HT.out]; exact hgTF
          · right; rw [HT.out]; exact hgTD
          · right; rw [HT.out]; exact hgTP
    · go_simp
      refine hK1.out _ _ trivial (fun hHeld => ?_)
      clear hK1 K1
      try simp only [Act.put, List.setIfInBounds_toArray, List.set_cons_zero, List.set_cons_succ, List.getElem_toArray, List.getElem_cons_zero, List.getElem_cons_succ]
      obtain ⟨gP, HgP⟩ : ∃ g, Hid (w33.heap.size = g) := ⟨_, rfl⟩
      have hgTP := hTc
      have hneDP := hltD
      rw [HgP.out] at hgTP hneDP ⊢
      have hneDP := Nat.ne_of_lt hneDP
      have HOP := Lib.hid (own_madeB w33 B m gP HgP.out (by omega) (by omega))
      have HOD := Lib.hid (HOD.out.alloc (.cells (madeCells #[.bool false] (m)) 4))
      have hltD : gD < (w33.alloc (.cells (madeCells #[.bool false] (m)) 4)).heap.size := by simp; omega
      have hltP : gP < (w33.alloc (.cells (madeCells #[.bool false] (m)) 4)).heap.size := by rw [← HgP.out]; simp
      have HB := Lib.hid (HB.out.alloc hTc (.cells (madeCells #[.bool false] (m)) 4))
      have hTc : T ≤ (w33.alloc (.cells (madeCells #[.bool false] (m)) 4)).heap.size := by simp; omega
      generalize w33.alloc (.cells (madeCells #[.bool false] (m)) 4) = w44 at *
      refine wpAnyH_ready (rs := [2, 5]) (by kernel_rfl) (by simp) ?_
      refine AllReadyH.cons (o := _) rfl (fun K1 hK1 => ?_) (AllReadyH.cons (o := _) rfl (fun K1 hK1 => ?_) (AllReadyH.nil))
      · go_simp
        refine (Hcl.out w44 HB.out).mono ?_
        rintro e w45 ⟨gC, cC, rfl, hOC, hbC⟩
        have hszC : w44.heap.size ≤ gC ∧ gC < w45.heap.size := hOC.lt _ rfl
        have HOC := Lib.hid hOC
        have HBn := Lib.hid (HB.out.trans (hbC.mono hTc))
        have HOD := Lib.hid (HOD.out.below hbC (Nat.le_refl _))
        have hneDC : gD ≠ gC := by omega
        have hltD := Nat.lt_of_lt_of_le hltD hbC.size
        have HOP := Lib.hid (HOP.out.below hbC (Nat.le_refl _))
        have hnePC : gP ≠ gC := by omega
        have hltP := Nat.lt_of_lt_of_le hltP hbC.size
        have hgTC : T ≤ gC := by omega
        have hltC : gC < w45.heap.size := hszC.2
        have hTc := Nat.le_trans hTc hbC.size
        have HB := HBn
        clear hOC hbC hszC HBn
        go_wp2_with fail
        refine hK1.out _ _ trivial (fun hHeld => ?_)
        clear hK1 K1
        try simp only [Act.put, List.setIfInBounds_toArray, List.set_cons_zero, List.set_cons_succ, List.getElem_toArray, List.getElem_cons_zero, List.getElem_cons_succ]
        refine wpAnyH_ready (rs := [5]) (by kernel_rfl) (by simp) ?_
        refine AllReadyH.cons (o := _) rfl (fun K1 hK1 => ?_) (AllReadyH.nil)
        · go_simp
          refine hK1.out _ _ trivial (fun hHeld => ?_)
          clear hK1 K1
          try simp only [Act.put, List.setIfInBounds_toArray, List.set_cons_zero, List.set_cons_succ, List.getElem_toArray, List.getElem_cons_zero, List.getElem_cons_succ]
          obtain ⟨gF, HgF⟩ : ∃ g, Hid (w45.heap.size = g) := ⟨_, rfl⟩
          have hgTF := hTc
          have hneDF := hltD
          have hnePF := hltP
          have hneCF := hltC
          rw [HgF.out] at hgTF hneDF hnePF hneCF ⊢
          have hneDF := Nat.ne_of_lt hneDF
          have hnePF := Nat.ne_of_lt hnePF
          have hneCF := Nat.ne_of_lt hneCF
          have HOF := Lib.hid (own_madeW w45 B W gF HgF.out (by omega) (by omega))
          have HOD := Lib.hid (HOD.out.alloc (.cells (madeCells #[.int .u64 0] (W)) 28))
          have hltD : gD < (w45.alloc (.cells (madeCells #[.int .u64 0] (W)) 28)).heap.size := by simp; omega
          have HOP := Lib.hid (HOP.out.alloc (.cells (madeCells #[.int .u64 0] (W)) 28))
          have hltP : gP < (w45.alloc (.cells (madeCells #[.int .u64 0] (W)) 28)).heap.size := by simp; omega
          have HOC := Lib.hid (HOC.out.alloc (.cells (madeCells #[.int .u64 0] (W)) 28))
          have hltC : gC < (w45.alloc (.cells (madeCells #[.int .u64 0] (W)) 28)).heap.size := by simp; omega
          have hltF : gF < (w45.alloc (.cells (madeCells #[.int .u64 0] (W)) 28)).heap.size := by rw [← HgF.out]; simp
          have HB := Lib.hid (HB.out.alloc hTc (.cells (madeCells #[.int .u64 0] (W)) 28))
          have hTc : T ≤ (w45.alloc (.cells (madeCells #[.int .u64 0] (W)) 28)).heap.size := by simp; omega
          generalize w45.alloc (.cells (madeCells #[.int .u64 0] (W)) 28) = w46 at *
          refine wpAnyH_take (i := 10) (oi := _) (v := _) rfl (by kernel_rfl) (by kernel_rfl) (by kernel_rfl) (fun _ _ _ h => h) (Or.inl ⟨by rfl, (by intro w hSw; go_simp; try with_reducible rfl)⟩) hHeld ?_
          try simp only [Act.put, List.setIfInBounds_toArray, List.set_cons_zero, List.set_cons_succ, List.getElem_toArray, List.getElem_cons_zero, List.getElem_cons_succ]
          refine wpAnyH_ready (rs := [11]) (by kernel_rfl) (by simp) ?_
          refine AllReadyH.cons (o := _) rfl (fun K1 hK1 => ?_) AllReadyH.nil
          go_simp
          refine hK1.out _ _ trivial (fun hHeld => ?_)
          clear hK1 K1
          try simp only [Act.put, List.setIfInBounds_toArray, List.set_cons_zero, List.set_cons_succ, List.getElem_toArray, List.getElem_cons_zero, List.getElem_cons_succ]
          refine wpAnyH_take (i := 12) (oi := _) (v := _) rfl (by kernel_rfl) (by kernel_rfl) (by kernel_rfl) (fun _ _ _ h => h) (Or.inl ⟨by rfl, (by intro w hSw; go_simp; try with_reducible rfl)⟩) hHeld ?_
          try simp only [Act.put, List.setIfInBounds_toArray, List.set_cons_zero, List.set_cons_succ, List.getElem_toArray, List.getElem_cons_zero, List.getElem_cons_succ]
          refine wpAnyH_done (by kernel_rfl) ?_ _
          refine NoPanic.normal ?_
          clear hHeld
          have HDV := Lib.hid (dev_made B gl cl gC cC gF gD gP m W L w46 (HO.out.below HB.out (by rw [HT.out]; exact Nat.le_refl _)) HOC.out HOF.out HOD.out HOP.out hBT hTc hglT hgTC hgTF hgTD hgTP (by omega) (by omega) HW.out)
          have HBX := Lib.hid (HB.out.alloc hTc (.cells #[.slice (some ⟨gl, 0, none⟩) W cl, .slice (some ⟨gC, 0, none⟩) W cC, .slice (some ⟨gF, 0, none⟩) W W, .slice (some ⟨gD, 0, none⟩) m m, .slice (some ⟨gP, 0, none⟩) m m, .int .i64 0, .int .i64 0, .bool false, .bool false] 90))
          go_wp2_with fail
          go_ret
          refine ⟨_, rfl, HDV.out, rfl, rfl, ?_, HT.out ▸ HBX.out⟩
          rintro k (rfl | rfl | rfl | rfl | rfl | rfl)
          · right; rw [HT.out]; exact hTc
          · left; rfl
          · right; rw [HT.out]; exact hgTC
          · right; rw [HT.out]; exact hgTF
          · right; rw [HT.out]; exact hgTD
          · right; rw [HT.out]; exact hgTP
      · go_simp
        refine hK1.out _ _ trivial (fun hHeld => ?_)
        clear hK1 K1
        try simp only [Act.put, List.setIfInBounds_toArray, List.set_cons_zero, List.set_cons_succ, List.getElem_toArray, List.getElem_cons_zero, List.getElem_cons_succ]
        obtain ⟨gF, HgF⟩ : ∃ g, Hid (w44.heap.size = g) := ⟨_, rfl⟩
        have hgTF := hTc
        have hneDF := hltD
        have hnePF := hltP
        rw [HgF.out] at hgTF hneDF hnePF ⊢
        have hneDF := Nat.ne_of_lt hneDF
        have hnePF := Nat.ne_of_lt hnePF
        have HOF := Lib.hid (own_madeW w44 B W gF HgF.out (by omega) (by omega))
        have HOD := Lib.hid (HOD.out.alloc (.cells (madeCells #[.int .u64 0] (W)) 28))
        have hltD : gD < (w44.alloc (.cells (madeCells #[.int .u64 0] (W)) 28)).heap.size := by simp; omega
        have HOP := Lib.hid (HOP.out.alloc (.cells (madeCells #[.int .u64 0] (W)) 28))
        have hltP : gP < (w44.alloc (.cells (madeCells #[.int .u64 0] (W)) 28)).heap.size := by simp; omega
        have hltF : gF < (w44.alloc (.cells (madeCells #[.int .u64 0] (W)) 28)).heap.size := by rw [← HgF.out]; simp
        have HB := Lib.hid (HB.out.alloc hTc (.cells (madeCells #[.int .u64 0] (W)) 28))
        have hTc : T ≤ (w44.alloc (.cells (madeCells #[.int .u64 0] (W)) 28)).heap.size := by simp; omega
        generalize w44.alloc (.cells (madeCells #[.int .u64 0] (W)) 28) = w47 at *
        refine wpAnyH_ready (rs := [2]) (by kernel_rfl) (by simp) ?_
        refine AllReadyH.cons (o := _) rfl (fun K1 hK1 => ?_) (AllReadyH.nil)
        · go_simp
          refine (Hcl.out w47 HB.out).mono ?_
          rintro e w48 ⟨gC, cC, rfl, hOC, hbC⟩
          have hszC : w47.heap.size ≤ gC ∧ gC < w48.heap.size := hOC.lt _ rfl
          have HOC := Lib.hid hOC
          have HBn := Lib.hid (HB.out.trans (hbC.mono hTc))
          have HOD := Lib.hid (HOD.out.below hbC (Nat.le_refl _))
          have hneDC : gD ≠ gC := by omega
          have hltD := Nat.lt_of_lt_of_le hltD hbC.size
          have HOP := Lib.hid (HOP.out.below hbC (Nat.le_refl _))
          have hnePC : gP ≠ gC := by omega
          have hltP := Nat.lt_of_lt_of_le hltP hbC.size
          have HOF := Lib.hid (HOF.out.below hbC (Nat.le_refl _))
          have hneFC : gF ≠ gC := by omega
          have hltF := Nat.lt_of_lt_of_le hltF hbC.size
          have hgTC : T ≤ gC := by omega
          have hltC : gC < w48.heap.size := hszC.2
          have hTc := Nat.le_trans hTc hbC.size
          have HB := HBn
          clear hOC hbC hszC HBn
          go_wp2_with fail
          refine hK1.out _ _ trivial (fun hHeld => ?_)
          clear hK1 K1
          try simp only [Act.put, List.setIfInBounds_toArray, List.set_cons_zero, List.set_cons_succ, List.getElem_toArray, List.getElem_cons_zero, List.getElem_cons_succ]
          refine wpAnyH_take (i := 10) (oi := _) (v := _) rfl (by kernel_rfl) (by kernel_rfl) (by kernel_rfl) (fun _ _ _ h => h) (Or.inl ⟨by rfl, (by intro w hSw; go_simp; try with_reducible rfl)⟩) hHeld ?_
          try simp only [Act.put, List.setIfInBounds_toArray, List.set_cons_zero, List.set_cons_succ, List.getElem_toArray, List.getElem_cons_zero, List.getElem_cons_succ]
          refine wpAnyH_ready (rs := [11]) (by kernel_rfl) (by simp) ?_
          refine AllReadyH.cons (o := _) rfl (fun K1 hK1 => ?_) AllReadyH.nil
          go_simp
          refine hK1.out _ _ trivial (fun hHeld => ?_)
          clear hK1 K1
          try simp only [Act.put, List.setIfInBounds_toArray, List.set_cons_zero, List.set_cons_succ, List.getElem_toArray, List.getElem_cons_zero, List.getElem_cons_succ]
          refine wpAnyH_take (i := 12) (oi := _) (v := _) rfl (by kernel_rfl) (by kernel_rfl) (by kernel_rfl) (fun _ _ _ h => h) (Or.inl ⟨by rfl, (by intro w hSw; go_simp; try with_reducible rfl)⟩) hHeld ?_
          try simp only [Act.put, List.setIfInBounds_toArray, List.set_cons_zero, List.set_cons_succ, List.getElem_toArray, List.getElem_cons_zero, List.getElem_cons_succ]
          refine wpAnyH_done (by kernel_rfl) ?_ _
          refine NoPanic.normal ?_
          clear hHeld
          have HDV := Lib.hid (dev_made B gl cl gC cC gF gD gP m W L w48 (HO.out.below HB.out (by rw [HT.out]; exact Nat.le_refl _)) HOC.out HOF.out HOD.out HOP.out hBT hTc hglT hgTC hgTF hgTD hgTP (by omega) (by omega) HW.out)
          have HBX := Lib.hid (HB.out.alloc hTc (.cells #[.slice (some ⟨gl, 0, none⟩) W cl, .slice (some ⟨gC, 0, none⟩) W cC, .slice (some ⟨gF, 0, none⟩) W W, .slice (some ⟨gD, 0, none⟩) m m, .slice (some ⟨gP, 0, none⟩) m m, .int .i64 0, .int .i64 0, .bool false, .bool false] 90))
          go_wp2_with fail
          go_ret
          refine ⟨_, rfl, HDV.out, rfl, rfl, ?_, HT.out ▸ HBX.out⟩
          rintro k (rfl | rfl | rfl | rfl | rfl | rfl)
          · right; rw [HT.out]; exact hTc
          · left; rfl
          · right; rw [HT.out]; exact hgTC
          · right; rw [HT.out]; exact hgTF
          · right; rw [HT.out]; exact hgTD
          · right; rw [HT.out]; exact hgTP
  · go_simp
    refine hK1.out _ _ trivial (fun hHeld => ?_)
    clear hK1 K1
    try simp only [Act.put, List.setIfInBounds_toArray, List.set_cons_zero, List.set_cons_succ, List.getElem_toArray, List.getElem_cons_zero, List.getElem_cons_succ]
    obtain ⟨gP, HgP⟩ : ∃ g, Hid (wS.heap.size = g) := ⟨_, rfl⟩
    have hgTP := hTc
    rw [HgP.out] at hgTP ⊢
    have HOP := Lib.hid (own_madeB wS B m gP HgP.out (by omega) (by omega))
    have hltP : gP < (wS.alloc (.cells (madeCells #[.bool false] (m)) 4)).heap.size := by rw [← HgP.out]; simp
    have HB := Lib.hid (HB.out.alloc hTc (.cells (madeCells #[.bool false] (m)) 4))
    have hTc : T ≤ (wS.alloc (.cells (madeCells #[.bool false] (m)) 4)).heap.size := by simp; omega
    generalize wS.alloc (.cells (madeCells #[.bool false] (m)) 4) = w49 at *
    refine wpAnyH_ready (rs := [2, 5, 7]) (by kernel_rfl) (by simp) ?_
    refine AllReadyH.cons (o := _) rfl (fun K1 hK1 => ?_) (AllReadyH.cons (o := _) rfl (fun K1 hK1 => ?_) (AllReadyH.cons (o := _) rfl (fun K1 hK1 => ?_) (AllReadyH.nil)))
    · go_simp
      refine (Hcl.out w49 HB.out).mono ?_
      rintro e w50 ⟨gC, cC, rfl, hOC, hbC⟩
      have hszC : w49.heap.size ≤ gC ∧ gC < w50.heap.size := hOC.lt _ rfl
      have HOC := Lib.hid hOC
      have HBn := Lib.hid (HB.out.trans (hbC.mono hTc))
      have HOP := Lib.hid (HOP.out.below hbC (Nat.le_refl _))
      have hnePC : gP ≠ gC := by omega
      have hltP := Nat.lt_of_lt_of_le hltP hbC.size
      have hgTC : T ≤ gC := by omega
      have hltC : gC < w50.heap.size := hszC.2
      have hTc := Nat.le_trans hTc hbC.size
      have HB := HBn
      clear hOC hbC hszC HBn
      go_wp2_with fail
      refine hK1.out _ _ trivial (fun hHeld => ?_)
      clear hK1 K1
      try simp only [Act.put, List.setIfInBounds_toArray, List.set_cons_zero, List.set_cons_succ, List.getElem_toArray, List.getElem_cons_zero, List.getElem_cons_succ]
      refine wpAnyH_ready (rs := [5, 7]) (by kernel_rfl) (by simp) ?_
      refine AllReadyH.cons (o := _) rfl (fun K1 hK1 => ?_) (AllReadyH.cons (o := _) rfl (fun K1 hK1 => ?_) (AllReadyH.nil))
      · go_simp
        refine hK1.out _ _ trivial (fun hHeld => ?_)
        clear hK1 K1
        try simp only [Act.put, List.setIfInBounds_toArray, List.set_cons_zero, List.set_cons_succ, List.getElem_toArray, List.getElem_cons_zero, List.getElem_cons_succ]
        obtain ⟨gF, HgF⟩ : ∃ g, Hid (w50.heap.size = g) := ⟨_, rfl⟩
        have hgTF := hTc
        have hnePF := hltP
        have hneCF := hltC
        rw [HgF.out] at hgTF hnePF hneCF ⊢
        have hnePF := Nat.ne_of_lt hnePF
        have hneCF := Nat.ne_of_lt hneCF
        have HOF := Lib.hid (own_madeW w50 B W gF HgF.out (by omega) (by omega))
        have HOP := Lib.hid (HOP.out.alloc (.cells (madeCells #[.int .u64 0] (W)) 28))
        have hltP : gP < (w50.alloc (.cells (madeCells #[.int .u64 0] (W)) 28)).heap.size := by simp; omega
        have HOC := Lib.hid (HOC.out.alloc (.cells (madeCells #[.int .u64 0] (W)) 28))
        have hltC : gC < (w50.alloc (.cells (madeCells #[.int .u64 0] (W)) 28)).heap.size := by simp; omega
        have hltF : gF < (w50.alloc (.cells (madeCells #[.int .u64 0] (W)) 28)).heap.size := by rw [← HgF.out]; simp
        have HB := Lib.hid (HB.out.alloc hTc (.cells (madeCells #[.int .u64 0] (W)) 28))
        have hTc : T ≤ (w50.alloc (.cells (madeCells #[.int .u64 0] (W)) 28)).heap.size := by simp; omega
        generalize w50.alloc (.cells (madeCells #[.int .u64 0] (W)) 28) = w51 at *
        refine wpAnyH_ready (rs := [7]) (by kernel_rfl) (by simp) ?_
        refine AllReadyH.cons (o := _) rfl (fun K1 hK1 => ?_) (AllReadyH.nil)
        · go_simp
          refine hK1.out _ _ trivial (fun hHeld => ?_)
          clear hK1 K1
          try simp only [Act.put, List.setIfInBounds_toArray, List.set_cons_zero, List.set_cons_succ, List.getElem_toArray, List.getElem_cons_zero, List.getElem_cons_succ]
          obtain ⟨gD, HgD⟩ : ∃ g, Hid (w51.heap.size = g) := ⟨_, rfl⟩
          have hgTD := hTc
          have hnePD := hltP
          have hneCD := hltC
          have hneFD := hltF
          rw [HgD.out] at hgTD hnePD hneCD hneFD ⊢
          have hnePD := Nat.ne_of_lt hnePD
          have hneCD := Nat.ne_of_lt hneCD
          have hneFD := Nat.ne_of_lt hneFD
          have HOD := Lib.hid (own_madeB w51 B m gD HgD.out (by omega) (by omega))
          have HOP := Lib.hid (HOP.out.alloc (.cells (madeCells #[.bool false] (m)) 4))
          have hltP : gP < (w51.alloc (.cells (madeCells #[.bool false] (m)) 4)).heap.size := by simp; omega
          have HOC := Lib.hid (HOC.out.alloc (.cells (madeCells #[.bool false] (m)) 4))
          have hltC : gC < (w51.alloc (.cells (madeCells #[.bool false] (m)) 4)).heap.size := by simp; omega
          have HOF := Lib.hid (HOF.out.alloc (.cells (madeCells #[.bool false] (m)) 4))
          have hltF : gF < (w51.alloc (.cells (madeCells #[.bool false] (m)) 4)).heap.size := by simp; omega
          have hltD : gD < (w51.alloc (.cells (madeCells #[.bool false] (m)) 4)).heap.size := by rw [← HgD.out]; simp
          have HB := Lib.hid (HB.out.alloc hTc (.cells (madeCells #[.bool false] (m)) 4))
          have hTc : T ≤ (w51.alloc (.cells (madeCells #[.bool false] (m)) 4)).heap.size := by simp; omega
          generalize w51.alloc (.cells (madeCells #[.bool false] (m)) 4) = w52 at *
          refine wpAnyH_take (i := 10) (oi := _) (v := _) rfl (by kernel_rfl) (by kernel_rfl) (by kernel_rfl) (fun _ _ _ h => h) (Or.inl ⟨by rfl, (by intro w hSw; go_simp; try with_reducible rfl)⟩) hHeld ?_
          try simp only [Act.put, List.setIfInBounds_toArray, List.set_cons_zero, List.set_cons_succ, List.getElem_toArray, List.getElem_cons_zero, List.getElem_cons_succ]
          refine wpAnyH_ready (rs := [11]) (by kernel_rfl) (by simp) ?_
          refine AllReadyH.cons (o := _) rfl (fun K1 hK1 => ?_) AllReadyH.nil
          go_simp
          refine hK1.out _ _ trivial (fun hHeld => ?_)
          clear hK1 K1
          try simp only [Act.put, List.setIfInBounds_toArray, List.set_cons_zero, List.set_cons_succ, List.getElem_toArray, List.getElem_cons_zero, List.getElem_cons_succ]
          refine wpAnyH_take (i := 12) (oi := _) (v := _) rfl (by kernel_rfl) (by kernel_rfl) (by kernel_rfl) (fun _ _ _ h => h) (Or.inl ⟨by rfl, (by intro w hSw; go_simp; try with_reducible rfl)⟩) hHeld ?_
          try simp only [Act.put, List.setIfInBounds_toArray, List.set_cons_zero, List.set_cons_succ, List.getElem_toArray, List.getElem_cons_zero, List.getElem_cons_succ]
          refine wpAnyH_done (by kernel_rfl) ?_ _
          refine NoPanic.normal ?_
          clear hHeld
          have HDV := Lib.hid (dev_made B gl cl gC cC gF gD gP m W L w52 (HO.out.below HB.out (by rw [HT.out]; exact Nat.le_refl _)) HOC.out HOF.out HOD.out HOP.out hBT hTc hglT hgTC hgTF hgTD hgTP (by omega) (by omega) HW.out)
          have HBX := Lib.hid (HB.out.alloc hTc (.cells #[.slice (some ⟨gl, 0, none⟩) W cl, .slice (some ⟨gC, 0, none⟩) W cC, .slice (some ⟨gF, 0, none⟩) W W, .slice (some ⟨gD, 0, none⟩) m m, .slice (some ⟨gP, 0, none⟩) m m, .int .i64 0, .int .i64 0, .bool false, .bool false] 90))
          go_wp2_with fail
          go_ret
          refine ⟨_, rfl, HDV.out, rfl, rfl, ?_, HT.out ▸ HBX.out⟩
          rintro k (rfl | rfl | rfl | rfl | rfl | rfl)
          · right; rw [HT.out]; exact hTc
          · left; rfl
          · right; rw [HT.out]; exact hgTC
          · right; rw [HT.out]; exact hgTF
          · right; rw [HT.out]; exact hgTD
          · right; rw [HT.out]; exact hgTP
      · go_simp
        refine hK1.out _ _ trivial (fun hHeld => ?_)
        clear hK1 K1
        try simp only [Act.put, List.setIfInBounds_toArray, List.set_cons_zero, List.set_cons_succ, List.getElem_toArray, List.getElem_cons_zero, List.getElem_cons_succ]
        obtain ⟨gD, HgD⟩ : ∃ g, Hid (w50.heap.size = g) := ⟨_, rfl⟩
        have hgTD := hTc
        have hnePD := hltP
        have hneCD := hltC
        rw [HgD.out] at hgTD hnePD hneCD ⊢
        have hnePD := Nat.ne_of_lt hnePD
        have hneCD := Nat.ne_of_lt hneCD
        have HOD := Lib.hid (own_madeB w50 B m gD HgD.out (by omega) (by omega))
        have HOP := Lib.hid (HOP.out.alloc (.cells (madeCells #[.bool false] (m)) 4))
        have hltP : gP < (w50.alloc (.cells (madeCells #[.bool false] (m)) 4)).heap.size := by simp; omega
        have HOC := Lib.hid (HOC.out.alloc (.cells (madeCells #[.bool false] (m)) 4))
        have hltC : gC < (w50.alloc (.cells (madeCells #[.bool false] (m)) 4)).heap.size := by simp; omega
        have hltD : gD < (w50.alloc (.cells (madeCells #[.bool false] (m)) 4)).heap.size := by rw [← HgD.out]; simp
        have HB := Lib.hid (HB.out.alloc hTc (.cells (madeCells #[.bool false] (m)) 4))
        have hTc : T ≤ (w50.alloc (.cells (madeCells #[.bool false] (m)) 4)).heap.size := by simp; omega
        generalize w50.alloc (.cells (madeCells #[.bool false] (m)) 4) = w53 at *
        refine wpAnyH_ready (rs := [5]) (by kernel_rfl) (by simp) ?_
        refine AllReadyH.cons (o := _) rfl (fun K1 hK1 => ?_) (AllReadyH.nil)
        · go_simp
          refine hK1.out _ _ trivial (fun hHeld => ?_)
          clear hK1 K1
          try simp only [Act.put, List.setIfInBounds_toArray, List.set_cons_zero, List.set_cons_succ, List.getElem_toArray, List.getElem_cons_zero, List.getElem_cons_succ]
          obtain ⟨gF, HgF⟩ : ∃ g, Hid (w53.heap.size = g) := ⟨_, rfl⟩
          have hgTF := hTc
          have hnePF := hltP
          have hneCF := hltC
          have hneDF := hltD
          rw [HgF.out] at hgTF hnePF hneCF hneDF ⊢
          have hnePF := Nat.ne_of_lt hnePF
          have hneCF := Nat.ne_of_lt hneCF
          have hneDF := Nat.ne_of_lt hneDF
          have HOF := Lib.hid (own_madeW w53 B W gF HgF.out (by omega) (by omega))
          have HOP := Lib.hid (HOP.out.alloc (.cells (madeCells #[.int .u64 0] (W)) 28))
          have hltP : gP < (w53.alloc (.cells (madeCells #[.int .u64 0] (W)) 28)).heap.size := by simp; omega
          have HOC := Lib.hid (HOC.out.alloc (.cells (madeCells #[.int .u64 0] (W)) 28))
          have hltC : gC < (w53.alloc (.cells (madeCells #[.int .u64 0] (W)) 28)).heap.size := by simp; omega
          have HOD := Lib.hid (HOD.out.alloc (.cells (madeCells #[.int .u64 0] (W)) 28))
          have hltD : gD < (w53.alloc (.cells (madeCells #[.int .u64 0] (W)) 28)).heap.size := by simp; omega
          have hltF : gF < (w53.alloc (.cells (madeCells #[.int .u64 0] (W)) 28)).heap.size := by rw [← HgF.out]; simp
          have HB := Lib.hid (HB.out.alloc hTc (.cells (madeCells #[.int .u64 0] (W)) 28))
          have hTc : T ≤ (w53.alloc (.cells (madeCells #[.int .u64 0] (W)) 28)).heap.size := by simp; omega
          generalize w53.alloc (.cells (madeCells #[.int .u64 0] (W)) 28) = w54 at *
          refine wpAnyH_take (i := 10) (oi := _) (v := _) rfl (by kernel_rfl) (by kernel_rfl) (by kernel_rfl) (fun _ _ _ h => h) (Or.inl ⟨by rfl, (by intro w hSw; go_simp; try with_reducible rfl)⟩) hHeld ?_
          try simp only [Act.put, List.setIfInBounds_toArray, List.set_cons_zero, List.set_cons_succ, List.getElem_toArray, List.getElem_cons_zero, List.getElem_cons_succ]
          refine wpAnyH_ready (rs := [11]) (by kernel_rfl) (by simp) ?_
          refine AllReadyH.cons (o := _) rfl (fun K1 hK1 => ?_) AllReadyH.nil
          go_simp
          refine hK1.out _ _ trivial (fun hHeld => ?_)
          clear hK1 K1
          try simp only [Act.put, List.setIfInBounds_toArray, List.set_cons_zero, List.set_cons_succ, List.getElem_toArray, List.getElem_cons_zero, List.getElem_cons_succ]
          refine wpAnyH_take (i := 12) (oi := _) (v := _) rfl (by kernel_rfl) (by kernel_rfl) (by kernel_rfl) (fun _ _ _ h => h) (Or.inl ⟨by rfl, (by intro w hSw; go_simp; try with_reducible rfl)⟩) hHeld ?_
          try simp only [Act.put, List.setIfInBounds_toArray, List.set_cons_zero, List.set_cons_succ, List.getElem_toArray, List.getElem_cons_zero, List.getElem_cons_succ]
          refine wpAnyH_done (by kernel_rfl) ?_ _
          refine NoPanic.normal ?_
          clear hHeld
          have HDV := Lib.hid (dev_made B gl cl gC cC gF gD gP m W L w54 (HO.out.below HB.out (by rw [HT.out]; exact Nat.le_refl _)) HOC.out HOF.out HOD.out HOP.out hBT hTc hglT hgTC hgTF hgTD hgTP (by omega) (by omega) HW.out)
          have HBX := Lib.hid (HB.out.alloc hTc (.cells #[.slice (some ⟨gl, 0, none⟩) W cl, .slice (some ⟨gC, 0, none⟩) W cC, .slice (some ⟨gF, 0, none⟩) W W, .slice (some ⟨gD, 0, none⟩) m m, .slice (some ⟨gP, 0, none⟩) m m, .int .i64 0, .int .i64 0, .bool false, .bool false] 90))
          go_wp2_with fail
          go_ret
          refine ⟨_, rfl, HDV.out, rfl, rfl, ?_, HT.out ▸ HBX.out⟩
          rintro k (rfl | rfl | rfl | rfl | rfl | rfl)
          · right; rw [HT.out]; exact hTc
          · left; rfl
          · right; rw [HT.out]; exact hgTC
          · right; rw [HT.out]; exact hgTF
          · right; rw [HT.out]; exact hgTD
          · right; rw [HT.out]; exact hgTP
    · go_simp
      refine hK1.out _ _ trivial (fun hHeld => ?_)
      clear hK1 K1
      try simp only [Act.put, List.setIfInBounds_toArray, List.set_cons_zero, List.set_cons_succ, List.getElem_toArray, List.getElem_cons_zero, List.getElem_cons_succ]
      obtain ⟨gF, HgF⟩ : ∃ g, Hid (w49.heap.size = g) := ⟨_, rfl⟩
      have hgTF := hTc
      have hnePF := hltP
      rw [HgF.out] at hgTF hnePF ⊢
      have hnePF := Nat.ne_of_lt hnePF
      have HOF := Lib.hid (own_madeW w49 B W gF HgF.out (by omega) (by omega))
      have HOP := Lib.hid (HOP.out.alloc (.cells (madeCells #[.int .u64 0] (W)) 28))
      have hltP : gP < (w49.alloc (.cells (madeCells #[.int .u64 0] (W)) 28)).heap.size := by simp; omega
      have hltF : gF < (w49.alloc (.cells (madeCells #[.int .u64 0] (W)) 28)).heap.size := by rw [← HgF.out]; simp
      have HB := Lib.hid (HB.out.alloc hTc (.cells (madeCells #[.int .u64 0] (W)) 28))
      have hTc : T ≤ (w49.alloc (.cells (madeCells #[.int .u64 0] (W)) 28)).heap.size := by simp; omega
      generalize w49.alloc (.cells (madeCells #[.int .u64 0] (W)) 28) = w55 at *
      refine wpAnyH_ready (rs := [2, 7]) (by kernel_rfl) (by simp) ?_
      refine AllReadyH.cons (o := _) rfl (fun K1 hK1 => ?_) (AllReadyH.cons (o := _) rfl (fun K1 hK1 => ?_) (AllReadyH.nil))
      · go_simp
        refine (Hcl.out w55 HB.out).mono ?_
        rintro e w56 ⟨gC, cC, rfl, hOC, hbC⟩
        have hszC : w55.heap.size ≤ gC ∧ gC < w56.heap.size := hOC.lt _ rfl
        have HOC := Lib.hid hOC
        have HBn := Lib.hid (HB.out.trans (hbC.mono hTc))
        have HOP := Lib.hid (HOP.out.below hbC (Nat.le_refl _))
        have hnePC : gP ≠ gC := by omega
        have hltP := Nat.lt_of_lt_of_le hltP hbC.size
        have HOF := Lib.hid (HOF.out.below hbC (Nat.le_refl _))
        have hneFC : gF ≠ gC := by omega
        have hltF := Nat.lt_of_lt_of_le hltF hbC.size
        have hgTC : T ≤ gC := by omega
        have hltC : gC < w56.heap.size := hszC.2
        have hTc := Nat.le_trans hTc hbC.size
        have HB := HBn
        clear hOC hbC hszC HBn
        go_wp2_with fail
        refine hK1.out _ _ trivial (fun hHeld => ?_)
        clear hK1 K1
        try simp only [Act.put, List.setIfInBounds_toArray, List.set_cons_zero, List.set_cons_succ, List.getElem_toArray, List.getElem_cons_zero, List.getElem_cons_succ]
        refine wpAnyH_ready (rs := [7]) (by kernel_rfl) (by simp) ?_
        refine AllReadyH.cons (o := _) rfl (fun K1 hK1 => ?_) (AllReadyH.nil)
        · go_simp
          refine hK1.out _ _ trivial (fun hHeld => ?_)
          clear hK1 K1
          try simp only [Act.put, List.setIfInBounds_toArray, List.set_cons_zero, List.set_cons_succ, List.getElem_toArray, List.getElem_cons_zero, List.getElem_cons_succ]
          obtain ⟨gD, HgD⟩ : ∃ g, Hid (w56.heap.size = g) := ⟨_, rfl⟩
          have hgTD := hTc
          have hnePD := hltP
          have hneFD := hltF
          have hneCD := hltC
          rw [HgD.out] at hgTD hnePD hneFD hneCD ⊢
          have hnePD := Nat.ne_of_lt hnePD
          have hneFD := Nat.ne_of_lt hneFD
          have hneCD := Nat.ne_of_lt hneCD
          have HOD := Lib.hid (own_madeB w56 B m gD HgD.out (by omega) (by omega))
          have HOP := Lib.hid (HOP.out.alloc (.cells (madeCells #[.bool false] (m)) 4))
          have hltP : gP < (w56.alloc (.cells (madeCells #[.bool false] (m)) 4)).heap.size := by simp; omega
          have HOF := Lib.hid (HOF.out.alloc (.cells (madeCells #[.bool false] (m)) 4))
          have hltF : gF < (w56.alloc (.cells (madeCells #[.bool false] (m)) 4)).heap.size := by simp; omega
          have HOC := Lib.hid (HOC.out.alloc (.cells (madeCells #[.bool false] (m)) 4))
          have hltC : gC < (w56.alloc (.cells (madeCells #[.bool false] (m)) 4)).heap.size := by simp; omega
          have hltD : gD < (w56.alloc (.cells (madeCells #[.bool false] (m)) 4)).heap.size := by rw [← HgD.out]; simp
          have HB := Lib.hid (HB.out.alloc hTc (.cells (madeCells #[.bool false] (m)) 4))
          have hTc : T ≤ (w56.alloc (.cells (madeCells #[.bool false] (m)) 4)).heap.size := by simp; omega
          generalize w56.alloc (.cells (madeCells #[.bool false] (m)) 4) = w57 at *
          refine wpAnyH_take (i := 10) (oi := _) (v := _) rfl (by kernel_rfl) (by kernel_rfl) (by kernel_rfl) (fun _ _ _ h => h) (Or.inl ⟨by rfl, (by intro w hSw; go_simp; try with_reducible rfl)⟩) hHeld ?_
          try simp only [Act.put, List.setIfInBounds_toArray, List.set_cons_zero, List.set_cons_succ, List.getElem_toArray, List.getElem_cons_zero, List.getElem_cons_succ]
          refine wpAnyH_ready (rs := [11]) (by kernel_rfl) (by simp) ?_
          refine AllReadyH.cons (o := _) rfl (fun K1 hK1 => ?_) AllReadyH.nil
          go_simp
          refine hK1.out _ _ trivial (fun hHeld => ?_)
          clear hK1 K1
          try simp only [Act.put, List.setIfInBounds_toArray, List.set_cons_zero, List.set_cons_succ, List.getElem_toArray, List.getElem_cons_zero, List.getElem_cons_succ]
          refine wpAnyH_take (i := 12) (oi := _) (v := _) rfl (by kernel_rfl) (by kernel_rfl) (by kernel_rfl) (fun _ _ _ h => h) (Or.inl ⟨by rfl, (by intro w hSw; go_simp; try with_reducible rfl)⟩) hHeld ?_
          try simp only [Act.put, List.setIfInBounds_toArray, List.set_cons_zero, List.set_cons_succ, List.getElem_toArray, List.getElem_cons_zero, List.getElem_cons_succ]
          refine wpAnyH_done (by kernel_rfl) ?_ _
          refine NoPanic.normal ?_
          clear hHeld
          have HDV := Lib.hid (dev_made B gl cl gC cC gF gD gP m W L w57 (HO.out.below HB.out (by rw [HT.out]; exact Nat.le_refl _)) HOC.out HOF.out HOD.out HOP.out hBT hTc hglT hgTC hgTF hgTD hgTP (by omega) (by omega) HW.out)
          have HBX := Lib.hid (HB.out.alloc hTc (.cells #[.slice (some ⟨gl, 0, none⟩) W cl, .slice (some ⟨gC, 0, none⟩) W cC, .slice (some ⟨gF, 0, none⟩) W W, .slice (some ⟨gD, 0, none⟩) m m, .slice (some ⟨gP, 0, none⟩) m m, .int .i64 0, .int .i64 0, .bool false, .bool false] 90))
          go_wp2_with fail
          go_ret
          refine ⟨_, rfl, HDV.out, rfl, rfl, ?_, HT.out ▸ HBX.out⟩
          rintro k (rfl | rfl | rfl | rfl | rfl | rfl)
          · right; rw [HT.out]; exact hTc
          · left; rfl
          · right; rw [HT.out]; exact hgTC
          · right; rw [HT.out]; exact hgTF
          · right; rw [HT.out]; exact hgTD
          · right; rw [HT.out]; exact hgTP
      · go_simp
        refine hK1.out _ _ trivial (fun hHeld => ?_)
        clear hK1 K1
        try simp only [Act.put, List.setIfInBounds_toArray, List.set_cons_zero, List.set_cons_succ, List.getElem_toArray, List.getElem_cons_zero, List.getElem_cons_succ]
        obtain ⟨gD, HgD⟩ : ∃ g, Hid (w55.heap.size = g) := ⟨_, rfl⟩
        have hgTD := hTc
        have hnePD := hltP
        have hneFD := hltF
        rw [HgD.out] at hgTD hnePD hneFD ⊢
        have hnePD := Nat.ne_of_lt hnePD
        have hneFD := Nat.ne_of_lt hneFD
        have HOD := Lib.hid (own_madeB w55 B m gD HgD.out (by omega) (by omega))
        have HOP := Lib.hid (HOP.out.alloc (.cells (madeCells #[.bool false] (m)) 4))
        have hltP : gP < (w55.alloc (.cells (madeCells #[.bool false] (m)) 4)).heap.size := by simp; omega
        have HOF := Lib.hid (HOF.out.alloc (.cells (madeCells #[.bool false] (m)) 4))
        have hltF : gF < (w55.alloc (.cells (madeCells #[.bool false] (m)) 4)).heap.size := by simp; omega
        have hltD : gD < (w55.alloc (.cells (madeCells #[.bool false] (m)) 4)).heap.size := by rw [← HgD.out]; simp
        have HB := Lib.hid (HB.out.alloc hTc (.cells (madeCells #[.bool false] (m)) 4))
        have hTc : T ≤ (w55.alloc (.cells (madeCells #[.bool false] (m)) 4)).heap.size := by simp; omega
        generalize w55.alloc (.cells (madeCells #[.bool false] (m)) 4) = w58 at *
        refine wpAnyH_ready (rs := [2]) (by kernel_rfl) (by simp) ?_
        refine AllReadyH.cons (o := _) rfl (fun K1 hK1 => ?_) (AllReadyH.nil)
        · go_simp
          refine (Hcl.out w58 HB.out).mono ?_
          rintro e w59 ⟨gC, cC, rfl, hOC, hbC⟩
          have hszC : w58.heap.size ≤ gC ∧ gC < w59.heap.size := hOC.lt _ rfl
          have HOC := Lib.hid hOC
          have HBn := Lib.hid (HB.out.trans (hbC.mono hTc))
          have HOP := Lib.hid (HOP.out.below hbC (Nat.le_refl _))
          have hnePC : gP ≠ gC := by omega
          have hltP := Nat.lt_of_lt_of_le hltP hbC.size
          have HOF := Lib.hid (HOF.out.below hbC (Nat.le_refl _))
          have hneFC : gF ≠ gC := by omega
          have hltF := Nat.lt_of_lt_of_le hltF hbC.size
          have HOD := Lib.hid (HOD.out.below hbC (Nat.le_refl _))
          have hneDC : gD ≠ gC := by omega
          have hltD := Nat.lt_of_lt_of_le hltD hbC.size
          have hgTC : T ≤ gC := by omega
          have hltC : gC < w59.heap.size := hszC.2
          have hTc := Nat.le_trans hTc hbC.size
          have HB := HBn
          clear hOC hbC hszC HBn
          go_wp2_with fail
          refine hK1.out _ _ trivial (fun hHeld => ?_)
          clear hK1 K1
          try simp only [Act.put, List.setIfInBounds_toArray, List.set_cons_zero, List.set_cons_succ, List.getElem_toArray, List.getElem_cons_zero, List.getElem_cons_succ]
          refine wpAnyH_take (i := 10) (oi := _) (v := _) rfl (by kernel_rfl) (by kernel_rfl) (by kernel_rfl) (fun _ _ _ h => h) (Or.inl ⟨by rfl, (by intro w hSw; go_simp; try with_reducible rfl)⟩) hHeld ?_
          try simp only [Act.put, List.setIfInBounds_toArray, List.set_cons_zero, List.set_cons_succ, List.getElem_toArray, List.getElem_cons_zero, List.getElem_cons_succ]
          refine wpAnyH_ready (rs := [11]) (by kernel_rfl) (by simp) ?_
          refine AllReadyH.cons (o := _) rfl (fun K1 hK1 => ?_) AllReadyH.nil
          go_simp
          refine hK1.out _ _ trivial (fun hHeld => ?_)
          clear hK1 K1
          try simp only [Act.put, List.setIfInBounds_toArray, List.set_cons_zero, List.set_cons_succ, List.getElem_toArray, List.getElem_cons_zero, List.getElem_cons_succ]
          refine wpAnyH_take (i := 12) (oi := _) (v := _) rfl (by kernel_rfl) (by kernel_rfl) (by kernel_rfl) (fun _ _ _ h => h) (Or.inl ⟨by rfl, (by intro w hSw; go_simp; try with_reducible rfl)⟩) hHeld ?_
          try simp only [Act.put, List.setIfInBounds_toArray, List.set_cons_zero, List.set_cons_succ, List.getElem_toArray, List.getElem_cons_zero, List.getElem_cons_succ]
          refine wpAnyH_done (by kernel_rfl) ?_ _
          refine NoPanic.normal ?_
          clear hHeld
          have HDV := Lib.hid (dev_made B gl cl gC cC gF gD gP m W L w59 (HO.out.below HB.out (by rw [HT.out]; exact Nat.le_refl _)) HOC.out HOF.out HOD.out HOP.out hBT hTc hglT hgTC hgTF hgTD hgTP (by omega) (by omega) HW.out)
          have HBX := Lib.hid (HB.out.alloc hTc (.cells #[.slice (some ⟨gl, 0, none⟩) W cl, .slice (some ⟨gC, 0, none⟩) W cC, .slice (some ⟨gF, 0, none⟩) W W, .slice (some ⟨gD, 0, none⟩) m m, .slice (some ⟨gP, 0, none⟩) m m, .int .i64 0, .int .i64 0, .bool false, .bool false] 90))
          go_wp2_with fail
          go_ret
          refine ⟨_, rfl, HDV.out, rfl, rfl, ?_, HT.out ▸ HBX.out⟩
          rintro k (rfl | rfl | rfl | rfl | rfl | rfl)
          · right; rw [HT.out]; exact hTc
          · left; rfl
          · right; rw [HT.out]; exact hgTC
          · right; rw [HT.out]; exact hgTF
          · right; rw [HT.out]; exact hgTD
          · right; rw [HT.out]; exact hgTP
    · go_simp
      refine hK1.out _ _ trivial (fun hHeld => ?_)
      clear hK1 K1
      try simp only [Act.put, List.setIfInBounds_toArray, List.set_cons_zero, List.set_cons_succ, List.getElem_toArray, List.getElem_cons_zero, List.getElem_cons_succ]
      obtain ⟨gD, HgD⟩ : ∃ g, Hid (w49.heap.size = g) := ⟨_, rfl⟩
      have hgTD := hTc
      have hnePD := hltP
      rw [HgD.out] at hgTD hnePD ⊢
      have hnePD := Nat.ne_of_lt hnePD
      have HOD := Lib.hid (own_madeB w49 B m gD HgD.out (by omega) (by omega))
      have HOP := Lib.hid (HOP.out.alloc (.cells (madeCells #[.bool false] (m)) 4))
      have hltP : gP < (w49.alloc (.cells (madeCells #[.bool false] (m)) 4)).heap.size := by simp; omega
      have hltD : gD < (w49.alloc (.cells (madeCells #[.bool false] (m)) 4)).heap.size := by rw [← HgD.out]; simp
      have HB := Lib.hid (HB.out.alloc hTc (.cells (madeCells #[.bool false] (m)) 4))
      have hTc : T ≤ (w49.alloc (.cells (madeCells #[.bool false] (m)) 4)).heap.size := by simp; omega
      generalize w49.alloc (.cells (madeCells #[.bool false] (m)) 4) = w60 at *
      refine wpAnyH_ready (rs := [2, 5]) (by kernel_rfl) (by simp) ?_
      refine AllReadyH.cons (o := _) rfl (fun K1 hK1 => ?_) (AllReadyH.cons (o := _) rfl (fun K1 hK1 => ?_) (AllReadyH.nil))
      · go_simp
        refine (Hcl.out w60 HB.out).mono ?_
        rintro e w61 ⟨gC, cC, rfl, hOC, hbC⟩
        have hszC : w60.heap.size ≤ gC ∧ gC < w61.heap.size := hOC.lt _ rfl
        have HOC := Lib.hid hOC
        have HBn := Lib.hid (HB.out.trans (hbC.mono hTc))
        have HOP := Lib.hid (HOP.out.below hbC (Nat.le_refl _))
        have hnePC : gP ≠ gC := by omega
        have hltP := Nat.lt_of_lt_of_le hltP hbC.size
        have HOD := Lib.hid (HOD.out.below hbC (Nat.le_refl _))
        have hneDC : gD ≠ gC := by omega
        have hltD := Nat.lt_of_lt_of_le hltD hbC.size
        have hgTC : T ≤ gC := by omega
        have hltC : gC < w61.heap.size := hszC.2
        have hTc := Nat.le_trans hTc hbC.size
        have HB := HBn
        clear hOC hbC hszC HBn
        go_wp2_with fail
        refine hK1.out _ _ trivial (fun hHeld => ?_)
        clear hK1 K1
        try simp only [Act.put, List.setIfInBounds_toArray, List.set_cons_zero, List.set_cons_succ, List.getElem_toArray, List.getElem_cons_zero, List.getElem_cons_succ]
        refine wpAnyH_ready (rs := [5]) (by kernel_rfl) (by simp) ?_
        refine AllReadyH.cons (o := _) rfl (fun K1 hK1 => ?_) (AllReadyH.nil)
        · go_simp
          refine hK1.out _ _ trivial (fun hHeld => ?_)
          clear hK1 K1
          try simp only [Act.put, List.setIfInBounds_toArray, List.set_cons_zero, List.set_cons_succ, List.getElem_toArray, List.getElem_cons_zero, List.getElem_cons_succ]
          obtain ⟨gF, HgF⟩ : ∃ g, Hid (w61.heap.size = g) := ⟨_, rfl⟩
          have hgTF := hTc
          have hnePF := hltP
          have hneDF := hltD
          have hneCF := hltC
          rw [HgF.out] at hgTF hnePF hneDF hneCF ⊢
          have hnePF := Nat.ne_of_lt hnePF
          have hneDF := Nat.ne_of_lt hneDF
          have hneCF := Nat.ne_of_lt hneCF
          have HOF := Lib.hid (own_madeW w61 B W gF HgF.out (by omega) (by omega))
          have HOP := Lib.hid (HOP.out.alloc (.cells (madeCells #[.int .u64 0] (W)) 28))
          have hltP : gP < (w61.alloc (.cells (madeCells #[.int .u64 0] (W)) 28)).heap.size := by simp; omega
          have HOD := Lib.hid (HOD.out.alloc (.cells (madeCells #[.int .u64 0] (W)) 28))
          have hltD : gD < (w61.alloc (.cells (madeCells #[.int .u64 0] (W)) 28)).heap.size := by simp; omega
          have HOC := Lib.hid (HOC.out.alloc (.cells (madeCells #[.int .u64 0] (W)) 28))
          have hltC : gC < (w61.alloc (.cells (madeCells #[.int .u64 0] (W)) 28)).heap.size := by simp; omega
          have hltF : gF < (w61.alloc (.cells (madeCells #[.int .u64 0] (W)) 28)).heap.size := by rw [← HgF.out]; simp
          have HB := Lib.hid (HB.out.alloc hTc (.cells (madeCells #[.int .u64 0] (W)) 28))
          have hTc : T ≤ (w61.alloc (.cells (madeCells #[.int .u64 0] (W)) 28)).heap.size := by simp; omega
          generalize w61.alloc (.cells (madeCells #[.int .u64 0] (W)) 28) = w62 at *
          refine wpAnyH_take (i := 10) (oi := _) (v := _) rfl (by kernel_rfl) (by kernel_rfl) (by kernel_rfl) (fun _ _ _ h => h) (Or.inl ⟨by rfl, (by intro w hSw; go_simp; try with_reducible rfl)⟩) hHeld ?_
          try simp only [Act.put, List.setIfInBounds_toArray, List.set_cons_zero, List.set_cons_succ, List.getElem_toArray, List.getElem_cons_zero, List.getElem_cons_succ]
          refine wpAnyH_ready (rs := [11]) (by kernel_rfl) (by simp) ?_
          refine AllReadyH.cons (o := _) rfl (fun K1 hK1 => ?_) AllReadyH.nil
          go_simp
          refine hK1.out _ _ trivial (fun hHeld => ?_)
          clear hK1 K1
          try simp only [Act.put, List.setIfInBounds_toArray, List.set_cons_zero, List.set_cons_succ, List.getElem_toArray, List.getElem_cons_zero, List.getElem_cons_succ]
          refine wpAnyH_take (i := 12) (oi := _) (v := _) rfl (by kernel_rfl) (by kernel_rfl) (by kernel_rfl) (fun _ _ _ h => h) (Or.inl ⟨by rfl, (by intro w hSw; go_simp; try with_reducible rfl)⟩) hHeld ?_
          try simp only [Act.put, List.setIfInBounds_toArray, List.set_cons_zero, List.set_cons_succ, List.getElem_toArray, List.getElem_cons_zero, List.getElem_cons_succ]
          refine wpAnyH_done (by kernel_rfl) ?_ _
          refine NoPanic.normal ?_
          clear hHeld
          have HDV := Lib.hid (dev_made B gl cl gC cC gF gD gP m W L w62 (HO.out.below HB.out (by rw [HT.out]; exact Nat.le_refl _)) HOC.out HOF.out HOD.out HOP.out hBT hTc hglT hgTC hgTF hgTD hgTP (by omega) (by omega) HW.out)
          have HBX := Lib.hid (HB.out.alloc hTc (.cells #[.slice (some ⟨gl, 0, none⟩) W cl, .slice (some ⟨gC, 0, none⟩) W cC, .slice (some ⟨gF, 0, none⟩) W W, .slice (some ⟨gD, 0, none⟩) m m, .slice (some ⟨gP, 0, none⟩) m m, .int .i64 0, .int .i64 0, .bool false, .bool false] 90))
          go_wp2_with fail
          go_ret
          refine ⟨_, rfl, HDV.out, rfl, rfl, ?_, HT.out ▸ HBX.out⟩
          rintro k (rfl | rfl | rfl | rfl | rfl | rfl)
          · right; rw [HT.out]; exact hTc
          · left; rfl
          · right; rw [HT.out]; exact hgTC
          · right; rw [HT.out]; exact hgTF
          · right; rw [HT.out]; exact hgTD
          · right; rw [HT.out]; exact hgTP
      · go_simp
        refine hK1.out _ _ trivial (fun hHeld => ?_)
        clear hK1 K1
        try simp only [Act.put, List.setIfInBounds_toArray, List.set_cons_zero, List.set_cons_succ, List.getElem_toArray, List.getElem_cons_zero, List.getElem_cons_succ]
        obtain ⟨gF, HgF⟩ : ∃ g, Hid (w60.heap.size = g) := ⟨_, rfl⟩
        have hgTF := hTc
        have hnePF := hltP
        have hneDF := hltD
        rw [HgF.out] at hgTF hnePF hneDF ⊢
        have hnePF := Nat.ne_of_lt hnePF
        have hneDF := Nat.ne_of_lt hneDF
        have HOF := Lib.hid (own_madeW w60 B W gF HgF.out (by omega) (by omega))
        have HOP := Lib.hid (HOP.out.alloc (.cells (madeCells #[.int .u64 0] (W)) 28))
        have hltP : gP < (w60.alloc (.cells (madeCells #[.int .u64 0] (W)) 28)).heap.size := by simp; omega
        have HOD := Lib.hid (HOD.out.alloc (.cells (madeCells #[.int .u64 0] (W)) 28))
        have hltD : gD < (w60.alloc (.cells (madeCells #[.int .u64 0] (W)) 28)).heap.size := by simp; omega
        have hltF : gF < (w60.alloc (.cells (madeCells #[.int .u64 0] (W)) 28)).heap.size := by rw [← HgF.out]; simp
        have HB := Lib.hid (HB.out.alloc hTc (.cells (madeCells #[.int .u64 0] (W)) 28))
        have hTc : T ≤ (w60.alloc (.cells (madeCells #[.int .u64 0] (W)) 28)).heap.size := by simp; omega
        generalize w60.alloc (.cells (madeCells #[.int .u64 0] (W)) 28) = w63 at *
        refine wpAnyH_ready (rs := [2]) (by kernel_rfl) (by simp) ?_
        refine AllReadyH.cons (o := _) rfl (fun K1 hK1 => ?_) (AllReadyH.nil)
        · go_simp
          refine (Hcl.out w63 HB.out).mono ?_
          rintro e w64 ⟨gC, cC, rfl, hOC, hbC⟩
          have hszC : w63.heap.size ≤ gC ∧ gC < w64.heap.size := hOC.lt _ rfl
          have HOC := Lib.hid hOC
          have HBn := Lib.hid (HB.out.trans (hbC.mono hTc))
          have HOP := Lib.hid (HOP.out.below hbC (Nat.le_refl _))
          have hnePC : gP ≠ gC := by omega
          have hltP := Nat.lt_of_lt_of_le hltP hbC.size
          have HOD := Lib.hid (HOD.out.below hbC (Nat.le_refl _))
          have hneDC : gD ≠ gC := by omega
          have hltD := Nat.lt_of_lt_of_le hltD hbC.size
          have HOF := Lib.hid (HOF.out.below hbC (Nat.le_refl _))
          have hneFC : gF ≠ gC := by omega
          have hltF := Nat.lt_of_lt_of_le hltF hbC.size
          have hgTC : T ≤ gC := by omega
          have hltC : gC < w64.heap.size := hszC.2
          have hTc := Nat.le_trans hTc hbC.size
          have HB := HBn
          clear hOC hbC hszC HBn
          go_wp2_with fail
          refine hK1.out _ _ trivial (fun hHeld => ?_)
          clear hK1 K1
          try simp only [Act.put, List.setIfInBounds_toArray, List.set_cons_zero, List.set_cons_succ, List.getElem_toArray, List.getElem_cons_zero, List.getElem_cons_succ]
          refine wpAnyH_take (i := 10) (oi := _) (v := _) rfl (by kernel_rfl) (by kernel_rfl) (by kernel_rfl) (fun _ _ _ h => h) (Or.inl ⟨by rfl, (by intro w hSw; go_simp; try with_reducible rfl)⟩) hHeld ?_
          try simp only [Act.put, List.setIfInBounds_toArray, List.set_cons_zero, List.set_cons_succ, List.getElem_toArray, List.getElem_cons_zero, List.getElem_cons_succ]
          refine wpAnyH_ready (rs := [11]) (by kernel_rfl) (by simp) ?_
          refine AllReadyH.cons (o := _) rfl (fun K1 hK1 => ?_) AllReadyH.nil
          go_simp
          refine hK1.out _ _ trivial (fun hHeld => ?_)
          clear hK1 K1
          try simp only [Act.put, List.setIfInBounds_toArray, List.set_cons_zero, List.set_cons_succ, List.getElem_toArray, List.getElem_cons_zero, List.getElem_cons_succ]
          refine wpAnyH_take (i := 12) (oi := _) (v := _) rfl (by kernel_rfl) (by kernel_rfl) (by kernel_rfl) (fun _ _ _ h => h) (Or.inl ⟨by rfl, (by intro w hSw; go_simp; try with_reducible rfl)⟩) hHeld ?_
          try simp only [Act.put, List.setIfInBounds_toArray, List.set_cons_zero, List.set_cons_succ, List.getElem_toArray, List.getElem_cons_zero, List.getElem_cons_succ]
          refine wpAnyH_done (by kernel_rfl) ?_ _
          refine NoPanic.normal ?_
          clear hHeld
          have HDV := Lib.hid (dev_made B gl cl gC cC gF gD gP m W L w64 (HO.out.below HB.out (by rw [HT.out]; exact Nat.le_refl _)) HOC.out HOF.out HOD.out HOP.out hBT hTc hglT hgTC hgTF hgTD hgTP (by omega) (by omega) HW.out)
          have HBX := Lib.hid (HB.out.alloc hTc (.cells #[.slice (some ⟨gl, 0, none⟩) W cl, .slice (some ⟨gC, 0, none⟩) W cC, .slice (some ⟨gF, 0, none⟩) W W, .slice (some ⟨gD, 0, none⟩) m m, .slice (some ⟨gP, 0, none⟩) m m, .int .i64 0, .int .i64 0, .bool false, .bool false] 90))
          go_wp2_with fail
          go_ret
          refine ⟨_, rfl, HDV.out, rfl, rfl, ?_, HT.out ▸ HBX.out⟩
          rintro k (rfl | rfl | rfl | rfl | rfl | rfl)
          · right; rw [HT.out]; exact hTc
          · left; rfl
          · right; rw [HT.out]; exact hgTC
          · right; rw [HT.out]; exact hgTF
          · right; rw [HT.out]; exact hgTD
          · right; rw [HT.out]; exact hgTP
end Go.Proofs.YtcnjipicifkfjaaGreat
