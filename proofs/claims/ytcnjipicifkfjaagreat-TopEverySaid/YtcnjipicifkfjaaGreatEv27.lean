/- alloc: New. -/
import Derived.Test.YtcnjipicifkfjaaGreatEv23
import Derived.Test.YtcnjipicifkfjaaGreatEv19
import Derived.Test.YtcnjipicifkfjaaGreatEv26

namespace Go.Proofs.YtcnjipicifkfjaaGreat
open Go.RowKit
set_option linter.unusedVariables false
set_option linter.unusedSimpArgs false

def usedOf (l : List Nat) (k : Nat) : Nat → Bool := fun i => decide (i ∈ l.take k)
theorem usedOf_next (l : List Nat) (k : Nat) (h : k < l.length) (i : Nat) : addS (usedOf l k) (l.getD k 0) i = usedOf l (k + 1) i := by
  unfold addS usedOf
  rw [List.take_succ_eq_append_getElem h, List.getD_eq_getElem?_getD, List.getElem?_eq_getElem h]
  simp only [Option.getD_some, List.mem_append, List.mem_singleton, Bool.decide_or]
theorem usedOf_at (l : List Nat) (k : Nat) (h : k < l.length) (hn : l.Nodup) : usedOf l k (l.getD k 0) = false := by
  unfold usedOf
  rw [decide_eq_false_iff_not, List.getD_eq_getElem?_getD, List.getElem?_eq_getElem h, Option.getD_some]
  intro hm
  obtain ⟨j, hj, e⟩ := List.mem_take_iff_getElem.1 hm
  exact List.pairwise_iff_getElem.1 hn j k (by omega) h (by omega) e
/-- The free cells of the blocks 1 to t. -/
def carveB (used : Nat → Bool) (k : Nat) (hs : List (Nat × Nat)) : Nat → List Nat
  | 0 => []
  | t + 1 => carveB used k hs t ++ (if (hs.getD (t + 1) (0, 0)).1 = 1 then carveL used k (t + 1) (ccells k) else [])
theorem carveB_len (used : Nat → Bool) (k : Nat) (hs : List (Nat × Nat)) (t : Nat) : (carveB used k hs t).length ≤ t * ccells k := by
  induction t with
  | zero => simp [carveB]
  | succ t ih =>
    rw [carveB, List.length_append, Nat.succ_mul]
    have := carveL_len used k (t + 1) (ccells k)
    split <;> simp <;> omega
theorem carveB_mem (used : Nat → Bool) (k : Nat) (hs : List (Nat × Nat)) (hk : k < 32) (t x : Nat) (h : x ∈ carveB used k hs t) : x / 512 ≤ t ∧ 1 ≤ x / 512 := by
  induction t with
  | zero => simp [carveB] at h
  | succ t ih =>
    rw [carveB, List.mem_append] at h
    rcases h with h | h
    · have := ih h; omega
    · split at h
      · obtain ⟨j, hj, rfl⟩ := carveL_mem _ _ _ _ _ h
        have := cadr_div k (t + 1) (ccells k - 1 - j) hk (by omega)
        omega
      · simp at h
def colN (col : Nat → Nat) (a b c : Nat) : Nat → Nat := fun k => if k < a then col k else if k < b then 2 else if k < c then 3 else 8
set_option maxRecDepth 100000 in
set_option maxHeartbeats 4000000 in
theorem anew_any (B : Nat) (b : DB) (m : Nat) (s : DS) (col : Nat → Nat) (mp K k p n cap : Nat) (hs : List (Nat × Nat)) (o : Option (Nat × Nat)) (A : Option Addr) (l : List Nat) (w : World) (h : Dev B w b m s) (hM : BmanR w (fun k => col k = 1) mp b.d K hs o) (hm : m = K * 64) (hK0 : 0 < K) (hK : K ≤ 4) (hk : k < 32)
    (hdv : ∀ k, b.has k → col k = 0) (hcol : ∀ k, k < w.heap.size → col k ≠ 2 ∧ col k ≠ 3) (hr : Rd w 1 A n (ncells l)) (hn : n ≤ 100000) (hnd : l.Nodup) (hP : ∀ i, i < n → Pl s m K k p hs (l.getD i 0)) (hlt : ∀ i, i < n → l.getD i 0 < 512 * K)
    (hh : ∀ b, 1 ≤ b → b < K → (hs.getD b (0, 0)).1 = 1 → (hs.getD b (0, 0)).2 = k) :
    Calls Tryz.prog 96 #[.pointer (some ⟨b.d, 0, none⟩), .pointer (some ⟨mp, 0, none⟩), .slice A n cap] w fun e w' => ∃ ap us fr col', e = .returned (.tuple #[.pointer (some ⟨ap, 0, none⟩), .int .i64 0]) ∧ (∀ k, k < w.heap.size → col' k = col k) ∧
      AllocX w' col' ap b.d mp us fr ⟨K, k, hs, o, usedOf l n, carveB (usedOf l n) k hs (K - 1), fun _ => []⟩ ∧ Below w.heap.size w w' := by
  have hln : l.length = n := by have := hr.1; rw [ncells_len] at this; omega
  have Hg := Lib.hid (bmgeo_any (fun k => col k = 1) mp b.d K hs o w hM)
  have Hl := Lib.hid (fun w h => len_any B b m s w h)
  have Hbn := Lib.hid (fun w => bnew_any (8 * K) w (by omega) (by omega))
  have Hfn := Lib.hid (fun w => fnew_any k w hk)
  have HD : Hid (∀ wr, Below w.heap.size w wr → Dev B wr b m s) := fun wr hb => h.below hb (Nat.le_refl _)
  have HB : Hid (∀ wr, Below w.heap.size w wr → BmanR wr (fun k => col k = 1) mp b.d K hs o) := fun wr hb => hM.below hb (Nat.le_refl _)
  have HRd : Hid (∀ wr, Below w.heap.size w wr → Rd wr 1 A n (ncells l)) := fun wr hb => hr.below hb (Nat.le_refl _)
  have hlt2 := h.lt
  obtain ⟨N, HN⟩ : ∃ N, Hid (8 * m = N) := ⟨_, rfl⟩
  rw [HN.out] at Hl
  rw [show 64 * (8 * K) = N by rw [← HN.out, hm]; omega] at Hbn
  have Hsz0 := Lib.hid (Nat.le_refl w.heap.size)
  have HBl : Hid (∀ a, a < w.heap.size → col a ≠ 2 ∧ col a ≠ 3) := hcol
  clear h hM hr hcol
  go_enter Tryz.func96, Tryz.ntmps96
  go_wp2_with fail
  refine Hg.out.mono ?_
  rintro e w1 ⟨rfl, hb1⟩
  have HB1 := Lib.hid hb1
  clear hb1 Hg
  go_wp2_with fail
  refine (Hl.out _ (HD.out _ HB1.out)).mono ?_
  rintro e _ ⟨rfl, rfl⟩
  go_wp2_with fail
  refine (Hbn.out _).mono ?_
  rintro e w2 ⟨us, rfl, hS2, hb2⟩
  have HS2 := Lib.hid hS2
  have HB2 := Lib.hid hb2
  clear hS2 hb2 Hbn
  go_wp2_with fail
  refine (Hfn.out _).mono ?_
  rintro e w3 ⟨fr, rfl, hf3, hb3⟩
  have HF3 := Lib.hid hf3
  have HB3 := Lib.hid hb3
  clear hf3 hb3 Hfn
  obtain ⟨ap, Hap⟩ : ∃ k, Hid (w3.heap.size = k) := ⟨_, rfl⟩
  have HB4 := Lib.hid (below_box w3 (.cells #[.pointer (some ⟨mp, 0, none⟩), .pointer (some ⟨b.d, 0, none⟩), .int .i64 K, .pointer (some ⟨us, 0, none⟩), .pointer (some ⟨fr, 0, none⟩)] 110))
  have HBx : Hid (Below w.heap.size w (w3.alloc (.cells #[.pointer (some ⟨mp, 0, none⟩), .pointer (some ⟨b.d, 0, none⟩), .int .i64 K, .pointer (some ⟨us, 0, none⟩), .pointer (some ⟨fr, 0, none⟩)] 110))) := by
    have h1 := HB1.out.size
    have h2 := HB2.out.size
    have h3 := HB3.out.size
    exact HB1.out.trans ((HB2.out.mono h1).trans ((HB3.out.mono (by omega)).trans (HB4.out.mono (by omega))))
  have HX4 : Hid (AllocX (w3.alloc (.cells #[.pointer (some ⟨mp, 0, none⟩), .pointer (some ⟨b.d, 0, none⟩), .int .i64 K, .pointer (some ⟨us, 0, none⟩), .pointer (some ⟨fr, 0, none⟩)] 110)) (colN col w1.heap.size w2.heap.size w3.heap.size) ap b.d mp us fr ⟨K, k, hs, o, usedOf l 0, [], fun _ => []⟩) := by
    have h1 := HB1.out.size
    have h2 := HB2.out.size
    have h3 := HB3.out.size
    refine ⟨?_, ?_, ?_, ?_, ?_⟩
    · rw [← Hap.out]; exact Blk.new w3 110 _
    · refine ((HB.out w1 HB1.out).weak (F' := fun k => colN col w1.heap.size w2.heap.size w3.heap.size k = 1) (fun k hk hc => by simp only [colN]; rw [if_pos hk]; exact hc)).below (HB2.out.trans ((HB3.out.mono h2).trans (HB4.out.mono (by omega)))) (Nat.le_refl _)
    · have hh := HS2.out.weak (F' := fun k => colN col w1.heap.size w2.heap.size w3.heap.size k = 2) (fun k hk hk2 => by simp only [colN]; rw [if_neg (by omega), if_pos hk])
      refine SetR.conv ((hh.below HB3.out (Nat.le_refl _)).below HB4.out (Nat.le_refl _)) (fun i => by simp [usedOf])
    · have hh := HF3.out.weak (F' := fun k => colN col w1.heap.size w2.heap.size w3.heap.size k = 3) (fun k hk hk2 => by simp only [colN]; rw [if_neg (by omega), if_neg (by omega), if_pos hk])
      exact hh.below HB4.out (Nat.le_refl _)
    · simp only [colN]
      have := Hap.out
      rw [if_neg (by omega), if_neg (by omega), if_neg (by omega)]
  have HCC : Hid ((∀ k, k < w.heap.size → colN col w1.heap.size w2.heap.size w3.heap.size k = col k)) := by
    intro k hk
    have h1 := HB1.out.size
    simp only [colN]
    rw [if_pos (by omega)]
  go_wp2_with fail
  rw [Hap.out]
  clear HS2 HF3 HB4 HB1 HB2 HB3
  generalize w3.alloc _ = w4 at *
  generalize colN col w1.heap.size w2.heap.size w3.heap.size = col4 at *
  go_loopw [27] (fun v27 wr => ∃ i : Nat, v27 = .int .i64 i ∧ i ≤ n ∧ AllocX wr col4 ap b.d mp us fr ⟨K, k, hs, o, usedOf l i, [], fun _ => []⟩ ∧ Below w.heap.size w wr) (fun v27 _ => n - (intOf v27).toNat)
  case atStart => exact ⟨0, rfl, Nat.zero_le _, HX4.out, HBx.out⟩
  case round =>
    clear HX4 HBx
    obtain ⟨i, rfl, hi, hX, hb⟩ := hrel
    have HX := Lib.hid hX
    have HB := Lib.hid hb
    clear hX hb
    by_cases hin : i < n
    · obtain ⟨g, off, rfl, hg, hc⟩ := (HRd.out wr HB.out).2 (by omega)
      have y0 : wr.cell? ⟨g, off + i, none⟩ = some (.int .i64 (l.getD i 0 : Nat)) := hc i _ (ncells_at l i (by rw [hln]; exact hin))
      have HP := Lib.hid (place_any B b m s col4 ap mp us fr (l.getD i 0) p ⟨K, k, hs, o, usedOf l i, [], fun _ => []⟩ wr (HD.out wr HB.out) HX.out (hP i hin) hm hK0 (by show K ≤ 150; omega))
      have HE : Hid (∀ j, addS (usedOf l i) (l.getD i 0) j = usedOf l (i + 1) j) := usedOf_next l i (by rw [hln]; exact hin)
      have HE2 : Hid (usedOf l i (l.getD i 0) = false) := usedOf_at l i (by rw [hln]; exact hin) hnd
      have Hxl := Lib.hid (hlt i hin)
      generalize l.getD i 0 = x at *
      clear hc
      go_wp2_with fail
      refine HP.out.mono ?_
      rintro e w5 ⟨⟨dd, rfl⟩, hb5⟩
      have HX5 := Lib.hid (HX.out.below hb5 (Nat.le_refl _))
      have HB5 := Lib.hid (HB.out.trans (hb5.mono HB.out.size))
      clear hb5 HX HB y0 HP
      have HB6 := Lib.hid (HB5.out.trans ((below_box w5 (.cells #[.int .i64 p, .int .i64 dd] 51)).mono HB5.out.size))
      have HX6 : Hid (AllocX (w5.alloc (.cells #[.int .i64 p, .int .i64 dd] 51)) col4 ap b.d mp us fr ⟨K, k, hs, o, usedOf l i, [], fun _ => []⟩) := HX5.out.below (below_box w5 _) (Nat.le_refl _)
      have c3 : (w5.alloc (.cells #[.int .i64 p, .int .i64 dd] 51)).cell? ⟨ap, 3, none⟩ = some (.pointer (some ⟨us, 0, none⟩)) := HX6.out.b.cell 3
      have hxl : x < 512 * K := Hxl.out
      have Had := Lib.hid (badd_any (fun k => col4 k = 2) us (8 * K) x (usedOf l i) _ HX6.out.u (by omega) (by omega))
      rw [HE2.out, show decide (x < 64 * (8 * K)) = true by rw [decide_eq_true_eq]; omega] at Had
      clear HX5 HB5 hxl
      go_wp2_with fail
      refine Had.out.mono ?_
      rintro e w7 ⟨rfl, hS7, hM7⟩
      have HX7 := Lib.hid (HX6.out.usedS hM7 (SetR.conv (s' := usedOf l (i + 1)) hS7 (fun j => by rw [← HE.out j]; simp [addS])))
      have HB7 : Hid (Below w.heap.size w w7) := Below.mod HB6.out hM7 HB6.out.size (fun k hk h => by
        rcases Nat.lt_or_ge k w.heap.size with h1 | h1
        · have := HCC.out k h1; have := (HBl.out k h1).1; omega
        · exact h1)
      clear hS7 hM7 Had HX6 HB6 c3
      go_wp2_with fail
      exact ⟨⟨i + 1, by go_num, by omega, HX7.out, HB7.out⟩, by simp [intOf]; omega⟩
    · obtain rfl : i = n := by omega
      clear hP HRd
      go_wp2_with fail
      have HY0 : Hid (AllocX wr (colW col4 wr 3) ap b.d mp us fr ⟨K, k, hs, o, usedOf l i, carveB (usedOf l i) k hs 0, fun _ => []⟩) := HX.out.recol (colW_lt col4 wr 3)
      have HB0 := Lib.hid HB.out
      have HC5 : Hid (∀ k, k < w.heap.size → colW col4 wr 3 k = col k) := fun k hk => by rw [colW_lt _ _ _ _ (Nat.lt_of_lt_of_le hk HB.out.size)]; exact HCC.out k hk
      have HC6 : Hid (∀ w2 : World, wr.heap.size ≤ w2.heap.size → colW (colW col4 wr 3) w2 3 = colW col4 wr 3) := by
        intro w2 h2
        funext k
        unfold colW
        split
        · rfl
        · rw [if_neg (by omega)]
      have Hwr := Lib.hid (Nat.le_refl wr.heap.size)
      obtain ⟨N0, HN0⟩ : ∃ N, Hid (wr.heap.size = N) := ⟨_, rfl⟩
      rw [HN0.out] at HC6
      generalize colW col4 wr 3 = col5 at *
      have hwrN : N0 ≤ wr.heap.size := Nat.le_of_eq HN0.out.symm
      have HwrN := Lib.hid hwrN
      clear HX HB hwrN
      go_loopw [13] (fun v13 wr => ∃ t : Nat, v13 = .int .i64 (t + 1 : Nat) ∧ t + 1 ≤ K ∧ AllocX wr col5 ap b.d mp us fr ⟨K, k, hs, o, usedOf l i, carveB (usedOf l i) k hs t, fun _ => []⟩ ∧ Below w.heap.size w wr ∧ N0 ≤ wr.heap.size) (fun v13 _ => K - (intOf v13).toNat)
      case atStart => exact ⟨0, rfl, by omega, HY0.out, HB0.out, HwrN.out⟩
      case round =>
        clear HY0 HB0 HwrN
        obtain ⟨t, rfl, ht, hX, hb, hN⟩ := hrel
        have HX := Lib.hid hX
        have HB := Lib.hid hb
        have HN2 := Lib.hid hN
        obtain ⟨tt, x, T, X, hmb, hT, hX2, d1, d2, d3, d4, d5, d6⟩ := hX.m
        have c0 : wr.cell? ⟨mp, 0, none⟩ = some (.pointer (some ⟨tt, 0, none⟩)) := hmb.cell 0
        have Htl := Lib.hid (tlen_any T tt b.d K hs wr hT)
        have Htg := Lib.hid (fun (h : t + 1 < K) => tget_any T tt b.d K (t + 1) hs wr hT (by omega) h (by omega))
        obtain ⟨t1, Ht1⟩ : ∃ t1, Hid (t + 1 = t1) := ⟨_, rfl⟩
        rw [Ht1.out] at ht Htg ⊢
        clear hX hb hN hmb hT hX2 d1 d2 d3 d4 d5 d6
        by_cases htK : t1 < K
        · have Hcv : Hid (∀ wr, AllocX wr col5 ap b.d mp us fr ⟨K, k, hs, o, usedOf l i, carveB (usedOf l i) k hs t, fun _ => []⟩ → N0 ≤ wr.heap.size → Calls Tryz.prog 143 #[.pointer (some ⟨ap, 0, none⟩), .int .i64 t1, .int .i64 k] wr fun e w' => (∃ v, e = .returned v) ∧ AllocX w' col5 ap b.d mp us fr ⟨K, k, hs, o, usedOf l i, carveB (usedOf l i) k hs t ++ carveL (usedOf l i) k t1 (ccells k), fun _ => []⟩ ∧ Mod wr w' (fun k => col5 k = 3)) := by
            intro wr hX hN
            have hl := carveB_len (usedOf l i) k hs t
            have hcc := ccells_pos k hk
            have ht1 := Ht1.out
            have := carve_any col5 ap b.d mp us fr t1 ⟨K, k, hs, o, usedOf l i, carveB (usedOf l i) k hs t, fun _ => []⟩ wr hX hk (by omega) htK (by show K ≤ 150; omega) (by
              rintro x (hx | ⟨mm, _, hx⟩)
              · have := (carveB_mem _ _ _ hk _ _ hx).1; omega
              · cases hx) (by
              show (carveB (usedOf l i) k hs t).length + ccells k ≤ 900
              have h3 : t * ccells k ≤ 2 * ccells k := Nat.mul_le_mul_right _ (by omega)
              omega) (fun m => by simp)
            rw [HC6.out wr hN] at this
            exact this
          have hkd := hh t1 (by have := Ht1.out; omega) htK
          have HS : Hid (carveB (usedOf l i) k hs t1 = carveB (usedOf l i) k hs t ++ (if (hs.getD t1 (0, 0)).1 = 1 then carveL (usedOf l i) k t1 (ccells k) else [])) := by show _ = _; rw [← Ht1.out]; rfl
          have Htg2 := Lib.hid (Htg.out htK)
          obtain ⟨kd, Hkd⟩ : ∃ kd, Hid ((hs.getD t1 (0, 0)).1 = kd) := ⟨_, rfl⟩
          obtain ⟨cl, Hcl⟩ : ∃ cl, Hid ((hs.getD t1 (0, 0)).2 = cl) := ⟨_, rfl⟩
          rw [Hkd.out, Hcl.out] at Htg2 hkd
          rw [Hkd.out] at HS
          go_wp2_with fail
          refine Htl.out.mono ?_
          rintro e _ ⟨rfl, rfl⟩
          go_wp2_with fail
          refine Htg2.out.mono ?_
          rintro e w5 ⟨rfl, hb5⟩
          have HB5 := Lib.hid (HB.out.trans (hb5.mono HB.out.size))
          have HX5 := Lib.hid (HX.out.below hb5 (Nat.le_refl _))
          have HN5 := Lib.hid (Nat.le_trans HN2.out hb5.size)
          clear hb5 HB HX HN2 c0 Htl Htg Htg2
          have HB6 := Lib.hid (HB5.out.trans ((below_box w5 (.cells #[.int .i64 kd, .int .i64 cl, .int .i64 0] 178)).mono HB5.out.size))
          have HX6 : Hid (AllocX (w5.alloc (.cells #[.int .i64 kd, .int .i64 cl, .int .i64 0] 178)) col5 ap b.d mp us fr ⟨K, k, hs, o, usedOf l i, carveB (usedOf l i) k hs t, fun _ => []⟩) := HX5.out.below (below_box w5 _) (Nat.le_refl _)
          have HN6 := Lib.hid (Nat.le_trans HN5.out (below_box w5 (.cells #[.int .i64 kd, .int .i64 cl, .int .i64 0] 178)).size)
          by_cases hk1 : kd = 1
          · obtain rfl := hkd hk1
            subst hk1
            have HS2 : Hid (carveB (usedOf l i) cl hs t1 = carveB (usedOf l i) cl hs t ++ carveL (usedOf l i) cl t1 (ccells cl)) := by show _ = _; rw [HS.out, if_pos rfl]
            clear hkd HS HB5 HX5 HN5
            go_wp2_with fail
            refine (Hcv.out _ HX6.out HN6.out).mono ?_
            rintro e w7 ⟨⟨v, rfl⟩, hX7, hM7⟩
            have HX7 : Hid (AllocX w7 col5 ap b.d mp us fr ⟨K, cl, hs, o, usedOf l i, carveB (usedOf l i) cl hs t1, fun _ => []⟩) := by
              show AllocX _ _ _ _ _ _ _ _
              rw [HS2.out]
              exact hX7
            have HN7 := Lib.hid (Nat.le_trans HN6.out hM7.size)
            have HB7 : Hid (Below w.heap.size w w7) := Below.mod HB6.out hM7 HB6.out.size (fun k hk h => by
              rcases Nat.lt_or_ge k w.heap.size with h1 | h1
              · have := HC5.out k h1; have := (HBl.out k h1).2; omega
              · exact h1)
            clear hX7 hM7 HX6 HB6 HN6 HS2
            go_wp2_with fail
            exact ⟨⟨t1, by go_num, by omega, HX7.out, HB7.out, HN7.out⟩, by simp [intOf]; omega⟩
          · have HS2 : Hid (carveB (usedOf l i) k hs t1 = carveB (usedOf l i) k hs t) := by show _ = _; rw [HS.out, if_neg hk1, List.append_nil]
            have hkb : ((kd : Int) == 1) = false := by rw [beq_eq_false_iff_ne]; omega
            have hkb2 : (kd == 1) = false := by rw [beq_eq_false_iff_ne]; omega
            have hkb3 : decide ((kd : Int) = 1) = false := by rw [decide_eq_false_iff_not]; omega
            have hkb4 : decide (kd = 1) = false := by rw [decide_eq_false_iff_not]; omega
            have HX7 : Hid (AllocX (w5.alloc (.cells #[.int .i64 kd, .int .i64 cl, .int .i64 0] 178)) col5 ap b.d mp us fr ⟨K, k, hs, o, usedOf l i, carveB (usedOf l i) k hs t1, fun _ => []⟩) := by
              show AllocX _ _ _ _ _ _ _ _
              rw [HS2.out]
              exact HX6.out
            clear hk1 hkd HS HB5 HX5 HN5 HS2 HX6
            go_wp2_with fail
            exact ⟨⟨t1, by go_num, by omega, HX7.out, HB6.out, HN6.out⟩, by simp [intOf]; omega⟩
        · go_wp2_with fail
          refine Htl.out.mono ?_
          rintro e _ ⟨rfl, rfl⟩
          go_wp2_with fail
          refine bodyPost_ret (results_tmp2 rfl _ _ _) rfl ?_
          refine ⟨ap, us, fr, col5, rfl, HC5.out, ?_, HB.out⟩
          have : K - 1 = t := by have := Ht1.out; omega
          rw [this]
          exact HX.out
end Go.Proofs.YtcnjipicifkfjaaGreat

/- revive: Open. -/
namespace Go.Proofs.YtcnjipicifkfjaaGreat
open Go.RowKit
set_option linter.unusedVariables false
set_option linter.unusedSimpArgs false

/-- What Open finds and leaves: the headers that are right, on the device that they were written to. -/
structure OpenIn (s s' : DS) (m K id ep wh j k : Nat) (hs : List (Nat × Nat)) : Prop where
  h : HeapIn s m K id ep wh j hs
  l : s.Live
  e : (exec s (writeHS hs (keepH hs K j) K)).1 = s'
  hdr : HdrsIn s' K (keepH hs K j)
  p : PileIn s' m K (keepH hs K j) j
  k1 : j ≠ 0 → k = 1
  k2 : k < 32
  one : j ≠ 0 → hs.getD 1 (0, 0) = (1, 1)
  no2 : (hs.getD 1 (0, 0)).1 ≠ 2
def freeA (j : Nat) : Nat := if j = 0 then 1 else 2
theorem keepH_get (hs : List (Nat × Nat)) (K j b : Nat) (hK : 2 ≤ K) (h1 : j ≠ 0 → hs.getD 1 (0, 0) = (1, 1)) : (keepH hs K j).getD b (0, 0) = if b = 1 ∧ j ≠ 0 then (1, 1) else (0, 0) := by
  unfold keepH
  by_cases hj : j = 0
  · rw [if_pos hj, if_neg (by omega), List.getD_eq_getElem?_getD, List.getElem?_replicate]
    split <;> rfl
  · rw [if_neg hj, h1 hj, List.getD_eq_getElem?_getD, List.getElem?_set]
    by_cases hb : b = 1
    · subst hb
      rw [if_pos rfl, if_pos (by rw [List.length_replicate]; omega), if_pos ⟨rfl, hj⟩]
      rfl
    · rw [if_neg (by omega), if_neg (by omega), List.getElem?_replicate]
      split <;> rfl
/-- The allocator that Open makes. -/
def asO (K k j : Nat) (hs : List (Nat × Nat)) : AS := ⟨K, k, keepH hs K j, some (freeA j, K - freeA j), usedOf (adrs j) j, carveB (usedOf (adrs j) j) k (keepH hs K j) (K - 1), fun _ => []⟩
open Classical in
noncomputable def colO (b : DB) (a rt q : Nat) : Nat → Nat := fun k => if k < a then (if b.has k then 0 else 9) else if k = rt then 4 else if q ≤ k then 1 else 9
set_option maxRecDepth 100000 in
set_option maxHeartbeats 4000000 in
theorem rvopen_any (B : Nat) (b : DB) (m : Nat) (s s' : DS) (K id ep wh j k : Nat) (hs : List (Nat × Nat)) (w : World) (h : Dev B w b m s) (hI : OpenIn s s' m K id ep wh j k hs) (hK : 3 ≤ K) (hK2 : K ≤ 4) (hid : id < 18446744073709551616) :
    Calls Tryz.prog 40 #[.pointer (some ⟨b.d, 0, none⟩)] w fun e w' => ∃ al rt mp us fr A cap col, e = .returned (.tuple #[.agg (stC K id (some ⟨al, 0, none⟩) (some ⟨rt, 0, none⟩) A j cap), .int .i64 0]) ∧ Dev B w' b m s' ∧ (∀ k, k < w.heap.size → (b.has k ∧ col k = 0) ∨ (¬ b.has k ∧ col k = 9)) ∧
      AllocX w' col al b.d mp us fr (asO K k j hs) ∧ RootR w' (fun k => col k = 4) rt b.d ep wh (rootsL j) (rootsL j) ∧ Own w' w.heap.size 3 1 A j cap (ncells (adrs j)) ∧ (∀ a, A = some a → col a.block = 9) ∧ Mod w w' b.has := by
  have hm := hI.h.hm
  have hH := hI.h.hdr
  obtain ⟨N, HNN⟩ : ∃ N, Hid (keepH hs K j = N) := ⟨_, rfl⟩
  have HD0 : Hid (∀ wr, Below w.heap.size w wr → Dev B wr b m s) := fun wr hb => h.below hb (Nat.le_refl _)
  have Hlt := Lib.hid h.lt
  have Hlk := Lib.hid (fun w h => look_any B b m s K id ep wh j hs w h hI.h (by omega) (by omega) hid)
  unfold stC at Hlk ⊢
  have Hkp := Lib.hid (fun g gcap cap A w hl hr => keep_any K g gcap j cap hs A w hl hr hI.h.j (by omega) (by omega) hI.no2)
  have Hwr := Lib.hid (fun g gcap g2 gcap2 w h h1 h2 hg hg2 => rvwrite_any B b m s K g gcap g2 gcap2 hs (keepH hs K j) w h hI.l (by omega) (by omega) hm h1 h2 hg hg2 (fun b hb => hI.hdr.ok b hb))
  have hkg := fun b => keepH_get hs K j b (by omega) hI.one
  have Hbm := Lib.hid (fun w h => bmopen_any B b m s' K (freeA j) (keepH hs K j) w h hI.hdr (by omega) (by omega) hm (by unfold freeA; split <;> omega) (by unfold freeA; split <;> omega)
    (fun b => by rw [hkg b]; split <;> simp) (fun b h1 h2 => by
      rw [hkg b]
      unfold freeA at h2
      split at h2
      · omega
      · rw [if_pos (by omega)]; simp) (fun b h1 h2 => by
      rw [hkg b]
      unfold freeA at h1
      split at h1
      · rw [if_neg (by omega)]
      · rw [if_neg (by omega)]))
  have Han := Lib.hid (fun col mp cap A w h hM hdv hcol hr => anew_any B b m s' col mp K k 1 j cap (keepH hs K j) (some (freeA j, K - freeA j)) A (adrs j) w h hM hm (by omega) (by omega) hI.k2 hdv hcol hr (by have := hI.h.j; omega) (adrs_nodup j)
    (fun i hi => by
      rw [adrs_at j i hi, hI.k1 (by omega)]
      exact hI.p.pl (i + 1) (by omega) (by omega)) (fun i hi => by rw [adrs_at j i hi]; have := hI.h.j; unfold adr; omega) (fun b h1 h2 h3 => by
      rw [hkg b] at h3 ⊢
      split at h3
      · rename_i hb
        rw [if_pos hb]
        exact (hI.k1 hb.2).symm
      · simp at h3))
  rw [hI.e] at Hwr
  rw [HNN.out] at Hkp Hwr Hbm Han
  have Has : Hid (asO K k j hs = ⟨K, k, N, some (freeA j, K - freeA j), usedOf (adrs j) j, carveB (usedOf (adrs j) j) k N (K - 1), fun _ => []⟩) := by show _ = _; unfold asO; rw [HNN.out]
  rw [Has.out]
  obtain ⟨n2, Hn2⟩ : ∃ n, Hid (w.heap.size = n) := ⟨_, rfl⟩
  have L0 := Lib.hid ((Loc.nil b.has w).box 98 #[.int .i64 0, .int .u64 0, .int .i64 0, .pointer none, .pointer none, .slice none 0 0] n2 Hn2.out)
  have HB0 := Lib.hid (below_box w (.cells #[.int .i64 0, .int .u64 0, .int .i64 0, .pointer none, .pointer none, .slice none 0 0] 98))
  clear h hI hH hkg
  go_enter Tryz.func40, Tryz.ntmps40
  go_wp2_with fail
  rw [Hn2.out]
  generalize w.alloc _ = w1 at *
  refine (Hlk.out _ (HD0.out _ HB0.out)).mono ?_
  rintro e w2 ⟨rt, g, A, cap, rfl, hrt, hR, hO, hLv, hb2⟩
  have L2 := Lib.hid (L0.out.call hb2 (Nat.le_refl _))
  have HB2 : Hid (Below w.heap.size w w2) := HB0.out.trans (hb2.mono HB0.out.size)
  have hsz1 : w.heap.size ≤ w1.heap.size := HB0.out.size
  obtain ⟨n4, Hn4⟩ : ∃ n, Hid (w2.heap.size = n) := ⟨_, rfl⟩
  have L3 := Lib.hid (L2.out.box 98 #[.int .i64 K, .int .u64 id, .int .i64 K, .pointer none, .pointer (some ⟨rt, 0, none⟩), .slice A j cap] n4 Hn4.out)
  have HB3 : Hid (Below w.heap.size w (w2.alloc (.cells #[.int .i64 K, .int .u64 id, .int .i64 K, .pointer none, .pointer (some ⟨rt, 0, none⟩), .slice A j cap] 98)).drew) := below_drewN (HB2.out.trans ((below_box w2 _).mono HB2.out.size)) 1
  have HR3 : Hid (RootR (w2.alloc (.cells #[.int .i64 K, .int .u64 id, .int .i64 K, .pointer none, .pointer (some ⟨rt, 0, none⟩), .slice A j cap] 98)).drew (fun k => k = rt) rt b.d ep wh (rootsL j) (rootsL j)) := ⟨(hR.1.alloc _).drew, hR.2⟩
  have HO3 : Hid (Own (w2.alloc (.cells #[.int .i64 K, .int .u64 id, .int .i64 K, .pointer none, .pointer (some ⟨rt, 0, none⟩), .slice A j cap] 98)).drew w.heap.size 178 3 (some ⟨g, 0, none⟩) K K (hcells hs)) := ((hO.base_ hsz1).alloc _).drewN 1
  have HV3 : Hid (Own (w2.alloc (.cells #[.int .i64 K, .int .u64 id, .int .i64 K, .pointer none, .pointer (some ⟨rt, 0, none⟩), .slice A j cap] 98)).drew w.heap.size 3 1 A j cap (ncells (adrs j))) := ((hLv.base_ hsz1).alloc _).drewN 1
  have Hrtw : Hid (w.heap.size ≤ rt) := Nat.le_trans hsz1 hrt
  clear hb2 hR hO hLv hrt L2 L0 Hlk
  go_wp2_with fail
  rw [Hn4.out]
  obtain ⟨w3, Hw3⟩ : ∃ w3, Hid ((w2.alloc (.cells #[.int .i64 K, .int .u64 id, .int .i64 K, .pointer none, .pointer (some ⟨rt, 0, none⟩), .slice A j cap] 98)) = w3) := ⟨_, rfl⟩
  rw [Hw3.out] at L3 HB3 HR3 HO3 HV3 ⊢
  have L3d := Lib.hid L3.out.drew
  have e2 : w3.cell? ⟨n4, 2, none⟩ = some (.int .i64 K) := L3.out.b0.cell 2
  have e5 : w3.cell? ⟨n4, 5, none⟩ = some (.slice A j cap) := L3.out.b0.cell 5
  have hbw : ∀ k, b.has k → k < w.heap.size := fun k hk => (Hlt.out k hk).2
  have Hbw := Lib.hid hbw
  clear L3 hbw
  go_region_held3 (fun W => W.cell? ⟨n4, 2, none⟩ = some (.int .i64 K) ∧ W.cell? ⟨n4, 5, none⟩ = some (.slice A j cap))
    (first | exact ⟨e2, e5⟩ | exact ⟨L4.out.b0.cell 2, L4.out.b0.cell 5⟩ | exact ⟨L5.out.b0.cell 2, L5.out.b0.cell 5⟩)
    (first
      | (go_at_call 94; refine (Hkp.out g K cap A _ (HO3.out.base_ (Nat.zero_le _)) HV3.out.rd).mono ?_; rintro e w4 ⟨g2, rfl, hO4, hb4⟩; have L4 := Lib.hid (L3d.out.call hb4 (Nat.le_refl _)); have HN4 := Lib.hid (hO4.base_ HB3.out.size); have HO4 := Lib.hid (HO3.out.below hb4 (Nat.le_refl _)); have HV4 := Lib.hid (HV3.out.below hb4 (Nat.le_refl _)); have HR4 := Lib.hid (HR3.out.below hb4 (Nat.le_refl _)); have HB4 : Hid (Below w.heap.size w w4) := HB3.out.trans (hb4.mono HB3.out.size); clear hO4 hb4)
      | (go_at_call 93; refine (Hwr.out g K g2 K _ (HD0.out _ HB4.out) (HO4.out.base_ (Nat.zero_le _)) (HN4.out.base_ (Nat.zero_le _)) (fun h => by have h1 := Hbw.out g h; have h2 := (HO4.out.lt _ rfl).1; simp only at h2; omega) (fun h => by have h1 := Hbw.out g2 h; have h2 := (HN4.out.lt _ rfl).1; simp only at h2; omega)).mono ?_; rintro e w5 ⟨rfl, hd5, hm5⟩; have HD5 := Lib.hid hd5; have L5 := Lib.hid (L4.out.eff hm5 (fun k hk => ⟨hk, Hbw.out k hk⟩)); have HV5 := Lib.hid (HV4.out.mod hm5 (fun a ha h => by have h1 := Hbw.out _ h; have h2 := (HV4.out.lt a ha).1; omega)); have HR5 := Lib.hid (HR4.out.mod hm5 (fun k h1 h2 => by have h3 := Hbw.out k h2; have h4 := Hrtw.out; omega)); clear hd5 hm5))
  have c2 : w5.cell? ⟨n4, 2, none⟩ = some (.int .i64 K) := L5.out.b0.cell 2
  clear e2 e5 L3d L4 HR3 HR4 HO3 HO4 HV3 HV4 HN4 HB3 HB4 HB2 HB0 Hkp Hwr
  go_wp2_with fail
  refine (Hbm.out _ HD5.out).mono ?_
  rintro e w6 ⟨mp, rfl, hM6, hb6⟩
  have L6 := Lib.hid (L5.out.call hb6 (Nat.le_refl _))
  have HD6 := Lib.hid (HD5.out.below hb6 (Nat.le_refl _))
  have HV6 := Lib.hid (HV5.out.below hb6 (Nat.le_refl _))
  have HR6 := Lib.hid (HR5.out.below hb6 (Nat.le_refl _))
  have hw5 : w.heap.size ≤ w5.heap.size := L5.out.be.size
  have Hcd : Hid (∀ k, b.has k → colO b w.heap.size rt w5.heap.size k = 0) := fun k hk => by unfold colO; rw [if_pos (Hbw.out k hk), if_pos hk]
  have Hcd0 : Hid (∀ k, k < w.heap.size → (b.has k ∧ colO b w.heap.size rt w5.heap.size k = 0) ∨ (¬ b.has k ∧ colO b w.heap.size rt w5.heap.size k = 9)) := fun k hk => by
    unfold colO
    rw [if_pos hk]
    by_cases hb : b.has k
    · exact .inl ⟨hb, if_pos hb⟩
    · exact .inr ⟨hb, if_neg hb⟩
  have Hc4 : Hid (colO b w.heap.size rt w5.heap.size rt = 4) := by show _ = _; unfold colO; rw [if_neg (by have := Hrtw.out; omega), if_pos rfl]
  have Hc23 : Hid (∀ k, k < w6.heap.size → colO b w.heap.size rt w5.heap.size k ≠ 2 ∧ colO b w.heap.size rt w5.heap.size k ≠ 3) := fun k _ => by
    unfold colO
    repeat (first | split | (constructor <;> decide))
  have hrt5 : rt < w5.heap.size := HR5.out.1.lt
  have HM6 : Hid (BmanR w6 (fun k => colO b w.heap.size rt w5.heap.size k = 1) mp b.d K N (some (freeA j, K - freeA j))) := hM6.weak (fun k _ hk => by
    unfold colO
    rw [if_neg (by omega), if_neg (by omega), if_pos hk])
  have hne_rt : ∀ n (cs : Array Value), Blk w5 n 98 cs → n ≠ rt := by
    intro n cs hb e
    have h3 := HR5.out.1
    rw [← e] at h3
    unfold Blk at h3 hb
    rw [hb] at h3
    cases h3
  have Hc9 : Hid (colO b w.heap.size rt w5.heap.size n2 = 9 ∧ colO b w.heap.size rt w5.heap.size n4 = 9) := by
    have h1 := (L5.out.at_ _ (List.mem_cons_self)).2
    have h2 := (L5.out.at_ _ (List.mem_cons_of_mem _ List.mem_cons_self)).2
    have h3 := L5.out.b0.lt
    have h4 := L5.out.b1.lt
    have h5 := hne_rt _ _ L5.out.b0
    have h6 := hne_rt _ _ L5.out.b1
    simp only at h1 h2
    constructor
    · unfold colO; rw [if_neg (by omega), if_neg h6, if_neg (by omega)]
    · unfold colO; rw [if_neg (by omega), if_neg h5, if_neg (by omega)]
  have HcA : Hid (∀ a, A = some a → colO b w.heap.size rt w5.heap.size a.block = 9) := fun a ha => by
    have h1 := HV5.out.lt a ha
    have h2 := HV5.out.ne HR5.out.1 (by decide) a ha
    unfold colO; rw [if_neg (by omega), if_neg h2, if_neg (by omega)]
  have Hnrt : Hid (n2 ≠ rt ∧ n4 ≠ rt) := ⟨hne_rt _ _ L5.out.b1, hne_rt _ _ L5.out.b0⟩
  clear hne_rt
  generalize colO b w.heap.size rt w5.heap.size = col1 at *
  have e5 : w6.cell? ⟨n4, 5, none⟩ = some (.slice A j cap) := L6.out.b0.cell 5
  have Ha := Lib.hid (Han.out col1 mp cap A w6 HD6.out HM6.out Hcd.out Hc23.out HV6.out.rd)
  clear hM6 hb6 L5 HD5 HV5 HR5 c2 HM6 Hbm Han
  go_wp2_with fail
  refine Ha.out.mono ?_
  rintro e w7 ⟨al, us, fr, col, rfl, hcol, hA7, hb7⟩
  have L7 := Lib.hid (L6.out.call hb7 (Nat.le_refl _))
  have HD7 := Lib.hid (HD6.out.below hb7 (Nat.le_refl _))
  have HV7 := Lib.hid (HV6.out.below hb7 (Nat.le_refl _))
  have HA7 := Lib.hid hA7
  have hw6 : w.heap.size ≤ w6.heap.size := L6.out.be.size
  have hrt6 : rt < w6.heap.size := HR6.out.1.lt
  have HR7 : Hid (RootR w7 (fun k => k = rt) rt b.d ep wh (rootsL j) (rootsL j)) := HR6.out.below hb7 (Nat.le_refl _)
  have Hcol : Hid ((∀ k, k < w.heap.size → (b.has k ∧ col k = 0) ∨ (¬ b.has k ∧ col k = 9)) ∧ col rt = 4) := ⟨fun k hk => by rw [hcol k (Nat.lt_of_lt_of_le hk hw6)]; exact Hcd0.out k hk, (hcol rt hrt6).trans Hc4.out⟩
  have HcA7 : Hid (∀ a, A = some a → col a.block = 9) := fun a ha => (hcol _ (HV6.out.lt a ha).2).trans (HcA.out a ha)
  have Hcn : Hid (col n2 = 9 ∧ col n4 = 9) := ⟨(hcol n2 L6.out.b1.lt).trans Hc9.out.1, (hcol n4 L6.out.b0.lt).trans Hc9.out.2⟩
  have f3 := L7.out.b0.frozen 3
  have d3 : w7.cell? ⟨n4, 3, none⟩ = some (.pointer none) := L7.out.b0.cell 3
  have d0 : w7.cell? ⟨n4, 0, none⟩ = some (.int .i64 K) := L7.out.b0.cell 0
  have d1 : w7.cell? ⟨n4, 1, none⟩ = some (.int .u64 id) := L7.out.b0.cell 1
  have d2 : w7.cell? ⟨n4, 2, none⟩ = some (.int .i64 K) := L7.out.b0.cell 2
  have d4 : w7.cell? ⟨n4, 4, none⟩ = some (.pointer (some ⟨rt, 0, none⟩)) := L7.out.b0.cell 4
  have d5 : w7.cell? ⟨n4, 5, none⟩ = some (.slice A j cap) := L7.out.b0.cell 5
  have L8 := Lib.hid ((L7.out.set 3 (.pointer (some ⟨al, 0, none⟩))).swap)
  have v0 : w7.cell? ⟨n2, 0, none⟩ = some (.int .i64 0) := L7.out.b1.cell 0
  have v1 : w7.cell? ⟨n2, 1, none⟩ = some (.int .u64 0) := L7.out.b1.cell 1
  have v2 : w7.cell? ⟨n2, 2, none⟩ = some (.int .i64 0) := L7.out.b1.cell 2
  have v3 : w7.cell? ⟨n2, 3, none⟩ = some (.pointer none) := L7.out.b1.cell 3
  have v4 : w7.cell? ⟨n2, 4, none⟩ = some (.pointer none) := L7.out.b1.cell 4
  have v5 : w7.cell? ⟨n2, 5, none⟩ = some (.slice none 0 0) := L7.out.b1.cell 5
  have z0 := L7.out.b1.frozen 0
  have z1 := L7.out.b1.frozen 1
  have z2 := L7.out.b1.frozen 2
  have z3 := L7.out.b1.frozen 3
  have z4 := L7.out.b1.frozen 4
  have z5 := L7.out.b1.frozen 5
  have hne : ¬ n4 = n2 := L7.out.ne_ (i := 0) (j := 1) (by omega) rfl rfl
  have hne2 : ¬ n2 = n4 := fun e => hne e.symm
  clear hcol hA7 hb7 Ha HD6 HV6 HR6 L6 e5
  go_wp2_with fail
  have LF := (((((L8.out.set 0 (.int .i64 K)).set 1 (.int .u64 id)).set 2 (.int .i64 K)).set 3 (.pointer (some ⟨al, 0, none⟩))).set 4 (.pointer (some ⟨rt, 0, none⟩))).set 5 (.slice A j cap)
  have hM := (Mod.set (p := ⟨n2, 5, none⟩) (Mod.set (p := ⟨n2, 4, none⟩) (Mod.set (p := ⟨n2, 3, none⟩) (Mod.set (p := ⟨n2, 2, none⟩) (Mod.set (p := ⟨n2, 1, none⟩) (Mod.set (p := ⟨n2, 0, none⟩) (Mod.set (p := ⟨n4, 3, none⟩) (Mod.refl w7 (fun k => k = n2 ∨ k = n4)) (.inr (.inr rfl)) (.pointer (some ⟨al, 0, none⟩))) (.inr (.inl rfl)) (.int .i64 K)) (.inr (.inl rfl)) (.int .u64 id)) (.inr (.inl rfl)) (.int .i64 K)) (.inr (.inl rfl)) (.pointer (some ⟨al, 0, none⟩))) (.inr (.inl rfl)) (.pointer (some ⟨rt, 0, none⟩))) (.inr (.inl rfl)) (.slice A j cap))
  have h1 := (L7.out.at_ _ (List.mem_cons_self)).2
  have h2 := (L7.out.at_ _ (List.mem_cons_of_mem _ List.mem_cons_self)).2
  have hb0 := L7.out.b0
  have hb1 := L7.out.b1
  have hcn := Hcn.out
  have hnrt := Hnrt.out
  simp only at h1 h2
  refine bodyPost_ret (results_row_tmp rfl _ _ n2 98 _ _ _ rfl LF.b0 Tryz.underlying98 rfl size98) rfl ?_
  refine ⟨al, rt, mp, us, fr, A, cap, col, rfl, HD7.out.mod hM (fun k hk h => by have := Hbw.out k hk; omega), Hcol.out.1, HA7.out.mod hM (fun k hk h => by rcases h with rfl | rfl <;> omega), ?_, HV7.out.mod hM (fun a ha h => ?_), HcA7.out, LF.be⟩
  · have := HR7.out.mod hM (fun k hk h => by rcases h with rfl | rfl <;> omega)
    exact ⟨this.1, this.2.1, this.2.2.1, Hcol.out.2⟩
  · rcases h with h | h
    · exact HV7.out.ne hb1 (by decide) a ha h
    · exact HV7.out.ne hb0 (by decide) a ha h
end Go.Proofs.YtcnjipicifkfjaaGreat
