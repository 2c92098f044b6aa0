/- heap: New. -/
import Derived.Test.YtcnjipicifkfjaaGreatRm36
import Derived.Test.YtcnjipicifkfjaaGreatRm13
import Derived.Test.YtcnjipicifkfjaaGreatRm33
import Derived.Test.YtcnjipicifkfjaaGreatRm32
import Derived.Test.YtcnjipicifkfjaaGreatRm27
import Derived.Test.YtcnjipicifkfjaaGreatRm28
import Derived.Test.YtcnjipicifkfjaaGreatRm18
import Derived.Test.YtcnjipicifkfjaaGreatRm19

namespace Go.Proofs.YtcnjipicifkfjaaGreat
open Go.RowKit
set_option linter.unusedVariables false
set_option linter.unusedSimpArgs false

/-- A device behind Format. -/
def fmt (K id : Nat) : DS := (exec (fresh (zerosN (8 * (K * 64))) (K * 64)) (formatS K id)).1
theorem fresh_live (L : List Nat) (m : Nat) : (fresh L m).Live := ⟨rfl, rfl⟩
set_option maxRecDepth 100000 in
set_option maxHeartbeats 2000000 in
theorem hnewh_any (K id most k p : Nat) (w : World) (hI : OpenIn (fmt K id) (fmt K id) (K * 64) K id 1 0 0 k (List.replicate K (0, 0))) (hob : OB (fmt K id) (K * 64) (usedOf (adrs 0) 0) p) (hK : 3 ≤ K) (hK2 : K ≤ 4) (hid : id < 18446744073709551616) :
    Calls Tryz.prog 6 #[.agg #[.int .i64 K, .int .u64 id, .int .i64 most]] w fun e w' => ∃ b hp, e = .returned (.tuple #[.pointer (some ⟨hp, 0, none⟩), .int .i64 0]) ∧ HeapR w' (fun k => w.heap.size ≤ k) w.heap.size b (K * 64) (fmt K id) hp (hsO K k 0 1 0 most p (fmt K id) (List.replicate K (0, 0))) ∧ Below w.heap.size w w' := by
  have Hgr := Lib.hid (fun w => gright_any K w (by omega) (by omega))
  have Hgw := Lib.hid (fun w => gwords_any K w (by omega))
  have Hnn := Lib.hid (fun w => nnew_any (K * 64) w (by omega) (by omega))
  obtain ⟨N, HN⟩ : ∃ N, Hid (K * 512 = N) := ⟨_, rfl⟩
  rw [HN.out] at Hgw
  rw [show 8 * (K * 64) = N by rw [← HN.out]; omega] at Hnn
  have Hfm : Hid (∀ B b w, Dev B w b (K * 64) (fresh (zerosN N) (K * 64)) → Calls Tryz.prog 25 #[.pointer (some ⟨b.d, 0, none⟩), .int .u64 id] w fun e w' => e = .returned (.int .i64 0) ∧ Dev B w' b (K * 64) (fmt K id) ∧ Mod w w' b.has) := fun B b w h => by
    have := format_any B b (K * 64) (fresh (zerosN N) (K * 64)) K id w h (fresh_live _ _) (by omega) (by omega) hid rfl
    unfold fmt
    rw [show 8 * (K * 64) = N by rw [← HN.out]; omega]
    exact this
  have Hop : Hid (∀ B b w, Dev B w b (K * 64) (fmt K id) → Calls Tryz.prog 13 #[.pointer (some ⟨b.d, 0, none⟩), .int .i64 most] w fun e w' => ∃ hp, e = .returned (.tuple #[.pointer (some ⟨hp, 0, none⟩), .int .i64 0]) ∧ HeapR w' (fun k => b.has k ∨ w.heap.size ≤ k) B b (K * 64) (fmt K id) hp (hsO K k 0 1 0 most p (fmt K id) (List.replicate K (0, 0))) ∧ Mod w w' b.has) :=
    fun B b w h => hopen_any B b (K * 64) (fmt K id) (fmt K id) K id 1 0 0 k most p (List.replicate K (0, 0)) w h hI hK hK2 hid hob
  obtain ⟨n1, Hn1⟩ : ∃ n, Hid (w.heap.size = n) := ⟨_, rfl⟩
  have L1 := Lib.hid ((Loc.nil Nob w).box 30 #[.int .i64 K, .int .u64 id, .int .i64 most] n1 Hn1.out)
  obtain ⟨n4, Hn4⟩ : ∃ n, Hid (n1 + 1 = n) := ⟨_, rfl⟩
  have L2 := Lib.hid (L1.out.box 64 #[.int .i64 K] n4 (by rw [World.size_alloc, Hn1.out, Hn4.out]))
  clear hI hob
  generalize fmt K id = s0 at *
  generalize hsO K k 0 1 0 most p s0 (List.replicate K (0, 0)) = S0 at *
  go_enter Tryz.func6, Tryz.ntmps6
  go_wp2_with fail
  rw [Hn1.out, Hn4.out]
  generalize (w.alloc _).alloc _ = w2 at *
  refine (Hgr.out _).mono ?_
  rintro e w3 ⟨rfl, hb3⟩
  have L3 := Lib.hid (L2.out.call hb3 (Nat.le_refl _))
  have c0 : w3.cell? ⟨n4, 0, none⟩ = some (.int .i64 K) := L3.out.b0.cell 0
  clear hb3 L1 L2 Hgr
  go_wp2_with fail
  refine (Hgw.out _).mono ?_
  rintro e w4 ⟨rfl, hb4⟩
  have L4 := Lib.hid (L3.out.call hb4 (Nat.le_refl _))
  clear hb4 L3 c0 Hgw
  go_wp2_with fail
  refine (Hnn.out _).mono ?_
  rintro e w5 ⟨b, rfl, hd, hb5⟩
  have L5 := Lib.hid (L4.out.call hb5 (Nat.le_refl _))
  have hw4 : w.heap.size ≤ w4.heap.size := L4.out.below.size
  have Hbg : Hid (∀ k, b.has k → w4.heap.size ≤ k) := fun k hk => (hd.lt k hk).1
  have HD5 := Lib.hid hd
  have Hlt4 : Hid (n1 < w4.heap.size ∧ n4 < w4.heap.size) := ⟨L4.out.b1.lt, L4.out.b0.lt⟩
  have c1 : w5.cell? ⟨n1, 1, none⟩ = some (.int .u64 id) := L5.out.b1.cell 1
  clear hd hb5 L4 Hnn
  go_wp2_with fail
  refine (Hfm.out _ _ _ HD5.out).mono ?_
  rintro e w6 ⟨rfl, hd6, hM6⟩
  have HD6 := Lib.hid hd6
  have hbg := Hbg.out
  have hlt4 := Hlt4.out
  have L6 := Lib.hid (L5.out.effNew hM6 (fun k hk h => .inr ⟨by have := hbg k h; omega, fun x hx e => by
    have := hbg k h
    rcases List.mem_cons.1 hx with rfl | hx
    · simp only at e; omega
    · rw [List.mem_singleton.1 hx] at e; simp only at e; omega⟩))
  have c2 : w6.cell? ⟨n1, 2, none⟩ = some (.int .i64 most) := L6.out.b1.cell 2
  clear hd6 hM6 L5 HD5 c1 Hfm hbg hlt4
  go_wp2_with fail
  refine (Hop.out _ _ _ HD6.out).mono ?_
  rintro e w7 ⟨hp, rfl, hH, hM7⟩
  have hw6 : w.heap.size ≤ w6.heap.size := L6.out.below.size
  have Hbg6 := Hbg.out
  obtain ⟨col, al, mp, us, fr, rt, hl, ca, sh, hX, hG⟩ := hH
  have HG := Lib.hid hG
  clear hG
  have HX := Lib.hid hX
  have HB7 : Hid (Below w.heap.size w w7) := Below.mod L6.out.below hM7 L6.out.below.size (fun k _ h => by have := Hbg.out k h; omega)
  clear hX hM7 L6 HD6 c2
  go_wp2_with fail
  refine bodyPost_ret (results_tmp2 rfl _ _ _) rfl ?_
  have hX := HX.out
  exact ⟨b, hp, rfl, ⟨col, al, mp, us, fr, rt, hl, ca, sh, ⟨by
    have hd := hX.dev
    exact ⟨hd.o, hd.l.base_ hw4, hd.c.base_ hw4, hd.f.base_ hw4, hd.d.base_ hw4, hd.p.base_ hw4, hd.ne, Nat.le_trans hw4 hd.hB⟩, hX.hdv, hX.blk, hX.chp, hX.a, hX.r, hX.h, hX.chl, hX.c, hX.s, hX.rg, hX.hm, hX.k3, hX.k4⟩, fun k hk h => (HG.out k hk h).elim (fun h => Nat.le_trans hw4 (Hbg6 k h)) (fun h => Nat.le_trans hw6 h)⟩, HB7.out⟩
end Go.Proofs.YtcnjipicifkfjaaGreat

/- Plain law: a fresh heap's device. -/
namespace Go.Proofs.YtcnjipicifkfjaaGreat
open Go.RowKit
set_option linter.unusedVariables false
set_option linter.unusedSimpArgs false

theorem sts_append (a b : List (Nat × Nat)) : sts (a ++ b) = sts a ++ sts b := List.map_append ..
def freesP (k : Nat) : List (Nat × Nat) := (List.range k).map fun i => (256 + (i + 1), hword (i + 1) 0 0)
theorem freesS_sts (k : Nat) : freesS k = sts (freesP k) := by
  induction k with
  | zero => rfl
  | succ k ih =>
    have e : freesP (k + 1) = freesP k ++ [(256 + (k + 1), hword (k + 1) 0 0)] := by unfold freesP; rw [List.range_succ, List.map_append]; rfl
    rw [freesS, ih, e, sts_append]
    rfl
def slotP (a : Nat) (L : List Nat) : List (Nat × Nat) :=
  [(a + 1, L.getD 1 0), (a + 2, L.getD 2 0), (a + 3, L.getD 3 0), (a + 4, L.getD 4 0), (a + 5, L.getD 5 0), (a + 6, L.getD 6 0), (a + 7, L.getD 7 0), (a + 9, L.getD 9 0), (a + 10, L.getD 10 0), (a + 11, L.getD 11 0), (a + 12, L.getD 12 0), (a + 13, L.getD 13 0), (a + 14, L.getD 14 0), (a + 15, L.getD 15 0), (a, L.getD 0 0), (a + 8, L.getD 8 0)]
theorem writeS_phase (a : Nat) (L : List Nat) : writeS a L = phaseS (slotP a L) (a / 8) ((a + 16 - 1) / 8 + 1 - a / 8) := by
  have e : bodyS a L 16 = [.st (a + 1) (L.getD 1 0), .st (a + 2) (L.getD 2 0), .st (a + 3) (L.getD 3 0), .st (a + 4) (L.getD 4 0), .st (a + 5) (L.getD 5 0), .st (a + 6) (L.getD 6 0), .st (a + 7) (L.getD 7 0), .st (a + 9) (L.getD 9 0), .st (a + 10) (L.getD 10 0), .st (a + 11) (L.getD 11 0), .st (a + 12) (L.getD 12 0), .st (a + 13) (L.getD 13 0), .st (a + 14) (L.getD 14 0), .st (a + 15) (L.getD 15 0)] := by
    simp [bodyS]
  unfold writeS phaseS persistS
  rw [e]
  simp [sts, slotP]
def superP (K id : Nat) : List (Nat × Nat) := (List.range 8).map fun i => (i, (superL K id).getD i 0)
theorem superS_phase (K id : Nat) : superS K id = phaseS (superP K id) 0 1 := by
  unfold superS phaseS persistS
  have e : storesS 0 (superL K id) 8 = sts (superP K id) := by simp [storesS, superP, sts, List.range, List.range.loop]
  rw [e]
theorem blocksS_phase (K : Nat) (h3 : 3 ≤ K) (h4 : K ≤ 4) : blocksS K = phaseS (freesP (K - 1)) 32 1 := by
  unfold blocksS phaseS persistS
  rw [freesS_sts]
  have : (257 + (K - 1) - 1) / 8 + 1 - 257 / 8 = 1 := by omega
  rw [this]
theorem fmt_C (K id : Nat) (h3 : 3 ≤ K) (h4 : K ≤ 4) : Rest (fmt K id) (K * 64) ∧ (fmt K id).C = cR (cR (cR (zerosN (8 * (K * 64))) (freesP (K - 1))) (slotP 64 (slotEnc 1 (zerosN 8)))) (superP K id) ∧ (fmt K id).Live := by
  have hl0 : (fresh (zerosN (8 * (K * 64))) (K * 64)).Live := ⟨rfl, rfl⟩
  have hr0 := fresh_rest (zerosN (8 * (K * 64))) (K * 64) (by simp [zerosN])
  have hc0 : (fresh (zerosN (8 * (K * 64))) (K * 64)).C = zerosN (8 * (K * 64)) := rfl
  unfold fmt formatS
  rw [blocksS_phase K h3 h4, writeS_phase, superS_phase]
  generalize fresh (zerosN (8 * (K * 64))) (K * 64) = s at *
  obtain ⟨a1, a2⟩ := exec_live hl0 (phaseS (freesP (K - 1)) 32 1)
  obtain ⟨b1, b2⟩ := (phase hr0 (freesP (K - 1)) 32 1 (by omega) (fun p hp => by
    unfold freesP at hp
    rw [List.mem_map] at hp
    obtain ⟨i, hi, rfl⟩ := hp
    have := List.mem_range.1 hi
    simp only; omega)).1 a1
  rw [exec_ok a1]
  generalize (exec s (phaseS (freesP (K - 1)) 32 1)).1 = s1 at *
  obtain ⟨c1, c2⟩ := exec_live a2 (phaseS (slotP 64 (slotEnc 1 (zerosN 8))) (64 / 8) ((64 + 16 - 1) / 8 + 1 - 64 / 8))
  obtain ⟨d1, d2⟩ := (phase b1 (slotP 64 (slotEnc 1 (zerosN 8))) (64 / 8) ((64 + 16 - 1) / 8 + 1 - 64 / 8) (by omega) (fun p hp => by
    simp only [slotP, List.mem_cons, List.not_mem_nil, or_false] at hp
    rcases hp with rfl | rfl | rfl | rfl | rfl | rfl | rfl | rfl | rfl | rfl | rfl | rfl | rfl | rfl | rfl | rfl <;> simp only <;> omega)).1 c1
  rw [exec_ok c1]
  generalize (exec s1 (phaseS (slotP 64 (slotEnc 1 (zerosN 8))) (64 / 8) ((64 + 16 - 1) / 8 + 1 - 64 / 8))).1 = s2 at *
  obtain ⟨e1, e2⟩ := exec_live c2 (phaseS (superP K id) 0 1)
  obtain ⟨f1, f2⟩ := (phase d1 (superP K id) 0 1 (by omega) (fun p hp => by
    unfold superP at hp
    rw [List.mem_map] at hp
    obtain ⟨i, hi, rfl⟩ := hp
    have := List.mem_range.1 hi
    simp only; omega)).1 e1
  exact ⟨f1, by rw [f2, d2, b2, hc0], e2⟩
end Go.Proofs.YtcnjipicifkfjaaGreat

/- Plain law: a fresh heap can be opened. -/
namespace Go.Proofs.YtcnjipicifkfjaaGreat
open Go.RowKit
set_option linter.unusedVariables false
set_option linter.unusedSimpArgs false

theorem ch0 : chooseM (sdecM (slotEnc 1 (zerosN 8))) (sdecM (zerosN 16)) = ((1, rootsL 0), 0, true) := by kernel_rfl
theorem superP_at (K id j : Nat) (hj : j < 8) (C : List Nat) (hC : 8 ≤ C.length) : (cR C (superP K id)).getD j 0 = (superL K id).getD j 0 := by
  have hm : (j, (superL K id).getD j 0) ∈ superP K id := List.mem_map.2 ⟨j, List.mem_range.2 hj, rfl⟩
  have hn : ((superP K id).map (·.1)).Nodup := by
    have e : (superP K id).map (·.1) = List.range 8 := by simp [superP, List.range, List.range.loop]
    rw [e]; exact List.nodup_range
  exact cR_at (superP K id) C _ hm hn (by simp only; omega)
theorem superP_out (K id j : Nat) (hj : 8 ≤ j) (C : List Nat) : (cR C (superP K id)).getD j 0 = C.getD j 0 :=
  cR_out _ _ _ (fun p hp e => by
    unfold superP at hp
    rw [List.mem_map] at hp
    obtain ⟨i, hi, rfl⟩ := hp
    have := List.mem_range.1 hi
    simp only at e; omega)
theorem freesP_at (k b : Nat) (h1 : 1 ≤ b) (h2 : b ≤ k) (C : List Nat) (hC : 256 + b < C.length) : (cR C (freesP k)).getD (256 + b) 0 = hword b 0 0 := by
  have hm : (256 + b, hword b 0 0) ∈ freesP k := List.mem_map.2 ⟨b - 1, List.mem_range.2 (by omega), by simp only [Prod.mk.injEq]; rw [show b - 1 + 1 = b by omega]; exact ⟨rfl, rfl⟩⟩
  have hn : ((freesP k).map (·.1)).Nodup := by
    have e : (freesP k).map (·.1) = (List.range k).map (fun i => 256 + (i + 1)) := by simp [freesP]
    rw [e]
    exact List.Pairwise.map _ (fun a b (hab : a < b) => by show 256 + (a + 1) ≠ 256 + (b + 1); omega) List.pairwise_lt_range
  exact cR_at _ C _ hm hn hC
theorem freesP_out (k j : Nat) (hj : j ≤ 256 ∨ 256 + k < j) (C : List Nat) : (cR C (freesP k)).getD j 0 = C.getD j 0 :=
  cR_out _ _ _ (fun p hp e => by
    unfold freesP at hp
    rw [List.mem_map] at hp
    obtain ⟨i, hi, rfl⟩ := hp
    have := List.mem_range.1 hi
    simp only at e; omega)
theorem slotP_out (a j : Nat) (L C : List Nat) (hj : j < a ∨ a + 16 ≤ j) : (cR C (slotP a L)).getD j 0 = C.getD j 0 :=
  cR_out _ _ _ (fun p hp e => by
    simp only [slotP, List.mem_cons, List.not_mem_nil, or_false] at hp
    rcases hp with rfl | rfl | rfl | rfl | rfl | rfl | rfl | rfl | rfl | rfl | rfl | rfl | rfl | rfl | rfl | rfl <;> simp only at e <;> omega)
theorem slotP_at (a i : Nat) (L C : List Nat) (hi : i < 16) (hC : a + 16 ≤ C.length) : (cR C (slotP a L)).getD (a + i) 0 = L.getD i 0 := by
  have hn : ((slotP a L).map (·.1)).Nodup := by simp [slotP]
  have hm : (a + i, L.getD i 0) ∈ slotP a L := by
    rcases (by omega : i = 0 ∨ i = 1 ∨ i = 2 ∨ i = 3 ∨ i = 4 ∨ i = 5 ∨ i = 6 ∨ i = 7 ∨ i = 8 ∨ i = 9 ∨ i = 10 ∨ i = 11 ∨ i = 12 ∨ i = 13 ∨ i = 14 ∨ i = 15) with rfl | rfl | rfl | rfl | rfl | rfl | rfl | rfl | rfl | rfl | rfl | rfl | rfl | rfl | rfl | rfl <;> simp [slotP]
  exact cR_at _ C _ hm hn (by simp only; omega)
theorem slotOf_eq (s : DS) (i : Nat) (L : List Nat) (hl : L.length = 16) (h : ∀ j, j < 16 → s.C.getD (64 + i * 64 + j) 0 = L.getD j 0) : slotOf s i = L := copyS_all _ L 16 hl h
theorem slotEnc_len (ep : Nat) (rs : List Nat) : (slotEnc ep rs).length = 16 := by
  have : slotEnc ep rs = outS ep rs 2 := rfl
  rw [this]
  exact outS_len _ _ _
theorem zeros_get (n j : Nat) : (zerosN n).getD j 0 = 0 := by
  unfold zerosN
  rw [List.getD_eq_getElem?_getD, List.getElem?_replicate]
  split <;> rfl
theorem slot16_zero : Slot16 (zerosN 16) := ⟨by simp [zerosN], lt64.zeros 16, fun h _ => by
  have : decide (sumOk (zerosN 16) 0) = false := by kernel_rfl
  rw [decide_eq_false_iff_not] at this
  exact absurd h this⟩
theorem rs_one : rsOf (slotEnc 1 (zerosN 8)) = zerosN 8 := by kernel_rfl
theorem slot16_one : Slot16 (slotEnc 1 (zerosN 8)) := by
  refine ⟨slotEnc_len _ _, outS_lt 1 (zerosN 8) (by omega) (fun i _ => by rw [zeros_get]; omega) 2 (Nat.le_refl _), fun _ _ => ⟨?_, ?_⟩⟩
  · rw [rs_one]; exact ⟨by simp [zerosN], fun i _ => by rw [zeros_get]; omega⟩
  · have : (slotEnc 1 (zerosN 8)).getD 0 0 = 1 := by kernel_rfl
    rw [this]; omega
theorem fmt_open (K id k : Nat) (h3 : 3 ≤ K) (h4 : K ≤ 4) (hk : k < 32) : OpenIn (fmt K id) (fmt K id) (K * 64) K id 1 0 0 k (List.replicate K (0, 0)) := by
  obtain ⟨hr, hC, hl⟩ := fmt_C K id h3 h4
  have hz : ∀ b, (List.replicate K ((0 : Nat), (0 : Nat))).getD b (0, 0) = (0, 0) := fun b => by
    rw [List.getD_eq_getElem?_getD, List.getElem?_replicate]; split <;> rfl
  have hlen : (zerosN (8 * (K * 64))).length = 8 * (K * 64) := by simp [zerosN]
  have hw : ∀ j, j < 256 → 8 ≤ j → (fmt K id).C.getD j 0 = (cR (zerosN (8 * (K * 64))) (slotP 64 (slotEnc 1 (zerosN 8)))).getD j 0 := fun j h1 h2 => by
    rw [hC, superP_out K id j h2]
    by_cases hs : 64 ≤ j ∧ j < 80
    · obtain ⟨i, rfl⟩ : ∃ i, j = 64 + i := ⟨j - 64, by omega⟩
      rw [slotP_at 64 i _ _ (by omega) (by rw [cR_len, hlen]; omega), slotP_at 64 i _ _ (by omega) (by rw [hlen]; omega)]
    · rw [slotP_out 64 j _ _ (by omega), slotP_out 64 j _ _ (by omega), freesP_out _ _ (by omega)]
  have s0 : slotOf (fmt K id) 0 = slotEnc 1 (zerosN 8) := slotOf_eq _ _ _ (slotEnc_len _ _) (fun j hj => by
    rw [hw _ (by omega) (by omega), show 64 + 0 * 64 + j = 64 + j by omega, slotP_at 64 j _ _ hj (by rw [hlen]; omega)])
  have s1 : slotOf (fmt K id) 1 = zerosN 16 := slotOf_eq _ _ _ (by simp [zerosN]) (fun j hj => by
    rw [hw _ (by omega) (by omega), slotP_out 64 _ _ _ (by omega), zeros_get, zeros_get])
  have hh : HdrsIn (fmt K id) K (List.replicate K (0, 0)) := by
    refine ⟨List.length_replicate, hz 0, fun b _ => by rw [hz]; exact .inl ⟨rfl, rfl⟩, fun b h1 h2 => ?_⟩
    rw [hz, hC, superP_out K id _ (by omega), slotP_out 64 _ _ _ (by omega), freesP_at (K - 1) b h1 (by omega) _ (by rw [hlen]; omega)]
  have hp : ∀ hs, PileIn (fmt K id) (K * 64) K hs 0 := fun hs => ⟨fun t h1 h2 => by omega, fun t h1 h2 => by omega⟩
  have hkeep : keepH (List.replicate K (0, 0)) K 0 = List.replicate K (0, 0) := rfl
  have hws : ∀ t, wrS (List.replicate K (0, 0)) (List.replicate K (0, 0)) t = [] := by
    intro t
    induction t with
    | zero => rfl
    | succ t ih => rw [wrS, ih]; simp
  refine ⟨⟨fun j hj => ?_, hh, ?_, ?_, by rw [s0, s1]; exact ch0, hp _, by omega, rfl⟩, hl, ?_, by rw [hkeep]; exact hh, hp _, fun h => absurd rfl h, hk, fun h => absurd rfl h, by rw [hz]; decide⟩
  · rw [hC]; exact superP_at K id j hj _ (by rw [cR_len, cR_len, hlen]; omega)
  · rw [s0]; exact slot16_one
  · rw [s1]; exact slot16_zero
  · rw [hkeep]
    unfold writeHS
    rw [if_pos (hws _)]
    rfl
end Go.Proofs.YtcnjipicifkfjaaGreat

/- Plain law of TopRoom's loop. -/
namespace Go.Proofs.YtcnjipicifkfjaaGreat
open Go.RowKit
set_option linter.unusedVariables false
set_option linter.unusedSimpArgs false

theorem alls_ex {fs : List Nat} {k x : Nat} (h : x ∈ alls fs k) : ∃ j, j < k ∧ fs.getD j 0 = x ∧ x ≠ 0 := by
  induction k with
  | zero => simp [alls] at h
  | succ k ih =>
    rw [alls] at h
    split at h
    · obtain ⟨j, h1, h2⟩ := ih h
      exact ⟨j, by omega, h2⟩
    · rename_i h0
      rcases List.mem_append.1 h with h1 | h1
      · obtain ⟨j, h1, h2⟩ := ih h1
        exact ⟨j, by omega, h2⟩
      · rw [List.mem_singleton] at h1
        exact ⟨k, by omega, h1.symm, by rw [h1]; exact h0⟩
/-- What TopRoom's loop keeps. -/
structure RI (S : HS) (s : DS) (d live u i : Nat) : Prop where
  ai : AI s 192 d S.A
  l : s.Live
  ph : S.C.phase = 0
  st : S.C.stk = []
  mo : S.C.most ≤ 10000
  cy : S.C.cycles ≤ i
  ws : S.ws = zerosN 8
  he : ∀ x, S.held x = false
  r0 : ∀ j, live ≤ j → S.rg.getD j 0 = 0
  rx : ∀ j, S.rg.getD j 0 ≤ 1536
  rl : S.rg.length = 32
  u : (setTo S.A.used 1536).length ≤ u
theorem zeros_mem {n x : Nat} (h : x ∈ zerosN n) : x = 0 := List.eq_of_mem_replicate h
theorem RI.roots {S : HS} {s : DS} {d live u i : Nat} (h : RI S s d live u i) {x : Nat} (hx : x ∈ rootsS S) : x ≤ 1536 ∧ (x ≠ 0 → x ∈ S.rg.take live) := by
  unfold rootsS at hx
  rcases List.mem_append.1 hx with hx | hx
  · rcases List.mem_append.1 hx with hx | hx
    · obtain ⟨j, h1, h2, h3⟩ := alls_ex hx
      refine ⟨by rw [← h2]; exact h.rx j, fun _ => ?_⟩
      have hj : j < live := by
        rcases Nat.lt_or_ge j live with e | e
        · exact e
        · exact absurd ((h.r0 j e).symm.trans h2).symm h3
      have hl := h.rl
      rw [List.getD_eq_getElem?_getD, List.getElem?_eq_getElem (by omega), Option.getD_some] at h2
      rw [← h2]
      exact List.mem_take_iff_getElem.2 ⟨j, by omega, rfl⟩
    · rw [h.ws] at hx
      have := zeros_mem hx
      exact ⟨by omega, fun e => absurd this e⟩
  · have : x ∈ setL S.held (8 * S.A.K) := hx
    unfold setL at this
    have := (List.mem_filter.1 this).2
    rw [h.he x] at this
    cases this
theorem RI.ci0 {S : HS} {s : DS} {d live u i : Nat} (h : RI S s d live u i) (hi : i ≤ 1000000) : CI0 S 192 d s := by
  refine ⟨h.ph, h.st, h.mo, Nat.le_trans h.cy hi, by rw [h.ws]; rfl, ?_, fun x hx => by have := (h.roots hx).1; omega, h.ai, h.l⟩
  have h1 : (setL S.held (8 * S.A.K)) = [] := by
    unfold setL
    rw [List.filter_eq_nil_iff]
    intro x _
    rw [h.he x]
    simp
  have h2 := alls_le S.rg 32
  unfold rootsS
  rw [h1, List.append_nil, List.length_append, h.ws]
  have : (zerosN 8).length = 8 := rfl
  omega
theorem RI.col {S S' : HS} {s s' : DS} {d live u i : Nat} (h : RI S s d live u i) (hF : CFin S 192 d S' s') : RI S' s' d live live (i + 1) := by
  have e1 : S'.rg = S.rg := by rw [hF.e]
  have e2 : S'.ws = S.ws := by rw [hF.e]
  have e3 : S'.held = S.held := by rw [hF.e]
  refine ⟨hF.ai, hF.l, hF.ph, hF.st, by rw [hF.mo]; exact h.mo, by rw [hF.cy]; have := h.cy; omega, by rw [e2]; exact h.ws, by rw [e3]; exact h.he, by rw [e1]; exact h.r0, by rw [e1]; exact h.rx, by rw [e1]; exact h.rl, ?_⟩
  refine Nat.le_trans (nodup_le _ (S.rg.take live) (setTo_nodup _ _) (fun x hx => ?_)) (List.length_take_le _ _)
  obtain ⟨_, h2⟩ := setTo_mem.1 hx
  rw [hF.us x, Bool.and_eq_true, decide_eq_true_eq] at h2
  exact (h.roots h2.2).2 (by have := (h.ai.lt h2.1).1; omega)
theorem RI.put {S : HS} {s s' : DS} {d live u i a j : Nat} {A1 : AS} {sh : Nat → Bool} (h : RI S s d live u i) (hA : AI s' 192 d (A1.add a)) (hl : s'.Live) (hu : A1.used = S.A.used) (hj : j < live) (ha : a ≤ 1536) :
    RI { S with A := A1.add a, rg := S.rg.set j a, shared := sh } s' d live (u + 1) i := by
  have hr : ∀ x, (S.rg.set j a).getD x 0 = if j = x ∧ j < S.rg.length then a else S.rg.getD x 0 := fun x => getD_set _ _ _ _ _
  refine ⟨hA, hl, h.ph, h.st, h.mo, h.cy, h.ws, h.he, fun x hx => ?_, fun x => ?_, by show (S.rg.set j a).length = 32; rw [List.length_set]; exact h.rl, ?_⟩
  · show (S.rg.set j a).getD x 0 = 0
    rw [hr, if_neg (by omega)]
    exact h.r0 x hx
  · show (S.rg.set j a).getD x 0 ≤ 1536
    rw [hr]
    split
    · exact ha
    · exact h.rx x
  · have h1 := used_add (S := A1) (a := a)
    rw [hu] at h1
    have := h.u
    show (setTo (A1.add a).used 1536).length ≤ u + 1
    omega
theorem reset_mem {used : Nat → Bool} {N : Nat} {l : List Nat} (h0 : used 0 = false) : ∀ k, k ≤ l.length → ∀ x, resetM used (fun _ => 0) N l k x = true → x ∈ l.take k ∧ used x = true := by
  intro k
  induction k with
  | zero => intro _ x hx; cases hx
  | succ k ih =>
    intro hk x hx
    rw [take_snoc_ l k (by omega), List.mem_append, List.mem_singleton]
    rw [resetM] at hx
    by_cases hc : used (l.getD k 0) = true ∧ resetM used (fun _ => 0) N l k (l.getD k 0) = false
    · cases N with
      | zero => obtain ⟨h1, h2⟩ := ih (by omega) x hx; exact ⟨.inl h1, h2⟩
      | succ N =>
        rw [addM_yes _ _ _ _ _ hc.1 hc.2, addM_no _ _ _ _ _ (.inl h0)] at hx
        unfold addS at hx
        rcases Bool.or_eq_true_iff.1 hx with h1 | h1
        · obtain ⟨h1, h2⟩ := ih (by omega) x h1; exact ⟨.inl h1, h2⟩
        · have := of_decide_eq_true h1
          exact ⟨.inr this, by rw [this]; exact hc.1⟩
    · rw [addM_no _ _ _ _ _ (by
        cases h1 : used (l.getD k 0) with
        | false => exact .inl rfl
        | true =>
          cases h2 : resetM used (fun _ => 0) N l k (l.getD k 0) with
          | true => exact .inr rfl
          | false => exact absurd ⟨h1, h2⟩ hc)] at hx
      obtain ⟨h1, h2⟩ := ih (by omega) x hx; exact ⟨.inl h1, h2⟩
theorem RI.u0 {S : HS} {s : DS} {d live u i : Nat} (h : RI S s d live u i) : S.A.used 0 = false := by
  cases e : S.A.used 0 with
  | false => rfl
  | true => have := (h.ai.lt e).1; omega
theorem RI.live {S : HS} {s : DS} {d live u i : Nat} (h : RI S s d live u i) : (setL (liveM s 0 S) (8 * S.A.K)).length ≤ live := by
  refine Nat.le_trans (nodup_le _ (S.rg.take live) (List.nodup_range.filter _) (fun x hx => ?_)) (List.length_take_le _ _)
  have hx := (List.mem_filter.1 hx).2
  have hnx : nx s 0 = fun _ => 0 := by funext y; unfold nx; rw [if_pos rfl]
  unfold liveM at hx
  rw [hnx] at hx
  obtain ⟨h1, h2⟩ := reset_mem h.u0 _ (Nat.le_refl _) x hx
  have hmem := List.mem_of_mem_take h1
  refine (h.roots (x := x) ?_).2 (by have := (h.ai.lt h2).1; omega)
  unfold rootsS
  exact List.mem_append_left _ hmem
theorem RI.ob {S : HS} {s : DS} {d live u i : Nat} (h : RI S s d live u i) : OB s 192 S.A.used 0 := fun a ha => ⟨by have := (h.ai.lt ha).1; omega, d, (h.ai.us a ha).1, fun e => by cases e⟩
/-- The new heap. -/
theorem RI.new (d live most : Nat) (hm : most ≤ 10000) (hd : d ≤ 60) : RI (hsO 3 (cof (1 + 0 + d)) 0 1 0 most 0 (fmt 3 1) (List.replicate 3 (0, 0))) (fmt 3 1) d live 0 0 := by
  have hl := (fmt_open 3 1 0 (by omega) (by omega) (by omega)).l
  have hz : ∀ b, (List.replicate 3 ((0 : Nat), (0 : Nat))).getD b (0, 0) = (0, 0) := fun b => by
    rw [List.getD_eq_getElem?_getD, List.getElem?_replicate]; split <;> rfl
  have hhs : (asO 3 (cof (1 + 0 + d)) 0 (List.replicate 3 (0, 0))).hs = List.replicate 3 (0, 0) := rfl
  have hg : (asO 3 (cof (1 + 0 + d)) 0 (List.replicate 3 (0, 0))).glob = [] := by
    show carveB (usedOf (adrs 0) 0) (cof (1 + 0 + d)) (List.replicate 3 (0, 0)) 2 = []
    rw [carveB, carveB, carveB, hz, hz]
    rfl
  have hu : ∀ x, (asO 3 (cof (1 + 0 + d)) 0 (List.replicate 3 (0, 0))).used x = false := fun x => rfl
  have hfs : (asO 3 (cof (1 + 0 + d)) 0 (List.replicate 3 (0, 0))).fs = [] := by
    unfold AS.fs
    rw [hg]
    rfl
  refine ⟨⟨rfl, rfl, rfl, fun bl _ _ => .inr (hz bl), rfl, by rw [show (hsO 3 (cof (1 + 0 + d)) 0 1 0 most 0 (fmt 3 1) (List.replicate 3 (0, 0))).A.fs = [] from hfs]; exact List.nodup_nil, fun _ _ => rfl, fun _ => Nat.zero_le _, fun x hx => ?_, fun x hx => ?_, fun x hx => ?_⟩, hl, rfl, rfl, hm, Nat.le_refl _, rfl, fun _ => rfl, fun j _ => zeros_get 32 j, fun j => ?_, rfl, ?_⟩
  · rw [show (hsO 3 (cof (1 + 0 + d)) 0 1 0 most 0 (fmt 3 1) (List.replicate 3 (0, 0))).A.fs = [] from hfs] at hx
    simp at hx
  · obtain ⟨bl, i, _, h2⟩ := hx
    have h2 : (List.replicate 3 ((0 : Nat), (0 : Nat))).getD bl (0, 0) = (1, _) := h2
    rw [hz] at h2
    cases h2
  · cases hx
  · show (zerosN 32).getD j 0 ≤ 1536
    rw [zeros_get]; omega
  · have : setTo (hsO 3 (cof (1 + 0 + d)) 0 1 0 most 0 (fmt 3 1) (List.replicate 3 (0, 0))).A.used 1536 = [] := setTo_low (fun j _ => rfl)
    rw [this]
    exact Nat.le_refl _
end Go.Proofs.YtcnjipicifkfjaaGreat

/- TopRoom: the heap along its loop. -/
namespace Go.Proofs.YtcnjipicifkfjaaGreat
open Go.RowKit
set_option linter.unusedVariables false
set_option linter.unusedSimpArgs false

/-- A heap along TopRoom's loop: all its blocks are of those from N0 on. -/
def RSt (N0 : Nat) (w : World) (hp d live u c : Nat) : Prop :=
  ∃ B b col al mp us fr rt hl ca sh S s, HeapX w B b 192 s col hp al mp us fr rt hl ca sh S ∧ RI S s d live u c ∧ (∀ k, w.heap.size ≤ k → col k = 9) ∧ (∀ k, hcol (col k) → N0 ≤ k)
theorem RSt.below {N0 : Nat} {w W : World} {hp d live u c : Nat} (h : RSt N0 w hp d live u c) (hb : Below w.heap.size w W) : RSt N0 W hp d live u c := by
  obtain ⟨B, b, col, al, mp, us, fr, rt, hl, ca, sh, S, s, h1, h2, h3, h4⟩ := h
  exact ⟨B, b, col, al, mp, us, fr, rt, hl, ca, sh, S, s, h1.below hb, h2, fun k hk => h3 k (Nat.le_trans hb.size hk), h4⟩
theorem hcol_lt {w : World} {col col' : Nat → Nat} {N0 : Nat} (hN : N0 ≤ w.heap.size) (hc : ∀ k, k < w.heap.size → col' k = col k) (h : ∀ k, hcol (col k) → N0 ≤ k) : ∀ k, hcol (col' k) → N0 ≤ k := by
  intro k hk
  by_cases e : k < w.heap.size
  · rw [hc k e] at hk; exact h k hk
  · omega
/-- What predict says of a new heap. -/
def Fore (w : World) (hp d : Nat) : Prop :=
  ∃ al, ∀ W, Below w.heap.size w W → Calls Tryz.prog 16 #[.pointer (some ⟨hp, 0, none⟩)] W (fun e w' => e = .returned (.pointer (some ⟨al, 0, none⟩)) ∧ W = w') ∧
    Calls Tryz.prog 15 #[.pointer (some ⟨al, 0, none⟩), .agg #[.int .i64 0, .int .i64 d]] W fun e w' => e = .returned (.int .i64 (2 * ccells (cof (1 + 0 + d)) : Nat)) ∧ Below W.heap.size W w'
theorem rs_new (d live : Nat) (w : World) (hd : d ≤ 60) : Calls Tryz.prog 6 #[.agg #[.int .i64 3, .int .u64 1, .int .i64 2]] w fun e w' => ∃ hp, e = .returned (.tuple #[.pointer (some ⟨hp, 0, none⟩), .int .i64 0]) ∧ RSt w.heap.size w' hp d live 0 0 ∧ Fore w' hp d ∧ Below w.heap.size w w' := by
  have hk32 : cof (1 + 0 + d) < 32 := cof_lt _ (by omega)
  refine (hnewh_any 3 1 2 (cof (1 + 0 + d)) 0 w (fmt_open 3 1 _ (by omega) (by omega) hk32) (fun a ha => by cases ha) (by omega) (by omega) (by omega)).mono ?_
  rintro e w' ⟨b, hp, rfl, ⟨col0, al, mp, us, fr, rt, hl, ca, sh, hX0, hG⟩, hb⟩
  have hX := hX0.recol (colW_lt col0 w' 9)
  have hR := RI.new d live 2 (by omega) hd
  have hglob : ∀ S, S = (asO 3 (cof (1 + 0 + d)) 0 (List.replicate 3 (0, 0))) → S.glob = [] := by
    rintro S rfl
    have hz : ∀ b, (List.replicate 3 ((0 : Nat), (0 : Nat))).getD b (0, 0) = (0, 0) := fun b => by
      rw [List.getD_eq_getElem?_getD, List.getElem?_replicate]; split <;> rfl
    show carveB (usedOf (adrs 0) 0) (cof (1 + 0 + d)) (List.replicate 3 (0, 0)) 2 = []
    rw [carveB, carveB, carveB, hz, hz]
    rfl
  refine ⟨hp, rfl, ⟨_, b, colW col0 w' 9, al, mp, us, fr, rt, hl, ca, sh, _, _, hX, hR, fun k hk => colW_ge _ _ _ _ hk, fun k hk => ?_⟩, ⟨al, fun W hW => ⟨?_, ?_⟩⟩, hb⟩
  · by_cases e : k < w'.heap.size
    · rw [colW_lt _ _ _ _ e] at hk; exact hG k e hk
    · have := hb.size; omega
  · exact hspace_any _ b _ _ _ hp al mp us fr rt hl ca sh _ W (hX.below hW)
  · have := pobject_any _ al b.d mp us fr 2 0 d _ W (hX.below hW).a (by omega) (by omega) rfl (hglob _ rfl) (fun _ => rfl) rfl (by omega) (by show 2 ≤ 3; omega) (by show 3 ≤ 150; omega)
    exact this
theorem rs_collect {N0 : Nat} {w : World} {hp d live u c : Nat} (h : RSt N0 w hp d live u c) (hN : N0 ≤ w.heap.size) (hd : d ≤ 60) (hc : c ≤ 1000) :
    ∃ ca M, Calls Tryz.prog 18 #[.pointer (some ⟨hp, 0, none⟩)] w (fun e w' => e = .returned (.pointer (some ⟨ca, 0, none⟩)) ∧ w' = w) ∧
      Calls Tryz.prog 19 #[.pointer (some ⟨ca, 0, none⟩)] w (fun e w' => e = .returned (.int .i64 (M : Nat)) ∧ Below w.heap.size w w') ∧
      ∀ W, Below w.heap.size w W → Calls Tryz.prog 17 #[.pointer (some ⟨hp, 0, none⟩), .int .i64 (M : Nat)] W fun e w' => e = .returned (.tuple #[.bool true, .int .i64 0]) ∧ RSt N0 w' hp d live live (c + 1) ∧ Below N0 W w' := by
  obtain ⟨B, b, col, al, mp, us, fr, rt, hl, ca, sh, S, s, h1, h2, h3, h4⟩ := h
  have hk := h2.ai.kk
  obtain ⟨mk, sw, m1, m2, sk, A, cap, G, gcap, hy⟩ := h1.c
  have hb := hcycle_any hp b.d al rt hl ca sh S.rg w h1.blk h1.rg
  have hbo := cbound_any col ca al b.d mp us fr S.A #[] w h1.a (by omega) (by omega) (hy.b.cell 0) hy.b.lt
  have hU : (setTo S.A.used 1536).length = (setL S.A.used (8 * S.A.K)).length := by
    rw [hk]; rfl
  have hUl := setL_len S.A.used (8 * S.A.K)
  refine ⟨ca, _, hb, hbo, fun W hW => ?_⟩
  have hsz := hW.size
  refine (hcollect_any B b 192 s col hp al mp us fr rt hl ca sh d _ S W (h2.ci0 (by omega)) hd (by omega) (by omega) (h1.below hW) (fun k hk => h3 k (Nat.le_trans hsz hk))).mono ?_
  rintro e w' ⟨rfl, S', s', col', hc1, hc2, hX, hF, hM⟩
  refine ⟨rfl, ⟨B, b, col', al, mp, us, fr, rt, hl, ca, sh, S', s', hX, h2.col hF, hc2, hcol_lt (Nat.le_trans hN hsz) hc1 h4⟩, hM.below (Nat.le_trans hN hsz) h4⟩
theorem rs_alloc {N0 : Nat} {w : World} {hp d live u c j : Nat} (h : RSt N0 w hp d live u c) (hN : N0 ≤ w.heap.size) (hd : d ≤ 60) (hj : j < live) (hlv : live ≤ 16) (hu : u + 4 ≤ 2 * ccells (cof (1 + 0 + d))) :
    Calls Tryz.prog 20 #[.pointer (some ⟨hp, 0, none⟩), .agg #[.int .i64 (j / 8 : Nat), .int .i64 (j % 8 : Nat)], .int .i64 (0 : Nat), .int .i64 d] w fun e w' => e = .returned (.int .i64 0) ∧ RSt N0 w' hp d live (u + 1) c ∧ Below N0 w w' := by
  obtain ⟨B, b, col, al, mp, us, fr, rt, hl, ca, sh, S, s, h1, h2, h3, h4⟩ := h
  have hU := h2.u
  have hk := h2.ai.k
  obtain ⟨st, a, S1, hR, hK1, ha1, ha2, hE, hL, hAI, hus, hk1⟩ := h2.ai.room (B := B) (b := b) (ap := al) (mp := mp) (us := us) (fr := fr) (mu := j / 8) (u := u) h2.l (by omega) hd rfl h1.dev.fits.c (by rw [← hk]; omega)
  refine (halloc_any B b 192 s col hp al mp us fr rt hl ca sh (j / 8) (j % 8) 0 d a S S1 st w h1 h3 (by omega) (by omega) (.inr ⟨rfl, hd⟩) hK1 hR (by omega) h2.ph).mono ?_
  rintro e w' ⟨rfl, hO, hM⟩
  refine ⟨by rw [hE]; rfl, ?_, hM.below hN h4⟩
  rcases hO with ⟨_, col', hc1, hc2, sh2, hX⟩ | ⟨hf, _⟩
  · have hj8 : j / 8 * 8 + j % 8 = j := by omega
    rw [hj8] at hX
    exact ⟨B, b, col', al, mp, us, fr, rt, hl, ca, sh, _, _, hX, h2.put hAI hL hus hj (by omega), hc2, hcol_lt hN hc1 h4⟩
  · rw [hE] at hf; cases hf
theorem rs_live {N0 : Nat} {w : World} {hp d live u c : Nat} (h : RSt N0 w hp d live u c) :
    Calls Tryz.prog 21 #[.pointer (some ⟨hp, 0, none⟩)] w fun e w' => (∃ A n cap, e = .returned (.slice A n cap) ∧ n ≤ live) ∧ Below w.heap.size w w' := by
  obtain ⟨B, b, col, al, mp, us, fr, rt, hl, ca, sh, S, s, h1, h2, h3, h4⟩ := h
  have hrx := h2.rx
  refine (hlive_any B b 192 s col hp al mp us fr rt hl ca sh 0 S w h1 h3 (by rw [h2.ws]; rfl) h2.u0 h2.ob (fun x hx => ?_)).mono ?_
  · rcases hx with hx | hx
    · obtain ⟨i, hi, rfl⟩ := List.mem_iff_getElem.1 hx
      have := hrx i
      rw [List.getD_eq_getElem?_getD, List.getElem?_eq_getElem hi, Option.getD_some] at this
      omega
    · rw [h2.ws] at hx
      have := zeros_mem hx
      omega
  · rintro e w' ⟨A, cap, rfl, _, hb⟩
    exact ⟨⟨A, _, cap, rfl, h2.live⟩, hb⟩
end Go.Proofs.YtcnjipicifkfjaaGreat

/- Plain law: which cell a push takes. -/
namespace Go.Proofs.YtcnjipicifkfjaaGreat
open Go.RowKit
set_option linter.unusedVariables false
set_option linter.unusedSimpArgs false

/-- The free cells of block 1, the lowest last, when n are taken. -/
def cellsN (n : Nat) : List Nat := carveL (fun _ => false) 1 1 (170 - n)
theorem ccells1 : ccells 1 = 170 := by decide
theorem cadr1 (i : Nat) : cadr 1 1 i = adr (i + 1) := by
  have : csize 1 = 3 := by decide
  unfold cadr adr
  rw [this]
  omega
theorem cellsN_step (n : Nat) (h : n < 170) : cellsN n = cellsN (n + 1) ++ [adr (n + 1)] := by
  unfold cellsN
  obtain ⟨t, ht⟩ : ∃ t, 170 - n = t + 1 := ⟨169 - n, by omega⟩
  rw [ht, show 170 - (n + 1) = t by omega, carveL, ccells1, cadr1]
  rw [if_neg (by decide), show 170 - 1 - t + 1 = n + 1 by omega]
theorem getLastD_snoc (l : List Nat) (x : Nat) : (l ++ [x]).getLastD 0 = x := by simp [List.getLastD_eq_getLast?]
theorem take_snoc (glob : List Nat) (cs : Nat → List Nat) (mu x : Nat) (X : List Nat) (h : glob ++ cs mu = X ++ [x]) (hN : glob ≠ [] → 0 < takeN glob ∧ takeN glob ≤ glob.length) :
    takeA glob cs mu = x ∧ takeG glob cs mu ++ takeC glob cs mu mu = X ∧ ∀ k, k ≠ mu → takeC glob cs mu k = cs k := by
  unfold takeA takeG takeC
  by_cases hc : cs mu ≠ []
  · rw [if_pos hc, if_pos hc, if_pos hc]
    obtain ⟨Y, y, hy⟩ : ∃ Y y, cs mu = Y ++ [y] := ⟨(cs mu).dropLast, (cs mu).getLast hc, (List.dropLast_concat_getLast hc).symm⟩
    rw [hy, ← List.append_assoc] at h
    obtain ⟨h1, h2⟩ := List.append_inj' h rfl
    have h2 : y = x := by simpa using h2
    refine ⟨by rw [hy, getLastD_snoc, h2], ?_, fun k hk => by simp [updC, hk]⟩
    have : updC cs mu (cs mu).dropLast mu = (cs mu).dropLast := by simp [updC]
    rw [this, hy, List.dropLast_concat]
    exact h1
  · have hc' : cs mu = [] := by simpa using hc
    rw [if_neg hc, if_neg hc, if_neg hc]
    rw [hc', List.append_nil] at h
    have hne : glob ≠ [] := by rw [h]; simp
    obtain ⟨n1, n2⟩ := hN hne
    obtain ⟨Y, y, hy⟩ : ∃ Y y, glob.drop (glob.length - takeN glob) = Y ++ [y] := by
      have hd : glob.drop (glob.length - takeN glob) ≠ [] := by
        intro e
        have := congrArg List.length e
        rw [List.length_drop, List.length_nil] at this
        omega
      exact ⟨_, _, (List.dropLast_concat_getLast hd).symm⟩
    have hs := List.take_append_drop (glob.length - takeN glob) glob
    rw [hy, ← List.append_assoc] at hs
    rw [h] at hs
    obtain ⟨h1, h2⟩ := List.append_inj' hs rfl
    have h2 : y = x := by simpa using h2
    refine ⟨by rw [hy, getLastD_snoc, h2], ?_, fun k hk => by simp [updC, hk]⟩
    have : updC cs mu (glob.drop (glob.length - takeN glob)).dropLast mu = (glob.drop (glob.length - takeN glob)).dropLast := by simp [updC]
    rw [this, hy, List.dropLast_concat, h]
    exact h1
end Go.Proofs.YtcnjipicifkfjaaGreat

/- Plain law: room for the next object of a pile. -/
namespace Go.Proofs.YtcnjipicifkfjaaGreat
open Go.RowKit
set_option linter.unusedVariables false
set_option linter.unusedSimpArgs false

/-- An allocator behind n pushes. -/
structure AN (S : AS) (K n : Nat) : Prop where
  kk : S.K = K
  k : S.k = 1
  g : 0 < n → S.glob ++ S.cs 1 = cellsN n
  c0 : ∀ m, m ≠ 1 → S.cs m = []
  h0 : n = 0 → S.glob = [] ∧ S.cs 1 = [] ∧ S.o = some (1, K - 1)
  u : ∀ a, S.used a = decide (a ∈ adrs n)
/-- The steps that make room; what then is known. -/
def roomSt (n : Nat) : List Step := if n = 0 then putS 1 1 1 else []
def roomA (S : AS) (K n : Nat) : AS := if n = 0 then (S.small 1 (K - 1)).take 1 else S.take 1
theorem takeN_ok (glob : List Nat) (h : glob ≠ []) : 0 < takeN glob ∧ takeN glob ≤ glob.length := by
  have : 0 < glob.length := List.length_pos_iff.2 h
  unfold takeN
  omega
theorem asO_AN (K : Nat) : AN (asO K 1 0 (List.replicate K (0, 0))) K 0 := by
  have hz : ∀ b, (List.replicate K ((0 : Nat), (0 : Nat))).getD b (0, 0) = (0, 0) := fun b => by
    rw [List.getD_eq_getElem?_getD, List.getElem?_replicate]; split <;> rfl
  refine ⟨rfl, rfl, fun h => absurd h (by omega), fun _ _ => rfl, fun _ => ⟨?_, rfl, rfl⟩, fun a => ?_⟩
  · show carveB _ _ (keepH (List.replicate K (0, 0)) K 0) (K - 1) = []
    have hk : keepH (List.replicate K (0, 0)) K 0 = List.replicate K (0, 0) := rfl
    rw [hk]
    generalize K - 1 = t
    induction t with
    | zero => rfl
    | succ t ih => rw [carveB, ih, hz]; rfl
  · rfl
theorem AN.ob0 {s : DS} {m p : Nat} : OB s m (usedOf (adrs 0) 0) p := fun a ha => by cases ha
end Go.Proofs.YtcnjipicifkfjaaGreat
