/- revive: Open. -/
import Derived.Test.YtcnjipicifkfjaaGreatRm34
import Derived.Test.YtcnjipicifkfjaaGreatRm35
import Derived.Test.YtcnjipicifkfjaaGreatRm27

namespace Go.Proofs.YtcnjipicifkfjaaGreat
open Go.RowKit
set_option linter.unusedVariables false
set_option linter.unusedSimpArgs false

/-- What Open finds and leaves: the headers that are right, on the device that they were written to. -/
structure OpenIn (s s' : DS) (m K id ep wh j k : Nat) (hs : List (Nat × Nat)) : Prop where
  h : HeapIn s m K id ep wh j hs
  l : s.Live
  e : (exec s (writeHS hs (keepH hs K j) K)).1 = s'
  hdr : HdrsIn s' K (keepH hs K j)
  p : PileIn s' m K (keepH hs K j) j
  k1 : j ≠ 0 → k = 1
  k2 : k < 32
  one : j ≠ 0 → hs.getD 1 (0, 0) = (1, 1)
  no2 : (hs.getD 1 (0, 0)).1 ≠ 2
def freeA (j : Nat) : Nat := if j = 0 then 1 else 2
theorem keepH_get (hs : List (Nat × Nat)) (K j b : Nat) (hK : 2 ≤ K) (h1 : j ≠ 0 → hs.getD 1 (0, 0) = (1, 1)) : (keepH hs K j).getD b (0, 0) = if b = 1 ∧ j ≠ 0 then (1, 1) else (0, 0) := by
  unfold keepH
  by_cases hj : j = 0
  · rw [if_pos hj, if_neg (by omega), List.getD_eq_getElem?_getD, List.getElem?_replicate]
    split <;> rfl
  · rw [if_neg hj, h1 hj, List.getD_eq_getElem?_getD, List.getElem?_set]
    by_cases hb : b = 1
    · subst hb
      rw [if_pos rfl, if_pos (by rw [List.length_replicate]; omega), if_pos ⟨rfl, hj⟩]
      rfl
    · rw [if_neg (by omega), if_neg (by omega), List.getElem?_replicate]
      split <;> rfl
/-- The allocator that Open makes. -/
def asO (K k j : Nat) (hs : List (Nat × Nat)) : AS := ⟨K, k, keepH hs K j, some (freeA j, K - freeA j), usedOf (adrs j) j, carveB (usedOf (adrs j) j) k (keepH hs K j) (K - 1), fun _ => []⟩
open Classical in
noncomputable def colO (b : DB) (a rt q : Nat) : Nat → Nat := fun k => if k < a then (if b.has k then 0 else 9) else if k = rt then 4 else if q ≤ k then 1 else 9
set_option maxRecDepth 100000 in
set_option maxHeartbeats 4000000 in
theorem rvopen_any (B : Nat) (b : DB) (m : Nat) (s s' : DS) (K id ep wh j k : Nat) (hs : List (Nat × Nat)) (w : World) (h : Dev B w b m s) (hI : OpenIn s s' m K id ep wh j k hs) (hK : 3 ≤ K) (hK2 : K ≤ 4) (hid : id < 18446744073709551616) :
    Calls Tryz.prog 40 #[.pointer (some ⟨b.d, 0, none⟩)] w fun e w' => ∃ al rt mp us fr A cap col, e = .returned (.tuple #[.agg (stC K id (some ⟨al, 0, none⟩) (some ⟨rt, 0, none⟩) A j cap), .int .i64 0]) ∧ Dev B w' b m s' ∧ (∀ k, k < w.heap.size → (b.has k ∧ col k = 0) ∨ (¬ b.has k ∧ col k = 9)) ∧
      AllocX w' col al b.d mp us fr (asO K k j hs) ∧ RootR w' (fun k => col k = 4) rt b.d ep wh (rootsL j) (rootsL j) ∧ Own w' w.heap.size 3 1 A j cap (ncells (adrs j)) ∧ (∀ a, A = some a → col a.block = 9) ∧ Mod w w' b.has := by
  have hm := hI.h.hm
  have hH := hI.h.hdr
  obtain ⟨N, HNN⟩ : ∃ N, Hid (keepH hs K j = N) := ⟨_, rfl⟩
  have HD0 : Hid (∀ wr, Below w.heap.size w wr → Dev B wr b m s) := fun wr hb => h.below hb (Nat.le_refl _)
  have Hlt := Lib.hid h.lt
  have Hlk := Lib.hid (fun w h => look_any B b m s K id ep wh j hs w h hI.h (by omega) (by omega) hid)
  unfold stC at Hlk ⊢
  have Hkp := Lib.hid (fun g gcap cap A w hl hr => keep_any K g gcap j cap hs A w hl hr hI.h.j (by omega) (by omega) hI.no2)
  have Hwr := Lib.hid (fun g gcap g2 gcap2 w h h1 h2 hg hg2 => rvwrite_any B b m s K g gcap g2 gcap2 hs (keepH hs K j) w h hI.l (by omega) (by omega) hm h1 h2 hg hg2 (fun b hb => hI.hdr.ok b hb))
  have hkg := fun b => keepH_get hs K j b (by omega) hI.one
  have Hbm := Lib.hid (fun w h => bmopen_any B b m s' K (freeA j) (keepH hs K j) w h hI.hdr (by omega) (by omega) hm (by unfold freeA; split <;> omega) (by unfold freeA; split <;> omega)
    (fun b => by rw [hkg b]; split <;> simp) (fun b h1 h2 => by
      rw [hkg b]
      unfold freeA at h2
      split at h2
      · omega
      · rw [if_pos (by omega)]; simp) (fun b h1 h2 => by
      rw [hkg b]
      unfold freeA at h1
      split at h1
      · rw [if_neg (by omega)]
      · rw [if_neg (by omega)]))
  have Han := Lib.hid (fun col mp cap A w h hM hdv hcol hr => anew_any B b m s' col mp K k 1 j cap (keepH hs K j) (some (freeA j, K - freeA j)) A (adrs j) w h hM hm (by omega) (by omega) hI.k2 hdv hcol hr (by have := hI.h.j; omega) (adrs_nodup j)
    (fun i hi => by
      rw [adrs_at j i hi, hI.k1 (by omega)]
      exact hI.p.pl (i + 1) (by omega) (by omega)) (fun i hi => by rw [adrs_at j i hi]; have := hI.h.j; unfold adr; omega) (fun b h1 h2 h3 => by
      rw [hkg b] at h3 ⊢
      split at h3
      · rename_i hb
        rw [if_pos hb]
        exact (hI.k1 hb.2).symm
      · simp at h3))
  rw [hI.e] at Hwr
  rw [HNN.out] at Hkp Hwr Hbm Han
  have Has : Hid (asO K k j hs = ⟨K, k, N, some (freeA j, K - freeA j), usedOf (adrs j) j, carveB (usedOf (adrs j) j) k N (K - 1), fun _ => []⟩) := by show _ = _; unfold asO; rw [HNN.out]
  rw [Has.out]
  obtain ⟨n2, Hn2⟩ : ∃ n, Hid (w.heap.size = n) := ⟨_, rfl⟩
  have L0 := Lib.hid ((Loc.nil b.has w).box 98 #[.int .i64 0, .int .u64 0, .int .i64 0, .pointer none, .pointer none, .slice none 0 0] n2 Hn2.out)
  have HB0 := Lib.hid (below_box w (.cells #[.int .i64 0, .int .u64 0, .int .i64 0, .pointer none, .pointer none, .slice none 0 0] 98))
  clear h hI hH hkg
  go_enter Tryz.func40, Tryz.ntmps40
  go_wp2_with fail
  rw [Hn2.out]
  generalize w.alloc _ = w1 at *
  refine (Hlk.out _ (HD0.out _ HB0.out)).mono ?_
  rintro e w2 ⟨rt, g, A, cap, rfl, hrt, hR, hO, hLv, hb2⟩
  have L2 := Lib.hid (L0.out.call hb2 (Nat.le_refl _))
  have HB2 : Hid (Below w.heap.size w w2) := HB0.out.trans (hb2.mono HB0.out.size)
  have hsz1 : w.heap.size ≤ w1.heap.size := HB0.out.size
  obtain ⟨n4, Hn4⟩ : ∃ n, Hid (w2.heap.size = n) := ⟨_, rfl⟩
  have L3 := Lib.hid (L2.out.box 98 #[.int .i64 K, .int .u64 id, .int .i64 K, .pointer none, .pointer (some ⟨rt, 0, none⟩), .slice A j cap] n4 Hn4.out)
  have HB3 : Hid (Below w.heap.size w (w2.alloc (.cells #[.int .i64 K, .int .u64 id, .int .i64 K, .pointer none, .pointer (some ⟨rt, 0, none⟩), .slice A j cap] 98)).drew) := below_drewN (HB2.out.trans ((below_box w2 _).mono HB2.out.size)) 1
  have HR3 : Hid (RootR (w2.alloc (.cells #[.int .i64 K, .int .u64 id, .int .i64 K, .pointer none, .pointer (some ⟨rt, 0, none⟩), .slice A j cap] 98)).drew (fun k => k = rt) rt b.d ep wh (rootsL j) (rootsL j)) := ⟨(hR.1.alloc _).drew, hR.2⟩
  have HO3 : Hid (Own (w2.alloc (.cells #[.int .i64 K, .int .u64 id, .int .i64 K, .pointer none, .pointer (some ⟨rt, 0, none⟩), .slice A j cap] 98)).drew w.heap.size 178 3 (some ⟨g, 0, none⟩) K K (hcells hs)) := ((hO.base_ hsz1).alloc _).drewN 1
  have HV3 : Hid (Own (w2.alloc (.cells #[.int .i64 K, .int .u64 id, .int .i64 K, .pointer none, .pointer (some ⟨rt, 0, none⟩), .slice A j cap] 98)).drew w.heap.size 3 1 A j cap (ncells (adrs j))) := ((hLv.base_ hsz1).alloc _).drewN 1
  have Hrtw : Hid (w.heap.size ≤ rt) := Nat.le_trans hsz1 hrt
  clear hb2 hR hO hLv hrt L2 L0 Hlk
  go_wp2_with fail
  rw [Hn4.out]
  obtain ⟨w3, Hw3⟩ : ∃ w3, Hid ((w2.alloc (.cells #[.int .i64 K, .int .u64 id, .int .i64 K, .pointer none, .pointer (some ⟨rt, 0, none⟩), .slice A j cap] 98)) = w3) := ⟨_, rfl⟩
  rw [Hw3.out] at L3 HB3 HR3 HO3 HV3 ⊢
  have L3d := Lib.hid L3.out.drew
  have e2 : w3.cell? ⟨n4, 2, none⟩ = some (.int .i64 K) := L3.out.b0.cell 2
  have e5 : w3.cell? ⟨n4, 5, none⟩ = some (.slice A j cap) := L3.out.b0.cell 5
  have hbw : ∀ k, b.has k → k < w.heap.size := fun k hk => (Hlt.out k hk).2
  have Hbw := Lib.hid hbw
  clear L3 hbw
  go_region_held3 (fun W => W.cell? ⟨n4, 2, none⟩ = some (.int .i64 K) ∧ W.cell? ⟨n4, 5, none⟩ = some (.slice A j cap))
    (first | exact ⟨e2, e5⟩ | exact ⟨L4.out.b0.cell 2, L4.out.b0.cell 5⟩ | exact ⟨L5.out.b0.cell 2, L5.out.b0.cell 5⟩)
    (first
      | (go_at_call 94; refine (Hkp.out g K cap A _ (HO3.out.base_ (Nat.zero_le _)) HV3.out.rd).mono ?_; rintro e w4 ⟨g2, rfl, hO4, hb4⟩; have L4 := Lib.hid (L3d.out.call hb4 (Nat.le_refl _)); have HN4 := Lib.hid (hO4.base_ HB3.out.size); have HO4 := Lib.hid (HO3.out.below hb4 (Nat.le_refl _)); have HV4 := Lib.hid (HV3.out.below hb4 (Nat.le_refl _)); have HR4 := Lib.hid (HR3.out.below hb4 (Nat.le_refl _)); have HB4 : Hid (Below w.heap.size w w4) := HB3.out.trans (hb4.mono HB3.out.size); clear hO4 hb4)
      | (go_at_call 93; refine (Hwr.out g K g2 K _ (HD0.out _ HB4.out) (HO4.out.base_ (Nat.zero_le _)) (HN4.out.base_ (Nat.zero_le _)) (fun h => by have h1 := Hbw.out g h; have h2 := (HO4.out.lt _ rfl).1; simp only at h2; omega) (fun h => by have h1 := Hbw.out g2 h; have h2 := (HN4.out.lt _ rfl).1; simp only at h2; omega)).mono ?_; rintro e w5 ⟨rfl, hd5, hm5⟩; have HD5 := Lib.hid hd5; have L5 := Lib.hid (L4.out.eff hm5 (fun k hk => ⟨hk, Hbw.out k hk⟩)); have HV5 := Lib.hid (HV4.out.mod hm5 (fun a ha h => by have h1 := Hbw.out _ h; have h2 := (HV4.out.lt a ha).1; omega)); have HR5 := Lib.hid (HR4.out.mod hm5 (fun k h1 h2 => by have h3 := Hbw.out k h2; have h4 := Hrtw.out; omega)); clear hd5 hm5))
  have c2 : w5.cell? ⟨n4, 2, none⟩ = some (.int .i64 K) := L5.out.b0.cell 2
  clear e2 e5 L3d L4 HR3 HR4 HO3 HO4 HV3 HV4 HN4 HB3 HB4 HB2 HB0 Hkp Hwr
  go_wp2_with fail
  refine (Hbm.out _ HD5.out).mono ?_
  rintro e w6 ⟨mp, rfl, hM6, hb6⟩
  have L6 := Lib.hid (L5.out.call hb6 (Nat.le_refl _))
  have HD6 := Lib.hid (HD5.out.below hb6 (Nat.le_refl _))
  have HV6 := Lib.hid (HV5.out.below hb6 (Nat.le_refl _))
  have HR6 := Lib.hid (HR5.out.below hb6 (Nat.le_refl _))
  have hw5 : w.heap.size ≤ w5.heap.size := L5.out.be.size
  have Hcd : Hid (∀ k, b.has k → colO b w.heap.size rt w5.heap.size k = 0) := fun k hk => by unfold colO; rw [if_pos (Hbw.out k hk), if_pos hk]
  have Hcd0 : Hid (∀ k, k < w.heap.size → (b.has k ∧ colO b w.heap.size rt w5.heap.size k = 0) ∨ (¬ b.has k ∧ colO b w.heap.size rt w5.heap.size k = 9)) := fun k hk => by
    unfold colO
    rw [if_pos hk]
    by_cases hb : b.has k
    · exact .inl ⟨hb, if_pos hb⟩
    · exact .inr ⟨hb, if_neg hb⟩
  have Hc4 : Hid (colO b w.heap.size rt w5.heap.size rt = 4) := by show _ = _; unfold colO; rw [if_neg (by have := Hrtw.out; omega), if_pos rfl]
  have Hc23 : Hid (∀ k, k < w6.heap.size → colO b w.heap.size rt w5.heap.size k ≠ 2 ∧ colO b w.heap.size rt w5.heap.size k ≠ 3) := fun k _ => by
    unfold colO
    repeat (first | split | (constructor <;> decide))
  have hrt5 : rt < w5.heap.size := HR5.out.1.lt
  have HM6 : Hid (BmanR w6 (fun k => colO b w.heap.size rt w5.heap.size k = 1) mp b.d K N (some (freeA j, K - freeA j))) := hM6.weak (fun k _ hk => by
    unfold colO
    rw [if_neg (by omega), if_neg (by omega), if_pos hk])
  have hne_rt : ∀ n (cs : Array Value), Blk w5 n 98 cs → n ≠ rt := by
    intro n cs hb e
    have h3 := HR5.out.1
    rw [← e] at h3
    unfold Blk at h3 hb
    rw [hb] at h3
    cases h3
  have Hc9 : Hid (colO b w.heap.size rt w5.heap.size n2 = 9 ∧ colO b w.heap.size rt w5.heap.size n4 = 9) := by
    have h1 := (L5.out.at_ _ (List.mem_cons_self)).2
    have h2 := (L5.out.at_ _ (List.mem_cons_of_mem _ List.mem_cons_self)).2
    have h3 := L5.out.b0.lt
    have h4 := L5.out.b1.lt
    have h5 := hne_rt _ _ L5.out.b0
    have h6 := hne_rt _ _ L5.out.b1
    simp only at h1 h2
    constructor
    · unfold colO; rw [if_neg (by omega), if_neg h6, if_neg (by omega)]
    · unfold colO; rw [if_neg (by omega), if_neg h5, if_neg (by omega)]
  have HcA : Hid (∀ a, A = some a → colO b w.heap.size rt w5.heap.size a.block = 9) := fun a ha => by
    have h1 := HV5.out.lt a ha
    have h2 := HV5.out.ne HR5.out.1 (by decide) a ha
    unfold colO; rw [if_neg (by omega), if_neg h2, if_neg (by omega)]
  have Hnrt : Hid (n2 ≠ rt ∧ n4 ≠ rt) := ⟨hne_rt _ _ L5.out.b1, hne_rt _ _ L5.out.b0⟩
  clear hne_rt
  generalize colO b w.heap.size rt w5.heap.size = col1 at *
  have e5 : w6.cell? ⟨n4, 5, none⟩ = some (.slice A j cap) := L6.out.b0.cell 5
  have Ha := Lib.hid (Han.out col1 mp cap A w6 HD6.out HM6.out Hcd.out Hc23.out HV6.out.rd)
  clear hM6 hb6 L5 HD5 HV5 HR5 c2 HM6 Hbm Han
  go_wp2_with fail
  refine Ha.out.mono ?_
  rintro e w7 ⟨al, us, fr, col, rfl, hcol, hA7, hb7⟩
  have L7 := Lib.hid (L6.out.call hb7 (Nat.le_refl _))
  have HD7 := Lib.hid (HD6.out.below hb7 (Nat.le_refl _))
  have HV7 := Lib.hid (HV6.out.below hb7 (Nat.le_refl _))
  have HA7 := Lib.hid hA7
  have hw6 : w.heap.size ≤ w6.heap.size := L6.out.be.size
  have hrt6 : rt < w6.heap.size := HR6.out.1.lt
  have HR7 : Hid (RootR w7 (fun k => k = rt) rt b.d ep wh (rootsL j) (rootsL j)) := HR6.out.below hb7 (Nat.le_refl _)
  have Hcol : Hid ((∀ k, k < w.heap.size → (b.has k ∧ col k = 0) ∨ (¬ b.has k ∧ col k = 9)) ∧ col rt = 4) := ⟨fun k hk => by rw [hcol k (Nat.lt_of_lt_of_le hk hw6)]; exact Hcd0.out k hk, (hcol rt hrt6).trans Hc4.out⟩
  have HcA7 : Hid (∀ a, A = some a → col a.block = 9) := fun a ha => (hcol _ (HV6.out.lt a ha).2).trans (HcA.out a ha)
  have Hcn : Hid (col n2 = 9 ∧ col n4 = 9) := ⟨(hcol n2 L6.out.b1.lt).trans Hc9.out.1, (hcol n4 L6.out.b0.lt).trans Hc9.out.2⟩
  have f3 := L7.out.b0.frozen 3
  have d3 : w7.cell? ⟨n4, 3, none⟩ = some (.pointer none) := L7.out.b0.cell 3
  have d0 : w7.cell? ⟨n4, 0, none⟩ = some (.int .i64 K) := L7.out.b0.cell 0
  have d1 : w7.cell? ⟨n4, 1, none⟩ = some (.int .u64 id) := L7.out.b0.cell 1
  have d2 : w7.cell? ⟨n4, 2, none⟩ = some (.int .i64 K) := L7.out.b0.cell 2
  have d4 : w7.cell? ⟨n4, 4, none⟩ = some (.pointer (some ⟨rt, 0, none⟩)) := L7.out.b0.cell 4
  have d5 : w7.cell? ⟨n4, 5, none⟩ = some (.slice A j cap) := L7.out.b0.cell 5
  have L8 := Lib.hid ((L7.out.set 3 (.pointer (some ⟨al, 0, none⟩))).swap)
  have v0 : w7.cell? ⟨n2, 0, none⟩ = some (.int .i64 0) := L7.out.b1.cell 0
  have v1 : w7.cell? ⟨n2, 1, none⟩ = some (.int .u64 0) := L7.out.b1.cell 1
  have v2 : w7.cell? ⟨n2, 2, none⟩ = some (.int .i64 0) := L7.out.b1.cell 2
  have v3 : w7.cell? ⟨n2, 3, none⟩ = some (.pointer none) := L7.out.b1.cell 3
  have v4 : w7.cell? ⟨n2, 4, none⟩ = some (.pointer none) := L7.out.b1.cell 4
  have v5 : w7.cell? ⟨n2, 5, none⟩ = some (.slice none 0 0) := L7.out.b1.cell 5
  have z0 := L7.out.b1.frozen 0
  have z1 := L7.out.b1.frozen 1
  have z2 := L7.out.b1.frozen 2
  have z3 := L7.out.b1.frozen 3
  have z4 := L7.out.b1.frozen 4
  have z5 := L7.out.b1.frozen 5
  have hne : ¬ n4 = n2 := L7.out.ne_ (i := 0) (j := 1) (by omega) rfl rfl
  have hne2 : ¬ n2 = n4 := fun e => hne e.symm
  clear hcol hA7 hb7 Ha HD6 HV6 HR6 L6 e5
  go_wp2_with fail
  have LF := (((((L8.out.set 0 (.int .i64 K)).set 1 (.int .u64 id)).set 2 (.int .i64 K)).set 3 (.pointer (some ⟨al, 0, none⟩))).set 4 (.pointer (some ⟨rt, 0, none⟩))).set 5 (.slice A j cap)
  have hM := (Mod.set (p := ⟨n2, 5, none⟩) (Mod.set (p := ⟨n2, 4, none⟩) (Mod.set (p := ⟨n2, 3, none⟩) (Mod.set (p := ⟨n2, 2, none⟩) (Mod.set (p := ⟨n2, 1, none⟩) (Mod.set (p := ⟨n2, 0, none⟩) (Mod.set (p := ⟨n4, 3, none⟩) (Mod.refl w7 (fun k => k = n2 ∨ k = n4)) (.inr (.inr rfl)) (.pointer (some ⟨al, 0, none⟩))) (.inr (.inl rfl)) (.int .i64 K)) (.inr (.inl rfl)) (.int .u64 id)) (.inr (.inl rfl)) (.int .i64 K)) (.inr (.inl rfl)) (.pointer (some ⟨al, 0, none⟩))) (.inr (.inl rfl)) (.pointer (some ⟨rt, 0, none⟩))) (.inr (.inl rfl)) (.slice A j cap))
  have h1 := (L7.out.at_ _ (List.mem_cons_self)).2
  have h2 := (L7.out.at_ _ (List.mem_cons_of_mem _ List.mem_cons_self)).2
  have hb0 := L7.out.b0
  have hb1 := L7.out.b1
  have hcn := Hcn.out
  have hnrt := Hnrt.out
  simp only at h1 h2
  refine bodyPost_ret (results_row_tmp rfl _ _ n2 98 _ _ _ rfl LF.b0 Tryz.underlying98 rfl size98) rfl ?_
  refine ⟨al, rt, mp, us, fr, A, cap, col, rfl, HD7.out.mod hM (fun k hk h => by have := Hbw.out k hk; omega), Hcol.out.1, HA7.out.mod hM (fun k hk h => by rcases h with rfl | rfl <;> omega), ?_, HV7.out.mod hM (fun a ha h => ?_), HcA7.out, LF.be⟩
  · have := HR7.out.mod hM (fun k hk h => by rcases h with rfl | rfl <;> omega)
    exact ⟨this.1, this.2.1, this.2.2.1, Hcol.out.2⟩
  · rcases h with h | h
    · exact HV7.out.ne hb1 (by decide) a ha h
    · exact HV7.out.ne hb0 (by decide) a ha h
end Go.Proofs.YtcnjipicifkfjaaGreat

/- heap: Open. -/
namespace Go.Proofs.YtcnjipicifkfjaaGreat
open Go.RowKit
set_option linter.unusedVariables false
set_option linter.unusedSimpArgs false

/-- The heap that Open makes. -/
def hsO (K k j ep wh most p : Nat) (s : DS) (hs : List (Nat × Nat)) : HS :=
  ⟨asO K k j hs, ep, wh, rootsL j, rootsL j, zerosN 32, resetM (usedOf (adrs j) j) (nx s p) (512 * K + 1) (adrs j) j, usedOf (adrs j) j, CS.new K most⟩
def heapC0 (d al rt hl : Nat) (ca : Option Addr) (sh : Nat) : Array Value :=
  #[.pointer (some ⟨d, 0, none⟩), .pointer (some ⟨al, 0, none⟩), .pointer (some ⟨rt, 0, none⟩), .int .i64 0, .int .i64 0, .int .i64 0, .int .i64 0, .int .i64 0, .int .i64 0, .int .i64 0, .int .i64 0, .int .i64 0, .int .i64 0, .int .i64 0, .int .i64 0, .int .i64 0, .int .i64 0, .int .i64 0, .int .i64 0, .int .i64 0, .int .i64 0, .int .i64 0, .int .i64 0, .int .i64 0, .int .i64 0, .int .i64 0, .int .i64 0, .int .i64 0, .int .i64 0, .int .i64 0, .int .i64 0, .int .i64 0, .int .i64 0, .int .i64 0, .int .i64 0,
    .pointer (some ⟨hl, 0, none⟩), .pointer ca, .pointer (some ⟨sh, 0, none⟩), .bool false]
theorem heapC0_set (d al rt hl ca sh : Nat) : (heapC0 d al rt hl none sh).setIfInBounds 36 (.pointer (some ⟨ca, 0, none⟩)) = heapC d al rt (zerosN 32) hl ca sh false := by
  rfl
def colH (col : Nat → Nat) (a b c hl : Nat) : Nat → Nat := fun k => if k < a then col k else if k = hl then 8 else if k < b then 5 else if k < c then 6 else if k = c then 7 else 9
set_option maxRecDepth 100000 in
set_option maxHeartbeats 4000000 in
theorem hopen_any (B : Nat) (b : DB) (m : Nat) (s s' : DS) (K id ep wh j k most p : Nat) (hs : List (Nat × Nat)) (w : World) (h : Dev B w b m s) (hI : OpenIn s s' m K id ep wh j k hs) (hK : 3 ≤ K) (hK2 : K ≤ 4) (hid : id < 18446744073709551616) (hob : OB s' m (usedOf (adrs j) j) p) :
    Calls Tryz.prog 13 #[.pointer (some ⟨b.d, 0, none⟩), .int .i64 most] w fun e w' => ∃ hp, e = .returned (.tuple #[.pointer (some ⟨hp, 0, none⟩), .int .i64 0]) ∧ HeapR w' (fun k => b.has k ∨ w.heap.size ≤ k) B b m s' hp (hsO K k j ep wh most p s' hs) ∧ Mod w w' b.has := by
  have hm := hI.h.hm
  have Hj := Lib.hid hI.h.j
  have hj170 : j ≤ 170 := Hj.out
  have Ho := Lib.hid (rvopen_any B b m s s' K id ep wh j k hs w h hI hK hK2 hid)
  unfold stC at Ho
  have Hlt := Lib.hid h.lt
  have Hob := Lib.hid hob
  have hmf : ∀ (fn : Fn) (first cap : Array Value) (w : World), (Instr.makeFunc fn first cap).run Tryz.prog w = .ok (.func fn first cap) w := fun _ _ _ _ => rfl
  have Hbn := Lib.hid (fun w => bnew_any (8 * K) w (by omega) (by omega))
  obtain ⟨N, HN⟩ : ∃ N, Hid (8 * m = N) := ⟨_, rfl⟩
  rw [show 64 * (8 * K) = N by rw [← HN.out, hm]; omega] at Hbn
  have HmK := Lib.hid hm
  clear h hI hob hm
  go_enter Tryz.func13, Tryz.ntmps13
  go_wp2_with fail
  refine Ho.out.mono ?_
  rintro e w1 ⟨al, rt, mp, us, fr, A, cap, col, rfl, hd, hdw, hA, hR, hV, hcA, hM⟩
  have hdv : ∀ k, b.has k → col k = 0 := fun k hk => ((hdw k (Hlt.out k hk).2).resolve_right (fun h => h.1 hk)).2
  have HAK : Hid ((asO K k j hs).K = K) := rfl
  obtain ⟨n6, Hn6⟩ : ∃ n, Hid (w1.heap.size = n) := ⟨_, rfl⟩
  have L1 := Lib.hid (((Loc.nil b.has w).eff hM (fun k hk => ⟨hk, (Hlt.out k hk).2⟩)).box 98 #[.int .i64 K, .int .u64 id, .int .i64 K, .pointer (some ⟨al, 0, none⟩), .pointer (some ⟨rt, 0, none⟩), .slice A j cap] n6 Hn6.out)
  have hbx := below_box w1 (.cells #[.int .i64 K, .int .u64 id, .int .i64 K, .pointer (some ⟨al, 0, none⟩), .pointer (some ⟨rt, 0, none⟩), .slice A j cap] 98)
  obtain ⟨w2, Hw2⟩ : ∃ w2, Hid ((w1.alloc (.cells #[.int .i64 K, .int .u64 id, .int .i64 K, .pointer (some ⟨al, 0, none⟩), .pointer (some ⟨rt, 0, none⟩), .slice A j cap] 98)) = w2) := ⟨_, rfl⟩
  rw [Hw2.out] at L1 hbx
  obtain ⟨col0, Hcol0⟩ : ∃ c, Hid (colW col w1 9 = c) := ⟨_, rfl⟩
  have hcl := colW_lt col w1 9
  have hcg := colW_ge col w1 9
  rw [Hcol0.out] at hcl hcg
  have HD2 : Hid (Dev B w2 b m s') := hd.below hbx (Nat.le_refl _)
  have HDV : Hid (∀ k, b.has k → col0 k = 0) := fun k hk => (hcl k (hd.lt k hk).2).trans (hdv k hk)
  have HW0 : Hid (∀ k, k < w.heap.size → (b.has k ∧ col0 k = 0) ∨ (¬ b.has k ∧ col0 k = 9)) := fun k hk => by rw [hcl k (Nat.lt_of_lt_of_le hk hM.size)]; exact hdw k hk
  have HW2 : Hid (w.heap.size ≤ w2.heap.size) := Nat.le_trans hM.size hbx.size
  have HA2 : Hid (AllocX w2 col0 al b.d mp us fr (asO K k j hs)) := (hA.recol hcl).below hbx (Nat.le_refl _)
  have HR2 : Hid (RootR w2 (fun k => col0 k = 4) rt b.d ep wh (rootsL j) (rootsL j)) := (hR.weak (fun k hk h => (hcl k hk).trans h)).below hbx (Nat.le_refl _)
  have HV2 : Hid (Own w2 w.heap.size 3 1 A j cap (ncells (adrs j))) := hV.below hbx (Nat.le_refl _)
  have HcA : Hid (∀ a, A = some a → col0 a.block = 9) := fun a ha => (hcl _ (hV.lt a ha).2).trans (hcA a ha)
  have Hc6 : Hid (col0 n6 = 9 ∧ ∀ k, w2.heap.size ≤ k → col0 k = 9) := ⟨hcg n6 (by rw [Hn6.out]; exact Nat.le_refl _), fun k hk => hcg k (Nat.le_trans hbx.size hk)⟩
  clear hd hdv hdw hA hR hV hcA hM hbx hcl hcg Ho Hcol0
  go_wp2_with fail
  rw [Hn6.out, Hw2.out]
  have e3 : w2.cell? ⟨n6, 3, none⟩ = some (.pointer (some ⟨al, 0, none⟩)) := L1.out.b0.cell 3
  have e4 : w2.cell? ⟨n6, 4, none⟩ = some (.pointer (some ⟨rt, 0, none⟩)) := L1.out.b0.cell 4
  have L2 := Lib.hid L1.out.drew
  have HB2 : Hid (Below w2.heap.size w2 w2.drew) := below_drewN (Below.refl _ _) 1
  have Hhn := Lib.hid (hnew_any B b m s' col0 al (asO K k j hs) w2.drew (HD2.out.drewN 1) ((HA2.out.below HB2.out (Nat.le_refl _)).r) HmK.out (by rw [HAK.out]; omega) (by rw [HAK.out]; omega))
  rw [HAK.out] at Hhn
  clear L1
  go_region_held3 (fun W => W.cell? ⟨n6, 3, none⟩ = some (.pointer (some ⟨al, 0, none⟩)) ∧ W.cell? ⟨n6, 4, none⟩ = some (.pointer (some ⟨rt, 0, none⟩)))
    (first | exact ⟨e3, e4⟩ | exact ⟨L2.out.b0.cell 3, L2.out.b0.cell 4⟩ | exact ⟨(L2.out.alloc _).b0.cell 3, (L2.out.alloc _).b0.cell 4⟩)
    (first
      | (go_at_call 41; refine Hhn.out.mono ?_; rintro e w3 ⟨hl, rfl, hhl, hh3, hb3⟩; have HH3 := Lib.hid hh3; have Hhl : Hid (w2.heap.size ≤ hl) := hhl; have HB3 : Hid (Below w2.heap.size w2 w3) := HB2.out.trans hb3; replace L2 := Lib.hid (L2.out.call hb3 (Nat.le_refl _)); clear hh3 hhl hb3)
      | (go_at_call 43; refine (len_any B b m s' _ (HD2.out.below HB3.out (Nat.le_refl _))).mono ?_; rintro e _ ⟨rfl, rfl⟩; rw [HN.out])
      | (go_at_call 42; refine (Hbn.out _).mono ?_; rintro e w4 ⟨sh, rfl, hs4, hb4⟩; have HS4 := Lib.hid hs4; have HBs : Hid (Below w3.heap.size w3 w4) := hb4; replace L2 := Lib.hid (L2.out.call hb4 (Nat.le_refl _)); clear hs4 hb4))
  obtain ⟨hp, Hhp⟩ : ∃ n, Hid (w4.heap.size = n) := ⟨_, rfl⟩
  have L5 := L2.out.box 87 (heapC0 b.d al rt hl none sh) hp Hhp.out
  have hb45 := below_box w4 (.cells (heapC0 b.d al rt hl none sh) 87)
  rw [Hhp.out]
  unfold heapC0 at L5 hb45
  generalize w4.alloc _ = w5 at *
  have L5 := Lib.hid L5
  have h3 := HB3.out.size
  have h4 := HBs.out.size
  have h5 := hb45.size
  have hhl := Hhl.out
  have hhl3 : hl < w3.heap.size := HH3.out.lt
  have hhp := Hhp.out
  have hB35 : Below w3.heap.size w3 w5 := HBs.out.trans (hb45.mono h4)
  have hB25 : Below w2.heap.size w2 w5 := HB3.out.trans (hB35.mono h3)
  have hcl : ∀ k, k < w2.heap.size → colH col0 w2.heap.size w3.heap.size w4.heap.size hl k = col0 k := fun k hk => by unfold colH; rw [if_pos hk]
  have HA5 : Hid (AllocX w5 (colH col0 w2.heap.size w3.heap.size w4.heap.size hl) al b.d mp us fr (asO K k j hs)) := (HA2.out.recol hcl).below hB25 (Nat.le_refl _)
  have HD5 : Hid (Dev B w5 b m s') := HD2.out.below hB25 (Nat.le_refl _)
  have HDV5 : Hid (∀ k, b.has k → colH col0 w2.heap.size w3.heap.size w4.heap.size hl k = 0) := fun k hk => (hcl k (HD2.out.lt k hk).2).trans (HDV.out k hk)
  have HW5 : Hid (∀ k, k < w.heap.size → (b.has k ∧ colH col0 w2.heap.size w3.heap.size w4.heap.size hl k = 0) ∨ (¬ b.has k ∧ colH col0 w2.heap.size w3.heap.size w4.heap.size hl k = 9)) := fun k hk => by rw [hcl k (Nat.lt_of_lt_of_le hk HW2.out)]; exact HW0.out k hk
  have HR5 : Hid (RootR w5 (fun k => colH col0 w2.heap.size w3.heap.size w4.heap.size hl k = 4) rt b.d ep wh (rootsL j) (rootsL j)) := (HR2.out.weak (fun k hk h => (hcl k hk).trans h)).below hB25 (Nat.le_refl _)
  have Hc5 : Hid (colH col0 w2.heap.size w3.heap.size w4.heap.size hl hl = 8 ∧ colH col0 w2.heap.size w3.heap.size w4.heap.size hl hp = 7 ∧ colH col0 w2.heap.size w3.heap.size w4.heap.size hl n6 = 9) := by
    refine ⟨?_, ?_, (hcl n6 ?_).trans Hc6.out.1⟩
    · unfold colH; rw [if_neg (by omega), if_pos rfl]
    · unfold colH; rw [if_neg (by omega), if_neg (by omega), if_neg (by omega), if_neg (by omega), if_pos (by omega)]
    · exact cell_lt e3
  have HH5 : Hid (HeldR w5 (fun k => colH col0 w2.heap.size w3.heap.size w4.heap.size hl k = 5) hl al K (fun _ => false)) := by
    refine (HH3.out.weak (F' := fun k => colH col0 w2.heap.size w3.heap.size w4.heap.size hl k = 5) (fun k hk h => ?_) (by rw [Hc5.out.1]; omega)).below hB35 (Nat.le_refl _)
    have : w2.heap.size ≤ k := h.1
    unfold colH; rw [if_neg (by omega), if_neg h.2, if_pos hk]
  have HS5 : Hid (SetR w5 (fun k => colH col0 w2.heap.size w3.heap.size w4.heap.size hl k = 6) sh (8 * K) (fun _ => false)) := by
    refine (HS4.out.weak (F' := fun k => colH col0 w2.heap.size w3.heap.size w4.heap.size hl k = 6) (fun k hk h => ?_)).below hb45 (Nat.le_refl _)
    unfold colH; rw [if_neg (by omega), if_neg (by omega), if_neg (by omega), if_pos hk]
  have HV5 : Hid (Own w5 w.heap.size 3 1 A j cap (ncells (adrs j))) := HV2.out.below hB25 (Nat.le_refl _)
  have HcA5 : Hid (∀ a, A = some a → colH col0 w2.heap.size w3.heap.size w4.heap.size hl a.block = 9) := fun a ha => (hcl _ (HV2.out.lt a ha).2).trans (HcA.out a ha)
  clear HW0 h3 h4 h5 hhl hhl3 hhp hB35 hB25 hcl HA2 HD2 HDV HR2 Hc6 HH3 HS4 HV2 HcA hb45 HB2 HB3 HBs L2 Hhl e3 e4 Hhn Hbn
  generalize colH col0 w2.heap.size w3.heap.size w4.heap.size hl = col1 at *
  have e3 : w5.cell? ⟨n6, 3, none⟩ = some (.pointer (some ⟨al, 0, none⟩)) := L5.out.b1.cell 3
  have Hcn := Lib.hid (cnew_any B b m s' col1 al most (.func 45) #[.pointer (some ⟨hp, 0, none⟩)] #[] (asO K k j hs) w5 HD5.out HA5.out.r HmK.out (by rw [HAK.out]; omega) (by rw [HAK.out]; omega))
  go_wp2_with fail
  refine Hcn.out.mono ?_
  rintro e w6 ⟨ca, col, rfl, hcol, hC, hb6⟩
  rw [HAK.out] at hC
  have L6 := Lib.hid (L5.out.call hb6 (Nat.le_refl _))
  have c36 : w6.cell? ⟨hp, 36, none⟩ = some (.pointer none) := L6.out.b0.cell 36
  have f36 := L6.out.b0.frozen 36
  obtain ⟨w7, Hw7⟩ : ∃ w7, Hid (w6.setCell ⟨hp, 36, none⟩ (.pointer (some ⟨ca, 0, none⟩)) = w7) := ⟨_, rfl⟩
  have hM7 : Mod w6 w7 (fun k => k = hp) := by rw [← Hw7.out]; exact Mod.set (p := ⟨hp, 36, none⟩) (Mod.refl w6 (fun k => k = hp)) (.inr rfl) _
  have hcol5 : ∀ k, k < w5.heap.size → col k = col1 k := hcol
  have hhp5 : hp < w5.heap.size := L5.out.b0.lt
  have hchp : col hp = 7 := (hcol hp hhp5).trans Hc5.out.2.1
  have L7 : Hid (Loc b.has w w7 [(hp, 87, heapC b.d al rt (zerosN 32) hl ca sh false), (n6, 98, #[.int .i64 K, .int .u64 id, .int .i64 K, .pointer (some ⟨al, 0, none⟩), .pointer (some ⟨rt, 0, none⟩), .slice A j cap])]) := by
    rw [← Hw7.out, ← heapC0_set]
    exact L6.out.set 36 _
  have hd6 := HD5.out.below hb6 (Nat.le_refl _)
  have hdv6 : ∀ k, b.has k → col k = 0 := fun k hk => (hcol k (HD5.out.lt k hk).2).trans (HDV5.out k hk)
  have ha6 := (HA5.out.recol hcol5).below hb6 (Nat.le_refl _)
  have hr6 := (HR5.out.weak (F' := fun k => col k = 4) (fun k hk h => (hcol k hk).trans h)).below hb6 (Nat.le_refl _)
  have hhl5 : hl < w5.heap.size := HH5.out.lt
  have hchl : col hl = 8 := (hcol hl hhl5).trans Hc5.out.1
  have hh6 := (HH5.out.weak (F' := fun k => col k = 5) (fun k hk h => (hcol k hk).trans h) (by rw [hchl]; omega)).below hb6 (Nat.le_refl _)
  have hs6 := (HS5.out.weak (F' := fun k => col k = 6) (fun k hk h => (hcol k hk).trans h)).below hb6 (Nat.le_refl _)
  have HX7 : Hid (HeapX w7 B b m s' col hp al mp us fr rt hl ca sh ⟨asO K k j hs, ep, wh, rootsL j, rootsL j, zerosN 32, fun _ => false, fun _ => false, CS.new K most⟩) := by
    refine ⟨hd6.mod hM7 (fun k hk e => by have := hdv6 k hk; rw [e] at this; omega), hdv6, L7.out.b0, hchp, ha6.mod hM7 (fun k hk e => by rw [e] at hk; omega), hr6.mod hM7 (fun k hk e => by rw [e] at hk; omega), hh6.mod hM7 (fun k hk e => by rw [e] at hk; omega) (fun e => by rw [e] at hchl; omega), hchl, hC.mod hM7 (fun k hk e => by rw [e] at hk; omega), hs6.mod hM7 (fun k hk e => by rw [e] at hk; omega), rfl, HmK.out, hK, hK2⟩
  have HV7 : Hid (Own w7 w.heap.size 3 1 A j cap (ncells (adrs j))) := (HV5.out.below hb6 (Nat.le_refl _)).mod hM7 (fun a ha e => by
    have h1 := HcA5.out a ha
    have h2 := hcol _ (HV5.out.lt a ha).2
    rw [e] at h1 h2
    omega)
  have HW7 : Hid (∀ k, k < w.heap.size → (b.has k ∧ col k = 0) ∨ (¬ b.has k ∧ col k = 9)) := fun k hk => by rw [hcol k (Nat.lt_of_lt_of_le hk L5.out.be.size)]; exact HW5.out k hk
  have Hc7 : Hid ((∀ a, A = some a → col a.block = 9) ∧ col n6 = 9) := ⟨fun a ha => (hcol _ (HV5.out.lt a ha).2).trans (HcA5.out a ha), (hcol n6 L5.out.b1.lt).trans Hc5.out.2.2⟩
  clear HW5 hM7 hcol5 hhp5 hchp hd6 hdv6 ha6 hr6 hhl5 hchl hh6 hs6 hcol hC hb6 HD5 HDV5 HA5 HR5 Hc5 HH5 HS5 HV5 HcA5 L5 L6 e3 Hcn
  go_wp2_with fail
  rw [Hw7.out]
  clear c36 f36
  have hb8 : Below w7.heap.size w7 w7.drew := below_drewN (Below.refl _ _) 1
  have hcl := colW_lt col w7 9
  have hcg := colW_ge col w7 9
  have HX8 : Hid (HeapX w7.drew B b m s' (colW col w7 9) hp al mp us fr rt hl ca sh ⟨asO K k j hs, ep, wh, rootsL j, rootsL j, zerosN 32, fun _ => false, fun _ => false, CS.new K most⟩) := (HX7.out.recol hcl).below hb8
  have HV8 : Hid (Own w7.drew w.heap.size 3 1 A j cap (ncells (adrs j))) := HV7.out.drewN 1
  have L8 := Lib.hid L7.out.drew
  have HW8 : Hid (∀ k, k < w.heap.size → (b.has k ∧ colW col w7 9 k = 0) ∨ (¬ b.has k ∧ colW col w7 9 k = 9)) := fun k hk => by rw [hcl k (Nat.lt_of_lt_of_le hk L7.out.be.size)]; exact HW7.out k hk
  have Hc8 : Hid ((∀ a, A = some a → colW col w7 9 a.block = 9) ∧ colW col w7 9 n6 = 9 ∧ colW col w7 9 hp = 7 ∧ ∀ k, w7.heap.size ≤ k → colW col w7 9 k = 9) := ⟨fun a ha => (hcl _ (HV7.out.lt a ha).2).trans (Hc7.out.1 a ha), (hcl _ L7.out.b1.lt).trans Hc7.out.2, (hcl _ L7.out.b0.lt).trans HX7.out.chp, hcg⟩
  have e35 : w7.cell? ⟨hp, 35, none⟩ = some (.pointer (some ⟨hl, 0, none⟩)) := (L7.out.b0.cell 35).trans (heapC_tail rfl 0)
  have e5 : w7.cell? ⟨n6, 5, none⟩ = some (.slice A j cap) := L7.out.b1.cell 5
  have hszD : w7.drew.heap.size = w7.heap.size := rfl
  clear hb8 hcl hcg HX7 HV7 L7 HW7 Hc7
  generalize colW col w7 9 = col8 at *
  have Hre := Lib.hid (hreset_any B b m s' (fun k => col8 k = 5) col8 hl al p j cap A (adrs j) (asO K k j hs) (fun _ => false) w7.drew HX8.out.dev HX8.out.a.r HX8.out.h HX8.out.hdv (fun k hk => by omega) (fun k hk => by
    rcases Nat.lt_or_ge k w7.heap.size with h | h
    · exact h
    · have := Hc8.out.2.2.2 k h; omega) Hob.out (by
    show usedOf (adrs j) j 0 = false
    cases hu : usedOf (adrs j) j 0 with
    | false => rfl
    | true => exact absurd (Hob.out 0 hu).1 (by omega)) HmK.out (by rw [HAK.out]; omega) (by rw [HAK.out]; omega) HV8.out.rd (by have := Hj.out; omega) (fun a ha => by have := Hc8.out.1 a ha; omega) (fun i => by
    by_cases hi : i < j
    · rw [adrs_at j i hi]; have := Hj.out; unfold adr; omega
    · rw [List.getD_eq_getElem?_getD, List.getElem?_eq_none (by rw [adrs_len]; omega)]; simp))
  go_region_held3 (fun W => W.cell? ⟨hp, 35, none⟩ = some (.pointer (some ⟨hl, 0, none⟩)) ∧ W.cell? ⟨n6, 5, none⟩ = some (.slice A j cap))
    (first | exact ⟨e35, e5⟩ | exact ⟨(L9.out.b0.cell 35).trans (heapC_tail rfl 0), L9.out.b1.cell 5⟩)
    ((go_at_call 46; refine Hre.out.mono ?_; rintro e w9 ⟨⟨v9, rfl⟩, hh9, hM9⟩; have HX9 := Lib.hid (HX8.out.heldS hM9 hh9); have HV9 := Lib.hid (HV8.out.mod hM9 (fun a ha e => by have := Hc8.out.1 a ha; omega)); have L9 := Lib.hid (L8.out.effNew hM9 (fun k hk e => by
        have e5 : col8 k = 5 := e
        refine .inr ⟨?_, ?_⟩
        · rcases Nat.lt_or_ge k w.heap.size with h | h
          · have := HW8.out k h; omega
          · exact h
        · intro x hx hxk
          have h1 := Hc8.out.2.1
          have h2 := Hc8.out.2.2.1
          rcases List.mem_cons.1 hx with rfl | hx
          · simp only at hxk; rw [hxk] at h2; omega
          · rw [List.mem_singleton.1 hx] at hxk; simp only at hxk; rw [hxk] at h1; omega)); clear hh9 hM9))
  have Hus : Hid (∀ i, i ≤ j → HeapX w9 B b m s' col8 hp al mp us fr rt hl ca sh ⟨asO K k j hs, ep, wh, rootsL j, rootsL j, zerosN 32, resetM (usedOf (adrs j) j) (nx s' p) (512 * K + 1) (adrs j) j, usedOf (adrs j) 0, CS.new K most⟩) := by
    intro i hi
    have := HX9.out.sharedS (Mod.refl w9 _) (st := usedOf (adrs j) 0) (HX9.out.s.conv (fun i => by simp [usedOf]))
    exact this
  have HX10 := Lib.hid (Hus.out 0 (Nat.zero_le _))
  have HM10 := Lib.hid L9.out.be
  have f5 : w9.cell? ⟨n6, 5, none⟩ = some (.slice A j cap) := L9.out.b1.cell 5
  clear Hus HX8 HV8 L8 L9 HX9 Hre e35 e5
  go_wp2_with fail
  clear f5
  go_loopw [51] (fun v51 wr => ∃ i : Nat, v51 = .int .i64 i ∧ i ≤ j ∧ HeapX wr B b m s' col8 hp al mp us fr rt hl ca sh ⟨asO K k j hs, ep, wh, rootsL j, rootsL j, zerosN 32, resetM (usedOf (adrs j) j) (nx s' p) (512 * K + 1) (adrs j) j, usedOf (adrs j) i, CS.new K most⟩ ∧ Own wr w.heap.size 3 1 A j cap (ncells (adrs j)) ∧ Mod w wr b.has) (fun v51 _ => j - (intOf v51).toNat)
  case atStart => exact ⟨0, rfl, Nat.zero_le _, HX10.out, HV9.out, HM10.out⟩
  case round =>
    clear HX10 HV9 HM10
    obtain ⟨i, rfl, hi, hX, hV, hM⟩ := hrel
    have HX := Lib.hid hX
    have HV := Lib.hid hV
    have HM := Lib.hid hM
    have c37 : wr.cell? ⟨hp, 37, none⟩ = some (.pointer (some ⟨sh, 0, none⟩)) := (hX.blk.cell 37).trans (heapC_tail rfl 2)
    clear hX hV hM
    by_cases hij : i < j
    · obtain ⟨gA, rfl, _, hgA, _, _, hcell, _⟩ := HV.out.at_ (by omega)
      have y0 : wr.cell? ⟨gA, i, none⟩ = some (.int .i64 (adr (i + 1) : Nat)) := by rw [← adrs_at j i hij]; exact hcell i _ (ncells_at _ i (by rw [adrs_len]; exact hij))
      have ha : adr (i + 1) < 64 * (8 * K) := by have := Hj.out; unfold adr; omega
      have Had := Lib.hid (badd_any (fun k => col8 k = 6) sh (8 * K) (adr (i + 1)) (usedOf (adrs j) i) wr HX.out.s (by omega) (by omega))
      have HE : Hid (∀ x, (usedOf (adrs j) i x || (decide (x = adr (i + 1)) && decide (adr (i + 1) < 64 * (8 * K)))) = usedOf (adrs j) (i + 1) x) := by
        intro x
        rw [← usedOf_next (adrs j) i (by rw [adrs_len]; exact hij) x, adrs_at j i hij]
        exact addS_conv _ _ _ ha x
      generalize adr (i + 1) = a at *
      clear hcell ha
      go_wp2_with fail
      refine Had.out.mono ?_
      rintro e w11 ⟨rfl, hS, hM⟩
      have HX11 := Lib.hid (HX.out.sharedS hM (st := usedOf (adrs j) (i + 1)) (hS.conv HE.out))
      have HV11 := Lib.hid (HV.out.mod hM (fun a ha e => by have := Hc8.out.1 a ha; omega))
      have HM11 : Hid (Mod w w11 b.has) := HM.out.trans hM (fun k hk e => by have := HW8.out k hk; omega)
      clear hS hM Had HX HV HM y0 c37
      go_wp2_with fail
      exact ⟨⟨i + 1, by go_num, by omega, HX11.out, HV11.out, HM11.out⟩, by simp [intOf]; omega⟩
    · obtain rfl : i = j := by omega
      clear c37
      go_wp2_with fail
      refine bodyPost_ret (results_tmp2 rfl _ _ _) rfl ?_
      refine ⟨hp, rfl, ⟨col8, al, mp, us, fr, rt, hl, ca, sh, HX.out, fun k _ hk => ?_⟩, HM.out⟩
      rcases Nat.lt_or_ge k w.heap.size with h | h
      · rcases HW8.out k h with h1 | h1
        · exact .inl h1.1
        · unfold hcol at hk; omega
      · exact .inr h
end Go.Proofs.YtcnjipicifkfjaaGreat
