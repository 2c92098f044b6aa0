/- heap: Open. -/
import Derived.Test.YtcnjipicifkfjaaGreatEv23
import Derived.Test.YtcnjipicifkfjaaGreatEv27
import Derived.Test.YtcnjipicifkfjaaGreatEv15
import Derived.Test.YtcnjipicifkfjaaGreatEv09

namespace Go.Proofs.YtcnjipicifkfjaaGreat
open Go.RowKit
set_option linter.unusedVariables false
set_option linter.unusedSimpArgs false

/-- The heap that Open makes. -/
def hsO (K k j ep wh most p : Nat) (s : DS) (hs : List (Nat × Nat)) : HS :=
  ⟨asO K k j hs, ep, wh, rootsL j, rootsL j, zerosN 32, resetM (usedOf (adrs j) j) (nx s p) (512 * K + 1) (adrs j) j, usedOf (adrs j) j, CS.new K most⟩
def heapC0 (d al rt hl : Nat) (ca : Option Addr) (sh : Nat) : Array Value :=
  #[.pointer (some ⟨d, 0, none⟩), .pointer (some ⟨al, 0, none⟩), .pointer (some ⟨rt, 0, none⟩), .int .i64 0, .int .i64 0, .int .i64 0, .int .i64 0, .int .i64 0, .int .i64 0, .int .i64 0, .int .i64 0, .int .i64 0, .int .i64 0, .int .i64 0, .int .i64 0, .int .i64 0, .int .i64 0, .int .i64 0, .int .i64 0, .int .i64 0, .int .i64 0, .int .i64 0, .int .i64 0, .int .i64 0, .int .i64 0, .int .i64 0, .int .i64 0, .int .i64 0, .int .i64 0, .int .i64 0, .int .i64 0, .int .i64 0, .int .i64 0, .int .i64 0, .int .i64 0,
    .pointer (some ⟨hl, 0, none⟩), .pointer ca, .pointer (some ⟨sh, 0, none⟩), .bool false]
theorem heapC0_set (d al rt hl ca sh : Nat) : (heapC0 d al rt hl none sh).setIfInBounds 36 (.pointer (some ⟨ca, 0, none⟩)) = heapC d al rt (zerosN 32) hl ca sh false := by
  rfl
def colH (col : Nat → Nat) (a b c hl : Nat) : Nat → Nat := fun k => if k < a then col k else if k = hl then 8 else if k < b then 5 else if k < c then 6 else if k = c then 7 else 9
set_option maxRecDepth 100000 in
set_option maxHeartbeats 4000000 in
theorem hopen_any (B : Nat) (b : DB) (m : Nat) (s s' : DS) (K id ep wh j k most p : Nat) (hs : List (Nat × Nat)) (w : World) (h : Dev B w b m s) (hI : OpenIn s s' m K id ep wh j k hs) (hK : 3 ≤ K) (hK2 : K ≤ 4) (hid : id < 18446744073709551616) (hob : OB s' m (usedOf (adrs j) j) p) :
    Calls Tryz.prog 13 #[.pointer (some ⟨b.d, 0, none⟩), .int .i64 most] w fun e w' => ∃ hp, e = .returned (.tuple #[.pointer (some ⟨hp, 0, none⟩), .int .i64 0]) ∧ HeapR w' (fun k => b.has k ∨ w.heap.size ≤ k) B b m s' hp (hsO K k j ep wh most p s' hs) ∧ Mod w w' b.has := by
  have hm := hI.h.hm
  have Hj := Lib.hid hI.h.j
  have hj170 : j ≤ 170 := Hj.out
  have Ho := Lib.hid (rvopen_any B b m s s' K id ep wh j k hs w h hI hK hK2 hid)
  unfold stC at Ho
  have Hlt := Lib.hid h.lt
  have Hob := Lib.hid hob
  have hmf : ∀ (fn : Fn) (first cap : Array Value) (w : World), (Instr.makeFunc fn first cap).run Tryz.prog w = .ok (.func fn first cap) w := fun _ _ _ _ => rfl
  have Hbn := Lib.hid (fun w => bnew_any (8 * K) w (by omega) (by omega))
  obtain ⟨N, HN⟩ : ∃ N, Hid (8 * m = N) := ⟨_, rfl⟩
  rw [show 64 * (8 * K) = N by rw [← HN.out, hm]; omega] at Hbn
  have HmK := Lib.hid hm
  clear h hI hob hm
  go_enter Tryz.func13, Tryz.ntmps13
  go_wp2_with fail
  refine Ho.out.mono ?_
  rintro e w1 ⟨al, rt, mp, us, fr, A, cap, col, rfl, hd, hdw, hA, hR, hV, hcA, hM⟩
  have hdv : ∀ k, b.has k → col k = 0 := fun k hk => ((hdw k (Hlt.out k hk).2).resolve_right (fun h => h.1 hk)).2
  have HAK : Hid ((asO K k j hs).K = K) := rfl
  obtain ⟨n6, Hn6⟩ : ∃ n, Hid (w1.heap.size = n) := ⟨_, rfl⟩
  have L1 := Lib.hid (((Loc.nil b.has w).eff hM (fun k hk => ⟨hk, (Hlt.out k hk).2⟩)).box 98 #[.int .i64 K, .int .u64 id, .int .i64 K, .pointer (some ⟨al, 0, none⟩), .pointer (some ⟨rt, 0, none⟩), .slice A j cap] n6 Hn6.out)
  have hbx := below_box w1 (.cells #[.int .i64 K, .int .u64 id, .int .i64 K, .pointer (some ⟨al, 0, none⟩), .pointer (some ⟨rt, 0, none⟩), .slice A j cap] 98)
  obtain ⟨w2, Hw2⟩ : ∃ w2, Hid ((w1.alloc (.cells #[.int .i64 K, .int .u64 id, .int .i64 K, .pointer (some ⟨al, 0, none⟩), .pointer (some ⟨rt, 0, none⟩), .slice A j cap] 98)) = w2) := ⟨_, rfl⟩
  rw [Hw2.out] at L1 hbx
  obtain ⟨col0, Hcol0⟩ : ∃ c, Hid (colW col w1 9 = c) := ⟨_, rfl⟩
  have hcl := colW_lt col w1 9
  have hcg := colW_ge col w1 9
  rw [Hcol0.out] at hcl hcg
  have HD2 : Hid (Dev B w2 b m s') := hd.below hbx (Nat.le_refl _)
  have HDV : Hid (∀ k, b.has k → col0 k = 0) := fun k hk => (hcl k (hd.lt k hk).2).trans (hdv k hk)
  have HW0 : Hid (∀ k, k < w.heap.size → (b.has k ∧ col0 k = 0) ∨ (¬ b.has k ∧ col0 k = 9)) := fun k hk => by rw [hcl k (Nat.lt_of_lt_of_le hk hM.size)]; exact hdw k hk
  have HW2 : Hid (w.heap.size ≤ w2.heap.size) := Nat.le_trans hM.size hbx.size
  have HA2 : Hid (AllocX w2 col0 al b.d mp us fr (asO K k j hs)) := (hA.recol hcl).below hbx (Nat.le_refl _)
  have HR2 : Hid (RootR w2 (fun k => col0 k = 4) rt b.d ep wh (rootsL j) (rootsL j)) := (hR.weak (fun k hk h => (hcl k hk).trans h)).below hbx (Nat.le_refl _)
  have HV2 : Hid (Own w2 w.heap.size 3 1 A j cap (ncells (adrs j))) := hV.below hbx (Nat.le_refl _)
  have HcA : Hid (∀ a, A = some a → col0 a.block = 9) := fun a ha => (hcl _ (hV.lt a ha).2).trans (hcA a ha)
  have Hc6 : Hid (col0 n6 = 9 ∧ ∀ k, w2.heap.size ≤ k → col0 k = 9) := ⟨hcg n6 (by rw [Hn6.out]; exact Nat.le_refl _), fun k hk => hcg k (Nat.le_trans hbx.size hk)⟩
  clear hd hdv hdw hA hR hV hcA hM hbx hcl hcg Ho Hcol0
  go_wp2_with fail
  rw [Hn6.out, Hw2.out]
  have e3 : w2.cell? ⟨n6, 3, none⟩ = some (.pointer (some ⟨al, 0, none⟩)) := L1.out.b0.cell 3
  have e4 : w2.cell? ⟨n6, 4, none⟩ = some (.pointer (some ⟨rt, 0, none⟩)) := L1.out.b0.cell 4
  have L2 := Lib.hid L1.out.drew
  have HB2 : Hid (Below w2.heap.size w2 w2.drew) := below_drewN (Below.refl _ _) 1
  have Hhn := Lib.hid (hnew_any B b m s' col0 al (asO K k j hs) w2.drew (HD2.out.drewN 1) ((HA2.out.below HB2.out (Nat.le_refl _)).r) HmK.out (by rw [HAK.out]; omega) (by rw [HAK.out]; omega))
  rw [HAK.out] at Hhn
  clear L1
  go_region_held3 (fun W => W.cell? ⟨n6, 3, none⟩ = some (.pointer (some ⟨al, 0, none⟩)) ∧ W.cell? ⟨n6, 4, none⟩ = some (.pointer (some ⟨rt, 0, none⟩)))
    (first | exact ⟨e3, e4⟩ | exact ⟨L2.out.b0.cell 3, L2.out.b0.cell 4⟩ | exact ⟨(L2.out.alloc _).b0.cell 3, (L2.out.alloc _).b0.cell 4⟩)
    (first
      | (go_at_call 41; refine Hhn.out.mono ?_; rintro e w3 ⟨hl, rfl, hhl, hh3, hb3⟩; have HH3 := Lib.hid hh3; have Hhl : Hid (w2.heap.size ≤ hl) := hhl; have HB3 : Hid (Below w2.heap.size w2 w3) := HB2.out.trans hb3; replace L2 := Lib.hid (L2.out.call hb3 (Nat.le_refl _)); clear hh3 hhl hb3)
      | (go_at_call 43; refine (len_any B b m s' _ (HD2.out.below HB3.out (Nat.le_refl _))).mono ?_; rintro e _ ⟨rfl, rfl⟩; rw [HN.out])
      | (go_at_call 42; refine (Hbn.out _).mono ?_; rintro e w4 ⟨sh, rfl, hs4, hb4⟩; have HS4 := Lib.hid hs4; have HBs : Hid (Below w3.heap.size w3 w4) := hb4; replace L2 := Lib.hid (L2.out.call hb4 (Nat.le_refl _)); clear hs4 hb4))
  obtain ⟨hp, Hhp⟩ : ∃ n, Hid (w4.heap.size = n) := ⟨_, rfl⟩
  have L5 := L2.out.box 87 (heapC0 b.d al rt hl none sh) hp Hhp.out
  have hb45 := below_box w4 (.cells (heapC0 b.d al rt hl none sh) 87)
  rw [Hhp.out]
  unfold heapC0 at L5 hb45
  generalize w4.alloc _ = w5 at *
  have L5 := Lib.hid L5
  have h3 := HB3.out.size
  have h4 := HBs.out.size
  have h5 := hb45.size
  have hhl := Hhl.out
  have hhl3 : hl < w3.heap.size := HH3.out.lt
  have hhp := Hhp.out
  have hB35 : Below w3.heap.size w3 w5 := HBs.out.trans (hb45.mono h4)
  have hB25 : Below w2.heap.size w2 w5 := HB3.out.trans (hB35.mono h3)
  have hcl : ∀ k, k < w2.heap.size → colH col0 w2.heap.size w3.heap.size w4.heap.size hl k = col0 k := fun k hk => by unfold colH; rw [if_pos hk]
  have HA5 : Hid (AllocX w5 (colH col0 w2.heap.size w3.heap.size w4.heap.size hl) al b.d mp us fr (asO K k j hs)) := (HA2.out.recol hcl).below hB25 (Nat.le_refl _)
  have HD5 : Hid (Dev B w5 b m s') := HD2.out.below hB25 (Nat.le_refl _)
  have HDV5 : Hid (∀ k, b.has k → colH col0 w2.heap.size w3.heap.size w4.heap.size hl k = 0) := fun k hk => (hcl k (HD2.out.lt k hk).2).trans (HDV.out k hk)
  have HW5 : Hid (∀ k, k < w.heap.size → (b.has k ∧ colH col0 w2.heap.size w3.heap.size w4.heap.size hl k = 0) ∨ (¬ b.has k ∧ colH col0 w2.heap.size w3.heap.size w4.heap.size hl k = 9)) := fun k hk => by rw [hcl k (Nat.lt_of_lt_of_le hk HW2.out)]; exact HW0.out k hk
  have HR5 : Hid (RootR w5 (fun k => colH col0 w2.heap.size w3.heap.size w4.heap.size hl k = 4) rt b.d ep wh (rootsL j) (rootsL j)) := (HR2.out.weak (fun k hk h => (hcl k hk).trans h)).below hB25 (Nat.le_refl _)
  have Hc5 : Hid (colH col0 w2.heap.size w3.heap.size w4.heap.size hl hl = 8 ∧ colH col0 w2.heap.size w3.heap.size w4.heap.size hl hp = 7 ∧ colH col0 w2.heap.size w3.heap.size w4.heap.size hl n6 = 9) := by
    refine ⟨?_, ?_, (hcl n6 ?_).trans Hc6.out.1⟩
    · unfold colH; rw [if_neg (by omega), if_pos rfl]
    · unfold colH; rw [if_neg (by omega), if_neg (by omega), if_neg (by omega), if_neg (by omega), if_pos (by omega)]
    · exact cell_lt e3
  have HH5 : Hid (HeldR w5 (fun k => colH col0 w2.heap.size w3.heap.size w4.heap.size hl k = 5) hl al K (fun _ => false)) := by
    refine (HH3.out.weak (F' := fun k => colH col0 w2.heap.size w3.heap.size w4.heap.size hl k = 5) (fun k hk h => ?_) (by rw [Hc5.out.1]; omega)).below hB35 (Nat.le_refl _)
    have : w2.heap.size ≤ k := h.1
    unfold colH; rw [if_neg (by omega), if_neg h.2, if_pos hk]
  have HS5 : Hid (SetR w5 (fun k => colH col0 w2.heap.size w3.heap.size w4.heap.size hl k = 6) sh (8 * K) (fun _ => false)) := by
    refine (HS4.out.weak (F' := fun k => colH col0 w2.heap.size w3.heap.size w4.heap.size hl k = 6) (fun k hk h => ?_)).below hb45 (Nat.le_refl _)
    unfold colH; rw [if_neg (by omega), if_neg (by omega), if_neg (by omega), if_pos hk]
  have HV5 : Hid (Own w5 w.heap.size 3 1 A j cap (ncells (adrs j))) := HV2.out.below hB25 (Nat.le_refl _)
  have HcA5 : Hid (∀ a, A = some a → colH col0 w2.heap.size w3.heap.size w4.heap.size hl a.block = 9) := fun a ha => (hcl _ (HV2.out.lt a ha).2).trans (HcA.out a ha)
  clear HW0 h3 h4 h5 hhl hhl3 hhp hB35 hB25 hcl HA2 HD2 HDV HR2 Hc6 HH3 HS4 HV2 HcA hb45 HB2 HB3 HBs L2 Hhl e3 e4 Hhn Hbn
  generalize colH col0 w2.heap.size w3.heap.size w4.heap.size hl = col1 at *
  have e3 : w5.cell? ⟨n6, 3, none⟩ = some (.pointer (some ⟨al, 0, none⟩)) := L5.out.b1.cell 3
  have Hcn := Lib.hid (cnew_any B b m s' col1 al most (.func 45) #[.pointer (some ⟨hp, 0, none⟩)] #[] (asO K k j hs) w5 HD5.out HA5.out.r HmK.out (by rw [HAK.out]; omega) (by rw [HAK.out]; omega))
  go_wp2_with fail
  refine Hcn.out.mono ?_
  rintro e w6 ⟨ca, col, rfl, hcol, hC, hb6⟩
  rw [HAK.out] at hC
  have L6 := Lib.hid (L5.out.call hb6 (Nat.le_refl _))
  have c36 : w6.cell? ⟨hp, 36, none⟩ = some (.pointer none) := L6.out.b0.cell 36
  have f36 := L6.out.b0.frozen 36
  obtain ⟨w7, Hw7⟩ : ∃ w7, Hid (w6.setCell ⟨hp, 36, none⟩ (.pointer (some ⟨ca, 0, none⟩)) = w7) := ⟨_, rfl⟩
  have hM7 : Mod w6 w7 (fun k => k = hp) := by rw [← Hw7.out]; exact Mod.set (p := ⟨hp, 36, none⟩) (Mod.refl w6 (fun k => k = hp)) (.inr rfl) _
  have hcol5 : ∀ k, k < w5.heap.size → col k = col1 k := hcol
  have hhp5 : hp < w5.heap.size := L5.out.b0.lt
  have hchp : col hp = 7 := (hcol hp hhp5).trans Hc5.out.2.1
  have L7 : Hid (Loc b.has w w7 [(hp, 87, heapC b.d al rt (zerosN 32) hl ca sh false), (n6, 98, #[.int .i64 K, .int .u64 id, .int .i64 K, .pointer (some ⟨al, 0, none⟩), .pointer (some ⟨rt, 0, none⟩), .slice A j cap])]) := by
    rw [← Hw7.out, ← heapC0_set]
    exact L6.out.set 36 _
  have hd6 := HD5.out.below hb6 (Nat.le_refl _)
  have hdv6 : ∀ k, b.has k → col k = 0 := fun k hk => (hcol k (HD5.out.lt k hk).2).trans (HDV5.out k hk)
  have ha6 := (HA5.out.recol hcol5).below hb6 (Nat.le_refl _)
  have hr6 := (HR5.out.weak (F' := fun k => col k = 4) (fun k hk h => (hcol k hk).trans h)).below hb6 (Nat.le_refl _)
  have hhl5 : hl < w5.heap.size := HH5.out.lt
  have hchl : col hl = 8 := (hcol hl hhl5).trans Hc5.out.1
  have hh6 := (HH5.out.weak (F' := fun k => col k = 5) (fun k hk h => (hcol k hk).trans h) (by rw [hchl]; omega)).below hb6 (Nat.le_refl _)
  have hs6 := (HS5.out.weak (F' := fun k => col k = 6) (fun k hk h => (hcol k hk).trans h)).below hb6 (Nat.le_refl _)
  have HX7 : Hid (HeapX w7 B b m s' col hp al mp us fr rt hl ca sh ⟨asO K k j hs, ep, wh, rootsL j, rootsL j, zerosN 32, fun _ => false, fun _ => false, CS.new K most⟩) := by
    refine ⟨hd6.mod hM7 (fun k hk e => by have := hdv6 k hk; rw [e] at this; omega), hdv6, L7.out.b0, hchp, ha6.mod hM7 (fun k hk e => by rw [e] at hk; omega), hr6.mod hM7 (fun k hk e => by rw [e] at hk; omega), hh6.mod hM7 (fun k hk e => by rw [e] at hk; omega) (fun e => by rw [e] at hchl; omega), hchl, hC.mod hM7 (fun k hk e => by rw [e] at hk; omega), hs6.mod hM7 (fun k hk e => by rw [e] at hk; omega), rfl, HmK.out, hK, hK2⟩
  have HV7 : Hid (Own w7 w.heap.size 3 1 A j cap (ncells (adrs j))) := (HV5.out.below hb6 (Nat.le_refl _)).mod hM7 (fun a ha e => by
    have h1 := HcA5.out a ha
    have h2 := hcol _ (HV5.out.lt a ha).2
    rw [e] at h1 h2
    omega)
  have HW7 : Hid (∀ k, k < w.heap.size → (b.has k ∧ col k = 0) ∨ (¬ b.has k ∧ col k = 9)) := fun k hk => by rw [hcol k (Nat.lt_of_lt_of_le hk L5.out.be.size)]; exact HW5.out k hk
  have Hc7 : Hid ((∀ a, A = some a → col a.block = 9) ∧ col n6 = 9) := ⟨fun a ha => (hcol _ (HV5.out.lt a ha).2).trans (HcA5.out a ha), (hcol n6 L5.out.b1.lt).trans Hc5.out.2.2⟩
  clear HW5 hM7 hcol5 hhp5 hchp hd6 hdv6 ha6 hr6 hhl5 hchl hh6 hs6 hcol hC hb6 HD5 HDV5 HA5 HR5 Hc5 HH5 HS5 HV5 HcA5 L5 L6 e3 Hcn
  go_wp2_with fail
  rw [Hw7.out]
  clear c36 f36
  have hb8 : Below w7.heap.size w7 w7.drew := below_drewN (Below.refl _ _) 1
  have hcl := colW_lt col w7 9
  have hcg := colW_ge col w7 9
  have HX8 : Hid (HeapX w7.drew B b m s' (colW col w7 9) hp al mp us fr rt hl ca sh ⟨asO K k j hs, ep, wh, rootsL j, rootsL j, zerosN 32, fun _ => false, fun _ => false, CS.new K most⟩) := (HX7.out.recol hcl).below hb8
  have HV8 : Hid (Own w7.drew w.heap.size 3 1 A j cap (ncells (adrs j))) := HV7.out.drewN 1
  have L8 := Lib.hid L7.out.drew
  have HW8 : Hid (∀ k, k < w.heap.size → (b.has k ∧ colW col w7 9 k = 0) ∨ (¬ b.has k ∧ colW col w7 9 k = 9)) := fun k hk => by rw [hcl k (Nat.lt_of_lt_of_le hk L7.out.be.size)]; exact HW7.out k hk
  have Hc8 : Hid ((∀ a, A = some a → colW col w7 9 a.block = 9) ∧ colW col w7 9 n6 = 9 ∧ colW col w7 9 hp = 7 ∧ ∀ k, w7.heap.size ≤ k → colW col w7 9 k = 9) := ⟨fun a ha => (hcl _ (HV7.out.lt a ha).2).trans (Hc7.out.1 a ha), (hcl _ L7.out.b1.lt).trans Hc7.out.2, (hcl _ L7.out.b0.lt).trans HX7.out.chp, hcg⟩
  have e35 : w7.cell? ⟨hp, 35, none⟩ = some (.pointer (some ⟨hl, 0, none⟩)) := (L7.out.b0.cell 35).trans (heapC_tail rfl 0)
  have e5 : w7.cell? ⟨n6, 5, none⟩ = some (.slice A j cap) := L7.out.b1.cell 5
  have hszD : w7.drew.heap.size = w7.heap.size := rfl
  clear hb8 hcl hcg HX7 HV7 L7 HW7 Hc7
  generalize colW col w7 9 = col8 at *
  have Hre := Lib.hid (hreset_any B b m s' (fun k => col8 k = 5) col8 hl al p j cap A (adrs j) (asO K k j hs) (fun _ => false) w7.drew HX8.out.dev HX8.out.a.r HX8.out.h HX8.out.hdv (fun k hk => by omega) (fun k hk => by
    rcases Nat.lt_or_ge k w7.heap.size with h | h
    · exact h
    · have := Hc8.out.2.2.2 k h; omega) Hob.out (by
    show usedOf (adrs j) j 0 = false
    cases hu : usedOf (adrs j) j 0 with
    | false => rfl
    | true => exact absurd (Hob.out 0 hu).1 (by omega)) HmK.out (by rw [HAK.out]; omega) (by rw [HAK.out]; omega) HV8.out.rd (by have := Hj.out; omega) (fun a ha => by have := Hc8.out.1 a ha; omega) (fun i => by
    by_cases hi : i < j
    · rw [adrs_at j i hi]; have := Hj.out; unfold adr; omega
    · rw [List.getD_eq_getElem?_getD, List.getElem?_eq_none (by rw [adrs_len]; omega)]; simp))
  go_region_held3 (fun W => W.cell? ⟨hp, 35, none⟩ = some (.pointer (some ⟨hl, 0, none⟩)) ∧ W.cell? ⟨n6, 5, none⟩ = some (.slice A j cap))
    (first | exact ⟨e35, e5⟩ | exact ⟨(L9.out.b0.cell 35).trans (heapC_tail rfl 0), L9.out.b1.cell 5⟩)
    ((go_at_call 46; refine Hre.out.mono ?_; rintro e w9 ⟨⟨v9, rfl⟩, hh9, hM9⟩; have HX9 := Lib.hid (HX8.out.heldS hM9 hh9); have HV9 := Lib.hid (HV8.out.mod hM9 (fun a ha e => by have := Hc8.out.1 a ha; omega)); have L9 := Lib.hid (L8.out.effNew hM9 (fun k hk e => by
        have e5 : col8 k = 5 := e
        refine .inr ⟨?_, ?_⟩
        · rcases Nat.lt_or_ge k w.heap.size with h | h
          · have := HW8.out k h; omega
          · exact h
        · intro x hx hxk
          have h1 := Hc8.out.2.1
          have h2 := Hc8.out.2.2.1
          rcases List.mem_cons.1 hx with rfl | hx
          · simp only at hxk; rw [hxk] at h2; omega
          · rw [List.mem_singleton.1 hx] at hxk; simp only at hxk; rw [hxk] at h1; omega)); clear hh9 hM9))
  have Hus : Hid (∀ i, i ≤ j → HeapX w9 B b m s' col8 hp al mp us fr rt hl ca sh ⟨asO K k j hs, ep, wh, rootsL j, rootsL j, zerosN 32, resetM (usedOf (adrs j) j) (nx s' p) (512 * K + 1) (adrs j) j, usedOf (adrs j) 0, CS.new K most⟩) := by
    intro i hi
    have := HX9.out.sharedS (Mod.refl w9 _) (st := usedOf (adrs j) 0) (HX9.out.s.conv (fun i => by simp [usedOf]))
    exact this
  have HX10 := Lib.hid (Hus.out 0 (Nat.zero_le _))
  have HM10 := Lib.hid L9.out.be
  have f5 : w9.cell? ⟨n6, 5, none⟩ = some (.slice A j cap) := L9.out.b1.cell 5
  clear Hus HX8 HV8 L8 L9 HX9 Hre e35 e5
  go_wp2_with fail
  clear f5
  go_loopw [51] (fun v51 wr => ∃ i : Nat, v51 = .int .i64 i ∧ i ≤ j ∧ HeapX wr B b m s' col8 hp al mp us fr rt hl ca sh ⟨asO K k j hs, ep, wh, rootsL j, rootsL j, zerosN 32, resetM (usedOf (adrs j) j) (nx s' p) (512 * K + 1) (adrs j) j, usedOf (adrs j) i, CS.new K most⟩ ∧ Own wr w.heap.size 3 1 A j cap (ncells (adrs j)) ∧ Mod w wr b.has) (fun v51 _ => j - (intOf v51).toNat)
  case atStart => exact ⟨0, rfl, Nat.zero_le _, HX10.out, HV9.out, HM10.out⟩
  case round =>
    clear HX10 HV9 HM10
    obtain ⟨i, rfl, hi, hX, hV, hM⟩ := hrel
    have HX := Lib.hid hX
    have HV := Lib.hid hV
    have HM := Lib.hid hM
    have c37 : wr.cell? ⟨hp, 37, none⟩ = some (.pointer (some ⟨sh, 0, none⟩)) := (hX.blk.cell 37).trans (heapC_tail rfl 2)
    clear hX hV hM
    by_cases hij : i < j
    · obtain ⟨gA, rfl, _, hgA, _, _, hcell, _⟩ := HV.out.at_ (by omega)
      have y0 : wr.cell? ⟨gA, i, none⟩ = some (.int .i64 (adr (i + 1) : Nat)) := by rw [← adrs_at j i hij]; exact hcell i _ (ncells_at _ i (by rw [adrs_len]; exact hij))
      have ha : adr (i + 1) < 64 * (8 * K) := by have := Hj.out; unfold adr; omega
      have Had := Lib.hid (badd_any (fun k => col8 k = 6) sh (8 * K) (adr (i + 1)) (usedOf (adrs j) i) wr HX.out.s (by omega) (by omega))
      have HE : Hid (∀ x, (usedOf (adrs j) i x || (decide (x = adr (i + 1)) && decide (adr (i + 1) < 64 * (8 * K)))) = usedOf (adrs j) (i + 1) x) := by
        intro x
        rw [← usedOf_next (adrs j) i (by rw [adrs_len]; exact hij) x, adrs_at j i hij]
        exact addS_conv _ _ _ ha x
      generalize adr (i + 1) = a at *
      clear hcell ha
      go_wp2_with fail
      refine Had.out.mono ?_
      rintro e w11 ⟨rfl, hS, hM⟩
      have HX11 := Lib.hid (HX.out.sharedS hM (st := usedOf (adrs j) (i + 1)) (hS.conv HE.out))
      have HV11 := Lib.hid (HV.out.mod hM (fun a ha e => by have := Hc8.out.1 a ha; omega))
      have HM11 : Hid (Mod w w11 b.has) := HM.out.trans hM (fun k hk e => by have := HW8.out k hk; omega)
      clear hS hM Had HX HV HM y0 c37
      go_wp2_with fail
      exact ⟨⟨i + 1, by go_num, by omega, HX11.out, HV11.out, HM11.out⟩, by simp [intOf]; omega⟩
    · obtain rfl : i = j := by omega
      clear c37
      go_wp2_with fail
      refine bodyPost_ret (results_tmp2 rfl _ _ _) rfl ?_
      refine ⟨hp, rfl, ⟨col8, al, mp, us, fr, rt, hl, ca, sh, HX.out, fun k _ hk => ?_⟩, HM.out⟩
      rcases Nat.lt_or_ge k w.heap.size with h | h
      · rcases HW8.out k h with h1 | h1
        · exact .inl h1.1
        · unfold hcol at hk; omega
      · exact .inr h
end Go.Proofs.YtcnjipicifkfjaaGreat

/- heap: New. -/
namespace Go.Proofs.YtcnjipicifkfjaaGreat
open Go.RowKit
set_option linter.unusedVariables false
set_option linter.unusedSimpArgs false

/-- A device behind Format. -/
def fmt (K id : Nat) : DS := (exec (fresh (zerosN (8 * (K * 64))) (K * 64)) (formatS K id)).1
theorem fresh_live (L : List Nat) (m : Nat) : (fresh L m).Live := ⟨rfl, rfl⟩
set_option maxRecDepth 100000 in
set_option maxHeartbeats 2000000 in
theorem hnewh_any (K id most k p : Nat) (w : World) (hI : OpenIn (fmt K id) (fmt K id) (K * 64) K id 1 0 0 k (List.replicate K (0, 0))) (hob : OB (fmt K id) (K * 64) (usedOf (adrs 0) 0) p) (hK : 3 ≤ K) (hK2 : K ≤ 4) (hid : id < 18446744073709551616) :
    Calls Tryz.prog 6 #[.agg #[.int .i64 K, .int .u64 id, .int .i64 most]] w fun e w' => ∃ b hp, e = .returned (.tuple #[.pointer (some ⟨hp, 0, none⟩), .int .i64 0]) ∧ HeapR w' (fun k => w.heap.size ≤ k) w.heap.size b (K * 64) (fmt K id) hp (hsO K k 0 1 0 most p (fmt K id) (List.replicate K (0, 0))) ∧ Below w.heap.size w w' := by
  have Hgr := Lib.hid (fun w => gright_any K w (by omega) (by omega))
  have Hgw := Lib.hid (fun w => gwords_any K w (by omega))
  have Hnn := Lib.hid (fun w => nnew_any (K * 64) w (by omega) (by omega))
  obtain ⟨N, HN⟩ : ∃ N, Hid (K * 512 = N) := ⟨_, rfl⟩
  rw [HN.out] at Hgw
  rw [show 8 * (K * 64) = N by rw [← HN.out]; omega] at Hnn
  have Hfm : Hid (∀ B b w, Dev B w b (K * 64) (fresh (zerosN N) (K * 64)) → Calls Tryz.prog 25 #[.pointer (some ⟨b.d, 0, none⟩), .int .u64 id] w fun e w' => e = .returned (.int .i64 0) ∧ Dev B w' b (K * 64) (fmt K id) ∧ Mod w w' b.has) := fun B b w h => by
    have := format_any B b (K * 64) (fresh (zerosN N) (K * 64)) K id w h (fresh_live _ _) (by omega) (by omega) hid rfl
    unfold fmt
    rw [show 8 * (K * 64) = N by rw [← HN.out]; omega]
    exact this
  have Hop : Hid (∀ B b w, Dev B w b (K * 64) (fmt K id) → Calls Tryz.prog 13 #[.pointer (some ⟨b.d, 0, none⟩), .int .i64 most] w fun e w' => ∃ hp, e = .returned (.tuple #[.pointer (some ⟨hp, 0, none⟩), .int .i64 0]) ∧ HeapR w' (fun k => b.has k ∨ w.heap.size ≤ k) B b (K * 64) (fmt K id) hp (hsO K k 0 1 0 most p (fmt K id) (List.replicate K (0, 0))) ∧ Mod w w' b.has) :=
    fun B b w h => hopen_any B b (K * 64) (fmt K id) (fmt K id) K id 1 0 0 k most p (List.replicate K (0, 0)) w h hI hK hK2 hid hob
  obtain ⟨n1, Hn1⟩ : ∃ n, Hid (w.heap.size = n) := ⟨_, rfl⟩
  have L1 := Lib.hid ((Loc.nil Nob w).box 30 #[.int .i64 K, .int .u64 id, .int .i64 most] n1 Hn1.out)
  obtain ⟨n4, Hn4⟩ : ∃ n, Hid (n1 + 1 = n) := ⟨_, rfl⟩
  have L2 := Lib.hid (L1.out.box 64 #[.int .i64 K] n4 (by rw [World.size_alloc, Hn1.out, Hn4.out]))
  clear hI hob
  generalize fmt K id = s0 at *
  generalize hsO K k 0 1 0 most p s0 (List.replicate K (0, 0)) = S0 at *
  go_enter Tryz.func6, Tryz.ntmps6
  go_wp2_with fail
  rw [Hn1.out, Hn4.out]
  generalize (w.alloc _).alloc _ = w2 at *
  refine (Hgr.out _).mono ?_
  rintro e w3 ⟨rfl, hb3⟩
  have L3 := Lib.hid (L2.out.call hb3 (Nat.le_refl _))
  have c0 : w3.cell? ⟨n4, 0, none⟩ = some (.int .i64 K) := L3.out.b0.cell 0
  clear hb3 L1 L2 Hgr
  go_wp2_with fail
  refine (Hgw.out _).mono ?_
  rintro e w4 ⟨rfl, hb4⟩
  have L4 := Lib.hid (L3.out.call hb4 (Nat.le_refl _))
  clear hb4 L3 c0 Hgw
  go_wp2_with fail
  refine (Hnn.out _).mono ?_
  rintro e w5 ⟨b, rfl, hd, hb5⟩
  have L5 := Lib.hid (L4.out.call hb5 (Nat.le_refl _))
  have hw4 : w.heap.size ≤ w4.heap.size := L4.out.below.size
  have Hbg : Hid (∀ k, b.has k → w4.heap.size ≤ k) := fun k hk => (hd.lt k hk).1
  have HD5 := Lib.hid hd
  have Hlt4 : Hid (n1 < w4.heap.size ∧ n4 < w4.heap.size) := ⟨L4.out.b1.lt, L4.out.b0.lt⟩
  have c1 : w5.cell? ⟨n1, 1, none⟩ = some (.int .u64 id) := L5.out.b1.cell 1
  clear hd hb5 L4 Hnn
  go_wp2_with fail
  refine (Hfm.out _ _ _ HD5.out).mono ?_
  rintro e w6 ⟨rfl, hd6, hM6⟩
  have HD6 := Lib.hid hd6
  have hbg := Hbg.out
  have hlt4 := Hlt4.out
  have L6 := Lib.hid (L5.out.effNew hM6 (fun k hk h => .inr ⟨by have := hbg k h; omega, fun x hx e => by
    have := hbg k h
    rcases List.mem_cons.1 hx with rfl | hx
    · simp only at e; omega
    · rw [List.mem_singleton.1 hx] at e; simp only at e; omega⟩))
  have c2 : w6.cell? ⟨n1, 2, none⟩ = some (.int .i64 most) := L6.out.b1.cell 2
  clear hd6 hM6 L5 HD5 c1 Hfm hbg hlt4
  go_wp2_with fail
  refine (Hop.out _ _ _ HD6.out).mono ?_
  rintro e w7 ⟨hp, rfl, hH, hM7⟩
  have hw6 : w.heap.size ≤ w6.heap.size := L6.out.below.size
  have Hbg6 := Hbg.out
  obtain ⟨col, al, mp, us, fr, rt, hl, ca, sh, hX, hG⟩ := hH
  have HG := Lib.hid hG
  clear hG
  have HX := Lib.hid hX
  have HB7 : Hid (Below w.heap.size w w7) := Below.mod L6.out.below hM7 L6.out.below.size (fun k _ h => by have := Hbg.out k h; omega)
  clear hX hM7 L6 HD6 c2
  go_wp2_with fail
  refine bodyPost_ret (results_tmp2 rfl _ _ _) rfl ?_
  have hX := HX.out
  exact ⟨b, hp, rfl, ⟨col, al, mp, us, fr, rt, hl, ca, sh, ⟨by
    have hd := hX.dev
    exact ⟨hd.o, hd.l.base_ hw4, hd.c.base_ hw4, hd.f.base_ hw4, hd.d.base_ hw4, hd.p.base_ hw4, hd.ne, Nat.le_trans hw4 hd.hB⟩, hX.hdv, hX.blk, hX.chp, hX.a, hX.r, hX.h, hX.chl, hX.c, hX.s, hX.rg, hX.hm, hX.k3, hX.k4⟩, fun k hk h => (HG.out k hk h).elim (fun h => Nat.le_trans hw4 (Hbg6 k h)) (fun h => Nat.le_trans hw6 h)⟩, HB7.out⟩
end Go.Proofs.YtcnjipicifkfjaaGreat

/- Plain law: a fresh heap's device. -/
namespace Go.Proofs.YtcnjipicifkfjaaGreat
open Go.RowKit
set_option linter.unusedVariables false
set_option linter.unusedSimpArgs false

theorem sts_append (a b : List (Nat × Nat)) : sts (a ++ b) = sts a ++ sts b := List.map_append ..
def freesP (k : Nat) : List (Nat × Nat) := (List.range k).map fun i => (256 + (i + 1), hword (i + 1) 0 0)
theorem freesS_sts (k : Nat) : freesS k = sts (freesP k) := by
  induction k with
  | zero => rfl
  | succ k ih =>
    have e : freesP (k + 1) = freesP k ++ [(256 + (k + 1), hword (k + 1) 0 0)] := by unfold freesP; rw [List.range_succ, List.map_append]; rfl
    rw [freesS, ih, e, sts_append]
    rfl
def slotP (a : Nat) (L : List Nat) : List (Nat × Nat) :=
  [(a + 1, L.getD 1 0), (a + 2, L.getD 2 0), (a + 3, L.getD 3 0), (a + 4, L.getD 4 0), (a + 5, L.getD 5 0), (a + 6, L.getD 6 0), (a + 7, L.getD 7 0), (a + 9, L.getD 9 0), (a + 10, L.getD 10 0), (a + 11, L.getD 11 0), (a + 12, L.getD 12 0), (a + 13, L.getD 13 0), (a + 14, L.getD 14 0), (a + 15, L.getD 15 0), (a, L.getD 0 0), (a + 8, L.getD 8 0)]
theorem writeS_phase (a : Nat) (L : List Nat) : writeS a L = phaseS (slotP a L) (a / 8) ((a + 16 - 1) / 8 + 1 - a / 8) := by
  have e : bodyS a L 16 = [.st (a + 1) (L.getD 1 0), .st (a + 2) (L.getD 2 0), .st (a + 3) (L.getD 3 0), .st (a + 4) (L.getD 4 0), .st (a + 5) (L.getD 5 0), .st (a + 6) (L.getD 6 0), .st (a + 7) (L.getD 7 0), .st (a + 9) (L.getD 9 0), .st (a + 10) (L.getD 10 0), .st (a + 11) (L.getD 11 0), .st (a + 12) (L.getD 12 0), .st (a + 13) (L.getD 13 0), .st (a + 14) (L.getD 14 0), .st (a + 15) (L.getD 15 0)] := by
    simp [bodyS]
  unfold writeS phaseS persistS
  rw [e]
  simp [sts, slotP]
def superP (K id : Nat) : List (Nat × Nat) := (List.range 8).map fun i => (i, (superL K id).getD i 0)
theorem superS_phase (K id : Nat) : superS K id = phaseS (superP K id) 0 1 := by
  unfold superS phaseS persistS
  have e : storesS 0 (superL K id) 8 = sts (superP K id) := by simp [storesS, superP, sts, List.range, List.range.loop]
  rw [e]
theorem blocksS_phase (K : Nat) (h3 : 3 ≤ K) (h4 : K ≤ 4) : blocksS K = phaseS (freesP (K - 1)) 32 1 := by
  unfold blocksS phaseS persistS
  rw [freesS_sts]
  have : (257 + (K - 1) - 1) / 8 + 1 - 257 / 8 = 1 := by omega
  rw [this]
theorem fmt_C (K id : Nat) (h3 : 3 ≤ K) (h4 : K ≤ 4) : Rest (fmt K id) (K * 64) ∧ (fmt K id).C = cR (cR (cR (zerosN (8 * (K * 64))) (freesP (K - 1))) (slotP 64 (slotEnc 1 (zerosN 8)))) (superP K id) ∧ (fmt K id).Live := by
  have hl0 : (fresh (zerosN (8 * (K * 64))) (K * 64)).Live := ⟨rfl, rfl⟩
  have hr0 := fresh_rest (zerosN (8 * (K * 64))) (K * 64) (by simp [zerosN])
  have hc0 : (fresh (zerosN (8 * (K * 64))) (K * 64)).C = zerosN (8 * (K * 64)) := rfl
  unfold fmt formatS
  rw [blocksS_phase K h3 h4, writeS_phase, superS_phase]
  generalize fresh (zerosN (8 * (K * 64))) (K * 64) = s at *
  obtain ⟨a1, a2⟩ := exec_live hl0 (phaseS (freesP (K - 1)) 32 1)
  obtain ⟨b1, b2⟩ := (phase hr0 (freesP (K - 1)) 32 1 (by omega) (fun p hp => by
    unfold freesP at hp
    rw [List.mem_map] at hp
    obtain ⟨i, hi, rfl⟩ := hp
    have := List.mem_range.1 hi
    simp only; omega)).1 a1
  rw [exec_ok a1]
  generalize (exec s (phaseS (freesP (K - 1)) 32 1)).1 = s1 at *
  obtain ⟨c1, c2⟩ := exec_live a2 (phaseS (slotP 64 (slotEnc 1 (zerosN 8))) (64 / 8) ((64 + 16 - 1) / 8 + 1 - 64 / 8))
  obtain ⟨d1, d2⟩ := (phase b1 (slotP 64 (slotEnc 1 (zerosN 8))) (64 / 8) ((64 + 16 - 1) / 8 + 1 - 64 / 8) (by omega) (fun p hp => by
    simp only [slotP, List.mem_cons, List.not_mem_nil, or_false] at hp
    rcases hp with rfl | rfl | rfl | rfl | rfl | rfl | rfl | rfl | rfl | rfl | rfl | rfl | rfl | rfl | rfl | rfl <;> simp only <;> omega)).1 c1
  rw [exec_ok c1]
  generalize (exec s1 (phaseS (slotP 64 (slotEnc 1 (zerosN 8))) (64 / 8) ((64 + 16 - 1) / 8 + 1 - 64 / 8))).1 = s2 at *
  obtain ⟨e1, e2⟩ := exec_live c2 (phaseS (superP K id) 0 1)
  obtain ⟨f1, f2⟩ := (phase d1 (superP K id) 0 1 (by omega) (fun p hp => by
    unfold superP at hp
    rw [List.mem_map] at hp
    obtain ⟨i, hi, rfl⟩ := hp
    have := List.mem_range.1 hi
    simp only; omega)).1 e1
  exact ⟨f1, by rw [f2, d2, b2, hc0], e2⟩
end Go.Proofs.YtcnjipicifkfjaaGreat

/- Plain law: a fresh heap can be opened. -/
namespace Go.Proofs.YtcnjipicifkfjaaGreat
open Go.RowKit
set_option linter.unusedVariables false
set_option linter.unusedSimpArgs false

theorem ch0 : chooseM (sdecM (slotEnc 1 (zerosN 8))) (sdecM (zerosN 16)) = ((1, rootsL 0), 0, true) := by kernel_rfl
theorem superP_at (K id j : Nat) (hj : j < 8) (C : List Nat) (hC : 8 ≤ C.length) : (cR C (superP K id)).getD j 0 = (superL K id).getD j 0 := by
  have hm : (j, (superL K id).getD j 0) ∈ superP K id := List.mem_map.2 ⟨j, List.mem_range.2 hj, rfl⟩
  have hn : ((superP K id).map (·.1)).Nodup := by
    have e : (superP K id).map (·.1) = List.range 8 := by simp [superP, List.range, List.range.loop]
    rw [e]; exact List.nodup_range
  exact cR_at (superP K id) C _ hm hn (by simp only; omega)
theorem superP_out (K id j : Nat) (hj : 8 ≤ j) (C : List Nat) : (cR C (superP K id)).getD j 0 = C.getD j 0 :=
  cR_out _ _ _ (fun p hp e => by
    unfold superP at hp
    rw [List.mem_map] at hp
    obtain ⟨i, hi, rfl⟩ := hp
    have := List.mem_range.1 hi
    simp only at e; omega)
theorem freesP_at (k b : Nat) (h1 : 1 ≤ b) (h2 : b ≤ k) (C : List Nat) (hC : 256 + b < C.length) : (cR C (freesP k)).getD (256 + b) 0 = hword b 0 0 := by
  have hm : (256 + b, hword b 0 0) ∈ freesP k := List.mem_map.2 ⟨b - 1, List.mem_range.2 (by omega), by simp only [Prod.mk.injEq]; rw [show b - 1 + 1 = b by omega]; exact ⟨rfl, rfl⟩⟩
  have hn : ((freesP k).map (·.1)).Nodup := by
    have e : (freesP k).map (·.1) = (List.range k).map (fun i => 256 + (i + 1)) := by simp [freesP]
    rw [e]
    exact List.Pairwise.map _ (fun a b (hab : a < b) => by show 256 + (a + 1) ≠ 256 + (b + 1); omega) List.pairwise_lt_range
  exact cR_at _ C _ hm hn hC
theorem freesP_out (k j : Nat) (hj : j ≤ 256 ∨ 256 + k < j) (C : List Nat) : (cR C (freesP k)).getD j 0 = C.getD j 0 :=
  cR_out _ _ _ (fun p hp e => by
    unfold freesP at hp
    rw [List.mem_map] at hp
    obtain ⟨i, hi, rfl⟩ := hp
    have := List.mem_range.1 hi
    simp only at e; omega)
theorem slotP_out (a j : Nat) (L C : List Nat) (hj : j < a ∨ a + 16 ≤ j) : (cR C (slotP a L)).getD j 0 = C.getD j 0 :=
  cR_out _ _ _ (fun p hp e => by
    simp only [slotP, List.mem_cons, List.not_mem_nil, or_false] at hp
    rcases hp with rfl | rfl | rfl | rfl | rfl | rfl | rfl | rfl | rfl | rfl | rfl | rfl | rfl | rfl | rfl | rfl <;> simp only at e <;> omega)
theorem slotP_at (a i : Nat) (L C : List Nat) (hi : i < 16) (hC : a + 16 ≤ C.length) : (cR C (slotP a L)).getD (a + i) 0 = L.getD i 0 := by
  have hn : ((slotP a L).map (·.1)).Nodup := by simp [slotP]
  have hm : (a + i, L.getD i 0) ∈ slotP a L := by
    rcases (by omega : i = 0 ∨ i = 1 ∨ i = 2 ∨ i = 3 ∨ i = 4 ∨ i = 5 ∨ i = 6 ∨ i = 7 ∨ i = 8 ∨ i = 9 ∨ i = 10 ∨ i = 11 ∨ i = 12 ∨ i = 13 ∨ i = 14 ∨ i = 15) with rfl | rfl | rfl | rfl | rfl | rfl | rfl | rfl | rfl | rfl | rfl | rfl | rfl | rfl | rfl | rfl <;> simp [slotP]
  exact cR_at _ C _ hm hn (by simp only; omega)
theorem slotOf_eq (s : DS) (i : Nat) (L : List Nat) (hl : L.length = 16) (h : ∀ j, j < 16 → s.C.getD (64 + i * 64 + j) 0 = L.getD j 0) : slotOf s i = L := copyS_all _ L 16 hl h
theorem slotEnc_len (ep : Nat) (rs : List Nat) : (slotEnc ep rs).length = 16 := by
  have : slotEnc ep rs = outS ep rs 2 := rfl
  rw [this]
  exact outS_len _ _ _
theorem zeros_get (n j : Nat) : (zerosN n).getD j 0 = 0 := by
  unfold zerosN
  rw [List.getD_eq_getElem?_getD, List.getElem?_replicate]
  split <;> rfl
theorem slot16_zero : Slot16 (zerosN 16) := ⟨by simp [zerosN], lt64.zeros 16, fun h _ => by
  have : decide (sumOk (zerosN 16) 0) = false := by kernel_rfl
  rw [decide_eq_false_iff_not] at this
  exact absurd h this⟩
theorem rs_one : rsOf (slotEnc 1 (zerosN 8)) = zerosN 8 := by kernel_rfl
theorem slot16_one : Slot16 (slotEnc 1 (zerosN 8)) := by
  refine ⟨slotEnc_len _ _, outS_lt 1 (zerosN 8) (by omega) (fun i _ => by rw [zeros_get]; omega) 2 (Nat.le_refl _), fun _ _ => ⟨?_, ?_⟩⟩
  · rw [rs_one]; exact ⟨by simp [zerosN], fun i _ => by rw [zeros_get]; omega⟩
  · have : (slotEnc 1 (zerosN 8)).getD 0 0 = 1 := by kernel_rfl
    rw [this]; omega
theorem fmt_open (K id k : Nat) (h3 : 3 ≤ K) (h4 : K ≤ 4) (hk : k < 32) : OpenIn (fmt K id) (fmt K id) (K * 64) K id 1 0 0 k (List.replicate K (0, 0)) := by
  obtain ⟨hr, hC, hl⟩ := fmt_C K id h3 h4
  have hz : ∀ b, (List.replicate K ((0 : Nat), (0 : Nat))).getD b (0, 0) = (0, 0) := fun b => by
    rw [List.getD_eq_getElem?_getD, List.getElem?_replicate]; split <;> rfl
  have hlen : (zerosN (8 * (K * 64))).length = 8 * (K * 64) := by simp [zerosN]
  have hw : ∀ j, j < 256 → 8 ≤ j → (fmt K id).C.getD j 0 = (cR (zerosN (8 * (K * 64))) (slotP 64 (slotEnc 1 (zerosN 8)))).getD j 0 := fun j h1 h2 => by
    rw [hC, superP_out K id j h2]
    by_cases hs : 64 ≤ j ∧ j < 80
    · obtain ⟨i, rfl⟩ : ∃ i, j = 64 + i := ⟨j - 64, by omega⟩
      rw [slotP_at 64 i _ _ (by omega) (by rw [cR_len, hlen]; omega), slotP_at 64 i _ _ (by omega) (by rw [hlen]; omega)]
    · rw [slotP_out 64 j _ _ (by omega), slotP_out 64 j _ _ (by omega), freesP_out _ _ (by omega)]
  have s0 : slotOf (fmt K id) 0 = slotEnc 1 (zerosN 8) := slotOf_eq _ _ _ (slotEnc_len _ _) (fun j hj => by
    rw [hw _ (by omega) (by omega), show 64 + 0 * 64 + j = 64 + j by omega, slotP_at 64 j _ _ hj (by rw [hlen]; omega)])
  have s1 : slotOf (fmt K id) 1 = zerosN 16 := slotOf_eq _ _ _ (by simp [zerosN]) (fun j hj => by
    rw [hw _ (by omega) (by omega), slotP_out 64 _ _ _ (by omega), zeros_get, zeros_get])
  have hh : HdrsIn (fmt K id) K (List.replicate K (0, 0)) := by
    refine ⟨List.length_replicate, hz 0, fun b _ => by rw [hz]; exact .inl ⟨rfl, rfl⟩, fun b h1 h2 => ?_⟩
    rw [hz, hC, superP_out K id _ (by omega), slotP_out 64 _ _ _ (by omega), freesP_at (K - 1) b h1 (by omega) _ (by rw [hlen]; omega)]
  have hp : ∀ hs, PileIn (fmt K id) (K * 64) K hs 0 := fun hs => ⟨fun t h1 h2 => by omega, fun t h1 h2 => by omega⟩
  have hkeep : keepH (List.replicate K (0, 0)) K 0 = List.replicate K (0, 0) := rfl
  have hws : ∀ t, wrS (List.replicate K (0, 0)) (List.replicate K (0, 0)) t = [] := by
    intro t
    induction t with
    | zero => rfl
    | succ t ih => rw [wrS, ih]; simp
  refine ⟨⟨fun j hj => ?_, hh, ?_, ?_, by rw [s0, s1]; exact ch0, hp _, by omega, rfl⟩, hl, ?_, by rw [hkeep]; exact hh, hp _, fun h => absurd rfl h, hk, fun h => absurd rfl h, by rw [hz]; decide⟩
  · rw [hC]; exact superP_at K id j hj _ (by rw [cR_len, cR_len, hlen]; omega)
  · rw [s0]; exact slot16_one
  · rw [s1]; exact slot16_zero
  · rw [hkeep]
    unfold writeHS
    rw [if_pos (hws _)]
    rfl
end Go.Proofs.YtcnjipicifkfjaaGreat
