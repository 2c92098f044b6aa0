/- revive: Look. -/
import Derived.Test.YtcnjipicifkfjaaGreatRm34
import Derived.Test.YtcnjipicifkfjaaGreatRm27
import Derived.Test.YtcnjipicifkfjaaGreatRm13
import Derived.Test.YtcnjipicifkfjaaGreatRm14
import Derived.Test.YtcnjipicifkfjaaGreatRm19
import Derived.Test.YtcnjipicifkfjaaGreatRm18

namespace Go.Proofs.YtcnjipicifkfjaaGreat
open Go.RowKit
set_option linter.unusedVariables false
set_option linter.unusedSimpArgs false

/-- The roots of a pile of j objects. -/
def rootsL (j : Nat) : List Nat := [if j = 0 then 0 else adr j, 0, 0, 0, 0, 0, 0, 0]
/-- What lasts on a device is a heap with a pile of j objects. -/
structure HeapIn (s : DS) (m K id ep wh j : Nat) (hs : List (Nat × Nat)) : Prop where
  sup : SupIn s K id
  hdr : HdrsIn s K hs
  s0 : Slot16 (slotOf s 0)
  s1 : Slot16 (slotOf s 1)
  ch : chooseM (sdecM (slotOf s 0)) (sdecM (slotOf s 1)) = ((ep, rootsL j), wh, true)
  p : PileIn s m K hs j
  j : j ≤ 170
  hm : m = K * 64
theorem size98 : (Tryz.prog.info? 98).map (·.size) = some 6 := by kernel_rfl
def stC (K id : Nat) (al rt : Option Addr) (A : Option Addr) (j cap : Nat) : Array Value := #[.int .i64 K, .int .u64 id, .int .i64 K, .pointer al, .pointer rt, .slice A j cap]
set_option maxRecDepth 100000 in
set_option maxHeartbeats 4000000 in
theorem look_any (B : Nat) (b : DB) (m : Nat) (s : DS) (K id ep wh j : Nat) (hs : List (Nat × Nat)) (w : World) (h : Dev B w b m s) (hI : HeapIn s m K id ep wh j hs) (hK : 2 ≤ K) (hK2 : K ≤ 150) (hid : id < 18446744073709551616) :
    Calls Tryz.prog 92 #[.pointer (some ⟨b.d, 0, none⟩)] w fun e w' => ∃ rt g A cap, e = .returned (.tuple #[.agg (stC K id none (some ⟨rt, 0, none⟩) A j cap), .slice (some ⟨g, 0, none⟩) K K, .int .i64 0]) ∧ w.heap.size ≤ rt ∧ RootR w' (fun k => k = rt) rt b.d ep wh (rootsL j) (rootsL j) ∧
      Own w' w.heap.size 178 3 (some ⟨g, 0, none⟩) K K (hcells hs) ∧ Own w' w.heap.size 3 1 A j cap (ncells (adrs j)) ∧ Below w.heap.size w w' := by
  have hm := hI.hm
  have HD : Hid (∀ wr, Below w.heap.size w wr → Dev B wr b m s) := fun wr hb => h.below hb (Nat.le_refl _)
  have Hsu : Hid (∀ wr, Below w.heap.size w wr → _) := fun wr hb => supread_any B b m s K id wr (HD.out wr hb) hI.sup hK (by omega) hid hm
  have Hbr : Hid (∀ wr, Below w.heap.size w wr → _) := fun wr hb => bread_any B b m s K hs wr (HD.out wr hb) hI.hdr hK (by omega) hm
  have Hro : Hid (∀ wr, Below w.heap.size w wr → _) := fun wr hb => ropen_any B b m s ep wh (rootsL j) wr (HD.out wr hb) (by omega) (by omega) hI.s0 hI.s1 hI.ch rfl
  have Hcl : Hid (∀ (g n base : Nat) wr, Below w.heap.size w wr → Own wr base 178 3 (some ⟨g, 0, none⟩) K K (hcells hs) → Rd wr 1 (some ⟨n, 0, none⟩) 8 (ncells (rootsL j)) → Calls Tryz.prog 132 #[.pointer (some ⟨b.d, 0, none⟩), .agg #[.int .i64 K], .slice (some ⟨g, 0, none⟩) K K, .slice (some ⟨n, 0, none⟩) 8 8] wr fun e w' => ∃ A' cap', e = .returned (.tuple #[.slice A' j cap', .int .i64 0]) ∧ Own w' wr.heap.size 3 1 A' j cap' (ncells (adrs j)) ∧ Below wr.heap.size wr w') :=
    fun g n base wr hb hO hr => closure_any B b m s K g K j 8 8 hs _ (rootsL j) wr (HD.out wr hb) (hO.base_ (Nat.zero_le _)) hr (by omega) (by omega) rfl (fun i hi => by
      unfold rootsL
      match i, hi with
      | i + 1, _ => rw [List.getD_cons_succ]; simp only [List.getD_eq_getElem?_getD, List.getElem?_cons]; repeat (first | rfl | split)) hI.j hI.p hm hK2
  obtain ⟨x, Hx⟩ : ∃ x, Hid ((if j = 0 then 0 else adr j) = x) := ⟨_, rfl⟩
  have HrL : Hid (rootsL j = [x, 0, 0, 0, 0, 0, 0, 0]) := by show _ = _; unfold rootsL; rw [Hx.out]
  have Hrl : Hid (∀ rt w, RootR w (fun k => k = rt) rt b.d ep wh (rootsL j) (rootsL j) → Calls Tryz.prog 85 #[.pointer (some ⟨rt, 0, none⟩)] w fun e w' => e = .returned (.agg #[.int .i64 x, .int .i64 0, .int .i64 0, .int .i64 0, .int .i64 0, .int .i64 0, .int .i64 0, .int .i64 0]) ∧ Below w.heap.size w w') := fun rt w h => by
    have := rlasting_any (fun k => k = rt) rt b.d ep wh (rootsL j) (rootsL j) w h
    rw [HrL.out] at this
    exact this
  obtain ⟨n2, Hn2⟩ : ∃ n, Hid (w.heap.size = n) := ⟨_, rfl⟩
  have L0 := Lib.hid ((Loc.nil Nob w).box 98 #[.int .i64 0, .int .u64 0, .int .i64 0, .pointer none, .pointer none, .slice none 0 0] n2 Hn2.out)
  clear h hI
  go_enter Tryz.func92, Tryz.ntmps92
  go_wp2_with fail
  rw [Hn2.out]
  generalize w.alloc _ = w1 at *
  refine (Hsu.out _ L0.out.below).mono ?_
  rintro e w2 ⟨rfl, hb2⟩
  have L2 := Lib.hid (L0.out.call hb2 (Nat.le_refl _))
  obtain ⟨n5, Hn5⟩ : ∃ n, Hid (w2.heap.size = n) := ⟨_, rfl⟩
  have L3 := Lib.hid (L2.out.box 96 #[.int .i64 K, .int .u64 id] n5 Hn5.out)
  obtain ⟨n7, Hn7⟩ : ∃ n, Hid (n5 + 1 = n) := ⟨_, rfl⟩
  have L4 := Lib.hid (L3.out.box 64 #[.int .i64 K] n7 (by rw [World.size_alloc, Hn5.out, Hn7.out]))
  clear hb2 L0 Hsu
  go_wp2_with fail
  rw [Hn5.out, Hn7.out]
  generalize (w2.alloc _).alloc _ = w3 at *
  refine (Hbr.out _ L4.out.below).mono ?_
  rintro e w5 ⟨g, rfl, hO5, hb5⟩
  have L5 := Lib.hid (L4.out.call hb5 (Nat.le_refl _))
  have HO5 := Lib.hid (hO5.base_ L4.out.below.size)
  clear hO5 hb5 L4 L3 L2 Hbr
  go_wp2_with fail
  refine (Hro.out _ L5.out.below).mono ?_
  rintro e w6 ⟨rt, rfl, hR6, hb6⟩
  have L6 := Lib.hid (L5.out.call hb6 (Nat.le_refl _))
  have HO6 := Lib.hid (HO5.out.below hb6 (Nat.le_refl _))
  have Hrt : Hid (w.heap.size ≤ rt) := Nat.le_trans L5.out.below.size hR6.2.2.2
  have HR6 : Hid (RootR w6 (fun k => k = rt) rt b.d ep wh (rootsL j) (rootsL j)) := ⟨hR6.1, hR6.2.1, hR6.2.2.1, rfl⟩
  clear hR6 hb6 L5 HO5 Hro
  go_wp2_with fail
  refine (Hrl.out _ _ HR6.out).mono ?_
  rintro e w7 ⟨rfl, hb7⟩
  have L7 := Lib.hid (L6.out.call hb7 (Nat.le_refl _))
  have HO7 := Lib.hid (HO6.out.below hb7 (Nat.le_refl _))
  have HR7 := Lib.hid (HR6.out.below hb7 (Nat.le_refl _))
  clear hb7 L6 HO6 HR6 Hrl
  obtain ⟨n11, Hn11⟩ : ∃ n, Hid (w7.heap.size = n) := ⟨_, rfl⟩
  have L8 := Lib.hid (L7.out.box 80 #[.int .i64 x, .int .i64 0, .int .i64 0, .int .i64 0, .int .i64 0, .int .i64 0, .int .i64 0, .int .i64 0] n11 Hn11.out)
  have L9 := Lib.hid L8.out.drew
  have HRd : Hid (Rd (w7.alloc (.cells #[.int .i64 x, .int .i64 0, .int .i64 0, .int .i64 0, .int .i64 0, .int .i64 0, .int .i64 0, .int .i64 0] 80)).drew 1 (some ⟨n11, 0, none⟩) 8 (ncells (rootsL j))) := by
    refine ⟨by rw [HrL.out]; rfl, fun _ => ⟨n11, 0, rfl, L9.out.b0.lt, fun i u hu => ?_⟩⟩
    rw [Nat.zero_add, L9.out.b0.cell i, ← hu, HrL.out]
    simp [ncells]
  have HO9 : Hid (Own (w7.alloc (.cells #[.int .i64 x, .int .i64 0, .int .i64 0, .int .i64 0, .int .i64 0, .int .i64 0, .int .i64 0, .int .i64 0] 80)).drew w.heap.size 178 3 (some ⟨g, 0, none⟩) K K (hcells hs)) := (HO7.out.alloc _).drewN 1
  have HR9 : Hid (RootR (w7.alloc (.cells #[.int .i64 x, .int .i64 0, .int .i64 0, .int .i64 0, .int .i64 0, .int .i64 0, .int .i64 0, .int .i64 0] 80)).drew (fun k => k = rt) rt b.d ep wh (rootsL j) (rootsL j)) := ⟨(HR7.out.1.alloc _).drew, HR7.out.2⟩
  clear L7 HO7 HR7
  go_wp2_with fail
  rw [Hn11.out]
  obtain ⟨w8, Hw8⟩ : ∃ w8, Hid ((w7.alloc (.cells #[.int .i64 x, .int .i64 0, .int .i64 0, .int .i64 0, .int .i64 0, .int .i64 0, .int .i64 0, .int .i64 0] 80)) = w8) := ⟨_, rfl⟩
  rw [Hw8.out] at L8 L9 HRd HO9 HR9 ⊢
  have e0 : w8.cell? ⟨n7, 0, none⟩ = some (.int .i64 K) := L8.out.b1.cell 0
  clear L8
  go_region_held3 (fun W => W.cell? ⟨n7, 0, none⟩ = some (.int .i64 K))
    (first | exact e0 | exact L10.out.b1.cell 0)
    ((go_at_call 132; refine (Hcl.out g n11 _ _ L9.out.below HO9.out HRd.out).mono ?_; rintro e w9 ⟨A9, cap9, rfl, hO9, hb9⟩; have HLv := Lib.hid (hO9.base_ L9.out.below.size); have L10 := Lib.hid (L9.out.call hb9 (Nat.le_refl _)); have HO10 := Lib.hid (HO9.out.below hb9 (Nat.le_refl _)); have HR10 := Lib.hid (HR9.out.below hb9 (Nat.le_refl _)); clear hO9 hb9))
  clear e0 L9 HO9 HR9 HRd
  have LL := L10.out
  have u0 : w9.cell? ⟨n5, 0, none⟩ = some (.int .i64 K) := (LL.nth 2 rfl).cell 0
  have u1 : w9.cell? ⟨n5, 1, none⟩ = some (.int .u64 id) := (LL.nth 2 rfl).cell 1
  have u2 : w9.cell? ⟨n7, 0, none⟩ = some (.int .i64 K) := LL.b1.cell 0
  have L11 := Lib.hid (LL.tail.tail.tail)
  have v0 : w9.cell? ⟨n2, 0, none⟩ = some (.int .i64 0) := L11.out.b0.cell 0
  have v1 : w9.cell? ⟨n2, 1, none⟩ = some (.int .u64 0) := L11.out.b0.cell 1
  have v2 : w9.cell? ⟨n2, 2, none⟩ = some (.int .i64 0) := L11.out.b0.cell 2
  have v3 : w9.cell? ⟨n2, 3, none⟩ = some (.pointer none) := L11.out.b0.cell 3
  have v4 : w9.cell? ⟨n2, 4, none⟩ = some (.pointer none) := L11.out.b0.cell 4
  have v5 : w9.cell? ⟨n2, 5, none⟩ = some (.slice none 0 0) := L11.out.b0.cell 5
  have f0 := L11.out.b0.frozen 0
  have f1 := L11.out.b0.frozen 1
  have f2 := L11.out.b0.frozen 2
  have f3 := L11.out.b0.frozen 3
  have f4 := L11.out.b0.frozen 4
  have f5 := L11.out.b0.frozen 5
  clear LL L10
  go_wp2_with fail
  have LF := Lib.hid ((((((L11.out.set 0 (.int .i64 K)).set 1 (.int .u64 id)).set 2 (.int .i64 K)).set 3 (.pointer none)).set 4 (.pointer (some ⟨rt, 0, none⟩))).set 5 (.slice A9 j cap9))
  have hM : Mod w9 ((((((w9.setCell ⟨n2, 0, none⟩ (.int .i64 K)).setCell ⟨n2, 1, none⟩ (.int .u64 id)).setCell ⟨n2, 2, none⟩ (.int .i64 K)).setCell ⟨n2, 3, none⟩ (.pointer none)).setCell ⟨n2, 4, none⟩ (.pointer (some ⟨rt, 0, none⟩))).setCell ⟨n2, 5, none⟩ (.slice A9 j cap9)) (fun k => k = n2) :=
    Mod.set (p := ⟨n2, 5, none⟩) (Mod.set (p := ⟨n2, 4, none⟩) (Mod.set (p := ⟨n2, 3, none⟩) (Mod.set (p := ⟨n2, 2, none⟩) (Mod.set (p := ⟨n2, 1, none⟩) (Mod.set (p := ⟨n2, 0, none⟩) (Mod.refl w9 (fun k => k = n2)) (.inr rfl) _) (.inr rfl) _) (.inr rfl) _) (.inr rfl) _) (.inr rfl) _) (.inr rfl) _
  have hb := L11.out.b0
  refine bodyPost_ret (results_row_tmp2 rfl _ _ n2 98 _ _ _ rfl LF.out.b0 Tryz.underlying98 rfl size98) rfl ?_
  refine ⟨rt, g, A9, cap9, rfl, Hrt.out, HR10.out.mod hM (fun k h1 h2 => ?_), HO10.out.mod hM (fun a ha => HO10.out.ne hb (by decide) a ha), HLv.out.mod hM (fun a ha => HLv.out.ne hb (by decide) a ha), LF.out.below⟩
  have h3 := HR10.out.1
  rw [← h1, h2] at h3
  unfold Blk at h3 hb
  rw [hb] at h3
  cases h3
end Go.Proofs.YtcnjipicifkfjaaGreat

/- alloc: New. -/
namespace Go.Proofs.YtcnjipicifkfjaaGreat
open Go.RowKit
set_option linter.unusedVariables false
set_option linter.unusedSimpArgs false

def usedOf (l : List Nat) (k : Nat) : Nat → Bool := fun i => decide (i ∈ l.take k)
theorem usedOf_next (l : List Nat) (k : Nat) (h : k < l.length) (i : Nat) : addS (usedOf l k) (l.getD k 0) i = usedOf l (k + 1) i := by
  unfold addS usedOf
  rw [List.take_succ_eq_append_getElem h, List.getD_eq_getElem?_getD, List.getElem?_eq_getElem h]
  simp only [Option.getD_some, List.mem_append, List.mem_singleton, Bool.decide_or]
theorem usedOf_at (l : List Nat) (k : Nat) (h : k < l.length) (hn : l.Nodup) : usedOf l k (l.getD k 0) = false := by
  unfold usedOf
  rw [decide_eq_false_iff_not, List.getD_eq_getElem?_getD, List.getElem?_eq_getElem h, Option.getD_some]
  intro hm
  obtain ⟨j, hj, e⟩ := List.mem_take_iff_getElem.1 hm
  exact List.pairwise_iff_getElem.1 hn j k (by omega) h (by omega) e
/-- The free cells of the blocks 1 to t. -/
def carveB (used : Nat → Bool) (k : Nat) (hs : List (Nat × Nat)) : Nat → List Nat
  | 0 => []
  | t + 1 => carveB used k hs t ++ (if (hs.getD (t + 1) (0, 0)).1 = 1 then carveL used k (t + 1) (ccells k) else [])
theorem carveB_len (used : Nat → Bool) (k : Nat) (hs : List (Nat × Nat)) (t : Nat) : (carveB used k hs t).length ≤ t * ccells k := by
  induction t with
  | zero => simp [carveB]
  | succ t ih =>
    rw [carveB, List.length_append, Nat.succ_mul]
    have := carveL_len used k (t + 1) (ccells k)
    split <;> simp <;> omega
theorem carveB_mem (used : Nat → Bool) (k : Nat) (hs : List (Nat × Nat)) (hk : k < 32) (t x : Nat) (h : x ∈ carveB used k hs t) : x / 512 ≤ t ∧ 1 ≤ x / 512 := by
  induction t with
  | zero => simp [carveB] at h
  | succ t ih =>
    rw [carveB, List.mem_append] at h
    rcases h with h | h
    · have := ih h; omega
    · split at h
      · obtain ⟨j, hj, rfl⟩ := carveL_mem _ _ _ _ _ h
        have := cadr_div k (t + 1) (ccells k - 1 - j) hk (by omega)
        omega
      · simp at h
def colN (col : Nat → Nat) (a b c : Nat) : Nat → Nat := fun k => if k < a then col k else if k < b then 2 else if k < c then 3 else 8
set_option maxRecDepth 100000 in
set_option maxHeartbeats 4000000 in
theorem anew_any (B : Nat) (b : DB) (m : Nat) (s : DS) (col : Nat → Nat) (mp K k p n cap : Nat) (hs : List (Nat × Nat)) (o : Option (Nat × Nat)) (A : Option Addr) (l : List Nat) (w : World) (h : Dev B w b m s) (hM : BmanR w (fun k => col k = 1) mp b.d K hs o) (hm : m = K * 64) (hK0 : 0 < K) (hK : K ≤ 4) (hk : k < 32)
    (hdv : ∀ k, b.has k → col k = 0) (hcol : ∀ k, k < w.heap.size → col k ≠ 2 ∧ col k ≠ 3) (hr : Rd w 1 A n (ncells l)) (hn : n ≤ 100000) (hnd : l.Nodup) (hP : ∀ i, i < n → Pl s m K k p hs (l.getD i 0)) (hlt : ∀ i, i < n → l.getD i 0 < 512 * K)
    (hh : ∀ b, 1 ≤ b → b < K → (hs.getD b (0, 0)).1 = 1 → (hs.getD b (0, 0)).2 = k) :
    Calls Tryz.prog 96 #[.pointer (some ⟨b.d, 0, none⟩), .pointer (some ⟨mp, 0, none⟩), .slice A n cap] w fun e w' => ∃ ap us fr col', e = .returned (.tuple #[.pointer (some ⟨ap, 0, none⟩), .int .i64 0]) ∧ (∀ k, k < w.heap.size → col' k = col k) ∧
      AllocX w' col' ap b.d mp us fr ⟨K, k, hs, o, usedOf l n, carveB (usedOf l n) k hs (K - 1), fun _ => []⟩ ∧ Below w.heap.size w w' := by
  have hln : l.length = n := by have := hr.1; rw [ncells_len] at this; omega
  have Hg := Lib.hid (bmgeo_any (fun k => col k = 1) mp b.d K hs o w hM)
  have Hl := Lib.hid (fun w h => len_any B b m s w h)
  have Hbn := Lib.hid (fun w => bnew_any (8 * K) w (by omega) (by omega))
  have Hfn := Lib.hid (fun w => fnew_any k w hk)
  have HD : Hid (∀ wr, Below w.heap.size w wr → Dev B wr b m s) := fun wr hb => h.below hb (Nat.le_refl _)
  have HB : Hid (∀ wr, Below w.heap.size w wr → BmanR wr (fun k => col k = 1) mp b.d K hs o) := fun wr hb => hM.below hb (Nat.le_refl _)
  have HRd : Hid (∀ wr, Below w.heap.size w wr → Rd wr 1 A n (ncells l)) := fun wr hb => hr.below hb (Nat.le_refl _)
  have hlt2 := h.lt
  obtain ⟨N, HN⟩ : ∃ N, Hid (8 * m = N) := ⟨_, rfl⟩
  rw [HN.out] at Hl
  rw [show 64 * (8 * K) = N by rw [← HN.out, hm]; omega] at Hbn
  have Hsz0 := Lib.hid (Nat.le_refl w.heap.size)
  have HBl : Hid (∀ a, a < w.heap.size → col a ≠ 2 ∧ col a ≠ 3) := hcol
  clear h hM hr hcol
  go_enter Tryz.func96, Tryz.ntmps96
  go_wp2_with fail
  refine Hg.out.mono ?_
  rintro e w1 ⟨rfl, hb1⟩
  have HB1 := Lib.hid hb1
  clear hb1 Hg
  go_wp2_with fail
  refine (Hl.out _ (HD.out _ HB1.out)).mono ?_
  rintro e _ ⟨rfl, rfl⟩
  go_wp2_with fail
  refine (Hbn.out _).mono ?_
  rintro e w2 ⟨us, rfl, hS2, hb2⟩
  have HS2 := Lib.hid hS2
  have HB2 := Lib.hid hb2
  clear hS2 hb2 Hbn
  go_wp2_with fail
  refine (Hfn.out _).mono ?_
  rintro e w3 ⟨fr, rfl, hf3, hb3⟩
  have HF3 := Lib.hid hf3
  have HB3 := Lib.hid hb3
  clear hf3 hb3 Hfn
  obtain ⟨ap, Hap⟩ : ∃ k, Hid (w3.heap.size = k) := ⟨_, rfl⟩
  have HB4 := Lib.hid (below_box w3 (.cells #[.pointer (some ⟨mp, 0, none⟩), .pointer (some ⟨b.d, 0, none⟩), .int .i64 K, .pointer (some ⟨us, 0, none⟩), .pointer (some ⟨fr, 0, none⟩)] 110))
  have HBx : Hid (Below w.heap.size w (w3.alloc (.cells #[.pointer (some ⟨mp, 0, none⟩), .pointer (some ⟨b.d, 0, none⟩), .int .i64 K, .pointer (some ⟨us, 0, none⟩), .pointer (some ⟨fr, 0, none⟩)] 110))) := by
    have h1 := HB1.out.size
    have h2 := HB2.out.size
    have h3 := HB3.out.size
    exact HB1.out.trans ((HB2.out.mono h1).trans ((HB3.out.mono (by omega)).trans (HB4.out.mono (by omega))))
  have HX4 : Hid (AllocX (w3.alloc (.cells #[.pointer (some ⟨mp, 0, none⟩), .pointer (some ⟨b.d, 0, none⟩), .int .i64 K, .pointer (some ⟨us, 0, none⟩), .pointer (some ⟨fr, 0, none⟩)] 110)) (colN col w1.heap.size w2.heap.size w3.heap.size) ap b.d mp us fr ⟨K, k, hs, o, usedOf l 0, [], fun _ => []⟩) := by
    have h1 := HB1.out.size
    have h2 := HB2.out.size
    have h3 := HB3.out.size
    refine ⟨?_, ?_, ?_, ?_, ?_⟩
    · rw [← Hap.out]; exact Blk.new w3 110 _
    · refine ((HB.out w1 HB1.out).weak (F' := fun k => colN col w1.heap.size w2.heap.size w3.heap.size k = 1) (fun k hk hc => by simp only [colN]; rw [if_pos hk]; exact hc)).below (HB2.out.trans ((HB3.out.mono h2).trans (HB4.out.mono (by omega)))) (Nat.le_refl _)
    · have hh := HS2.out.weak (F' := fun k => colN col w1.heap.size w2.heap.size w3.heap.size k = 2) (fun k hk hk2 => by simp only [colN]; rw [if_neg (by omega), if_pos hk])
      refine SetR.conv ((hh.below HB3.out (Nat.le_refl _)).below HB4.out (Nat.le_refl _)) (fun i => by simp [usedOf])
    · have hh := HF3.out.weak (F' := fun k => colN col w1.heap.size w2.heap.size w3.heap.size k = 3) (fun k hk hk2 => by simp only [colN]; rw [if_neg (by omega), if_neg (by omega), if_pos hk])
      exact hh.below HB4.out (Nat.le_refl _)
    · simp only [colN]
      have := Hap.out
      rw [if_neg (by omega), if_neg (by omega), if_neg (by omega)]
  have HCC : Hid ((∀ k, k < w.heap.size → colN col w1.heap.size w2.heap.size w3.heap.size k = col k)) := by
    intro k hk
    have h1 := HB1.out.size
    simp only [colN]
    rw [if_pos (by omega)]
  go_wp2_with fail
  rw [Hap.out]
  clear HS2 HF3 HB4 HB1 HB2 HB3
  generalize w3.alloc _ = w4 at *
  generalize colN col w1.heap.size w2.heap.size w3.heap.size = col4 at *
  go_loopw [27] (fun v27 wr => ∃ i : Nat, v27 = .int .i64 i ∧ i ≤ n ∧ AllocX wr col4 ap b.d mp us fr ⟨K, k, hs, o, usedOf l i, [], fun _ => []⟩ ∧ Below w.heap.size w wr) (fun v27 _ => n - (intOf v27).toNat)
  case atStart => exact ⟨0, rfl, Nat.zero_le _, HX4.out, HBx.out⟩
  case round =>
    clear HX4 HBx
    obtain ⟨i, rfl, hi, hX, hb⟩ := hrel
    have HX := Lib.hid hX
    have HB := Lib.hid hb
    clear hX hb
    by_cases hin : i < n
    · obtain ⟨g, off, rfl, hg, hc⟩ := (HRd.out wr HB.out).2 (by omega)
      have y0 : wr.cell? ⟨g, off + i, none⟩ = some (.int .i64 (l.getD i 0 : Nat)) := hc i _ (ncells_at l i (by rw [hln]; exact hin))
      have HP := Lib.hid (place_any B b m s col4 ap mp us fr (l.getD i 0) p ⟨K, k, hs, o, usedOf l i, [], fun _ => []⟩ wr (HD.out wr HB.out) HX.out (hP i hin) hm hK0 (by show K ≤ 150; omega))
      have HE : Hid (∀ j, addS (usedOf l i) (l.getD i 0) j = usedOf l (i + 1) j) := usedOf_next l i (by rw [hln]; exact hin)
      have HE2 : Hid (usedOf l i (l.getD i 0) = false) := usedOf_at l i (by rw [hln]; exact hin) hnd
      have Hxl := Lib.hid (hlt i hin)
      generalize l.getD i 0 = x at *
      clear hc
      go_wp2_with fail
      refine HP.out.mono ?_
      rintro e w5 ⟨⟨dd, rfl⟩, hb5⟩
      have HX5 := Lib.hid (HX.out.below hb5 (Nat.le_refl _))
      have HB5 := Lib.hid (HB.out.trans (hb5.mono HB.out.size))
      clear hb5 HX HB y0 HP
      have HB6 := Lib.hid (HB5.out.trans ((below_box w5 (.cells #[.int .i64 p, .int .i64 dd] 51)).mono HB5.out.size))
      have HX6 : Hid (AllocX (w5.alloc (.cells #[.int .i64 p, .int .i64 dd] 51)) col4 ap b.d mp us fr ⟨K, k, hs, o, usedOf l i, [], fun _ => []⟩) := HX5.out.below (below_box w5 _) (Nat.le_refl _)
      have c3 : (w5.alloc (.cells #[.int .i64 p, .int .i64 dd] 51)).cell? ⟨ap, 3, none⟩ = some (.pointer (some ⟨us, 0, none⟩)) := HX6.out.b.cell 3
      have hxl : x < 512 * K := Hxl.out
      have Had := Lib.hid (badd_any (fun k => col4 k = 2) us (8 * K) x (usedOf l i) _ HX6.out.u (by omega) (by omega))
      rw [HE2.out, show decide (x < 64 * (8 * K)) = true by rw [decide_eq_true_eq]; omega] at Had
      clear HX5 HB5 hxl
      go_wp2_with fail
      refine Had.out.mono ?_
      rintro e w7 ⟨rfl, hS7, hM7⟩
      have HX7 := Lib.hid (HX6.out.usedS hM7 (SetR.conv (s' := usedOf l (i + 1)) hS7 (fun j => by rw [← HE.out j]; simp [addS])))
      have HB7 : Hid (Below w.heap.size w w7) := Below.mod HB6.out hM7 HB6.out.size (fun k hk h => by
        rcases Nat.lt_or_ge k w.heap.size with h1 | h1
        · have := HCC.out k h1; have := (HBl.out k h1).1; omega
        · exact h1)
      clear hS7 hM7 Had HX6 HB6 c3
      go_wp2_with fail
      exact ⟨⟨i + 1, by go_num, by omega, HX7.out, HB7.out⟩, by simp [intOf]; omega⟩
    · obtain rfl : i = n := by omega
      clear hP HRd
      go_wp2_with fail
      have HY0 : Hid (AllocX wr (colW col4 wr 3) ap b.d mp us fr ⟨K, k, hs, o, usedOf l i, carveB (usedOf l i) k hs 0, fun _ => []⟩) := HX.out.recol (colW_lt col4 wr 3)
      have HB0 := Lib.hid HB.out
      have HC5 : Hid (∀ k, k < w.heap.size → colW col4 wr 3 k = col k) := fun k hk => by rw [colW_lt _ _ _ _ (Nat.lt_of_lt_of_le hk HB.out.size)]; exact HCC.out k hk
      have HC6 : Hid (∀ w2 : World, wr.heap.size ≤ w2.heap.size → colW (colW col4 wr 3) w2 3 = colW col4 wr 3) := by
        intro w2 h2
        funext k
        unfold colW
        split
        · rfl
        · rw [if_neg (by omega)]
      have Hwr := Lib.hid (Nat.le_refl wr.heap.size)
      obtain ⟨N0, HN0⟩ : ∃ N, Hid (wr.heap.size = N) := ⟨_, rfl⟩
      rw [HN0.out] at HC6
      generalize colW col4 wr 3 = col5 at *
      have hwrN : N0 ≤ wr.heap.size := Nat.le_of_eq HN0.out.symm
      have HwrN := Lib.hid hwrN
      clear HX HB hwrN
      go_loopw [13] (fun v13 wr => ∃ t : Nat, v13 = .int .i64 (t + 1 : Nat) ∧ t + 1 ≤ K ∧ AllocX wr col5 ap b.d mp us fr ⟨K, k, hs, o, usedOf l i, carveB (usedOf l i) k hs t, fun _ => []⟩ ∧ Below w.heap.size w wr ∧ N0 ≤ wr.heap.size) (fun v13 _ => K - (intOf v13).toNat)
      case atStart => exact ⟨0, rfl, by omega, HY0.out, HB0.out, HwrN.out⟩
      case round =>
        clear HY0 HB0 HwrN
        obtain ⟨t, rfl, ht, hX, hb, hN⟩ := hrel
        have HX := Lib.hid hX
        have HB := Lib.hid hb
        have HN2 := Lib.hid hN
        obtain ⟨tt, x, T, X, hmb, hT, hX2, d1, d2, d3, d4, d5, d6⟩ := hX.m
        have c0 : wr.cell? ⟨mp, 0, none⟩ = some (.pointer (some ⟨tt, 0, none⟩)) := hmb.cell 0
        have Htl := Lib.hid (tlen_any T tt b.d K hs wr hT)
        have Htg := Lib.hid (fun (h : t + 1 < K) => tget_any T tt b.d K (t + 1) hs wr hT (by omega) h (by omega))
        obtain ⟨t1, Ht1⟩ : ∃ t1, Hid (t + 1 = t1) := ⟨_, rfl⟩
        rw [Ht1.out] at ht Htg ⊢
        clear hX hb hN hmb hT hX2 d1 d2 d3 d4 d5 d6
        by_cases htK : t1 < K
        · have Hcv : Hid (∀ wr, AllocX wr col5 ap b.d mp us fr ⟨K, k, hs, o, usedOf l i, carveB (usedOf l i) k hs t, fun _ => []⟩ → N0 ≤ wr.heap.size → Calls Tryz.prog 143 #[.pointer (some ⟨ap, 0, none⟩), .int .i64 t1, .int .i64 k] wr fun e w' => (∃ v, e = .returned v) ∧ AllocX w' col5 ap b.d mp us fr ⟨K, k, hs, o, usedOf l i, carveB (usedOf l i) k hs t ++ carveL (usedOf l i) k t1 (ccells k), fun _ => []⟩ ∧ Mod wr w' (fun k => col5 k = 3)) := by
            intro wr hX hN
            have hl := carveB_len (usedOf l i) k hs t
            have hcc := ccells_pos k hk
            have ht1 := Ht1.out
            have := carve_any col5 ap b.d mp us fr t1 ⟨K, k, hs, o, usedOf l i, carveB (usedOf l i) k hs t, fun _ => []⟩ wr hX hk (by omega) htK (by show K ≤ 150; omega) (by
              rintro x (hx | ⟨mm, _, hx⟩)
              · have := (carveB_mem _ _ _ hk _ _ hx).1; omega
              · cases hx) (by
              show (carveB (usedOf l i) k hs t).length + ccells k ≤ 900
              have h3 : t * ccells k ≤ 2 * ccells k := Nat.mul_le_mul_right _ (by omega)
              omega) (fun m => by simp)
            rw [HC6.out wr hN] at this
            exact this
          have hkd := hh t1 (by have := Ht1.out; omega) htK
          have HS : Hid (carveB (usedOf l i) k hs t1 = carveB (usedOf l i) k hs t ++ (if (hs.getD t1 (0, 0)).1 = 1 then carveL (usedOf l i) k t1 (ccells k) else [])) := by show _ = _; rw [← Ht1.out]; rfl
          have Htg2 := Lib.hid (Htg.out htK)
          obtain ⟨kd, Hkd⟩ : ∃ kd, Hid ((hs.getD t1 (0, 0)).1 = kd) := ⟨_, rfl⟩
          obtain ⟨cl, Hcl⟩ : ∃ cl, Hid ((hs.getD t1 (0, 0)).2 = cl) := ⟨_, rfl⟩
          rw [Hkd.out, Hcl.out] at Htg2 hkd
          rw [Hkd.out] at HS
          go_wp2_with fail
          refine Htl.out.mono ?_
          rintro e _ ⟨rfl, rfl⟩
          go_wp2_with fail
          refine Htg2.out.mono ?_
          rintro e w5 ⟨rfl, hb5⟩
          have HB5 := Lib.hid (HB.out.trans (hb5.mono HB.out.size))
          have HX5 := Lib.hid (HX.out.below hb5 (Nat.le_refl _))
          have HN5 := Lib.hid (Nat.le_trans HN2.out hb5.size)
          clear hb5 HB HX HN2 c0 Htl Htg Htg2
          have HB6 := Lib.hid (HB5.out.trans ((below_box w5 (.cells #[.int .i64 kd, .int .i64 cl, .int .i64 0] 178)).mono HB5.out.size))
          have HX6 : Hid (AllocX (w5.alloc (.cells #[.int .i64 kd, .int .i64 cl, .int .i64 0] 178)) col5 ap b.d mp us fr ⟨K, k, hs, o, usedOf l i, carveB (usedOf l i) k hs t, fun _ => []⟩) := HX5.out.below (below_box w5 _) (Nat.le_refl _)
          have HN6 := Lib.hid (Nat.le_trans HN5.out (below_box w5 (.cells #[.int .i64 kd, .int .i64 cl, .int .i64 0] 178)).size)
          by_cases hk1 : kd = 1
          · obtain rfl := hkd hk1
            subst hk1
            have HS2 : Hid (carveB (usedOf l i) cl hs t1 = carveB (usedOf l i) cl hs t ++ carveL (usedOf l i) cl t1 (ccells cl)) := by show _ = _; rw [HS.out, if_pos rfl]
            clear hkd HS HB5 HX5 HN5
            go_wp2_with fail
            refine (Hcv.out _ HX6.out HN6.out).mono ?_
            rintro e w7 ⟨⟨v, rfl⟩, hX7, hM7⟩
            have HX7 : Hid (AllocX w7 col5 ap b.d mp us fr ⟨K, cl, hs, o, usedOf l i, carveB (usedOf l i) cl hs t1, fun _ => []⟩) := by
              show AllocX _ _ _ _ _ _ _ _
              rw [HS2.out]
              exact hX7
            have HN7 := Lib.hid (Nat.le_trans HN6.out hM7.size)
            have HB7 : Hid (Below w.heap.size w w7) := Below.mod HB6.out hM7 HB6.out.size (fun k hk h => by
              rcases Nat.lt_or_ge k w.heap.size with h1 | h1
              · have := HC5.out k h1; have := (HBl.out k h1).2; omega
              · exact h1)
            clear hX7 hM7 HX6 HB6 HN6 HS2
            go_wp2_with fail
            exact ⟨⟨t1, by go_num, by omega, HX7.out, HB7.out, HN7.out⟩, by simp [intOf]; omega⟩
          · have HS2 : Hid (carveB (usedOf l i) k hs t1 = carveB (usedOf l i) k hs t) := by show _ = _; rw [HS.out, if_neg hk1, List.append_nil]
            have hkb : ((kd : Int) == 1) = false := by rw [beq_eq_false_iff_ne]; omega
            have hkb2 : (kd == 1) = false := by rw [beq_eq_false_iff_ne]; omega
            have hkb3 : decide ((kd : Int) = 1) = false := by rw [decide_eq_false_iff_not]; omega
            have hkb4 : decide (kd = 1) = false := by rw [decide_eq_false_iff_not]; omega
            have HX7 : Hid (AllocX (w5.alloc (.cells #[.int .i64 kd, .int .i64 cl, .int .i64 0] 178)) col5 ap b.d mp us fr ⟨K, k, hs, o, usedOf l i, carveB (usedOf l i) k hs t1, fun _ => []⟩) := by
              show AllocX _ _ _ _ _ _ _ _
              rw [HS2.out]
              exact HX6.out
            clear hk1 hkd HS HB5 HX5 HN5 HS2 HX6
            go_wp2_with fail
            exact ⟨⟨t1, by go_num, by omega, HX7.out, HB6.out, HN6.out⟩, by simp [intOf]; omega⟩
        · go_wp2_with fail
          refine Htl.out.mono ?_
          rintro e _ ⟨rfl, rfl⟩
          go_wp2_with fail
          refine bodyPost_ret (results_tmp2 rfl _ _ _) rfl ?_
          refine ⟨ap, us, fr, col5, rfl, HC5.out, ?_, HB.out⟩
          have : K - 1 = t := by have := Ht1.out; omega
          rw [this]
          exact HX.out
end Go.Proofs.YtcnjipicifkfjaaGreat
