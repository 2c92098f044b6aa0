/- heap: live (all that one works with). -/
import Derived.Test.YtcnjipicifkfjaaGreatRm27
import Derived.Test.YtcnjipicifkfjaaGreatRm24
import Derived.Test.YtcnjipicifkfjaaGreatRm10
import Derived.Test.YtcnjipicifkfjaaGreatRm19

namespace Go.Proofs.YtcnjipicifkfjaaGreat
open Go.RowKit
set_option linter.unusedVariables false
set_option linter.unusedSimpArgs false

def rootsS (S : HS) : List Nat := (alls S.rg 32 ++ S.ws) ++ setL S.held (8 * S.A.K)
set_option maxRecDepth 100000 in
set_option maxHeartbeats 2000000 in
theorem hroots_any (B : Nat) (b : DB) (m : Nat) (s : DS) (col : Nat → Nat) (hp al mp us fr rt hl ca sh : Nat) (S : HS) (w : World) (h : HeapX w B b m s col hp al mp us fr rt hl ca sh S) (hws : S.ws.length = 8) :
    Calls Tryz.prog 45 #[.pointer (some ⟨hp, 0, none⟩)] w fun e w' => ∃ A cap, e = .returned (.slice A (rootsS S).length cap) ∧ Own w' w.heap.size 3 1 A (rootsS S).length cap (ncells (rootsS S)) ∧ Below w.heap.size w w' := by
  have c2 := h.c2
  obtain ⟨r0, r1, r2, r3, r4, r5, r6, r7, hws2⟩ := eight S.ws hws
  have Hwo : Hid (Calls Tryz.prog 64 #[.pointer (some ⟨rt, 0, none⟩)] w fun e w' => e = .returned (.agg #[.int .i64 r0, .int .i64 r1, .int .i64 r2, .int .i64 r3, .int .i64 r4, .int .i64 r5, .int .i64 r6, .int .i64 r7]) ∧ Below w.heap.size w w') := by
    have := rworking_any _ rt b.d _ _ _ _ w h.r
    rw [hws2] at this
    exact this
  have HwL : Hid (S.ws = [r0, r1, r2, r3, r4, r5, r6, r7]) := hws2
  have HXb : Hid (∀ wr, Below w.heap.size w wr → HeapX wr B b m s col hp al mp us fr rt hl ca sh S) := fun wr hb => h.below hb
  have Hra : Hid (∀ wr, Below w.heap.size w wr → _) := fun wr hb => rall_any hp 87 _ S.rg wr h.rg (h.below hb).blk (by rw [heapC_size h.rg]; omega) (heapC_ext h.rg)
  obtain ⟨i0, hi0, hz0, hz1, hz2⟩ := info3s
  obtain ⟨ql, Hql⟩ : ∃ q, Hid ((alls S.rg 32).length = q) := ⟨_, rfl⟩
  have hql : ql ≤ 32 := by rw [← Hql.out]; exact alls_le _ _
  obtain ⟨qh, Hqh⟩ : ∃ q, Hid ((setL S.held (8 * S.A.K)).length = q) := ⟨_, rfl⟩
  have hqh : qh ≤ 2048 := by rw [← Hqh.out]; have := setL_len S.held (8 * S.A.K); have := h.k4; omega
  have Hli : Hid (∀ wr, Below w.heap.size w wr → Calls Tryz.prog 66 #[.pointer (some ⟨hl, 0, none⟩)] wr fun e w' => ∃ A cap, e = .returned (.slice A qh cap) ∧ Own w' wr.heap.size 3 1 A qh cap (ncells (setL S.held (8 * S.A.K))) ∧ Below wr.heap.size wr w') := fun wr hb => by
    have := hlist_any _ hl al S.A.K S.held wr (h.below hb).h (by have := h.k3; omega) (by have := h.k4; omega)
    rw [Hqh.out] at this
    exact this
  have Hnc : Hid (ncells (alls S.rg 32) ++ ncells S.ws = ncells (alls S.rg 32 ++ S.ws)) := (List.map_append ..).symm
  have Hnc2 : Hid (ncells (alls S.rg 32 ++ S.ws) ++ ncells (setL S.held (8 * S.A.K)) = ncells (rootsS S)) := (List.map_append ..).symm
  have Hrl : Hid ((rootsS S).length = ql + 8 + qh) := by show _ = _; unfold rootsS; rw [List.length_append, List.length_append, Hql.out, Hqh.out, hws]
  have c35 := h.c35
  rw [Hrl.out]
  clear h hws2
  go_enter Tryz.func45, Tryz.ntmps45
  go_wp2_with fail
  refine Hwo.out.mono ?_
  rintro e w1 ⟨rfl, hb1⟩
  obtain ⟨n3, Hn3⟩ : ∃ n, Hid (w1.heap.size = n) := ⟨_, rfl⟩
  have L1 := Lib.hid (((Loc.nil Nob w).call hb1 (Nat.le_refl _)).box 80 #[.int .i64 r0, .int .i64 r1, .int .i64 r2, .int .i64 r3, .int .i64 r4, .int .i64 r5, .int .i64 r6, .int .i64 r7] n3 Hn3.out)
  have c1 := (HXb.out _ L1.out.below).c1
  clear hb1 c2 Hwo c35
  go_wp2_with fail
  rw [Hn3.out]
  generalize w1.alloc _ = w3 at *
  have L4 := Lib.hid L1.out.drew
  have hsz3 : w.heap.size ≤ w3.heap.size := L1.out.below.size
  have c35 := (HXb.out _ L1.out.below).c35
  go_region_held3 (fun W => W.cell? ⟨hp, 35, none⟩ = some (.pointer (some ⟨hl, 0, none⟩)))
    (first | exact c35 | exact (HXb.out _ L4.out.below).c35 | exact (HXb.out _ HB5.out).c35 | exact (HXb.out _ HB6.out).c35 | exact (HXb.out _ HB7.out).c35)
    (first
      | (refine step_append_rd (by rfl) (.tmp 12) (.tmp 13) 60 (by rfl) w3.heap.size 3 i0 _ 1 8 Tryz.underlying60 hi0 hz0 hz1 hz2 rfl (by omega) A4 ql cap4 (ncells (alls S.rg 32)) (by rfl) HO4.out (some ⟨n3, 0, none⟩) 8 8 (ncells S.ws) (by rfl) (HR4.out) ncells_one (ql + 8) rfl (ncells (alls S.rg 32 ++ S.ws)) Hnc.out (by unfold maxLen; omega) (by omega) HS4.out ?_; intro A5 cap5 w5 hO5 hM5 hat5; have HO5 := Lib.hid hO5; have HB5 : Hid (Below w.heap.size w w5) := Below.mod L4.out.below hM5 L4.out.below.size (fun k _ hk => by obtain ⟨a, ha, e⟩ := hk; have := (HO4.out.lt a ha).1; omega); have HS5 : Hid (w3.heap.size ≤ w5.heap.size) := Nat.le_trans HS4.out hM5.size; clear hO5 hM5 hat5)
      | (refine step_append_rd (by rfl) (.tmp 14) (.tmp 19) 60 (by rfl) w3.heap.size 3 i0 _ 1 8 Tryz.underlying60 hi0 hz0 hz1 hz2 rfl (by omega) A5 (ql + 8) cap5 (ncells (alls S.rg 32 ++ S.ws)) (by rfl) HO6.out A6 qh cap6 (ncells (setL S.held (8 * S.A.K))) (by rfl) (HR6.out) ncells_one (ql + 8 + qh) rfl (ncells (rootsS S)) Hnc2.out (by unfold maxLen; omega) (by omega) HS6.out ?_; intro A7 cap7 w7 hO7 hM7 hat7; have HO7 := Lib.hid hO7; have HB7 : Hid (Below w.heap.size w w7) := Below.mod HB6.out hM7 HB6.out.size (fun k _ hk => by obtain ⟨a, ha, e⟩ := hk; have := (HO6.out.lt a ha).1; omega); clear hO7 hM7 hat7)
      | (go_at_call 65; refine (Hra.out _ L4.out.below).mono ?_; rintro e w4 ⟨v, rfl, hG⟩; obtain ⟨A4, n4, cap4, rfl, hnl, hO4, hb4, _⟩ := hG; rw [Hql.out] at hnl; replace hnl := hnl.symm; subst hnl; replace L4 := Lib.hid (L4.out.call hb4 (Nat.le_refl _)); have HO4 : Hid (Own w4 w3.heap.size 3 1 A4 ql cap4 (ncells (alls S.rg 32))) := hO4; have HS4 : Hid (w3.heap.size ≤ w4.heap.size) := hb4.size; have HR4 : Hid (Rd w4 1 (some ⟨n3, 0, none⟩) 8 (ncells S.ws)) := ⟨by rw [HwL.out]; rfl, fun _ => ⟨n3, 0, rfl, L4.out.b0.lt, fun i u hu => by rw [Nat.zero_add, L4.out.b0.cell i, ← hu, HwL.out]; simp [ncells]⟩⟩; clear hO4 hb4)
      | (go_at_call 66; refine (Hli.out _ HB5.out).mono ?_; rintro e w6 ⟨A6, cap6, rfl, hO6, hb6⟩; have HR6 := Lib.hid hO6.rd; have HO6 : Hid (Own w6 w3.heap.size 3 1 A5 (ql + 8) cap5 (ncells (alls S.rg 32 ++ S.ws))) := HO5.out.below hb6 (Nat.le_refl _); have HB6 : Hid (Below w.heap.size w w6) := HB5.out.trans (hb6.mono HB5.out.size); have HS6 : Hid (w3.heap.size ≤ w6.heap.size) := Nat.le_trans HS5.out hb6.size; clear hO6 hb6))
  go_wp2_with fail
  go_ret
  exact ⟨A7, cap7, rfl, HO7.out.base_ hsz3, HB7.out⟩
end Go.Proofs.YtcnjipicifkfjaaGreat

/- cycle: shade. -/
namespace Go.Proofs.YtcnjipicifkfjaaGreat
open Go.RowKit
set_option linter.unusedVariables false
set_option linter.unusedSimpArgs false

/-- A heap whose collector's parts are named. -/
structure HC (w : World) (B : Nat) (b : DB) (m : Nat) (s : DS) (col : Nat → Nat) (hp al mp us fr rt hl ca sh : Nat) (S : HS) (mk sw m1 m2 sk : Nat) (A : Option Addr) (cap : Nat) (G : Option Addr) (gcap : Nat) : Prop where
  x : HeapX w B b m s col hp al mp us fr rt hl ca sh S
  y : CycX w col ca al S.A.K (liveF hp) mk sw m1 m2 sk A cap G gcap S.C
theorem Blk.ne_ {w : World} {g g' : Nat} {t t' : TypeId} {cs cs' : Array Value} (h : Blk w g t cs) (h' : Blk w g' t' cs') (ht : t ≠ t') : g ≠ g' := fun e => by
  rw [e] at h
  unfold Blk at h h'
  rw [h] at h'
  simp only [Option.some.injEq, Go.Obj.cells.injEq] at h'
  exact ht h'.2.1
section
variable {w w' : World} {B m : Nat} {b : DB} {s : DS} {col col' : Nat → Nat} {hp al mp us fr rt hl ca sh : Nat} {S : HS} {mk sw m1 m2 sk cap gcap cap' gcap' : Nat} {A G A' G' : Option Addr}
/-- A change of the collector alone. -/
theorem HeapX.cycS (h : HeapX w B b m s col hp al mp us fr rt hl ca sh S) (hM : Mod w w' (fun k => 20 ≤ col k ∧ col k ≤ 24)) (hc : ∀ k, k < w.heap.size → col' k = col k) {C' : CS} (hy : CycR w' col' ca al S.A.K (liveF hp) C') : HeapX w' B b m s col' hp al mp us fr rt hl ca sh { S with C := C' } := by
  have g := h.recol hc
  have hM' : Mod w w' (fun k => k < w.heap.size ∧ 20 ≤ col' k ∧ col' k ≤ 24) := hM.mono (fun k hk e => ⟨hk, by rw [hc k hk]; exact e⟩)
  exact ⟨g.dev.mod hM' (fun k hk e => by have := g.hdv k hk; omega), g.hdv, hM'.blk g.blk (by rw [g.chp]; omega), g.chp, g.a.mod hM' (fun k hk e => by omega), g.r.mod hM' (fun k hk e => by omega), g.h.mod hM' (fun k hk e => by omega) (by rw [g.chl]; omega), g.chl, hy, g.s.mod hM' (fun k hk e => by omega), g.rg, g.hm, g.k3, g.k4⟩
theorem HC.recol (h : HC w B b m s col hp al mp us fr rt hl ca sh S mk sw m1 m2 sk A cap G gcap) (hc : ∀ k, k < w.heap.size → col' k = col k) : HC w B b m s col' hp al mp us fr rt hl ca sh S mk sw m1 m2 sk A cap G gcap := ⟨h.x.recol hc, h.y.recol hc⟩
theorem HC.below (h : HC w B b m s col hp al mp us fr rt hl ca sh S mk sw m1 m2 sk A cap G gcap) (hb : Below w.heap.size w w') : HC w' B b m s col hp al mp us fr rt hl ca sh S mk sw m1 m2 sk A cap G gcap :=
  ⟨h.x.below hb, h.y.b.below hb h.y.b.lt, h.y.x.below hb, h.y.wb.below hb h.y.wb.lt, h.y.g.below hb (Nat.le_refl _), h.y.cb, h.y.cw, h.y.cg⟩
/-- A change of the marker alone. -/
theorem HC.markS (h : HC w B b m s col hp al mp us fr rt hl ca sh S mk sw m1 m2 sk A cap G gcap) (hM : Mod w w' (fun k => mfp col mk sk k)) (hc : ∀ k, k < w.heap.size → col' k = col k) {C' : CS} (hX : MarkX w' col' mk al S.A.K m1 m2 sk A' cap' C')
    (h1 : C'.phase = S.C.phase) (h2 : C'.cycles = S.C.cycles) (h3 : C'.steps = S.C.steps) (h4 : C'.blk = S.C.blk) (h5 : C'.gone = S.C.gone) : HC w' B b m s col' hp al mp us fr rt hl ca sh { S with C := C' } mk sw m1 m2 sk A' cap' G gcap := by
  have hcc : ∀ k, mfp col mk sk k → 20 ≤ col k ∧ col k ≤ 23 := fun k hk => hk.cc h.y.x.cb h.y.x.cs
  have hny : CycX w' col' ca al S.A.K (liveF hp) mk sw m1 m2 sk A' cap' G gcap C' := by
    refine ⟨?_, hX, ?_, ?_, (hc _ h.y.b.lt).trans h.y.cb, (hc _ h.y.wb.lt).trans h.y.cw, fun a ha => (hc _ (h.y.g.lt a ha).2).trans (h.y.cg a ha)⟩
    · rw [h1, h2, h3]
      refine hM.blk h.y.b ?_
      rintro (e | e | e)
      · exact h.y.b.ne_ h.y.x.b (by decide) e
      · exact h.y.b.ne_ h.y.x.s (by decide) e
      · rw [h.y.cb] at e; omega
    · rw [h4, h5]
      refine hM.blk h.y.wb ?_
      rintro (e | e | e)
      · exact h.y.wb.ne_ h.y.x.b (by decide) e
      · exact h.y.wb.ne_ h.y.x.s (by decide) e
      · rw [h.y.cw] at e; omega
    · rw [h5]
      exact h.y.g.mod hM (fun a ha e => by have := hcc _ e; have := h.y.cg a ha; omega)
  exact ⟨h.x.cycS (hM.mono (fun k _ e => by have := hcc k e; omega)) hc ⟨mk, sw, m1, m2, sk, A', cap', G, gcap, hny⟩, hny⟩
end
/-- Roots shaded, one behind the other; is one of them new? -/
def shN (used : Nat → Bool) (C : CS) (l : List Nat) : Nat → CS × Bool
  | 0 => (C, false)
  | j + 1 => (shadeC used (shN used C l j).1 (l.getD j 0), (shN used C l j).2 || (used (l.getD j 0) && !(shN used C l j).1.mkd (l.getD j 0)))
theorem shadeC_bd (used : Nat → Bool) (C : CS) (a : Nat) : (shadeC used C a).stk.length ≤ C.stk.length + 1 ∧ (shadeC used C a).missed ≤ C.missed + 1 ∧ (shadeC used C a).most = C.most ∧ (shadeC used C a).phase = C.phase ∧ (shadeC used C a).cycles = C.cycles ∧ (shadeC used C a).steps = C.steps ∧ (shadeC used C a).blk = C.blk ∧ (shadeC used C a).gone = C.gone ∧ (shadeC used C a).sc = C.sc ∧ (shadeC used C a).cur = C.cur := by
  unfold shadeC
  split
  · refine ⟨?_, ?_, rfl, rfl, rfl, rfl, rfl, rfl, rfl, rfl⟩
    · show (if C.stk.length < C.most then C.stk ++ [a] else C.stk).length ≤ _
      split
      · rw [List.length_append]; exact Nat.le_refl _
      · omega
    · show (if C.stk.length < C.most then C.missed else C.missed + 1) ≤ _
      split <;> omega
  · exact ⟨by omega, by omega, rfl, rfl, rfl, rfl, rfl, rfl, rfl, rfl⟩
theorem shN_bd (used : Nat → Bool) (C : CS) (l : List Nat) (j : Nat) : (shN used C l j).1.stk.length ≤ C.stk.length + j ∧ (shN used C l j).1.missed ≤ C.missed + j ∧ (shN used C l j).1.most = C.most ∧ (shN used C l j).1.phase = C.phase ∧ (shN used C l j).1.cycles = C.cycles ∧ (shN used C l j).1.steps = C.steps ∧ (shN used C l j).1.blk = C.blk ∧ (shN used C l j).1.gone = C.gone ∧ (shN used C l j).1.sc = C.sc ∧ (shN used C l j).1.cur = C.cur := by
  induction j with
  | zero => exact ⟨by simp [shN], by simp [shN], rfl, rfl, rfl, rfl, rfl, rfl, rfl, rfl⟩
  | succ j ih =>
    obtain ⟨i1, i2, i3, i4, i5, i6, i7, i8, i9, i10⟩ := ih
    obtain ⟨k1, k2, k3, k4, k5, k6, k7, k8, k9, k10⟩ := shadeC_bd used (shN used C l j).1 (l.getD j 0)
    exact ⟨by simp only [shN]; omega, by simp only [shN]; omega, k3.trans i3, k4.trans i4, k5.trans i5, k6.trans i6, k7.trans i7, k8.trans i8, k9.trans i9, k10.trans i10⟩
set_option maxRecDepth 100000 in
set_option maxHeartbeats 2000000 in
theorem cshade_any (B : Nat) (b : DB) (m : Nat) (s : DS) (col : Nat → Nat) (hp al mp us fr rt hl ca sh : Nat) (S : HS) (mk sw m1 m2 sk cap gcap : Nat) (A G : Option Addr) (w : World) (h : HC w B b m s col hp al mp us fr rt hl ca sh S mk sw m1 m2 sk A cap G gcap) (hn : ∀ k, w.heap.size ≤ k → col k = 9)
    (hws : S.ws.length = 8) (hst : S.C.stk.length ≤ 10000) (hmi : S.C.missed ≤ 10000) (hmo : S.C.most ≤ 10000) (hle : ∀ x ∈ rootsS S, x ≤ 1000000) :
    Calls Tryz.prog 151 #[.pointer (some ⟨ca, 0, none⟩)] w fun e w' => e = .returned (.bool (shN S.A.used S.C (rootsS S) (rootsS S).length).2) ∧ ∃ A' cap' col', (∀ k, k < w.heap.size → col' k = col k) ∧ (∀ k, w'.heap.size ≤ k → col' k = 9) ∧
      HC w' B b m s col' hp al mp us fr rt hl ca sh { S with C := (shN S.A.used S.C (rootsS S) (rootsS S).length).1 } mk sw m1 m2 sk A' cap' G gcap ∧ Mod w w' (fun k => mfp col mk sk k) := by
  have z1 : w.cell? ⟨ca, 1, none⟩ = some (.pointer (some ⟨mk, 0, none⟩)) := h.y.b.cell 1
  have z3 : w.cell? ⟨ca, 3, none⟩ = some (.func (.func 45) #[.pointer (some ⟨hp, 0, none⟩)] #[]) := h.y.b.cell 3
  have HX := Lib.hid h
  have Hr := Lib.hid (hroots_any B b m s col hp al mp us fr rt hl ca sh S w h.x hws)
  have Hle := Lib.hid hle
  obtain ⟨l, Hl⟩ : ∃ l, Hid (rootsS S = l) := ⟨_, rfl⟩
  have hK4 : S.A.K ≤ 150 := by have := h.x.k4; omega
  have hlen : (rootsS S).length ≤ 3000 := by
    unfold rootsS
    have := setL_len S.held (8 * S.A.K)
    have := h.x.k4
    have := alls_le S.rg 32
    rw [List.length_append, List.length_append]
    omega
  rw [Hl.out] at Hr Hle hlen ⊢
  obtain ⟨n, Hln⟩ : ∃ n, Hid (l.length = n) := ⟨_, rfl⟩
  rw [Hln.out] at Hr hlen ⊢
  obtain ⟨used, Hus⟩ : ∃ u, Hid (S.A.used = u) := ⟨_, rfl⟩
  rw [Hus.out]
  clear h hle
  go_enter Tryz.func151, Tryz.ntmps151
  go_wp2_with fail
  refine Hr.out.mono ?_
  rintro e w1 ⟨Al, capl, rfl, hO1, hb1⟩
  have HX1 := Lib.hid (HX.out.below hb1)
  have HO1 := Lib.hid hO1
  have HM1 : Hid (Mod w w1 (fun k => mfp col mk sk k)) := mod_b hb1
  have Hn1 : Hid (∀ k, w1.heap.size ≤ k → col k = 9) := fun k hk => hn k (Nat.le_trans hb1.size hk)
  have Hr1 : Hid (∀ a, Al = some a → col a.block = 9) := fun a ha => hn _ (hO1.lt a ha).1
  clear hO1 hb1 hn z1 z3 Hr HX
  go_wp2_with fail
  go_loopw [3, 12] (fun v3 v12 wr => ∃ (j : Nat) (Aj : Option Addr) (capj : Nat) (colj : Nat → Nat), v12 = .int .i64 j ∧ j ≤ n ∧ v3 = .bool (shN used S.C l j).2 ∧ (∀ k, k < w.heap.size → colj k = col k) ∧ (∀ k, wr.heap.size ≤ k → colj k = 9) ∧
    HC wr B b m s colj hp al mp us fr rt hl ca sh { S with C := (shN used S.C l j).1 } mk sw m1 m2 sk Aj capj G gcap ∧ Own wr w.heap.size 3 1 Al n capl (ncells l) ∧ (∀ a, Al = some a → colj a.block = 9) ∧ Mod w wr (fun k => mfp col mk sk k)) (fun _ v12 _ => n - (intOf v12).toNat)
  case atStart => exact ⟨0, A, cap, col, rfl, Nat.zero_le _, rfl, fun _ _ => rfl, Hn1.out, HX1.out, HO1.out, Hr1.out, HM1.out⟩
  case round =>
    clear HX1 HO1 HM1 Hn1 Hr1
    obtain ⟨j, Aj, capj, colj, rfl, hj, rfl, hcj, hnj, hXj, hOj, hrj, hMj⟩ := hrel
    have Hcj := Lib.hid hcj
    have Hnj := Lib.hid hnj
    have HXj := Lib.hid hXj
    have HOj := Lib.hid hOj
    have Hrj := Lib.hid hrj
    have HMj := Lib.hid hMj
    have Hbd := Lib.hid (shN_bd used S.C l j)
    clear hcj hnj hXj hOj hrj hMj
    obtain ⟨wo, rfl⟩ : ∃ wo, wo = wr := ⟨wr, rfl⟩
    by_cases hjn : j < n
    · obtain ⟨g, rfl, hglo, _, _, _, hx, hfz⟩ := HOj.out.at_ (by omega)
      have x0 : wo.cell? ⟨g, j, none⟩ = some (.int .i64 (l.getD j 0 : Nat)) := hx j _ (ncells_at l j (by rw [Hln.out]; exact hjn))
      have hxle : l.getD j 0 ≤ 1000000 := by
        rw [List.getD_eq_getElem?_getD, List.getElem?_eq_getElem (by rw [Hln.out]; exact hjn), Option.getD_some]
        exact Hle.out _ (List.getElem_mem _)
      have HS2 : Hid ((shN used S.C l (j + 1)).1 = shadeC used (shN used S.C l j).1 (l.getD j 0) ∧ (shN used S.C l (j + 1)).2 = ((shN used S.C l j).2 || (used (l.getD j 0) && !(shN used S.C l j).1.mkd (l.getD j 0)))) := ⟨rfl, rfl⟩
      clear hx hfz
      generalize l.getD j 0 = x at *
      obtain ⟨P, HP⟩ : ∃ P, Hid ((shN used S.C l j).1 = P) := ⟨_, rfl⟩
      obtain ⟨q, Hq⟩ : ∃ q, Hid ((shN used S.C l j).2 = q) := ⟨_, rfl⟩
      rw [HP.out] at HXj HS2 Hbd
      rw [Hq.out] at HS2 ⊢
      have z1 : wo.cell? ⟨ca, 1, none⟩ = some (.pointer (some ⟨mk, 0, none⟩)) := HXj.out.y.b.cell 1
      have Hsh := Lib.hid (shade_any colj mk al b.d m1 m2 sk capj x Aj S.A P wo HXj.out.x.a.r HXj.out.y.x hK4 (by omega) (by have := Hbd.out.1; omega) (by have := Hbd.out.2.1; omega) (by have := Hbd.out.2.2.1; omega))
      rw [Hus.out] at Hsh
      obtain ⟨r, Hrr⟩ : ∃ r, Hid ((used x && !P.mkd x) = r) := ⟨_, rfl⟩
      rw [Hrr.out] at Hsh HS2
      go_wp2_with omega
      refine Hsh.out.mono ?_
      rintro e w2 ⟨rfl, A2, cap2, col2, hc2, hX2, hM2⟩
      obtain ⟨col3, Hc3⟩ : ∃ c : Nat → Nat, Hid ((∀ k, k < w2.heap.size → c k = col2 k) ∧ ∀ k, w2.heap.size ≤ k → c k = 9) := ⟨fun k => if k < w2.heap.size then col2 k else 9, fun k hk => if_pos hk, fun k hk => if_neg (by omega)⟩
      obtain ⟨k1, k2, k3, k4, k5, k6, k7, k8, k9, k10⟩ := shadeC_bd used P x
      have hbk := Hbd.out
      have HX3 : Hid (HC w2 B b m s col3 hp al mp us fr rt hl ca sh { S with C := (shN used S.C l (j + 1)).1 } mk sw m1 m2 sk A2 cap2 G gcap) := by
        have h9 := HXj.out.markS hM2 hc2 hX2 k4 k5 k6 k7 k8
        rw [HS2.out.1]
        exact h9.recol Hc3.out.1
      have hsz2 := hM2.size
      have Hmf : Hid (∀ k, mfp colj mk sk k → colj k ≠ 9) := fun k hk => by have := hk.cc HXj.out.y.x.cb HXj.out.y.x.cs; omega
      have HO3 : Hid (Own w2 w.heap.size 3 1 (some ⟨g, 0, none⟩) n capl (ncells l)) := HOj.out.mod hM2 (fun a ha e => Hmf.out _ e (Hrj.out a ha))
      have Hr3 : Hid (∀ a, (some ⟨g, 0, none⟩ : Option Addr) = some a → col3 a.block = 9) := fun a ha => by
        have h1 := (HOj.out.lt a ha).2
        rw [Hc3.out.1 _ (Nat.lt_of_lt_of_le h1 hsz2), hc2 _ h1]
        exact Hrj.out a ha
      have HM3 : Hid (Mod w w2 (fun k => mfp col mk sk k)) := HMj.out.trans hM2 (fun k hk e => by
        rcases e with e | e | e
        · exact .inl e
        · exact .inr (.inl e)
        · rw [Hcj.out k hk] at e; exact .inr (.inr e))
      have Hca : Hid (∀ k, k < w.heap.size → col3 k = col k) := fun k hk => by
        have h1 := Nat.lt_of_lt_of_le hk HMj.out.size
        rw [Hc3.out.1 _ (Nat.lt_of_lt_of_le h1 hsz2), hc2 _ h1]
        exact Hcj.out k hk
      clear hc2 hX2 hM2 Hmf z1 Hsh k1 k2 k3 k4 k5 k6 k7 k8 k9 k10 hbk
      cases r with
      | true =>
        have Hr2 : Hid ((shN used S.C l (j + 1)).2 = true) := by show _ = _; rw [HS2.out.2]; simp
        go_wp2_with omega
        exact ⟨⟨j + 1, A2, cap2, col3, by go_num, by omega, by rw [Hr2.out], Hca.out, Hc3.out.2, HX3.out, HO3.out, Hr3.out, HM3.out⟩, by simp [intOf]; omega⟩
      | false =>
        have Hr2 : Hid ((shN used S.C l (j + 1)).2 = q) := by show _ = _; rw [HS2.out.2]; simp
        go_wp2_with omega
        exact ⟨⟨j + 1, A2, cap2, col3, by go_num, by omega, by rw [Hr2.out], Hca.out, Hc3.out.2, HX3.out, HO3.out, Hr3.out, HM3.out⟩, by simp [intOf]; omega⟩
    · obtain rfl : j = n := by omega
      go_wp2_with omega
      go_ret
      exact ⟨rfl, Aj, capj, colj, Hcj.out, Hnj.out, HXj.out, HMj.out⟩
end Go.Proofs.YtcnjipicifkfjaaGreat

/- heap: Root, SetRoot, SetData, Persist. -/
namespace Go.Proofs.YtcnjipicifkfjaaGreat
open Go.RowKit
set_option linter.unusedVariables false
set_option linter.unusedSimpArgs false

def HOutX (w : World) (B : Nat) (b : DB) (m : Nat) (E : DS × Bool) (col : Nat → Nat) (hp al mp us fr rt hl ca sh : Nat) (S : HS) : Prop :=
  (E.2 = true ∧ HeapX w B b m E.1 col hp al mp us fr rt hl ca sh S) ∨ (E.2 = false ∧ HeapD w B b m E.1 hp)
theorem HeapX.setR {w : World} {B m : Nat} {b : DB} {s : DS} {col : Nat → Nat} {hp al mp us fr rt hl ca sh : Nat} {S : HS} (h : HeapX w B b m s col hp al mp us fr rt hl ca sh S) (mu r v : Nat) (hmu : mu < 4) (hr : r < 8) (hv : v < 1000000000) :
    Calls Tryz.prog 63 #[.pointer (some ⟨hp, 3, none⟩), .agg #[.int .i64 mu, .int .i64 r], .int .i64 v] w fun e w' => e = .returned (.int .i64 0) ∧ HeapX w' B b m s col hp al mp us fr rt hl ca sh { S with rg := S.rg.set (mu * 8 + r) v } ∧ Mod w w' (fun k => k = hp) := by
  refine (nset_any hp mu r v 87 _ w h.blk hmu hr (by rw [heapC_size h.rg]; omega) (by omega)).mono ?_
  rintro e w' ⟨rfl, hb', hM⟩
  refine ⟨rfl, h.regS hM (by rw [List.length_set]; exact h.rg) ?_, hM⟩
  rw [Nat.add_assoc] at hb'
  exact hb'.conv (heapC_set h.rg _ v (by omega))
end Go.Proofs.YtcnjipicifkfjaaGreat

/- heap: Alloc. -/
namespace Go.Proofs.YtcnjipicifkfjaaGreat
open Go.RowKit
set_option linter.unusedVariables false
set_option linter.unusedSimpArgs false

theorem HeapX.allocS {w w' : World} {B m : Nat} {b : DB} {s s' : DS} {col col' : Nat → Nat} {hp al mp us fr rt hl ca sh : Nat} {S : HS} {A' : AS} (h : HeapX w B b m s col hp al mp us fr rt hl ca sh S)
    (hM : Mod w w' (fun k => b.has k ∨ col k = 1 ∨ col k = 2 ∨ col k = 3)) (hd : Dev B w' b m s') (hc : ∀ k, k < w.heap.size → col' k = col k) (ha : AllocX w' col' al b.d mp us fr A') (hK : A'.K = S.A.K) :
    HeapX w' B b m s' col' hp al mp us fr rt hl ca sh { S with A := A' } := by
  have hM4 : Mod w w' (fun k => col k < 4) := hM.mono (fun k _ e => by rcases e with e | e | e | e; rw [h.hdv k e]; omega; omega; omega; omega)
  have hM4' : Mod w w' (fun k => col' k < 4 ∧ k < w.heap.size) := hM4.mono (fun k hk e => ⟨by rw [hc k hk]; exact e, hk⟩)
  have hf : ∀ i k, k < w.heap.size → col k = i → col' k = i := fun i k hk e => (hc k hk).trans e
  have hhl := h.h.lt
  have hne : ∀ k, 4 ≤ col' k → ¬ (col' k < 4 ∧ k < w.heap.size) := fun k h1 h2 => by omega
  have hchp := hf 7 hp h.blk.lt h.chp
  have hchl := hf 8 hl hhl h.chl
  refine ⟨hd, fun k hk => hf 0 k (h.dev.lt k hk).2 (h.hdv k hk), hM4'.blk h.blk (hne _ (by omega)), hchp, ha, (h.r.weak (hf 4)).mod hM4' (fun k hk => hne k (by omega)), ?_, hchl, ?_, ?_, h.rg, ?_, ?_, ?_⟩
  · show HeldR w' _ hl al A'.K S.held
    rw [hK]
    exact (h.h.weak (hf 5) (by omega)).mod hM4' (fun k hk => hne k (by omega)) (hne _ (by omega))
  · show CycR w' col' ca al A'.K (liveF hp) S.C
    rw [hK]
    exact (h.c.recol hc).mod hM4' (fun k hk => hne k (by omega))
  · show SetR w' _ sh (8 * A'.K) S.shared
    rw [hK]
    exact (h.s.weak (hf 6)).mod hM4' (fun k hk => hne k (by omega))
  · show m = A'.K * 64
    rw [hK]; exact h.hm
  · show 3 ≤ A'.K
    rw [hK]; exact h.k3
  · show A'.K ≤ 4
    rw [hK]; exact h.k4
def HOutA (w0 w : World) (B : Nat) (b : DB) (m : Nat) (E : DS × Bool) (col : Nat → Nat) (hp al mp us fr rt hl ca sh : Nat) (S : HS) : Prop :=
  (E.2 = true ∧ ∃ col', (∀ k, k < w0.heap.size → col' k = col k) ∧ (∀ k, w.heap.size ≤ k → col' k = 9) ∧ ∃ st, HeapX w B b m E.1 col' hp al mp us fr rt hl ca sh { S with shared := st }) ∨ (E.2 = false ∧ HeapD w B b m E.1 hp)
set_option maxRecDepth 100000 in
set_option maxHeartbeats 2000000 in
theorem halloc_any (B : Nat) (b : DB) (m : Nat) (s : DS) (col : Nat → Nat) (hp al mp us fr rt hl ca sh mu r p d a : Nat) (S : HS) (A1 : AS) (st : List Step) (w : World) (h : HeapX w B b m s col hp al mp us fr rt hl ca sh S) (hn : ∀ k, w.heap.size ≤ k → col k = 9) (hmu : mu < 4) (hr : r < 8) (ho : Obj p d)
    (hK1 : A1.K = S.A.K) (hR : RoomOk B b m s al mp us fr mu p d S.A st a A1) (ha : a + (1 + p + d) ≤ 8 * m) (hp0 : S.C.phase = 0) :
    Calls Tryz.prog 20 #[.pointer (some ⟨hp, 0, none⟩), .agg #[.int .i64 mu, .int .i64 r], .int .i64 p, .int .i64 d] w fun e w' => e = .returned (.int .i64 (ecode (exec s (st ++ initS a p d)).2)) ∧
      HOutA w w' B b m (exec s (st ++ initS a p d)) col hp al mp us fr rt hl ca sh { S with A := A1.add a, rg := S.rg.set (mu * 8 + r) a } ∧ Mod w w' (fun k => hcol (col k)) := by
  obtain ⟨n5, Hn5⟩ : ∃ n, Hid (w.heap.size = n) := ⟨_, rfl⟩
  have L1 := Lib.hid ((Loc.nil Nob w).box 59 #[.int .i64 mu, .int .i64 r] n5 Hn5.out)
  have HXb : Hid (∀ wr, Below w.heap.size w wr → HeapX wr B b m s col hp al mp us fr rt hl ca sh S) := fun wr hb => h.below hb
  have Hnr := Lib.hid (fun w => nright_any mu r w hmu hr)
  obtain ⟨E, HE⟩ : ∃ E, Hid (exec s (st ++ initS a p d) = E) := ⟨_, rfl⟩
  have haN : a < 100000 := by have := h.hm; have := h.k4; omega
  obtain ⟨v, Hv⟩ : ∃ v, Hid ((if E.2 then a else 0) = v) := ⟨_, rfl⟩
  have Hal : Hid (∀ wr, Below w.heap.size w wr → Calls Tryz.prog 60 #[.pointer (some ⟨al, 0, none⟩), .int .i64 mu, .int .i64 p, .int .i64 d] wr fun e w' => e = .returned (.tuple #[.int .i64 v, .int .i64 (ecode E.2)]) ∧ Dev B w' b m E.1 ∧
      (E.2 = true → ∃ col', (∀ k, k < wr.heap.size → col' k = col k) ∧ HeapX w' B b m E.1 col' hp al mp us fr rt hl ca sh { S with A := A1.add a }) ∧ Blk w' hp 87 (heapC b.d al rt S.rg hl ca sh false) ∧ Mod wr w' (fun k => hcol (col k))) := by
    intro wr hb
    have hX := h.below hb
    have := alloc_any B b m s col al mp us fr mu p d a S.A A1 st wr hX.dev hX.hdv hX.a hmu ho hX.hm (by have := hX.k3; omega) (by have := hX.k4; omega) hK1 hR ha
    rw [HE.out, Hv.out] at this
    refine this.mono ?_
    rintro e w' ⟨he, hd, hA, hM⟩
    refine ⟨he, hd, fun hE => ?_, hM.blk hX.blk ?_, hM.mono (fun k hk e => ?_)⟩
    · obtain ⟨col', hc, hA⟩ := hA hE
      exact ⟨col', hc, hX.allocS hM hd hc hA hK1⟩
    · have := hX.chp
      rintro (h1 | h1 | h1 | h1)
      · have := hX.hdv _ h1; omega
      · omega
      · omega
      · omega
    · rcases e with h1 | h1 | h1 | h1
      · rw [hX.hdv _ h1]; exact .inl (by omega)
      · rw [h1]; exact .inl (by omega)
      · rw [h1]; exact .inl (by omega)
      · rw [h1]; exact .inl (by omega)
  rw [HE.out]
  have Hc : Hid (col hp = 7 ∧ (∀ k, b.has k → col k = 0) ∧ S.rg.length = 32 ∧ ∀ k, w.heap.size ≤ k → col k = 9) := ⟨h.chp, h.hdv, h.rg, hn⟩
  have c38 : (w.alloc (.cells #[.int .i64 mu, .int .i64 r] 59)).cell? ⟨hp, 38, none⟩ = some (.bool false) := (h.below L1.out.below).c38
  have hph : Hid (S.C.phase = 0) := hp0
  have HK4 : Hid (S.A.K ≤ 4 ∧ A1.K = S.A.K) := ⟨h.k4, hK1⟩
  clear h hn hR ha hp0
  go_enter Tryz.func20, Tryz.ntmps20
  go_wp2_with fail
  rw [Hn5.out]
  generalize w.alloc _ = w1 at *
  refine (Hnr.out _).mono ?_
  rintro e w2 ⟨rfl, hb2⟩
  have L2 := Lib.hid (L1.out.call hb2 (Nat.le_refl _))
  clear hb2 L1 c38 Hnr
  go_wp2_with fail
  have L3 := Lib.hid L2.out.drew
  have x0 : w2.cell? ⟨n5, 0, none⟩ = some (.int .i64 mu) := L2.out.b0.cell 0
  have c1 := (HXb.out _ L2.out.below).c1
  clear L2
  go_region_held3 (fun W => W.cell? ⟨n5, 0, none⟩ = some (.int .i64 mu) ∧ W.cell? ⟨hp, 1, none⟩ = some (.pointer (some ⟨al, 0, none⟩)))
    (first | exact ⟨x0, c1⟩ | exact ⟨L3.out.b0.cell 0, (HXb.out _ L3.out.below).c1⟩ | exact ⟨HN4.out.cell 0, HBk.out.cell 1⟩)
    ((go_at_call 60; refine (Hal.out _ L3.out.below).mono ?_; rintro e w4 ⟨rfl, hd4, hX4, hb4, hM4⟩; have HD4 := Lib.hid hd4; have HX4 := Lib.hid hX4; have HBk := Lib.hid hb4; have HN4 : Hid (Blk w4 n5 59 #[.int .i64 mu, .int .i64 r]) := hM4.blk L3.out.b0 (fun hh => by have h1 := Hc.out.2.2.2 n5 (Nat.le_of_eq Hn5.out); unfold hcol at hh; omega); have HM4 : Hid (Mod w w4 (fun k => hcol (col k))) := Mod.trans (mod_b L3.out.below : Mod w w2.drew (fun k => hcol (col k))) hM4 (fun k _ h => h); have HL3 := Lib.hid L3.out.below.size; have Hn5l := Lib.hid L3.out.b0.lt; clear hd4 hX4 hb4 hM4))
  clear x0 c1 Hal
  cases hE : E.2 with
  | false =>
    have hv0 : v = 0 := by rw [← Hv.out, hE]; rfl
    rw [show ecode false = 3 from rfl]
    have Hdn := Lib.hid (hdown_dead hp b.d al rt hl ca sh S.rg w4 HBk.out Hc.out.2.2.1)
    have Hf := Lib.hid hE
    clear hE
    go_wp2_with fail
    refine Hdn.out.mono ?_
    rintro e w5 ⟨rfl, hb5, hM5⟩
    have HBk5 := Lib.hid hb5
    have hne : ¬ b.has hp := fun hk => by have := Hc.out.2.1 hp hk; have := Hc.out.1; omega
    have HD5 : Hid (Dev B w5 b m E.1) := HD4.out.mod hM5 (fun k hk e => hne (e ▸ hk))
    have HM5 : Hid (Mod w w5 (fun k => hcol (col k))) := HM4.out.trans hM5 (fun k _ e => by rw [e, Hc.out.1]; exact .inl (by omega))
    clear hb5 hM5
    go_wp2_with fail
    go_ret
    rw [show ecode E.2 = 3 from by rw [Hf.out]; rfl]
    exact ⟨rfl, .inr ⟨Hf.out, al, rt, S.rg, hl, ca, sh, Hc.out.2.2.1, HBk5.out, HD5.out, hne⟩, HM5.out⟩
  | true =>
    have hv0 : v = a := by rw [← Hv.out, hE]; rfl
    subst hv0
    rw [show ecode true = 0 from rfl]
    obtain ⟨col1, hc1, hX⟩ := HX4.out hE
    have Hf := Lib.hid hE
    have hcw := colW_lt col1 w4 9
    have hcg := colW_ge col1 w4 9
    have HX5 : Hid (HeapX w4 B b m E.1 (colW col1 w4 9) hp al mp us fr rt hl ca sh { S with A := A1.add v }) := hX.recol hcw
    have HC5 : Hid ((∀ k, k < w.heap.size → colW col1 w4 9 k = col k) ∧ (∀ k, w4.heap.size ≤ k → colW col1 w4 9 k = 9) ∧ colW col1 w4 9 n5 = 9) := ⟨fun k hk => by
      rw [hcw k (Nat.lt_of_lt_of_le hk HM4.out.size)]
      exact hc1 k (Nat.lt_of_lt_of_le hk HL3.out), hcg, by
      rw [hcw n5 HN4.out.lt, hc1 n5 Hn5l.out]
      exact Hc.out.2.2.2 n5 (Nat.le_of_eq Hn5.out)⟩
    clear hE hc1 hX HX4 hcw hcg
    generalize colW col1 w4 9 = col5 at *
    have c36 := HX5.out.c36
    have Hmd := Lib.hid (cmade_idle col5 ca al (A1.add v).K v (liveF hp) S.C w4 HX5.out.c hph.out)
    go_wp2_with fail
    refine Hmd.out.mono ?_
    rintro e _ ⟨⟨v6, rfl⟩, rfl⟩
    have c37 := HX5.out.c37
    have Hdr := Lib.hid (bdrop_any (fun k => col5 k = 6) sh (8 * (A1.add v).K) v S.shared w4 HX5.out.s (by show 8 * A1.K ≤ 100000; have := HK4.out; omega) (by omega))
    clear c36 Hmd
    go_wp2_with fail
    refine Hdr.out.mono ?_
    rintro e w7 ⟨rfl, hS7, hM7⟩
    have HX7 := Lib.hid (HX5.out.sharedS hM7 hS7)
    have HM7 : Hid (Mod w w7 (fun k => hcol (col k))) := HM4.out.trans hM7 (fun k hk e => by rw [← HC5.out.1 k hk, e]; exact .inl (by omega))
    have HN7 : Hid (Blk w7 n5 59 #[.int .i64 mu, .int .i64 r]) := hM7.blk HN4.out (fun e => by have := HC5.out.2.2; omega)
    have HS7 := Lib.hid hM7.size
    clear hS7 hM7 c37 Hdr HX5 HM4 HN4
    have y0 : w7.cell? ⟨n5, 0, none⟩ = some (.int .i64 mu) := HN7.out.cell 0
    have y1 : w7.cell? ⟨n5, 1, none⟩ = some (.int .i64 r) := HN7.out.cell 1
    have HX8 : Hid (HeapX w7.drew B b m E.1 col5 hp al mp us fr rt hl ca sh { S with A := A1.add v, shared := fun i => !decide (i = v) && S.shared i }) := HX7.out.below (below_drewN (Below.refl _ _) 1)
    have Hset : Hid (Calls Tryz.prog 63 #[.pointer (some ⟨hp, 3, none⟩), .agg #[.int .i64 mu, .int .i64 r], .int .i64 v] w7.drew fun e w' => e = .returned (.int .i64 0) ∧ HeapX w' B b m E.1 col5 hp al mp us fr rt hl ca sh { S with A := A1.add v, shared := fun i => !decide (i = v) && S.shared i, rg := S.rg.set (mu * 8 + r) v } ∧ Mod w7.drew w' (fun k => k = hp)) := by
      refine (HX8.out.setR mu r v hmu hr (by omega)).mono ?_
      rintro e w' ⟨rfl, hX, hM⟩
      exact ⟨rfl, hX, hM⟩
    have HNd : Hid (Blk w7.drew n5 59 #[.int .i64 mu, .int .i64 r]) := HN7.out.drew
    have Hnh : Hid (n5 ≠ hp) := fun e => by have h1 := HC5.out.2.2; have h2 := HX7.out.chp; rw [e] at h1; omega
    have HMd : Hid (Mod w w7.drew (fun k => hcol (col k))) := HM7.out.drewN 1
    have HC8 : Hid ((∀ k, k < w.heap.size → col5 k = col k) ∧ ∀ k, w7.heap.size ≤ k → col5 k = 9) := ⟨HC5.out.1, fun k hk => HC5.out.2.1 k (Nat.le_trans HS7.out hk)⟩
    have Hchp : Hid (col5 hp = 7) := HX7.out.chp
    go_wp2_with fail
    go_region_held3 (fun W => W.cell? ⟨n5, 0, none⟩ = some (.int .i64 mu) ∧ W.cell? ⟨n5, 1, none⟩ = some (.int .i64 r))
      (first | exact ⟨y0, y1⟩ | exact ⟨HN9.out.cell 0, HN9.out.cell 1⟩)
      ((go_at_call 63; refine Hset.out.mono ?_; rintro e w9 ⟨rfl, hX9, hM9⟩; have HX9 := Lib.hid hX9; have HN9 := Lib.hid (hM9.blk HNd.out Hnh.out); have HM9 : Hid (Mod w w9 (fun k => hcol (col k))) := HMd.out.trans hM9 (fun k hk e => by rw [← HC8.out.1 k hk, e, Hchp.out]; exact .inl (by omega)); have HS9 := Lib.hid hM9.size; clear hX9 hM9))
    go_wp2_with fail
    go_ret
    rw [show ecode E.2 = 0 from by rw [Hf.out]; rfl]
    exact ⟨rfl, .inl ⟨Hf.out, col5, HC8.out.1, fun k hk => HC8.out.2 k (Nat.le_trans HS9.out hk), _, HX9.out⟩, HM9.out⟩
end Go.Proofs.YtcnjipicifkfjaaGreat
