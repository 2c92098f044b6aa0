/- mark: Clear, scan, grey. -/
import Derived.Test.YtcnjipicifkfjaaGreatRm23
import Derived.Test.YtcnjipicifkfjaaGreatRm16
import Derived.LoopN
import Derived.Test.YtcnjipicifkfjaaGreatRm18
import Derived.Test.YtcnjipicifkfjaaGreatRm19
import Derived.Test.YtcnjipicifkfjaaGreatRm14

namespace Go.Proofs.YtcnjipicifkfjaaGreat
open Go.RowKit
set_option linter.unusedVariables false
set_option linter.unusedSimpArgs false

theorem limit_any (F : Nat → Prop) (p n : Nat) (s : Nat → Bool) (w : World) (h : SetR w F p n s) :
    Calls Tryz.prog 197 #[.pointer (some ⟨p, 0, none⟩)] w fun e w' => e = .returned (.int .i64 ((64 * n : Nat) : Int)) ∧ w = w' := by
  obtain ⟨g, cap, L, many, hb, _⟩ := h
  have c1 : w.cell? ⟨p, 1, none⟩ = some (.int .i64 ((64 * n : Nat) : Int)) := hb.cell 1
  obtain ⟨N, HN⟩ : ∃ N, Hid (64 * n = N) := ⟨_, rfl⟩
  rw [HN.out] at c1 ⊢
  clear hb
  go_enter Tryz.func197, Tryz.ntmps197
  go_wp2_with fail
  go_ret
  exact ⟨rfl, rfl⟩
section
variable {w w' : World} {col col' : Nat → Nat} {mk ap K m1 m2 sk cap : Nat} {A : Option Addr} {C : CS}
theorem MarkX.stkM (h : MarkX w col mk ap K m1 m2 sk A cap C) {missed : Nat} {l : List Nat} {cap' : Nat} (hM : Mod w w' (fun k => k = sk)) (hs : StkX w' sk A cap' l C.most missed) : MarkX w' col mk ap K m1 m2 sk A cap' { C with stk := l, missed := missed } := by
  have hne : mk ≠ sk := fun e => by
    have h1 := h.b
    rw [e] at h1
    have h2 := h.s
    unfold Blk at h1 h2
    rw [h1] at h2
    simp at h2
  exact ⟨hM.blk h.b hne, hs.s, hs.o, h.m.mod hM (fun k hk e => by rw [e, h.cs] at hk; omega), h.c.mod hM (fun k hk e => by rw [e, h.cs] at hk; omega), h.cb, h.cs, h.co⟩
theorem MarkX.below (h : MarkX w col mk ap K m1 m2 sk A cap C) (hb : Below w.heap.size w w') : MarkX w' col mk ap K m1 m2 sk A cap C :=
  ⟨h.b.below hb h.b.lt, h.s.below hb h.s.lt, h.o.below hb (Nat.le_refl _), h.m.below hb (Nat.le_refl _), h.c.below hb (Nat.le_refl _), h.cb, h.cs, h.co⟩
end
set_option maxRecDepth 100000 in
set_option maxHeartbeats 1000000 in
theorem mclear_any (col : Nat → Nat) (mk ap K m1 m2 sk cap : Nat) (A : Option Addr) (C : CS) (w : World) (h : MarkX w col mk ap K m1 m2 sk A cap C) (hK0 : 0 < K) (hK : K ≤ 150) (hs : C.stk = []) :
    Calls Tryz.prog 150 #[.pointer (some ⟨mk, 0, none⟩)] w fun e w' => (∃ v, e = .returned v) ∧ MarkX w' col mk ap K m1 m2 sk A cap { C with mkd := fun _ => false, sc := fun _ => false, stk := [], missed := 0, again := false, cur := 512 * K } ∧ Mod w w' (fun k => mfp col mk sk k) := by
  have z1 : w.cell? ⟨mk, 1, none⟩ = some (.pointer (some ⟨m1, 0, none⟩)) := h.b.cell 1
  have HX := Lib.hid h
  have H1 := Lib.hid (bclear_any _ m1 (8 * K) C.mkd w h.m (by omega) (by omega))
  obtain ⟨N, HN⟩ : ∃ N, Hid (512 * K = N) := ⟨_, rfl⟩
  rw [HN.out]
  clear h
  go_enter Tryz.func150, Tryz.ntmps150
  go_wp2_with fail
  refine H1.out.mono ?_
  rintro e w1 ⟨⟨v1, rfl⟩, hs1, hM1⟩
  have HX1 := Lib.hid (HX.out.mdS hM1 hs1)
  have HM1 : Hid (Mod w w1 (fun k => mfp col mk sk k)) := hM1.mono (fun k _ e => mfp_c (by omega))
  have z2 : w1.cell? ⟨mk, 2, none⟩ = some (.pointer (some ⟨m2, 0, none⟩)) := HX1.out.b.cell 2
  clear z1 hs1 hM1 H1 HX
  go_wp2_with fail
  refine (bclear_any _ m2 (8 * K) _ w1 HX1.out.c (by omega) (by omega)).mono ?_
  rintro e w2 ⟨⟨v2, rfl⟩, hs2, hM2⟩
  have HX2 := Lib.hid (HX1.out.scS hM2 hs2)
  have HM2 : Hid (Mod w w2 (fun k => mfp col mk sk k)) := HM1.out.trans hM2 (fun k _ e => mfp_c (by omega))
  have z3 : w2.cell? ⟨mk, 3, none⟩ = some (.pointer (some ⟨sk, 0, none⟩)) := HX2.out.b.cell 3
  clear z2 hs2 hM2 HX1 HM1
  go_wp2_with fail
  have h0 : StkX w2 sk A cap C.stk C.most C.missed := HX2.out.stk
  rw [hs] at h0
  refine (sclear_any sk cap C.most C.missed A w2 h0).mono ?_
  rintro e w3 ⟨⟨v3, rfl⟩, hs3, hM3⟩
  have HX3 := Lib.hid (HX2.out.stkM hM3 hs3)
  have HM3 : Hid (Mod w w3 (fun k => mfp col mk sk k)) := HM2.out.trans hM3 (fun k _ e => .inr (.inl e))
  have z1 : w3.cell? ⟨mk, 1, none⟩ = some (.pointer (some ⟨m1, 0, none⟩)) := HX3.out.b.cell 1
  have z4 : w3.cell? ⟨mk, 4, none⟩ = some (.bool C.again) := HX3.out.b.cell 4
  have z5 : w3.cell? ⟨mk, 5, none⟩ = some (.int .i64 C.cur) := HX3.out.b.cell 5
  have zf := HX3.out.b.frozen
  clear z3 hs3 hM3 HX2 HM2
  have Hli := Lib.hid (limit_any _ m1 (8 * K) _ w3 HX3.out.m)
  rw [show 64 * (8 * K) = 512 * K by omega, HN.out] at Hli
  go_wp2_with fail
  refine Hli.out.mono ?_
  rintro e w4 ⟨rfl, rfl⟩
  go_wp2_with fail
  go_end0
  obtain ⟨q1, q2⟩ := HX3.out.againS false
  obtain ⟨q3, q4⟩ := q1.curS N
  exact ⟨⟨_, rfl⟩, q3, (HM3.out.trans q2 (fun k _ e => .inl e)).trans q4 (fun k _ e => .inl e)⟩
set_option maxRecDepth 100000 in
set_option maxHeartbeats 1000000 in
theorem mscan_any (B : Nat) (b : DB) (m : Nat) (s : DS) (col : Nat → Nat) (mk ap m1 m2 sk cap a dd : Nat) (A : Option Addr) (S : AS) (C : CS) (w : World) (hD : Dev B w b m s) (hdv : ∀ k, b.has k → col k = 0) (hA : AllocR w col ap b.d S) (h : MarkX w col mk ap S.K m1 m2 sk A cap C) (hK : S.K ≤ 150) (hm : m ≤ 10000) (ho : ObjAt s m a 0 dd) (ha : a < 64 * (8 * S.K)) :
    Calls Tryz.prog 200 #[.pointer (some ⟨mk, 0, none⟩), .int .i64 a] w fun e w' => (∃ v, e = .returned v) ∧ MarkX w' col mk ap S.K m1 m2 sk A cap { C with sc := addS C.sc a } ∧ Mod w w' (fun k => mfp col mk sk k) := by
  have z2 : w.cell? ⟨mk, 2, none⟩ = some (.pointer (some ⟨m2, 0, none⟩)) := h.b.cell 2
  have Hadd := Lib.hid (badd_any _ m2 (8 * S.K) a C.sc w h.c (by omega) (by omega))
  have hset : Hid (∀ i, (C.sc i || (decide (i = a) && decide (a < 64 * (8 * S.K)))) = addS C.sc a i) := fun i => addS_conv _ _ _ ha i
  have HX := Lib.hid h
  have HA := Lib.hid hA
  have HD := Lib.hid hD
  clear h hA hD
  go_enter Tryz.func200, Tryz.ntmps200
  go_wp2_with fail
  refine Hadd.out.mono ?_
  rintro e w1 ⟨rfl, hs, hM⟩
  have HX1 := Lib.hid (HX.out.scS hM (hs.conv hset.out))
  have HM1 : Hid (Mod w w1 (fun k => mfp col mk sk k)) := hM.mono (fun k _ e => mfp_c (by omega))
  have HA1 := Lib.hid (HA.out.mod hM (fun k hk e => by omega))
  have HD1 := Lib.hid (HD.out.mod hM (fun k hk e => by have := hdv k hk; omega))
  have z0 : w1.cell? ⟨mk, 0, none⟩ = some (.pointer (some ⟨ap, 0, none⟩)) := HX1.out.b.cell 0
  clear hs hM Hadd z2 HX HA HD
  go_wp2_with fail
  refine (adev_any col ap b.d S w1 HA1.out).mono ?_
  rintro e w2 ⟨rfl, rfl⟩
  go_wp2_with fail
  refine (ptrs_any B b m s a 0 dd w1 HD1.out ho (fun e => by omega) hm).mono ?_
  rintro e w2 ⟨A', cap', rfl, _, hb2⟩
  have HX2 := Lib.hid (HX1.out.below hb2)
  have HM2 : Hid (Mod w w2 (fun k => mfp col mk sk k)) := HM1.out.trans (mod_b hb2) (fun k _ h => False.elim h)
  have hl0 : (ptrsL s a 0).length = 0 := rfl
  rw [hl0]
  clear hb2 z0 hl0
  go_wp2_with fail
  refine wp_loop_rounds 1 ?_
  rw [rounds_succ]
  go_wp2_with fail
  go_end0
  exact ⟨⟨_, rfl⟩, HX2.out, HM2.out⟩
end Go.Proofs.YtcnjipicifkfjaaGreat

/- mark: grey, Step. -/
namespace Go.Proofs.YtcnjipicifkfjaaGreat
open Go.RowKit
set_option linter.unusedVariables false
set_option linter.unusedSimpArgs false

/-- The next grey one from the cursor on. -/
def GreyAt (C : CS) (x : Nat) : Prop := C.cur ≤ x ∧ C.mkd x = true ∧ C.sc x = false ∧ ∀ j, C.cur ≤ j → j < x → C.mkd j = true → C.sc j = true
def GreyNo (C : CS) : Prop := ∀ j, C.cur ≤ j → C.mkd j = true → C.sc j = true
set_option maxRecDepth 100000 in
set_option maxHeartbeats 2000000 in
theorem mgrey_any (col : Nat → Nat) (mk ap K m1 m2 sk cap : Nat) (A : Option Addr) (C : CS) (w : World) (h : MarkX w col mk ap K m1 m2 sk A cap C) (hK0 : 0 < K) (hK : K ≤ 150) (hc : C.cur ≤ 512 * K) :
    Calls Tryz.prog 201 #[.pointer (some ⟨mk, 0, none⟩)] w fun e w' => ((∃ x : Nat, e = .returned (.tuple #[.int .i64 x, .bool true]) ∧ GreyAt C x) ∨ (e = .returned (.tuple #[.int .i64 0, .bool false]) ∧ GreyNo C)) ∧ ∃ q, w' = w.drewN q := by
  have HX := Lib.hid h
  have hm : ∀ j, C.mkd j = true → j < 512 * K := fun j hj => by
    by_cases e : j < 512 * K
    · exact e
    · have := h.m.out j (by omega); rw [this] at hj; cases hj
  have Hm := Lib.hid hm
  have z1 : w.cell? ⟨mk, 1, none⟩ = some (.pointer (some ⟨m1, 0, none⟩)) := h.b.cell 1
  have z5 : w.cell? ⟨mk, 5, none⟩ = some (.int .i64 C.cur) := h.b.cell 5
  have Hn : Hid (∀ wr, (∃ q, wr = w.drewN q) → ∀ a, a ≤ 1000000 → Calls Tryz.prog 206 #[.pointer (some ⟨m1, 0, none⟩), .int .i64 (a : Nat)] wr (NextR C.mkd a wr)) := by
    rintro wr ⟨q, rfl⟩ a ha
    exact bnext_any _ m1 (8 * K) a C.mkd (w.drewN q) (h.m.drewN q) (by omega) (by omega) (by omega)
  have Hh : Hid (∀ wr, (∃ q, wr = w.drewN q) → ∀ a, a ≤ 1000000 → Calls Tryz.prog 102 #[.pointer (some ⟨m2, 0, none⟩), .int .i64 (a : Nat)] wr fun e w' => e = .returned (.bool (C.sc a)) ∧ wr = w') := by
    rintro wr ⟨q, rfl⟩ a ha
    exact bhas_any _ m2 (8 * K) a C.sc (w.drewN q) (h.c.drewN q) (by omega) (by omega)
  obtain ⟨N, HN⟩ : ∃ N, Hid (512 * K = N) := ⟨_, rfl⟩
  have hN : N ≤ 100000 := by rw [← HN.out]; omega
  rw [HN.out] at hc Hm
  have hd1 : w.drew = w.drewN 1 := rfl
  clear h hm
  go_enter Tryz.func201, Tryz.ntmps201
  go_wp2_with fail
  go_region_held3 (fun W => W.cell? ⟨mk, 1, none⟩ = some (.pointer (some ⟨m1, 0, none⟩)) ∧ W.cell? ⟨mk, 5, none⟩ = some (.int .i64 C.cur)) (exact ⟨z1, z5⟩)
    ((go_at_call 206; refine (Hn.out _ ⟨1, rfl⟩ C.cur (by omega)).mono ?_; rintro e w' ⟨⟨x, ok, rfl, hnx⟩, rfl⟩; have HNX := Lib.hid hnx; clear hnx))
  obtain ⟨w1, Hw1⟩ : ∃ w1, Hid (w.drewN 1 = w1) := ⟨_, rfl⟩
  rw [Hw1.out]
  have Hn1 := Lib.hid (Hn.out w1 ⟨1, Hw1.out.symm⟩)
  have Hh1 := Lib.hid (Hh.out w1 ⟨1, Hw1.out.symm⟩)
  have Hq : Hid (∃ q, w1 = w.drewN q) := ⟨1, Hw1.out.symm⟩
  have z1' : w1.cell? ⟨mk, 1, none⟩ = some (.pointer (some ⟨m1, 0, none⟩)) := by rw [← Hw1.out]; exact z1
  have z2' : w1.cell? ⟨mk, 2, none⟩ = some (.pointer (some ⟨m2, 0, none⟩)) := by rw [← Hw1.out]; exact HX.out.b.cell 2
  clear z1 z5 Hw1 Hn Hh hd1
  go_wp2_with fail
  go_loopw [4, 5] (fun v4 v5 wr => ∃ (x a' : Nat) (ok : Bool), v4 = .int .i64 x ∧ v5 = .bool ok ∧ NextS C.mkd a' x ok ∧ C.cur ≤ a' ∧ (∀ j, C.cur ≤ j → j < a' → C.mkd j = true → C.sc j = true) ∧ wr = w1) (fun v4 v5 _ => match v5 with | .bool true => N + 1 - (intOf v4).toNat | _ => 0)
  case atStart => exact ⟨x, C.cur, ok, rfl, rfl, HNX.out, Nat.le_refl _, fun j h1 h2 => by omega, rfl⟩
  case round =>
    clear HNX
    obtain ⟨x, a', ok, rfl, rfl, hnx, hca, hpre, rfl⟩ := hrel
    have Hpre := Lib.hid hpre
    clear hpre
    rcases hnx with ⟨rfl, hax, hmx, hno⟩ | ⟨rfl, rfl, hno⟩
    · have Hno := Lib.hid hno
      clear hno
      have hxN := Hm.out x hmx
      cases hsc : C.sc x with
      | true =>
        have Hc := Lib.hid (Hh1.out x (by omega))
        rw [hsc] at Hc
        have hsx := Lib.hid hsc
        have hmx2 := Lib.hid hmx
        clear hsc hmx
        go_wp2_with omega
        refine Hc.out.mono ?_
        rintro e w2 ⟨rfl, rfl⟩
        go_wp2_with omega
        refine (Hn1.out (x + 1) (by omega)).mono ?_
        rintro e w2 ⟨⟨x2, ok2, rfl, hnx2⟩, rfl⟩
        have HN2 : Hid (NextS C.mkd (x + 1) x2 ok2 ∧ C.cur ≤ x + 1 ∧ ∀ j, C.cur ≤ j → j < x + 1 → C.mkd j = true → C.sc j = true) := ⟨hnx2, by omega, fun j h1 h2 h3 => by
          by_cases hj : j < a'
          · exact Hpre.out j h1 hj h3
          · by_cases hj2 : j < x
            · rw [Hno.out j (by omega) hj2] at h3; cases h3
            · have : j = x := by omega
              rw [this]; exact hsx.out⟩
        have HM : Hid ((match Value.bool ok2 with | .bool true => N + 1 - (intOf (.int .i64 (x2 : Int))).toNat | _ => 0) < N + 1 - x) := by
          show _ < _
          rcases hnx2 with ⟨rfl, h1, _⟩ | ⟨rfl, _⟩
          · simp [intOf]; omega
          · simp only []; omega
        clear hnx2
        go_wp2_with omega
        exact ⟨⟨x2, x + 1, ok2, rfl, rfl, HN2.out.1, HN2.out.2.1, HN2.out.2.2, trivial⟩, by
          have := HM.out
          simpa [intOf] using this⟩
      | false =>
        have Hc := Lib.hid (Hh1.out x (by omega))
        rw [hsc] at Hc
        have HG : Hid (GreyAt C x) := ⟨by omega, hmx, hsc, fun j h1 h2 h3 => by
          by_cases hj : j < a'
          · exact Hpre.out j h1 hj h3
          · rw [Hno.out j (by omega) h2] at h3; cases h3⟩
        clear hsc hmx
        go_wp2_with omega
        refine Hc.out.mono ?_
        rintro e w2 ⟨rfl, rfl⟩
        go_wp2_with omega
        go_ret2
        exact ⟨.inl ⟨x, rfl, HG.out⟩, Hq.out⟩
    · have HG : Hid (GreyNo C) := fun j h1 h2 => by
        by_cases hj : j < a'
        · exact Hpre.out j h1 hj h2
        · rw [hno j (by omega)] at h2; cases h2
      clear hno
      go_wp2_with omega
      go_ret2
      exact ⟨.inr ⟨rfl, HG.out⟩, Hq.out⟩
/-- A step of the marker. -/
def StepR (C : CS) (r : Bool) (C' : CS) : Prop :=
  (∃ l x, C.stk = l ++ [x] ∧ C.mkd x = true ∧ C.sc x = false ∧ r = true ∧ C' = { C with stk := l, sc := addS C.sc x }) ∨
  (C.stk = [] ∧ ∃ x, GreyAt C x ∧ r = true ∧ C' = { C with cur := x + 1, sc := addS C.sc x }) ∨
  (C.stk = [] ∧ GreyNo C ∧ C.again = true ∧ r = true ∧ C' = { C with again := false, cur := 0 }) ∨
  (C.stk = [] ∧ GreyNo C ∧ C.again = false ∧ r = false ∧ C' = C)
set_option maxRecDepth 100000 in
set_option maxHeartbeats 2000000 in
theorem mstep_any (B : Nat) (b : DB) (m : Nat) (s : DS) (col : Nat → Nat) (mk ap m1 m2 sk cap dd : Nat) (A : Option Addr) (S : AS) (C : CS) (w : World) (hD : Dev B w b m s) (hdv : ∀ k, b.has k → col k = 0) (hA : AllocR w col ap b.d S) (h : MarkX w col mk ap S.K m1 m2 sk A cap C)
    (hK0 : 0 < S.K) (hK : S.K ≤ 150) (hm : m ≤ 10000) (ho : ∀ x, C.mkd x = true → ObjAt s m x 0 dd) (hc : C.cur ≤ 512 * S.K) (hst : ∀ x ∈ C.stk, C.mkd x = true ∧ C.sc x = false) (hl : C.stk.length ≤ 100000) :
    Calls Tryz.prog 152 #[.pointer (some ⟨mk, 0, none⟩)] w fun e w' => ∃ r C', e = .returned (.bool r) ∧ StepR C r C' ∧ MarkX w' col mk ap S.K m1 m2 sk A cap C' ∧ Mod w w' (fun k => mfp col mk sk k) := by
  have HX := Lib.hid h
  have HA := Lib.hid hA
  have HD := Lib.hid hD
  have HO := Lib.hid ho
  have Hlt : Hid (∀ x, C.mkd x = true → x < 64 * (8 * S.K)) := fun j hj => by
    by_cases e : j < 64 * (8 * S.K)
    · exact e
    · have := h.m.out j (by omega); rw [this] at hj; cases hj
  have z3 : w.cell? ⟨mk, 3, none⟩ = some (.pointer (some ⟨sk, 0, none⟩)) := h.b.cell 3
  clear h hA hD ho
  rcases List.eq_nil_or_concat C.stk with hs | ⟨l, x, hs⟩
  · have hS0 : StkX w sk A cap [] C.most C.missed := by have := HX.out.stk; rw [hs] at this; exact this
    have Hp := Lib.hid (spop_none sk cap C.most C.missed A w hS0)
    have Hg := Lib.hid (mgrey_any col mk ap S.K m1 m2 sk cap A C w HX.out hK0 hK hc)
    have Hs := Lib.hid hs
    clear hS0 hs hst hl
    go_enter Tryz.func152, Tryz.ntmps152
    go_wp2_with fail
    refine wp_loop_rounds 1 ?_
    rw [rounds_succ]
    go_wp2_with fail
    refine Hp.out.mono ?_
    rintro e w1 ⟨rfl, rfl⟩
    go_wp2_with fail
    refine Hg.out.mono ?_
    rintro e w1 ⟨hr, q, hw1⟩
    have HX1 := Lib.hid (HX.out.below (hw1 ▸ below_drewN (Below.refl _ _) q : Below w.heap.size w w1))
    have HA1 := Lib.hid (HA.out.below (hw1 ▸ below_drewN (Below.refl _ _) q : Below w.heap.size w w1) (Nat.le_refl _))
    have HD1 := Lib.hid (HD.out.below (hw1 ▸ below_drewN (Below.refl _ _) q : Below w.heap.size w w1) (Nat.le_refl _))
    have HM1 : Hid (Mod w w1 (fun k => mfp col mk sk k)) := by rw [hw1]; exact (Mod.refl w _).drewN q
    clear hw1 z3 Hg Hp HX HA HD
    have z4 : w1.cell? ⟨mk, 4, none⟩ = some (.bool C.again) := HX1.out.b.cell 4
    have z5 : w1.cell? ⟨mk, 5, none⟩ = some (.int .i64 C.cur) := HX1.out.b.cell 5
    have zf := HX1.out.b.frozen
    rcases hr with ⟨x, rfl, hG⟩ | ⟨rfl, hG⟩
    · have HG := Lib.hid hG
      have hx := Hlt.out x hG.2.1
      clear hG
      go_wp2_with fail
      have hne : mk ≠ sk := fun e => by
        have h1 := HX1.out.b
        rw [e] at h1
        have h2 := HX1.out.s
        unfold Blk at h1 h2
        rw [h1] at h2
        simp at h2
      have hq := HX1.out.curS (x + 1)
      rw [show ((x + 1 : Nat) : Int) = (x : Int) + 1 by omega] at hq
      have HX2 := Lib.hid hq.1
      have HM2 : Hid (Mod w (w1.setCell ⟨mk, 5, none⟩ (.int .i64 ((x : Int) + 1))) (fun k => mfp col mk sk k)) := HM1.out.trans hq.2 (fun k _ e => .inl e)
      have HA2 := Lib.hid (HA1.out.mod hq.2 (fun k hk e => by have := HX1.out.cb; rw [← e] at this; omega))
      have HD2 := Lib.hid (HD1.out.mod hq.2 (fun k hk e => by have := HX1.out.cb; rw [← e, hdv k hk] at this; omega))
      clear hq HX1 HA1 HD1 HM1 z4 z5 zf
      generalize w1.setCell ⟨mk, 5, none⟩ (.int .i64 ((x : Int) + 1)) = w2 at *
      refine (mscan_any B b m s col mk ap m1 m2 sk cap x dd A S _ w2 HD2.out hdv HA2.out HX2.out hK hm (HO.out x HG.out.2.1) hx).mono ?_
      rintro e w3 ⟨⟨v3, rfl⟩, hX3, hM3⟩
      have HX3 := Lib.hid hX3
      have HM3 : Hid (Mod w w3 (fun k => mfp col mk sk k)) := HM2.out.trans hM3 (fun k _ e => e)
      clear hX3 hM3
      go_wp2_with fail
      go_ret
      exact ⟨true, _, rfl, .inr (.inl ⟨Hs.out, x, HG.out, rfl, rfl⟩), HX3.out, HM3.out⟩
    · have HG := Lib.hid hG
      clear hG
      cases hag : C.again with
      | true =>
        rw [hag] at z4
        have Hag := Lib.hid hag
        clear hag
        go_wp2_with fail
        go_ret
        obtain ⟨q1, q2⟩ := HX1.out.againS false
        obtain ⟨q3, q4⟩ := q1.curS 0
        exact ⟨true, _, rfl, .inr (.inr (.inl ⟨Hs.out, HG.out, Hag.out, rfl, rfl⟩)), q3, (HM1.out.trans q2 (fun k _ e => .inl e)).trans q4 (fun k _ e => .inl e)⟩
      | false =>
        rw [hag] at z4
        have Hag := Lib.hid hag
        clear hag
        go_wp2_with fail
        go_ret
        exact ⟨false, C, rfl, .inr (.inr (.inr ⟨Hs.out, HG.out, Hag.out, rfl, rfl⟩)), HX1.out, HM1.out⟩
  · rw [List.concat_eq_append] at hs
    have hS0 : StkX w sk A cap (l ++ [x]) C.most C.missed := by have := HX.out.stk; rw [hs] at this; exact this
    have hgx := hst x (by rw [hs]; exact List.mem_append_right _ List.mem_cons_self)
    have Hgx := Lib.hid hgx
    have hl2 : l.length ≤ 100000 := by rw [hs, List.length_append] at hl; simp at hl; omega
    have Hp := Lib.hid (spop_any sk cap C.most C.missed x A l w hS0 hl2)
    have Hs := Lib.hid hs
    clear hS0 hs hst hl hl2 hgx
    go_enter Tryz.func152, Tryz.ntmps152
    go_wp2_with fail
    refine wp_loop_rounds 1 ?_
    rw [rounds_succ]
    go_wp2_with fail
    refine Hp.out.mono ?_
    rintro e w1 ⟨rfl, hS1, hM1⟩
    have HX1 := Lib.hid (HX.out.stkM hM1 hS1)
    have HA1 := Lib.hid (HA.out.mod hM1 (fun k hk e => by have := HX.out.cs; rw [← e] at this; omega))
    have HD1 := Lib.hid (HD.out.mod hM1 (fun k hk e => by have := HX.out.cs; rw [← e, hdv k hk] at this; omega))
    have HM1 : Hid (Mod w w1 (fun k => mfp col mk sk k)) := hM1.mono (fun k _ e => .inr (.inl e))
    have hx := Hlt.out x Hgx.out.1
    clear hS1 hM1 Hp z3 HX HA HD
    have Hco := Lib.hid (colour_any col mk ap S.K m1 m2 sk cap x A _ w1 HX1.out hK (by omega))
    rw [show (if ({ C with stk := l, missed := C.missed } : CS).sc x = true then (2 : Int) else if ({ C with stk := l, missed := C.missed } : CS).mkd x = true then 1 else 0) = 1 by
      have h1 := Hgx.out.1
      have h2 := Hgx.out.2
      show (if C.sc x = true then (2 : Int) else if C.mkd x = true then 1 else 0) = 1
      rw [h1, h2]; rfl] at Hco
    go_wp2_with fail
    refine Hco.out.mono ?_
    rintro e w2 ⟨rfl, rfl⟩
    go_wp2_with fail
    refine (mscan_any B b m s col mk ap m1 m2 sk cap x dd A S _ w1 HD1.out hdv HA1.out HX1.out hK hm (HO.out x Hgx.out.1) hx).mono ?_
    rintro e w3 ⟨⟨v3, rfl⟩, hX3, hM3⟩
    have HX3 := Lib.hid hX3
    have HM3 : Hid (Mod w w3 (fun k => mfp col mk sk k)) := HM1.out.trans hM3 (fun k _ e => e)
    clear hX3 hM3
    go_wp2_with fail
    go_ret
    exact ⟨true, _, rfl, .inl ⟨l, x, Hs.out, Hgx.out.1, Hgx.out.2, rfl, rfl⟩, HX3.out, HM3.out⟩
end Go.Proofs.YtcnjipicifkfjaaGreat

/- hold: Reset, List. -/
namespace Go.Proofs.YtcnjipicifkfjaaGreat
open Go.RowKit
set_option linter.unusedVariables false
set_option linter.unusedSimpArgs false

/-- What a set of held objects is behind Add of the first k of a list. -/
def resetM (used : Nat → Bool) (nx : Nat → Nat) (N : Nat) (l : List Nat) : Nat → (Nat → Bool)
  | 0 => fun _ => false
  | k + 1 => addM used nx N (resetM used nx N l k) (l.getD k 0)
set_option maxRecDepth 100000 in
set_option maxHeartbeats 2000000 in
theorem hreset_any (B : Nat) (b : DB) (m : Nat) (s : DS) (F : Nat → Prop) (col : Nat → Nat) (hl ap p n cap : Nat) (A : Option Addr) (l : List Nat) (S : AS) (st : Nat → Bool) (w : World) (h : Dev B w b m s) (hA : AllocR w col ap b.d S) (hH : HeldR w F hl ap S.K st)
    (hd : ∀ k, b.has k → col k = 0) (hF : ∀ k, F k → 4 ≤ col k ∧ col k ≠ 8) (hFw : ∀ k, F k → k < w.heap.size) (ho : OB s m S.used p) (h0 : S.used 0 = false) (hm : m = S.K * 64) (hK0 : 0 < S.K) (hK : S.K ≤ 150)
    (hr : Rd w 1 A n (ncells l)) (hn : n ≤ 100000) (hA2 : ∀ a, A = some a → ¬ F a.block) (hl2 : ∀ j, l.getD j 0 ≤ 1099511627776) :
    Calls Tryz.prog 46 #[.pointer (some ⟨hl, 0, none⟩), .slice A n cap] w fun e w' => (∃ v, e = .returned v) ∧ HeldR w' F hl ap S.K (resetM S.used (nx s p) (512 * S.K + 1) l n) ∧ Mod w w' F := by
  have hln : l.length = n := by have := hr.1; rw [ncells_len] at this; omega
  have Hln := Lib.hid hln
  have HRd : Hid (∀ wr, Mod w wr F → Rd wr 1 A n (ncells l)) := fun wr hM => hr.mod hM hA2
  have HD : Hid (∀ wr, Mod w wr F → Dev B wr b m s) := fun wr hM => h.mod hM (fun k h1 h2 => by have := hd k h1; have := (hF k h2).1; omega)
  have HA : Hid (∀ wr, Mod w wr F → AllocR wr col ap b.d S) := fun wr hM => hA.mod hM (fun k h1 h2 => by have := hF k h2; omega)
  have Had : Hid (∀ (a : Nat) st wr, Mod w wr F → HeldR wr F hl ap S.K st → a ≤ 1099511627776 → Calls Tryz.prog 79 #[.pointer (some ⟨hl, 0, none⟩), .int .i64 a] wr fun e w' => (∃ v, e = .returned v) ∧ HeldR w' F hl ap S.K (addM S.used (nx s p) (512 * S.K + 1) st a) ∧ Mod wr w' F) :=
    fun a st wr hM hH ha => hadd_any B b m s F col hl ap p a S st wr (HD.out wr hM) (HA.out wr hM) hH hd hF (fun k hk => Nat.lt_of_lt_of_le (hFw k hk) hM.size) ho h0 hm hK ha
  obtain ⟨hp, hb, hS, hf⟩ := hH
  have Hcl := Lib.hid (bclear_any F hp (8 * S.K) st w hS (by omega) (by omega))
  have Hb := Lib.hid (fun w' hM => hb.lt |> fun _ => (Mod.blk (w' := w') hM hb hf))
  have Hf := Lib.hid hf
  have c1 : w.cell? ⟨hl, 1, none⟩ = some (.pointer (some ⟨hp, 0, none⟩)) := hb.cell 1
  have Hl2 := Lib.hid hl2
  clear h hA hd hF ho h0 hm hK0 hr hA2 hl2 hln hb hS hf hFw
  generalize nx s p = nxf at *
  generalize 512 * S.K + 1 = N at *
  go_enter Tryz.func46, Tryz.ntmps46
  go_wp2_with fail
  refine Hcl.out.mono ?_
  rintro e w1 ⟨⟨v, rfl⟩, hS1, hM1⟩
  have HH1 : Hid (HeldR w1 F hl ap S.K (resetM S.used nxf N l 0)) := ⟨hp, Hb.out _ hM1, hS1, Hf.out⟩
  have HM1 := Lib.hid hM1
  clear hS1 hM1 Hcl c1
  go_wp2_with fail
  go_loopw [13] (fun v13 wr => ∃ k : Nat, v13 = .int .i64 k ∧ k ≤ n ∧ Mod w wr F ∧ HeldR wr F hl ap S.K (resetM S.used nxf N l k)) (fun v13 _ => n - (intOf v13).toNat)
  case atStart => exact ⟨0, rfl, Nat.zero_le _, HM1.out, HH1.out⟩
  case round =>
    clear HM1 HH1
    obtain ⟨k, rfl, hk, hM, hH⟩ := hrel
    have HM := Lib.hid hM
    have HH := Lib.hid hH
    clear hM hH
    by_cases hlt : k < n
    · obtain ⟨g, off, rfl, hg, hc⟩ := (HRd.out wr HM.out).2 (by omega)
      have y0 : wr.cell? ⟨g, off + k, none⟩ = some (.int .i64 (l.getD k 0 : Nat)) := hc k _ (ncells_at l k (by rw [Hln.out]; exact hlt))
      have HC := Lib.hid (Had.out _ _ _ HM.out HH.out (Hl2.out k))
      have HE : Hid (resetM S.used nxf N l (k + 1) = addM S.used nxf N (resetM S.used nxf N l k) (l.getD k 0)) := rfl
      rw [← HE.out] at HC
      generalize l.getD k 0 = x at *
      clear hc
      go_wp2_with fail
      refine HC.out.mono ?_
      rintro e w2 ⟨⟨v2, rfl⟩, hH2, hM2⟩
      have HH2 := Lib.hid hH2
      have HM2 := Lib.hid (HM.out.trans hM2 (fun k _ h => h))
      clear hH2 hM2 HC HH HM
      go_wp2_with fail
      exact ⟨⟨k + 1, by go_num, by omega, HM2.out, HH2.out⟩, by simp [intOf]; omega⟩
    · obtain rfl : k = n := by omega
      go_wp2_with fail
      first
        | go_end0
        | skip
      exact ⟨⟨_, rfl⟩, HH.out, HM.out⟩
theorem hlist_any (F : Nat → Prop) (hl ap K : Nat) (st : Nat → Bool) (w : World) (h : HeldR w F hl ap K st) (hK0 : 0 < K) (hK : K ≤ 150) :
    Calls Tryz.prog 66 #[.pointer (some ⟨hl, 0, none⟩)] w fun e w' => ∃ A cap, e = .returned (.slice A (setL st (8 * K)).length cap) ∧ Own w' w.heap.size 3 1 A (setL st (8 * K)).length cap (ncells (setL st (8 * K))) ∧ Below w.heap.size w w' := by
  obtain ⟨hp, hb, hS, hf⟩ := h
  have c1 : w.cell? ⟨hl, 1, none⟩ = some (.pointer (some ⟨hp, 0, none⟩)) := hb.cell 1
  have Hh := Lib.hid (blist_any F hp (8 * K) st w hS (by omega) (by omega))
  clear hb hS hf
  generalize setL st (8 * K) = L at *
  go_enter Tryz.func66, Tryz.ntmps66
  go_wp2_with fail
  refine Hh.out.mono ?_
  rintro e w1 ⟨A, cap, rfl, hO, hB⟩
  have HO := Lib.hid hO
  have HB := Lib.hid hB
  clear hO hB
  go_wp2_with fail
  go_ret
  exact ⟨A, cap, rfl, HO.out, HB.out⟩
end Go.Proofs.YtcnjipicifkfjaaGreat

/- roots.read. -/
namespace Go.Proofs.YtcnjipicifkfjaaGreat
open Go.RowKit
set_option linter.unusedVariables false
set_option linter.unusedSimpArgs false

/-- A slot's words, of a device. -/
def slotOf (s : DS) (i : Nat) : List Nat := copyS (fun j => s.C.getD (64 + i * 64 + j) 0) 16 16
set_option maxRecDepth 100000 in
set_option maxHeartbeats 2000000 in
theorem rread_any (B : Nat) (b : DB) (m : Nat) (s : DS) (i : Nat) (w : World) (h : Dev B w b m s) (hi : i < 2) (hm0 : 64 ≤ m) (hm : m ≤ 100000) :
    Calls Tryz.prog 180 #[.pointer (some ⟨b.d, 0, none⟩), .int .i64 i] w fun e w' => e = .returned (.agg (wcells (slotOf s i)).toArray) ∧ Below w.heap.size w w' := by
  have HD := Lib.hid h
  clear h
  unfold slotOf
  obtain ⟨f, Hf⟩ : ∃ f : Nat → Nat, Hid ((fun j => s.C.getD (64 + i * 64 + j) 0) = f) := ⟨_, rfl⟩
  rw [Hf.out]
  have Hsl := Lib.hid (fun w => slotat_any i w hi)
  obtain ⟨a, Ha⟩ : ∃ a, Hid (64 + i * 64 = a) := ⟨_, rfl⟩
  have ha : a ≤ 200 := by rw [← Ha.out]; omega
  rw [Ha.out] at Hsl Hf
  have Hg : Hid (∀ w (k q : Nat), a + k = q → Dev B w b m s → k < 16 → Calls Tryz.prog 123 #[.pointer (some ⟨b.d, 0, none⟩), .int .i64 q] w fun e w' => e = .returned (.int .u64 (f k : Nat)) ∧ w = w') := fun w k q hq hd hk => by
    have := get_yes B b m s q w hd (by omega) hm
    rw [show s.C.getD q 0 = f k by rw [← Hf.out, ← hq]] at this
    exact this
  obtain ⟨n1, Hn1⟩ : ∃ n, Hid (w.heap.size = n) := ⟨_, rfl⟩
  obtain ⟨n2, Hn2⟩ : ∃ n, Hid (w.heap.size + 1 = n) := ⟨_, rfl⟩
  have h12 : ¬ n1 = n2 := by rw [← Hn1.out, ← Hn2.out]; omega
  have HB1 : Hid (Below w.heap.size w ((w.alloc (.cells (wcells (zerosN 16)).toArray 220)).alloc (.cells (wcells (zerosN 16)).toArray 220))) := (below_box w _).alloc (by simp) _
  have HR1 : Hid (Blk ((w.alloc (.cells (wcells (zerosN 16)).toArray 220)).alloc (.cells (wcells (zerosN 16)).toArray 220)) n1 220 (wcells (zerosN 16)).toArray) := by rw [← Hn1.out]; exact (Blk.new w 220 _).alloc _
  have HO1 : Hid (Blk ((w.alloc (.cells (wcells (zerosN 16)).toArray 220)).alloc (.cells (wcells (zerosN 16)).toArray 220)) n2 220 (wcells (zerosN 16)).toArray) := by
    rw [← Hn2.out]
    refine Lib.hid ?_
    have := Blk.new (w.alloc (.cells (wcells (zerosN 16)).toArray 220)) 220 (wcells (zerosN 16)).toArray
    simpa using this
  go_enter Tryz.func180, Tryz.ntmps180
  go_wp2_with fail
  rw [Hn2.out, Hn1.out]
  have hw : (w.alloc (.cells #[.int .u64 0, .int .u64 0, .int .u64 0, .int .u64 0, .int .u64 0, .int .u64 0, .int .u64 0, .int .u64 0, .int .u64 0, .int .u64 0, .int .u64 0, .int .u64 0, .int .u64 0, .int .u64 0, .int .u64 0, .int .u64 0] 220)).alloc (.cells #[.int .u64 0, .int .u64 0, .int .u64 0, .int .u64 0, .int .u64 0, .int .u64 0, .int .u64 0, .int .u64 0, .int .u64 0, .int .u64 0, .int .u64 0, .int .u64 0, .int .u64 0, .int .u64 0, .int .u64 0, .int .u64 0] 220) = ((w.alloc (.cells (wcells (zerosN 16)).toArray 220)).alloc (.cells (wcells (zerosN 16)).toArray 220)) := rfl
  rw [hw]
  clear hw
  generalize ((w.alloc (.cells (wcells (zerosN 16)).toArray 220)).alloc (.cells (wcells (zerosN 16)).toArray 220)) = w1 at *
  go_loopw [7] (fun v7 wr => ∃ k : Nat, v7 = .int .i64 k ∧ k ≤ 16 ∧ Below w.heap.size w wr ∧ Blk wr n1 220 (wcells (zerosN 16)).toArray ∧ Blk wr n2 220 (wcells (copyS f 16 k)).toArray) (fun v7 _ => 16 - (intOf v7).toNat)
  case atStart => exact ⟨0, rfl, Nat.zero_le _, HB1.out, HR1.out, HO1.out⟩
  case round =>
    clear HB1 HR1 HO1
    obtain ⟨k, rfl, hk, hB, hR, hO⟩ := hrel
    have HB := Lib.hid hB
    have HR := Lib.hid hR
    have HO := Lib.hid hO
    clear hB hR hO
    have hl := copyS_len f 16 k
    by_cases hk8 : k < 16
    · have HS : Hid (copyS f 16 (k + 1) = (copyS f 16 k).set k (f k)) := rfl
      have y0 := HO.out.word k (by omega)
      have y1 := HO.out.frozen k
      obtain ⟨q, Hq⟩ : ∃ q, Hid (a + k = q) := ⟨_, rfl⟩
      have hak : (a : Int) + (k : Int) = (q : Int) := by rw [← Hq.out]; omega
      have hq : q ≤ 1000 := by rw [← Hq.out]; omega
      go_wp2_with (first
        | (go_at_call 169; refine (Hsl.out _).mono ?_; rintro e w4 ⟨rfl, rfl⟩)
        | (go_at_call 123; refine (Hg.out _ k q Hq.out (HD.out.below HB.out (Nat.le_refl _)) hk8).mono ?_; rintro e w4 ⟨rfl, rfl⟩))
      have hn2 : w.heap.size ≤ n2 := by rw [← Hn2.out]; omega
      exact ⟨⟨k + 1, by go_num, by omega, HB.out.setCell (p := ⟨n2, k, none⟩) hn2 _, HR.out.far (p := ⟨n2, k, none⟩) h12 _, by rw [HS.out]; exact HO.out.setw k (f k)⟩, by simp [intOf]; omega⟩
    · obtain rfl : k = 16 := by omega
      have hsz : (Tryz.prog.info? 220).map (·.size) = some (wcells (copyS f 16 16)).toArray.size := by rw [size220]; simp [wcells_len, hl]
      have hn1 : w.heap.size ≤ n1 := by rw [← Hn1.out]; exact Nat.le_refl _
      go_wp2_with (first
        | (refine wpList_load_row rfl 220 (.tmp 5) rfl n2 rfl 220 _ (0, 0) _ HO.out Tryz.underlying220 rfl hsz ?_)
        | (refine wpList_store_row rfl (.tmp 4) (.tmp 19) rfl rfl rfl HR.out hsz (by simp [wcells_len, hl, zerosN]) (by simpa using wcells_one) ?_))
      intro w2 hB2 hM2
      have HB2 := Lib.hid hB2
      have HG2 := Lib.hid (Below.mod HB.out hM2 HB.out.size (fun k _ e => by omega))
      clear hB2 hM2
      go_wp2_with fail
      refine bodyPost_ret (results_cell_row rfl _ _ n1 220 _ _ _ rfl HB2.out Tryz.underlying220 rfl hsz) rfl ?_
      exact ⟨rfl, HG2.out⟩
end Go.Proofs.YtcnjipicifkfjaaGreat
