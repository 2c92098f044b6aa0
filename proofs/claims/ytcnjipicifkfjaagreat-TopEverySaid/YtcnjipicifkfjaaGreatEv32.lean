/- roots: Commit. -/
import Derived.Test.YtcnjipicifkfjaaGreatEv31
import Derived.Test.YtcnjipicifkfjaaGreatEv14
import Derived.Test.YtcnjipicifkfjaaGreatEv30

namespace Go.Proofs.YtcnjipicifkfjaaGreat
open Go.RowKit
set_option linter.unusedVariables false
set_option linter.unusedSimpArgs false

theorem doOnce {P0 G : Prop} (h : P0 → G) (p : P0) : G := h p
set_option maxRecDepth 100000 in
set_option maxHeartbeats 2000000 in
theorem commit_any (B : Nat) (b : DB) (m : Nat) (s : DS) (F : Nat → Prop) (rt ep wh : Nat) (rs ws : List Nat) (w : World) (h : Dev B w b m s) (hR : RootR w F rt b.d ep wh rs ws) (hD : ∀ k, F k → ¬ b.has k) (hwh : wh < 2) (hm0 : 64 ≤ m) (hm : m ≤ 100000)
    (h1 : s.C.getD (64 + (1 - wh) * 64) 0 ≤ ep) (h2 : s.C.getD (64 + (1 - wh) * 64 + 8) 0 ≤ ep) (hep : ep < 1000000) (hws : RootsOk ws) :
    Calls Tryz.prog 84 #[.pointer (some ⟨rt, 0, none⟩)] w fun e w' => e = .returned (.int .i64 (ecode (exec s (writeS (64 + (1 - wh) * 64) (slotEnc (ep + 1) ws))).2)) ∧ Dev B w' b m (exec s (writeS (64 + (1 - wh) * 64) (slotEnc (ep + 1) ws))).1 ∧
      RootR w' F rt b.d (if (exec s (writeS (64 + (1 - wh) * 64) (slotEnc (ep + 1) ws))).2 then ep + 1 else ep) (if (exec s (writeS (64 + (1 - wh) * 64) (slotEnc (ep + 1) ws))).2 then 1 - wh else wh) (if (exec s (writeS (64 + (1 - wh) * 64) (slotEnc (ep + 1) ws))).2 then ws else rs) ws ∧ Mod w w' (fun k => b.has k ∨ k = rt) := by
  have Hlt := Lib.hid h.lt
  have HDF : Hid (¬ b.has rt) := hD _ hR.2.2.2
  have HF : Hid (F rt) := hR.2.2.2
  obtain ⟨o, Ho⟩ : ∃ o, Hid (1 - wh = o) := ⟨_, rfl⟩
  have hwo : (1 : Int) - (wh : Int) = (o : Int) := by rw [← Ho.out]; omega
  rw [Ho.out] at h1 h2 ⊢
  have ho : o < 2 := by rw [← Ho.out]; omega
  have Hwi := Lib.hid (fun w (h : Dev B w b m s) (hR : RootR w F rt b.d ep wh rs ws) => wipe_any B b m s F rt ep wh o rs ws w h hR ho hm0 hm h1 h2)
  have Hwr := Lib.hid (fun w (h : Dev B w b m s) => rwrite_any B b m s o (ep + 1) ws w h ho hm0 hm hws (by omega) (by omega))
  obtain ⟨R, HR⟩ : ∃ R, Hid (exec s (writeS (64 + o * 64) (slotEnc (ep + 1) ws)) = R) := ⟨_, rfl⟩
  rw [HR.out] at Hwr ⊢
  obtain ⟨v1, Hv1⟩ : ∃ v, Hid ((if R.2 then ep + 1 else ep) = v) := ⟨_, rfl⟩
  obtain ⟨v2, Hv2⟩ : ∃ v, Hid ((if R.2 then o else wh) = v) := ⟨_, rfl⟩
  obtain ⟨v3, Hv3⟩ : ∃ v, Hid ((if R.2 then ws else rs) = v) := ⟨_, rfl⟩
  rw [Hv1.out, Hv2.out, Hv3.out]
  obtain ⟨r0, r1, r2, r3, r4, r5, r6, r7, rfl⟩ := eight ws hR.2.2.1
  obtain ⟨s0, s1, s2, s3, s4, s5, s6, s7, rfl⟩ := eight rs hR.2.1
  have HD := Lib.hid h
  have HRR := Lib.hid hR
  obtain ⟨p, Hp⟩ : ∃ p, Hid (ep + 1 = p) := ⟨_, rfl⟩
  rw [Hp.out] at Hwr
  have hp : p ≤ 1000000 := by rw [← Hp.out]; omega
  have hsc : scells p [r0, r1, r2, r3, r4, r5, r6, r7] = #[.int .u64 p, .int .i64 r0, .int .i64 r1, .int .i64 r2, .int .i64 r3, .int .i64 r4, .int .i64 r5, .int .i64 r6, .int .i64 r7] := rfl
  simp only [hsc] at Hwr
  have c0 : w.cell? ⟨rt, 0, none⟩ = some (.pointer (some ⟨b.d, 0, none⟩)) := hR.1.cell 0
  have c1 : w.cell? ⟨rt, 1, none⟩ = some (.int .u64 ep) := hR.1.cell 1
  have c10 : w.cell? ⟨rt, 10, none⟩ = some (.int .i64 wh) := hR.1.cell 10
  have c11 : w.cell? ⟨rt, 11, none⟩ = some (.int .i64 r0) := hR.1.cell 11
  have c12 : w.cell? ⟨rt, 12, none⟩ = some (.int .i64 r1) := hR.1.cell 12
  have c13 : w.cell? ⟨rt, 13, none⟩ = some (.int .i64 r2) := hR.1.cell 13
  have c14 : w.cell? ⟨rt, 14, none⟩ = some (.int .i64 r3) := hR.1.cell 14
  have c15 : w.cell? ⟨rt, 15, none⟩ = some (.int .i64 r4) := hR.1.cell 15
  have c16 : w.cell? ⟨rt, 16, none⟩ = some (.int .i64 r5) := hR.1.cell 16
  have c17 : w.cell? ⟨rt, 17, none⟩ = some (.int .i64 r6) := hR.1.cell 17
  have c18 : w.cell? ⟨rt, 18, none⟩ = some (.int .i64 r7) := hR.1.cell 18
  have d1 : (w.alloc (.cells #[.int .u64 0, .int .i64 0, .int .i64 0, .int .i64 0, .int .i64 0, .int .i64 0, .int .i64 0, .int .i64 0, .int .i64 0] 172)).cell? ⟨rt, 1, none⟩ = some (.int .u64 ep) := (hR.1.alloc _).cell 1
  have d11 : (w.alloc (.cells #[.int .u64 0, .int .i64 0, .int .i64 0, .int .i64 0, .int .i64 0, .int .i64 0, .int .i64 0, .int .i64 0, .int .i64 0] 172)).cell? ⟨rt, 11, none⟩ = some (.int .i64 r0) := (hR.1.alloc _).cell 11
  have d12 : (w.alloc (.cells #[.int .u64 0, .int .i64 0, .int .i64 0, .int .i64 0, .int .i64 0, .int .i64 0, .int .i64 0, .int .i64 0, .int .i64 0] 172)).cell? ⟨rt, 12, none⟩ = some (.int .i64 r1) := (hR.1.alloc _).cell 12
  have d13 : (w.alloc (.cells #[.int .u64 0, .int .i64 0, .int .i64 0, .int .i64 0, .int .i64 0, .int .i64 0, .int .i64 0, .int .i64 0, .int .i64 0] 172)).cell? ⟨rt, 13, none⟩ = some (.int .i64 r2) := (hR.1.alloc _).cell 13
  have d14 : (w.alloc (.cells #[.int .u64 0, .int .i64 0, .int .i64 0, .int .i64 0, .int .i64 0, .int .i64 0, .int .i64 0, .int .i64 0, .int .i64 0] 172)).cell? ⟨rt, 14, none⟩ = some (.int .i64 r3) := (hR.1.alloc _).cell 14
  have d15 : (w.alloc (.cells #[.int .u64 0, .int .i64 0, .int .i64 0, .int .i64 0, .int .i64 0, .int .i64 0, .int .i64 0, .int .i64 0, .int .i64 0] 172)).cell? ⟨rt, 15, none⟩ = some (.int .i64 r4) := (hR.1.alloc _).cell 15
  have d16 : (w.alloc (.cells #[.int .u64 0, .int .i64 0, .int .i64 0, .int .i64 0, .int .i64 0, .int .i64 0, .int .i64 0, .int .i64 0, .int .i64 0] 172)).cell? ⟨rt, 16, none⟩ = some (.int .i64 r5) := (hR.1.alloc _).cell 16
  have d17 : (w.alloc (.cells #[.int .u64 0, .int .i64 0, .int .i64 0, .int .i64 0, .int .i64 0, .int .i64 0, .int .i64 0, .int .i64 0, .int .i64 0] 172)).cell? ⟨rt, 17, none⟩ = some (.int .i64 r6) := (hR.1.alloc _).cell 17
  have d18 : (w.alloc (.cells #[.int .u64 0, .int .i64 0, .int .i64 0, .int .i64 0, .int .i64 0, .int .i64 0, .int .i64 0, .int .i64 0, .int .i64 0] 172)).cell? ⟨rt, 18, none⟩ = some (.int .i64 r7) := (hR.1.alloc _).cell 18
  have g1 : decide ((ep : Int) ≥ 1152921504606846976) = false := by rw [decide_eq_false_iff_not]; omega
  have g2 : decide (1152921504606846976 ≤ ep) = false := by rw [decide_eq_false_iff_not]; omega
  have w1 : IntKind.u64.wrap ((ep : Int) + 1) = (p : Int) := by rw [← Hp.out]; have := IntWalk.u64_in ((ep : Int) + 1) (by omega); rw [this]; omega
  have w1' : (ep : Int) + 1 = (p : Int) := by rw [← Hp.out]; omega
  have w2 : IntKind.i64.wrap ((1 : Int) - (wh : Int)) = (o : Int) := by rw [hwo]; exact IntWalk.i64_in _ (by omega)
  obtain ⟨n3, Hn3⟩ : ∃ n, Hid (w.heap.size = n) := ⟨_, rfl⟩
  have LA := Lib.hid ((Loc.nil Nob w).box 172 #[.int .u64 p, .int .i64 r0, .int .i64 r1, .int .i64 r2, .int .i64 r3, .int .i64 r4, .int .i64 r5, .int .i64 r6, .int .i64 r7] n3 Hn3.out)
  clear h hR hD hsc h1 h2 hws
  go_enter Tryz.func84, Tryz.ntmps84
  go_wp2_with fail
  refine doOnce (P0 := ?Pzz) ?hzz ?pzz
  case hzz =>
    intro hP
    go_region
    all_goals
      exact hP
  rw [Hn3.out]
  have LB := Lib.hid LA.out.drew
  clear LA c0 c1 c10 c11 c12 c13 c14 c15 c16 c17 c18 d1 d11 d12 d13 d14 d15 d16 d17 d18
  generalize (w.alloc _).drew = W at *
  have HRW := Lib.hid (HRR.out.below LB.out.below (Nat.le_refl _))
  have HDW := Lib.hid (HD.out.below LB.out.below (Nat.le_refl _))
  have c10 : W.cell? ⟨rt, 10, none⟩ = some (.int .i64 wh) := HRW.out.1.cell 10
  go_wp2_with fail
  refine (Hwi.out _ HDW.out HRW.out).mono ?_
  rintro e w5 ⟨rfl, hb5⟩
  have L5 := Lib.hid (LB.out.call hb5 (Nat.le_refl _))
  have HR5 := Lib.hid (HRW.out.below hb5 (Nat.le_refl _))
  have HD5 := Lib.hid (HDW.out.below hb5 (Nat.le_refl _))
  clear hb5 LB HRW HDW c10
  go_wp2_with fail
  have LC := Lib.hid ((L5.out.weak (S' := b.has) (fun _ _ h => h.elim)).drew)
  have HBR := Lib.hid (HR5.out.1)
  have HDC : Hid (Dev B w5.drew b m s) := HD5.out.drewN 1
  obtain ⟨RC, HRC⟩ : ∃ RC, Hid (rootsC b.d ep wh [s0, s1, s2, s3, s4, s5, s6, s7] [r0, r1, r2, r3, r4, r5, r6, r7] = RC) := ⟨_, rfl⟩
  have HB : Hid (Blk w5.drew rt 174 (rootsC b.d ep wh [s0, s1, s2, s3, s4, s5, s6, s7] [r0, r1, r2, r3, r4, r5, r6, r7])) := HBR.out
  go_region_held3 (fun w' => w'.cell? ⟨rt, 0, none⟩ = some (.pointer (some ⟨b.d, 0, none⟩)) ∧ w'.cell? ⟨n3, 0, none⟩ = some (.int .u64 p) ∧ w'.cell? ⟨n3, 1, none⟩ = some (.int .i64 r0) ∧ w'.cell? ⟨n3, 2, none⟩ = some (.int .i64 r1) ∧ w'.cell? ⟨n3, 3, none⟩ = some (.int .i64 r2) ∧ w'.cell? ⟨n3, 4, none⟩ = some (.int .i64 r3) ∧ w'.cell? ⟨n3, 5, none⟩ = some (.int .i64 r4) ∧ w'.cell? ⟨n3, 6, none⟩ = some (.int .i64 r5) ∧ w'.cell? ⟨n3, 7, none⟩ = some (.int .i64 r6) ∧ w'.cell? ⟨n3, 8, none⟩ = some (.int .i64 r7))
    (exact ⟨HB.out.cell 0, LC.out.b0.cell 0, LC.out.b0.cell 1, LC.out.b0.cell 2, LC.out.b0.cell 3, LC.out.b0.cell 4, LC.out.b0.cell 5, LC.out.b0.cell 6, LC.out.b0.cell 7, LC.out.b0.cell 8⟩)
    ((go_at_call 119; refine (Hwr.out _ HDC.out).mono ?_; rintro e w' ⟨rfl, hd6, hm6⟩; have HD6 := Lib.hid hd6; replace LC := Lib.hid (LC.out.eff hm6 (fun k hk => ⟨hk, (Hlt.out k hk).2⟩)); replace HB := Lib.hid (hm6.blk HB.out HDF.out); clear hd6 hm6))
  cases hR : R.2 with
  | false =>
    have hv1 : v1 = ep := by rw [← Hv1.out, hR]; rfl
    have hv2 : v2 = wh := by rw [← Hv2.out, hR]; rfl
    have hv3 : v3 = [s0, s1, s2, s3, s4, s5, s6, s7] := by rw [← Hv3.out, hR]; rfl
    rw [show ecode false = 3 from rfl]
    go_wp2_with fail
    refine bodyPost_ret (results_tmp rfl _ _ _) rfl ?_
    rw [hv1, hv2, hv3, hR]
    exact ⟨rfl, HD6.out, ⟨HB.out, rfl, rfl, HF.out⟩, LC.out.be.mono (fun _ _ h => .inl h)⟩
  | true =>
    have hv1 : v1 = p := by rw [← Hv1.out, hR]; exact Hp.out
    have hv2 : v2 = o := by rw [← Hv2.out, hR]; rfl
    have hv3 : v3 = [r0, r1, r2, r3, r4, r5, r6, r7] := by rw [← Hv3.out, hR]; rfl
    have e1 : w'.cell? ⟨rt, 1, none⟩ = some (.int .u64 ep) := HB.out.cell 1
    have f1 := HB.out.frozen 1
    have e2 : w'.cell? ⟨rt, 2, none⟩ = some (.int .i64 s0) := HB.out.cell 2
    have f2 := HB.out.frozen 2
    have e3 : w'.cell? ⟨rt, 3, none⟩ = some (.int .i64 s1) := HB.out.cell 3
    have f3 := HB.out.frozen 3
    have e4 : w'.cell? ⟨rt, 4, none⟩ = some (.int .i64 s2) := HB.out.cell 4
    have f4 := HB.out.frozen 4
    have e5 : w'.cell? ⟨rt, 5, none⟩ = some (.int .i64 s3) := HB.out.cell 5
    have f5 := HB.out.frozen 5
    have e6 : w'.cell? ⟨rt, 6, none⟩ = some (.int .i64 s4) := HB.out.cell 6
    have f6 := HB.out.frozen 6
    have e7 : w'.cell? ⟨rt, 7, none⟩ = some (.int .i64 s5) := HB.out.cell 7
    have f7 := HB.out.frozen 7
    have e8 : w'.cell? ⟨rt, 8, none⟩ = some (.int .i64 s6) := HB.out.cell 8
    have f8 := HB.out.frozen 8
    have e9 : w'.cell? ⟨rt, 9, none⟩ = some (.int .i64 s7) := HB.out.cell 9
    have f9 := HB.out.frozen 9
    have e10 : w'.cell? ⟨rt, 10, none⟩ = some (.int .i64 wh) := HB.out.cell 10
    have f10 := HB.out.frozen 10
    have y0 : w'.cell? ⟨n3, 0, none⟩ = some (.int .u64 p) := LC.out.b0.cell 0
    have y1 : w'.cell? ⟨n3, 1, none⟩ = some (.int .i64 r0) := LC.out.b0.cell 1
    have y2 : w'.cell? ⟨n3, 2, none⟩ = some (.int .i64 r1) := LC.out.b0.cell 2
    have y3 : w'.cell? ⟨n3, 3, none⟩ = some (.int .i64 r2) := LC.out.b0.cell 3
    have y4 : w'.cell? ⟨n3, 4, none⟩ = some (.int .i64 r3) := LC.out.b0.cell 4
    have y5 : w'.cell? ⟨n3, 5, none⟩ = some (.int .i64 r4) := LC.out.b0.cell 5
    have y6 : w'.cell? ⟨n3, 6, none⟩ = some (.int .i64 r5) := LC.out.b0.cell 6
    have y7 : w'.cell? ⟨n3, 7, none⟩ = some (.int .i64 r6) := LC.out.b0.cell 7
    have y8 : w'.cell? ⟨n3, 8, none⟩ = some (.int .i64 r7) := LC.out.b0.cell 8
    rw [show ecode true = 0 from rfl]
    go_wp2_with fail
    have hM := (Mod.set (p := ⟨rt, 10, none⟩) (Mod.set (p := ⟨rt, 9, none⟩) (Mod.set (p := ⟨rt, 8, none⟩) (Mod.set (p := ⟨rt, 7, none⟩) (Mod.set (p := ⟨rt, 6, none⟩) (Mod.set (p := ⟨rt, 5, none⟩) (Mod.set (p := ⟨rt, 4, none⟩) (Mod.set (p := ⟨rt, 3, none⟩) (Mod.set (p := ⟨rt, 2, none⟩) (Mod.set (p := ⟨rt, 1, none⟩) (Mod.refl w' (fun k => k = rt)) (.inr rfl) (.int .u64 p)) (.inr rfl) (.int .i64 r0)) (.inr rfl) (.int .i64 r1)) (.inr rfl) (.int .i64 r2)) (.inr rfl) (.int .i64 r3)) (.inr rfl) (.int .i64 r4)) (.inr rfl) (.int .i64 r5)) (.inr rfl) (.int .i64 r6)) (.inr rfl) (.int .i64 r7)) (.inr rfl) (.int .i64 o))
    have hB := ((((((((((HB.out.set_ 1 (.int .u64 p)).set_ 2 (.int .i64 r0)).set_ 3 (.int .i64 r1)).set_ 4 (.int .i64 r2)).set_ 5 (.int .i64 r3)).set_ 6 (.int .i64 r4)).set_ 7 (.int .i64 r5)).set_ 8 (.int .i64 r6)).set_ 9 (.int .i64 r7)).set_ 10 (.int .i64 o))
    have HE : Hid (((((((((((rootsC b.d ep wh [s0, s1, s2, s3, s4, s5, s6, s7] [r0, r1, r2, r3, r4, r5, r6, r7]).setIfInBounds 1 (.int .u64 p)).setIfInBounds 2 (.int .i64 r0)).setIfInBounds 3 (.int .i64 r1)).setIfInBounds 4 (.int .i64 r2)).setIfInBounds 5 (.int .i64 r3)).setIfInBounds 6 (.int .i64 r4)).setIfInBounds 7 (.int .i64 r5)).setIfInBounds 8 (.int .i64 r6)).setIfInBounds 9 (.int .i64 r7)).setIfInBounds 10 (.int .i64 o) =
        rootsC b.d p o [r0, r1, r2, r3, r4, r5, r6, r7] [r0, r1, r2, r3, r4, r5, r6, r7]) := by
      show _ = _
      simp only [rootsC, ncells, List.map_cons, List.map_nil, List.cons_append, List.nil_append, List.setIfInBounds_toArray, List.set_cons_succ, List.set_cons_zero]
    refine bodyPost_ret (results_tmp rfl _ _ _) rfl ?_
    rw [hv1, hv2, hv3, hR]
    refine ⟨rfl, HD6.out.mod hM (fun k h1 h2 => HDF.out (h2 ▸ h1)), ⟨hB.conv HE.out, rfl, rfl, HF.out⟩, (LC.out.be.mono (fun _ _ h => .inl h)).trans hM (fun _ _ h => .inr h)⟩
end Go.Proofs.YtcnjipicifkfjaaGreat

/- heap: Commit. -/
namespace Go.Proofs.YtcnjipicifkfjaaGreat
open Go.RowKit
set_option linter.unusedVariables false
set_option linter.unusedSimpArgs false

def commitS (S : HS) : List Step := writeS (64 + (1 - S.wh) * 64) (slotEnc (S.ep + 1) S.ws)
set_option maxRecDepth 100000 in
set_option maxHeartbeats 2000000 in
theorem hcommit_any (B : Nat) (b : DB) (m : Nat) (s : DS) (col : Nat → Nat) (hp al mp us fr rt hl ca sh p : Nat) (S : HS) (w : World) (h : HeapX w B b m s col hp al mp us fr rt hl ca sh S) (hn : ∀ k, w.heap.size ≤ k → col k = 9) (hwh : S.wh < 2)
    (h1 : s.C.getD (64 + (1 - S.wh) * 64) 0 ≤ S.ep) (h2 : s.C.getD (64 + (1 - S.wh) * 64 + 8) 0 ≤ S.ep) (hep : S.ep < 1000000) (hws : RootsOk S.ws) (hu0 : S.A.used 0 = false) (hob : (exec s (commitS S)).2 = true → OB (exec s (commitS S)).1 m S.A.used p) :
    Calls Tryz.prog 34 #[.pointer (some ⟨hp, 0, none⟩)] w fun e w' => e = .returned (.int .i64 (ecode (exec s (commitS S)).2)) ∧
      (((exec s (commitS S)).2 = true ∧ ∃ st, HeapX w' B b m (exec s (commitS S)).1 col hp al mp us fr rt hl ca sh { S with ep := S.ep + 1, wh := 1 - S.wh, rs := S.ws, held := st }) ∨ ((exec s (commitS S)).2 = false ∧ HeapD w' B b m (exec s (commitS S)).1 hp)) ∧ Mod w w' (fun k => hcol (col k)) := by
  have hc2 := h.c2
  have Hcm := Lib.hid (commit_any B b m s (fun k => col k = 4) rt S.ep S.wh S.rs S.ws w h.dev h.r (fun k hk hb => by have := h.hdv k hb; omega) hwh (by have := h.hm; have := h.k3; omega) (by have := h.hm; have := h.k4; omega) h1 h2 hep hws)
  have HS : Hid (commitS S = writeS (64 + (1 - S.wh) * 64) (slotEnc (S.ep + 1) S.ws)) := rfl
  rw [← HS.out] at Hcm
  obtain ⟨E, HE⟩ : ∃ E, Hid (exec s (commitS S) = E) := ⟨_, rfl⟩
  rw [HE.out] at Hcm hob ⊢
  obtain ⟨q1, Hq1⟩ : ∃ v, Hid ((if E.2 then S.ep + 1 else S.ep) = v) := ⟨_, rfl⟩
  obtain ⟨q2, Hq2⟩ : ∃ v, Hid ((if E.2 then 1 - S.wh else S.wh) = v) := ⟨_, rfl⟩
  obtain ⟨q3, Hq3⟩ : ∃ v, Hid ((if E.2 then S.ws else S.rs) = v) := ⟨_, rfl⟩
  rw [Hq1.out, Hq2.out, Hq3.out] at Hcm
  have H := Lib.hid h
  have Hob := Lib.hid hob
  have Hn := Lib.hid hn
  have c38 := h.c38
  have Hws := Lib.hid hws
  clear h hn hob hws h1 h2
  go_enter Tryz.func34, Tryz.ntmps34
  go_wp2_with fail
  refine Hcm.out.mono ?_
  rintro e w1 ⟨rfl, hd1, hr1, hM1⟩
  have HX1 : Hid (HeapX w1 B b m E.1 col hp al mp us fr rt hl ca sh { S with ep := q1, wh := q2, rs := q3 }) := by
    have hX := H.out
    have hM1' : Mod w w1 (fun k => col k = 0 ∨ col k = 4) := hM1.mono (fun k _ e => e.elim (fun e => .inl (hX.hdv k e)) (fun e => .inr (by rw [e]; exact hX.r.2.2.2)))
    exact ⟨hd1, hX.hdv, hM1'.blk hX.blk (by rw [hX.chp]; omega), hX.chp, hX.a.mod hM1' (fun k hk e => by omega), hr1, hX.h.mod hM1' (fun k hk e => by omega) (by rw [hX.chl]; omega), hX.chl, hX.c.mod hM1' (fun k hk e => by omega), hX.s.mod hM1' (fun k hk e => by omega), hX.rg, hX.hm, hX.k3, hX.k4⟩
  have HM1 : Hid (Mod w w1 (fun k => hcol (col k))) := hM1.mono (fun k _ e => e.elim (fun e => by rw [H.out.hdv k e]; exact .inl (by omega)) (fun e => by rw [e, show col rt = 4 from H.out.r.2.2.2]; exact .inl (by omega)))
  have Hchp : Hid (col hp = 7) := H.out.chp
  clear hd1 hr1 hM1 H hc2 c38 Hcm
  cases hE : E.2 with
  | false =>
    rw [show ecode false = 3 from rfl]
    have Hdn := Lib.hid (hdown_dead hp b.d al rt hl ca sh S.rg w1 HX1.out.blk HX1.out.rg)
    have Hf := Lib.hid hE
    clear hE
    go_wp2_with fail
    refine Hdn.out.mono ?_
    rintro e w5 ⟨rfl, hb5, hM5⟩
    have HBk5 := Lib.hid hb5
    have hne : ¬ b.has hp := fun hk => by have := HX1.out.hdv hp hk; have := Hchp.out; omega
    have HD5 : Hid (Dev B w5 b m E.1) := HX1.out.dev.mod hM5 (fun k hk e => hne (e ▸ hk))
    have HM5 : Hid (Mod w w5 (fun k => hcol (col k))) := HM1.out.trans hM5 (fun k _ e => by rw [e, Hchp.out]; exact .inl (by omega))
    have hrg := HX1.out.rg
    clear hb5 hM5
    go_wp2_with fail
    go_ret
    rw [show ecode E.2 = 3 from by rw [Hf.out]; rfl]
    exact ⟨rfl, .inr ⟨Hf.out, al, rt, S.rg, hl, ca, sh, hrg, HBk5.out, HD5.out, hne⟩, HM5.out⟩
  | true =>
    have hq1 : q1 = S.ep + 1 := by rw [← Hq1.out, hE]; rfl
    have hq2 : q2 = 1 - S.wh := by rw [← Hq2.out, hE]; rfl
    have hq3 : q3 = S.ws := by rw [← Hq3.out, hE]; rfl
    subst hq1 hq2 hq3
    rw [show ecode true = 0 from rfl]
    have HOB : Hid (OB E.1 m S.A.used p) := Hob.out hE
    obtain ⟨r0, r1, r2, r3, r4, r5, r6, r7, hws⟩ := eight S.ws Hws.out.len
    have HwL : Hid (S.ws = [r0, r1, r2, r3, r4, r5, r6, r7]) := hws
    have Hrl : Hid (Calls Tryz.prog 85 #[.pointer (some ⟨rt, 0, none⟩)] w1 fun e w' => e = .returned (.agg #[.int .i64 r0, .int .i64 r1, .int .i64 r2, .int .i64 r3, .int .i64 r4, .int .i64 r5, .int .i64 r6, .int .i64 r7]) ∧ Below w1.heap.size w1 w') := by
      have := rlasting_any _ rt b.d _ _ _ _ w1 HX1.out.r
      simp only [hws] at this
      exact this
    have c2 := HX1.out.c2
    have Hf := Lib.hid hE
    have hsz1 : w.heap.size ≤ w1.heap.size := HM1.out.size
    clear hE hws
    go_wp2_with fail
    refine Hrl.out.mono ?_
    rintro e w2 ⟨rfl, hb2⟩
    obtain ⟨n4, Hn4⟩ : ∃ n, Hid (w2.heap.size = n) := ⟨_, rfl⟩
    have L2 := Lib.hid (((Loc.nil Nob w1).call hb2 (Nat.le_refl _)).box 80 #[.int .i64 r0, .int .i64 r1, .int .i64 r2, .int .i64 r3, .int .i64 r4, .int .i64 r5, .int .i64 r6, .int .i64 r7] n4 Hn4.out)
    have L3 := Lib.hid L2.out.drew
    have c35 := (HX1.out.below L2.out.below).c35
    have HX3 := Lib.hid (HX1.out.below L3.out.below)
    have HM3 : Hid (Mod w (w2.alloc (.cells #[.int .i64 r0, .int .i64 r1, .int .i64 r2, .int .i64 r3, .int .i64 r4, .int .i64 r5, .int .i64 r6, .int .i64 r7] 80)).drew (fun k => hcol (col k))) := HM1.out.trans (mod_b L3.out.below : Mod w1 _ (fun k => hcol (col k))) (fun _ _ h => h)
    have HRd : Hid (Rd (w2.alloc (.cells #[.int .i64 r0, .int .i64 r1, .int .i64 r2, .int .i64 r3, .int .i64 r4, .int .i64 r5, .int .i64 r6, .int .i64 r7] 80)).drew 1 (some ⟨n4, 0, none⟩) 8 (ncells S.ws)) := by
      refine ⟨by rw [HwL.out]; rfl, fun _ => ⟨n4, 0, rfl, L3.out.b0.lt, fun i u hu => ?_⟩⟩
      rw [Nat.zero_add, L3.out.b0.cell i, ← hu, HwL.out]
      simp [ncells]
    clear hb2 Hrl c2 HX1 HM1 L2
    go_wp2_with fail
    rw [Hn4.out]
    obtain ⟨w3, Hw3⟩ : ∃ w3, Hid ((w2.alloc (.cells #[.int .i64 r0, .int .i64 r1, .int .i64 r2, .int .i64 r3, .int .i64 r4, .int .i64 r5, .int .i64 r6, .int .i64 r7] 80)) = w3) := ⟨_, rfl⟩
    rw [Hw3.out] at L3 c35 HX3 HM3 HRd ⊢
    have hsz : w.heap.size ≤ w3.heap.size := HM3.out.size
    have Hre : Hid (Calls Tryz.prog 46 #[.pointer (some ⟨hl, 0, none⟩), .slice (some ⟨n4, 0, none⟩) 8 8] w3.drew fun e w' => (∃ v, e = .returned v) ∧ (∃ st, HeapX w' B b m E.1 col hp al mp us fr rt hl ca sh { S with ep := S.ep + 1, wh := 1 - S.wh, rs := S.ws, held := st }) ∧ Mod w3.drew w' (fun k => col k = 5)) := by
      have hX := HX3.out
      refine (hreset_any B b m E.1 (fun k => col k = 5) col hl al p 8 8 _ S.ws S.A _ w3.drew hX.dev hX.a.r hX.h hX.hdv (fun k hk => by omega) (fun k hk => by
        rcases Nat.lt_or_ge k w3.drew.heap.size with h1 | h1
        · exact h1
        · have : w3.heap.size ≤ k := h1
          have := Hn.out k (by omega); omega) HOB.out hu0 hX.hm (by have : 3 ≤ S.A.K := hX.k3; omega) (by have : S.A.K ≤ 4 := hX.k4; omega) HRd.out (by omega) (fun a ha => ?_) (fun i => ?_)).mono ?_
      · cases ha
        have h4 := (L3.out.at_ _ List.mem_cons_self).2
        simp only at h4 ⊢
        have := Hn.out n4 (by omega)
        omega
      · by_cases hi : i < 8
        · have := Hws.out.lt i hi; omega
        · rw [List.getD_eq_getElem?_getD, List.getElem?_eq_none (by rw [Hws.out.len]; omega)]; simp
      · rintro e w' ⟨he, hh, hM⟩
        exact ⟨he, ⟨_, hX.heldS hM hh⟩, hM⟩
    go_region_held3 (fun W => W.cell? ⟨hp, 35, none⟩ = some (.pointer (some ⟨hl, 0, none⟩)))
      (first | exact c35 | exact HX4.out.c35)
      ((go_at_call 46; refine Hre.out.mono ?_; rintro e w4 ⟨⟨v4, rfl⟩, ⟨st, hX4⟩, hM4⟩; have HX4 := Lib.hid hX4; have HM4 : Hid (Mod w w4 (fun k => hcol (col k))) := HM3.out.trans hM4 (fun k _ e => by rw [e]; exact .inl (by omega)); clear hX4 hM4))
    go_wp2_with fail
    go_ret
    rw [show ecode E.2 = 0 from by rw [Hf.out]; rfl]
    exact ⟨rfl, .inl ⟨Hf.out, st, HX4.out⟩, HM4.out⟩
end Go.Proofs.YtcnjipicifkfjaaGreat

/- heap: Alloc. -/
namespace Go.Proofs.YtcnjipicifkfjaaGreat
open Go.RowKit
set_option linter.unusedVariables false
set_option linter.unusedSimpArgs false

theorem HeapX.allocS {w w' : World} {B m : Nat} {b : DB} {s s' : DS} {col col' : Nat → Nat} {hp al mp us fr rt hl ca sh : Nat} {S : HS} {A' : AS} (h : HeapX w B b m s col hp al mp us fr rt hl ca sh S)
    (hM : Mod w w' (fun k => b.has k ∨ col k = 1 ∨ col k = 2 ∨ col k = 3)) (hd : Dev B w' b m s') (hc : ∀ k, k < w.heap.size → col' k = col k) (ha : AllocX w' col' al b.d mp us fr A') (hK : A'.K = S.A.K) :
    HeapX w' B b m s' col' hp al mp us fr rt hl ca sh { S with A := A' } := by
  have hM4 : Mod w w' (fun k => col k < 4) := hM.mono (fun k _ e => by rcases e with e | e | e | e; rw [h.hdv k e]; omega; omega; omega; omega)
  have hM4' : Mod w w' (fun k => col' k < 4 ∧ k < w.heap.size) := hM4.mono (fun k hk e => ⟨by rw [hc k hk]; exact e, hk⟩)
  have hf : ∀ i k, k < w.heap.size → col k = i → col' k = i := fun i k hk e => (hc k hk).trans e
  have hhl := h.h.lt
  have hne : ∀ k, 4 ≤ col' k → ¬ (col' k < 4 ∧ k < w.heap.size) := fun k h1 h2 => by omega
  have hchp := hf 7 hp h.blk.lt h.chp
  have hchl := hf 8 hl hhl h.chl
  refine ⟨hd, fun k hk => hf 0 k (h.dev.lt k hk).2 (h.hdv k hk), hM4'.blk h.blk (hne _ (by omega)), hchp, ha, (h.r.weak (hf 4)).mod hM4' (fun k hk => hne k (by omega)), ?_, hchl, ?_, ?_, h.rg, ?_, ?_, ?_⟩
  · show HeldR w' _ hl al A'.K S.held
    rw [hK]
    exact (h.h.weak (hf 5) (by omega)).mod hM4' (fun k hk => hne k (by omega)) (hne _ (by omega))
  · show CycR w' col' ca al A'.K (liveF hp) S.C
    rw [hK]
    exact (h.c.recol hc).mod hM4' (fun k hk => hne k (by omega))
  · show SetR w' _ sh (8 * A'.K) S.shared
    rw [hK]
    exact (h.s.weak (hf 6)).mod hM4' (fun k hk => hne k (by omega))
  · show m = A'.K * 64
    rw [hK]; exact h.hm
  · show 3 ≤ A'.K
    rw [hK]; exact h.k3
  · show A'.K ≤ 4
    rw [hK]; exact h.k4
def HOutA (w0 w : World) (B : Nat) (b : DB) (m : Nat) (E : DS × Bool) (col : Nat → Nat) (hp al mp us fr rt hl ca sh : Nat) (S : HS) : Prop :=
  (E.2 = true ∧ ∃ col', (∀ k, k < w0.heap.size → col' k = col k) ∧ (∀ k, w.heap.size ≤ k → col' k = 9) ∧ ∃ st, HeapX w B b m E.1 col' hp al mp us fr rt hl ca sh { S with shared := st }) ∨ (E.2 = false ∧ HeapD w B b m E.1 hp)
set_option maxRecDepth 100000 in
set_option maxHeartbeats 2000000 in
theorem halloc_any (B : Nat) (b : DB) (m : Nat) (s : DS) (col : Nat → Nat) (hp al mp us fr rt hl ca sh mu r p d a : Nat) (S : HS) (A1 : AS) (st : List Step) (w : World) (h : HeapX w B b m s col hp al mp us fr rt hl ca sh S) (hn : ∀ k, w.heap.size ≤ k → col k = 9) (hmu : mu < 4) (hr : r < 8) (ho : Obj p d)
    (hK1 : A1.K = S.A.K) (hR : RoomOk B b m s al mp us fr mu p d S.A st a A1) (ha : a + (1 + p + d) ≤ 8 * m) (hp0 : S.C.phase = 0) :
    Calls Tryz.prog 20 #[.pointer (some ⟨hp, 0, none⟩), .agg #[.int .i64 mu, .int .i64 r], .int .i64 p, .int .i64 d] w fun e w' => e = .returned (.int .i64 (ecode (exec s (st ++ initS a p d)).2)) ∧
      HOutA w w' B b m (exec s (st ++ initS a p d)) col hp al mp us fr rt hl ca sh { S with A := A1.add a, rg := S.rg.set (mu * 8 + r) a } ∧ Mod w w' (fun k => hcol (col k)) := by
  obtain ⟨n5, Hn5⟩ : ∃ n, Hid (w.heap.size = n) := ⟨_, rfl⟩
  have L1 := Lib.hid ((Loc.nil Nob w).box 59 #[.int .i64 mu, .int .i64 r] n5 Hn5.out)
  have HXb : Hid (∀ wr, Below w.heap.size w wr → HeapX wr B b m s col hp al mp us fr rt hl ca sh S) := fun wr hb => h.below hb
  have Hnr := Lib.hid (fun w => nright_any mu r w hmu hr)
  obtain ⟨E, HE⟩ : ∃ E, Hid (exec s (st ++ initS a p d) = E) := ⟨_, rfl⟩
  have haN : a < 100000 := by have := h.hm; have := h.k4; omega
  obtain ⟨v, Hv⟩ : ∃ v, Hid ((if E.2 then a else 0) = v) := ⟨_, rfl⟩
  have Hal : Hid (∀ wr, Below w.heap.size w wr → Calls Tryz.prog 60 #[.pointer (some ⟨al, 0, none⟩), .int .i64 mu, .int .i64 p, .int .i64 d] wr fun e w' => e = .returned (.tuple #[.int .i64 v, .int .i64 (ecode E.2)]) ∧ Dev B w' b m E.1 ∧
      (E.2 = true → ∃ col', (∀ k, k < wr.heap.size → col' k = col k) ∧ HeapX w' B b m E.1 col' hp al mp us fr rt hl ca sh { S with A := A1.add a }) ∧ Blk w' hp 87 (heapC b.d al rt S.rg hl ca sh false) ∧ Mod wr w' (fun k => hcol (col k))) := by
    intro wr hb
    have hX := h.below hb
    have := alloc_any B b m s col al mp us fr mu p d a S.A A1 st wr hX.dev hX.hdv hX.a hmu ho hX.hm (by have := hX.k3; omega) (by have := hX.k4; omega) hK1 hR ha
    rw [HE.out, Hv.out] at this
    refine this.mono ?_
    rintro e w' ⟨he, hd, hA, hM⟩
    refine ⟨he, hd, fun hE => ?_, hM.blk hX.blk ?_, hM.mono (fun k hk e => ?_)⟩
    · obtain ⟨col', hc, hA⟩ := hA hE
      exact ⟨col', hc, hX.allocS hM hd hc hA hK1⟩
    · have := hX.chp
      rintro (h1 | h1 | h1 | h1)
      · have := hX.hdv _ h1; omega
      · omega
      · omega
      · omega
    · rcases e with h1 | h1 | h1 | h1
      · rw [hX.hdv _ h1]; exact .inl (by omega)
      · rw [h1]; exact .inl (by omega)
      · rw [h1]; exact .inl (by omega)
      · rw [h1]; exact .inl (by omega)
  rw [HE.out]
  have Hc : Hid (col hp = 7 ∧ (∀ k, b.has k → col k = 0) ∧ S.rg.length = 32 ∧ ∀ k, w.heap.size ≤ k → col k = 9) := ⟨h.chp, h.hdv, h.rg, hn⟩
  have c38 : (w.alloc (.cells #[.int .i64 mu, .int .i64 r] 59)).cell? ⟨hp, 38, none⟩ = some (.bool false) := (h.below L1.out.below).c38
  have hph : Hid (S.C.phase = 0) := hp0
  have HK4 : Hid (S.A.K ≤ 4 ∧ A1.K = S.A.K) := ⟨h.k4, hK1⟩
  clear h hn hR ha hp0
  go_enter Tryz.func20, Tryz.ntmps20
  go_wp2_with fail
  rw [Hn5.out]
  generalize w.alloc _ = w1 at *
  refine (Hnr.out _).mono ?_
  rintro e w2 ⟨rfl, hb2⟩
  have L2 := Lib.hid (L1.out.call hb2 (Nat.le_refl _))
  clear hb2 L1 c38 Hnr
  go_wp2_with fail
  have L3 := Lib.hid L2.out.drew
  have x0 : w2.cell? ⟨n5, 0, none⟩ = some (.int .i64 mu) := L2.out.b0.cell 0
  have c1 := (HXb.out _ L2.out.below).c1
  clear L2
  go_region_held3 (fun W => W.cell? ⟨n5, 0, none⟩ = some (.int .i64 mu) ∧ W.cell? ⟨hp, 1, none⟩ = some (.pointer (some ⟨al, 0, none⟩)))
    (first | exact ⟨x0, c1⟩ | exact ⟨L3.out.b0.cell 0, (HXb.out _ L3.out.below).c1⟩ | exact ⟨HN4.out.cell 0, HBk.out.cell 1⟩)
    ((go_at_call 60; refine (Hal.out _ L3.out.below).mono ?_; rintro e w4 ⟨rfl, hd4, hX4, hb4, hM4⟩; have HD4 := Lib.hid hd4; have HX4 := Lib.hid hX4; have HBk := Lib.hid hb4; have HN4 : Hid (Blk w4 n5 59 #[.int .i64 mu, .int .i64 r]) := hM4.blk L3.out.b0 (fun hh => by have h1 := Hc.out.2.2.2 n5 (Nat.le_of_eq Hn5.out); unfold hcol at hh; omega); have HM4 : Hid (Mod w w4 (fun k => hcol (col k))) := Mod.trans (mod_b L3.out.below : Mod w w2.drew (fun k => hcol (col k))) hM4 (fun k _ h => h); have HL3 := Lib.hid L3.out.below.size; have Hn5l := Lib.hid L3.out.b0.lt; clear hd4 hX4 hb4 hM4))
  clear x0 c1 Hal
  cases hE : E.2 with
  | false =>
    have hv0 : v = 0 := by rw [← Hv.out, hE]; rfl
    rw [show ecode false = 3 from rfl]
    have Hdn := Lib.hid (hdown_dead hp b.d al rt hl ca sh S.rg w4 HBk.out Hc.out.2.2.1)
    have Hf := Lib.hid hE
    clear hE
    go_wp2_with fail
    refine Hdn.out.mono ?_
    rintro e w5 ⟨rfl, hb5, hM5⟩
    have HBk5 := Lib.hid hb5
    have hne : ¬ b.has hp := fun hk => by have := Hc.out.2.1 hp hk; have := Hc.out.1; omega
    have HD5 : Hid (Dev B w5 b m E.1) := HD4.out.mod hM5 (fun k hk e => hne (e ▸ hk))
    have HM5 : Hid (Mod w w5 (fun k => hcol (col k))) := HM4.out.trans hM5 (fun k _ e => by rw [e, Hc.out.1]; exact .inl (by omega))
    clear hb5 hM5
    go_wp2_with fail
    go_ret
    rw [show ecode E.2 = 3 from by rw [Hf.out]; rfl]
    exact ⟨rfl, .inr ⟨Hf.out, al, rt, S.rg, hl, ca, sh, Hc.out.2.2.1, HBk5.out, HD5.out, hne⟩, HM5.out⟩
  | true =>
    have hv0 : v = a := by rw [← Hv.out, hE]; rfl
    subst hv0
    rw [show ecode true = 0 from rfl]
    obtain ⟨col1, hc1, hX⟩ := HX4.out hE
    have Hf := Lib.hid hE
    have hcw := colW_lt col1 w4 9
    have hcg := colW_ge col1 w4 9
    have HX5 : Hid (HeapX w4 B b m E.1 (colW col1 w4 9) hp al mp us fr rt hl ca sh { S with A := A1.add v }) := hX.recol hcw
    have HC5 : Hid ((∀ k, k < w.heap.size → colW col1 w4 9 k = col k) ∧ (∀ k, w4.heap.size ≤ k → colW col1 w4 9 k = 9) ∧ colW col1 w4 9 n5 = 9) := ⟨fun k hk => by
      rw [hcw k (Nat.lt_of_lt_of_le hk HM4.out.size)]
      exact hc1 k (Nat.lt_of_lt_of_le hk HL3.out), hcg, by
      rw [hcw n5 HN4.out.lt, hc1 n5 Hn5l.out]
      exact Hc.out.2.2.2 n5 (Nat.le_of_eq Hn5.out)⟩
    clear hE hc1 hX HX4 hcw hcg
    generalize colW col1 w4 9 = col5 at *
    have c36 := HX5.out.c36
    have Hmd := Lib.hid (cmade_idle col5 ca al (A1.add v).K v (liveF hp) S.C w4 HX5.out.c hph.out)
    go_wp2_with fail
    refine Hmd.out.mono ?_
    rintro e _ ⟨⟨v6, rfl⟩, rfl⟩
    have c37 := HX5.out.c37
    have Hdr := Lib.hid (bdrop_any (fun k => col5 k = 6) sh (8 * (A1.add v).K) v S.shared w4 HX5.out.s (by show 8 * A1.K ≤ 100000; have := HK4.out; omega) (by omega))
    clear c36 Hmd
    go_wp2_with fail
    refine Hdr.out.mono ?_
    rintro e w7 ⟨rfl, hS7, hM7⟩
    have HX7 := Lib.hid (HX5.out.sharedS hM7 hS7)
    have HM7 : Hid (Mod w w7 (fun k => hcol (col k))) := HM4.out.trans hM7 (fun k hk e => by rw [← HC5.out.1 k hk, e]; exact .inl (by omega))
    have HN7 : Hid (Blk w7 n5 59 #[.int .i64 mu, .int .i64 r]) := hM7.blk HN4.out (fun e => by have := HC5.out.2.2; omega)
    have HS7 := Lib.hid hM7.size
    clear hS7 hM7 c37 Hdr HX5 HM4 HN4
    have y0 : w7.cell? ⟨n5, 0, none⟩ = some (.int .i64 mu) := HN7.out.cell 0
    have y1 : w7.cell? ⟨n5, 1, none⟩ = some (.int .i64 r) := HN7.out.cell 1
    have HX8 : Hid (HeapX w7.drew B b m E.1 col5 hp al mp us fr rt hl ca sh { S with A := A1.add v, shared := fun i => !decide (i = v) && S.shared i }) := HX7.out.below (below_drewN (Below.refl _ _) 1)
    have Hset : Hid (Calls Tryz.prog 63 #[.pointer (some ⟨hp, 3, none⟩), .agg #[.int .i64 mu, .int .i64 r], .int .i64 v] w7.drew fun e w' => e = .returned (.int .i64 0) ∧ HeapX w' B b m E.1 col5 hp al mp us fr rt hl ca sh { S with A := A1.add v, shared := fun i => !decide (i = v) && S.shared i, rg := S.rg.set (mu * 8 + r) v } ∧ Mod w7.drew w' (fun k => k = hp)) := by
      refine (HX8.out.setR mu r v hmu hr (by omega)).mono ?_
      rintro e w' ⟨rfl, hX, hM⟩
      exact ⟨rfl, hX, hM⟩
    have HNd : Hid (Blk w7.drew n5 59 #[.int .i64 mu, .int .i64 r]) := HN7.out.drew
    have Hnh : Hid (n5 ≠ hp) := fun e => by have h1 := HC5.out.2.2; have h2 := HX7.out.chp; rw [e] at h1; omega
    have HMd : Hid (Mod w w7.drew (fun k => hcol (col k))) := HM7.out.drewN 1
    have HC8 : Hid ((∀ k, k < w.heap.size → col5 k = col k) ∧ ∀ k, w7.heap.size ≤ k → col5 k = 9) := ⟨HC5.out.1, fun k hk => HC5.out.2.1 k (Nat.le_trans HS7.out hk)⟩
    have Hchp : Hid (col5 hp = 7) := HX7.out.chp
    go_wp2_with fail
    go_region_held3 (fun W => W.cell? ⟨n5, 0, none⟩ = some (.int .i64 mu) ∧ W.cell? ⟨n5, 1, none⟩ = some (.int .i64 r))
      (first | exact ⟨y0, y1⟩ | exact ⟨HN9.out.cell 0, HN9.out.cell 1⟩)
      ((go_at_call 63; refine Hset.out.mono ?_; rintro e w9 ⟨rfl, hX9, hM9⟩; have HX9 := Lib.hid hX9; have HN9 := Lib.hid (hM9.blk HNd.out Hnh.out); have HM9 : Hid (Mod w w9 (fun k => hcol (col k))) := HMd.out.trans hM9 (fun k hk e => by rw [← HC8.out.1 k hk, e, Hchp.out]; exact .inl (by omega)); have HS9 := Lib.hid hM9.size; clear hX9 hM9))
    go_wp2_with fail
    go_ret
    rw [show ecode E.2 = 0 from by rw [Hf.out]; rfl]
    exact ⟨rfl, .inl ⟨Hf.out, col5, HC8.out.1, fun k hk => HC8.out.2 k (Nat.le_trans HS9.out hk), _, HX9.out⟩, HM9.out⟩
end Go.Proofs.YtcnjipicifkfjaaGreat
