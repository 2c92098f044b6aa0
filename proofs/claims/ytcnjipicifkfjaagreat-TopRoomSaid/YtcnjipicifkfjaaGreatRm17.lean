/- blocks.Table.Put of one header. -/
import Derived.Test.YtcnjipicifkfjaaGreatRm14
import Derived.Test.YtcnjipicifkfjaaGreatRm12
import Derived.Test.YtcnjipicifkfjaaGreatRm15
import Derived.Test.YtcnjipicifkfjaaGreatRm16
import Derived.Test.YtcnjipicifkfjaaGreatRm09

namespace Go.Proofs.YtcnjipicifkfjaaGreat
open Go.RowKit
set_option linter.unusedVariables false
set_option linter.unusedSimpArgs false

/-- The steps of a header's Put. -/
def putS (bl kd cl : Nat) : List Step := [.st (256 + bl) (hword bl kd cl)] ++ persistS (256 + bl) 1
theorem TabR.set {w : World} {F : Nat → Prop} {t d K bl g cap : Nat} {hs : List (Nat × Nat)} (hb : Blk w t 167 #[.pointer (some ⟨d, 0, none⟩), .int .i64 K, .slice (some ⟨g, 0, none⟩) K cap]) (ho : Own w 0 178 3 (some ⟨g, 0, none⟩) K cap (hcells hs)) (h1 : F t) (h2 : F g) (h3 : t ≠ g) (hbl : bl < K) (kd cl : Nat) :
    TabR (((w.setCell ⟨g, bl * 3, none⟩ (.int .i64 kd)).setCell ⟨g, bl * 3 + 1, none⟩ (.int .i64 cl)).setCell ⟨g, bl * 3 + 2, none⟩ (.int .i64 0)) F t d K (hs.set bl (kd, cl)) ∧ Mod w (((w.setCell ⟨g, bl * 3, none⟩ (.int .i64 kd)).setCell ⟨g, bl * 3 + 1, none⟩ (.int .i64 cl)).setCell ⟨g, bl * 3 + 2, none⟩ (.int .i64 0)) F := by
  have m : Mod w (((w.setCell ⟨g, bl * 3, none⟩ (.int .i64 kd)).setCell ⟨g, bl * 3 + 1, none⟩ (.int .i64 cl)).setCell ⟨g, bl * 3 + 2, none⟩ (.int .i64 0)) (fun k => k = g) :=
    (((Mod.refl w (fun k => k = g)).cell (bl * 3) _).cell (bl * 3 + 1) _).cell (bl * 3 + 2) _
  exact ⟨⟨g, cap, m.blk hb h3, ho.setH bl hbl kd cl, h1, h2, h3⟩, m.mono (fun k _ e => by rw [e]; exact h2)⟩

/-- Behind the store of a header's word. -/
theorem put_pack {w w6 w7 : World} {F : Nat → Prop} {b : DB} {B t K n10 kd cl g cap : Nat} {hs : List (Nat × Nat)} (htb : Blk w t 167 #[.pointer (some ⟨b.d, 0, none⟩), .int .i64 K, .slice (some ⟨g, 0, none⟩) K cap]) (hto : Own w 0 178 3 (some ⟨g, 0, none⟩) K cap (hcells hs))
    (hFt : F t) (hFg : F g) (hne : t ≠ g) (hD : ∀ k, F k → ¬ b.has k) (hlt : ∀ k, b.has k → B ≤ k ∧ k < w.heap.size)
    (L : Loc Nob w w6 [(n10, 178, #[.int .i64 kd, .int .i64 cl, .int .i64 0])]) (hm : Mod w6 w7 b.has) :
    (w7.cell? ⟨t, 0, none⟩ = some (.pointer (some ⟨b.d, 0, none⟩)) ∧ w7.cell? ⟨t, 1, none⟩ = some (.int .i64 K) ∧ w7.cell? ⟨n10, 0, none⟩ = some (.int .i64 kd) ∧ w7.cell? ⟨n10, 1, none⟩ = some (.int .i64 cl) ∧ w7.cell? ⟨n10, 2, none⟩ = some (.int .i64 0)) ∧
    (Blk w7 t 167 #[.pointer (some ⟨b.d, 0, none⟩), .int .i64 K, .slice (some ⟨g, 0, none⟩) K cap] ∧ Own w7 0 178 3 (some ⟨g, 0, none⟩) K cap (hcells hs) ∧ TabR w7 F t b.d K hs) ∧ Loc b.has w w7 [(n10, 178, #[.int .i64 kd, .int .i64 cl, .int .i64 0])] ∧ ¬ g = n10 := by
  have hb7 := hm.blk (htb.below L.below htb.lt) (hD _ hFt)
  have ho7 := (hto.below L.below (Nat.le_refl _)).mod hm (fun a ha => by cases ha; exact hD _ hFg)
  have L7 := (L.weak (S' := b.has) (fun _ _ h => h.elim)).eff hm (fun k hk => ⟨hk, (hlt k hk).2⟩)
  refine ⟨⟨hb7.cell 0, hb7.cell 1, L7.b0.cell 0, L7.b0.cell 1, L7.b0.cell 2⟩, ⟨hb7, ho7, g, cap, hb7, ho7, hFt, hFg, hne⟩, L7, ?_⟩
  have h1 := L.le0
  have h2 := (hto.lt _ rfl).2
  simp only at h1 h2
  omega
/-- Where Put stands: ahead of the header's store, or behind it. -/
def PutW (B : Nat) (w : World) (b : DB) (m : Nat) (E : DS × Bool) (F : Nat → Prop) (t K : Nat) (hs' : List (Nat × Nat)) (j : Nat) (wr : World) : Prop :=
  (j = 0 ∧ Loc Nob w wr []) ∨ (j = 1 ∧ E.2 = true ∧ Dev B wr b m E.1 ∧ TabR wr F t b.d K hs' ∧ Mod w wr (fun k => b.has k ∨ F k))
set_option maxRecDepth 100000 in
set_option maxHeartbeats 4000000 in
theorem tput_any (B : Nat) (b : DB) (m : Nat) (s : DS) (F : Nat → Prop) (t K bl kd cl gl : Nat) (hs : List (Nat × Nat)) (w : World) (h : Dev B w b m s) (ht : TabR w F t b.d K hs) (hD : ∀ k, F k → ¬ b.has k)
    (hgl : Blk w gl 178 #[.int .i64 kd, .int .i64 cl, .int .i64 0]) (hH : Hdr kd cl) (hb1 : 1 ≤ bl) (hb2 : bl < K) (hK : K ≤ 150) (hm : m = K * 64) :
    Calls Tryz.prog 209 #[.pointer (some ⟨t, 0, none⟩), .int .i64 bl, .slice (some ⟨gl, 0, none⟩) 1 1] w fun e w' => e = .returned (.int .i64 (ecode (exec s (putS bl kd cl)).2)) ∧ Dev B w' b m (exec s (putS bl kd cl)).1 ∧
      TabR w' F t b.d K (if (exec s [.st (256 + bl) (hword bl kd cl)]).2 then hs.set bl (kd, cl) else hs) ∧ Mod w w' (fun k => b.has k ∨ F k) := by
  have HD := Lib.hid h
  have HT := Lib.hid ht
  have HDF := Lib.hid hD
  have Hgl := Lib.hid hgl
  have Hr := Lib.hid (fun w => bhright_any kd cl w hH)
  have Hh := Lib.hid (fun w => gheader_any K bl w hb1 hb2 (by omega))
  have He := Lib.hid (fun w => bhenc_any bl kd cl w hH (by omega))
  have hkd := hnum_lt kd cl hH
  have Hlt := Lib.hid h.lt
  obtain ⟨g, cap, htb, hto, hFt, hFg, hne⟩ := ht
  have Htb := Lib.hid htb
  have Hto := Lib.hid hto
  obtain ⟨_, e, _, hgg, hnc, hcm, _, hfz⟩ := hto.at_ (by omega)
  cases e
  have Hst : Hid (∀ w', Dev B w' b m s → Calls Tryz.prog 115 #[.pointer (some ⟨b.d, 0, none⟩), .int .i64 (256 + bl : Nat), .int .u64 (hword bl kd cl : Nat)] w' fun e w'' => e = .returned (.int .i64 (ecode (exec s [.st (256 + bl) (hword bl kd cl)]).2)) ∧ Dev B w'' b m (exec s [.st (256 + bl) (hword bl kd cl)]).1 ∧ Mod w' w'' b.has) :=
    fun w' hd => store_any B b m s (256 + bl) (hword bl kd cl) w' hd (by omega) (by omega)
  have Hps : Hid (∀ w' s', Dev B w' b m s' → Calls Tryz.prog 118 #[.pointer (some ⟨b.d, 0, none⟩), .int .i64 (256 + bl : Nat), .int .i64 1] w' fun e w'' => e = .returned (.int .i64 (ecode (exec s' (persistS (256 + bl) 1)).2)) ∧ Dev B w'' b m (exec s' (persistS (256 + bl) 1)).1 ∧ Mod w' w'' b.has) :=
    fun w' s' hd => persist_any B b m s' (256 + bl) 1 w' hd (by omega) (by omega) (by omega)
  have HEx : Hid (∀ E, exec s [.st (256 + bl) (hword bl kd cl)] = E → exec s (putS bl kd cl) = if E.2 then exec E.1 (persistS (256 + bl) 1) else E) := fun E hE => by
    unfold putS
    rw [exec_append, hE]
  obtain ⟨E, HE⟩ : ∃ E, Hid (exec s [.st (256 + bl) (hword bl kd cl)] = E) := ⟨_, rfl⟩
  rw [HE.out] at Hst ⊢
  obtain ⟨R, HR⟩ : ∃ R, Hid (exec s (putS bl kd cl) = R) := ⟨_, rfl⟩
  have hER := HEx.out E HE.out
  rw [HR.out] at hER ⊢
  have hfe : Hid (R = if E.2 then exec E.1 (persistS (256 + bl) 1) else E) := hER
  have Hm := Lib.hid hm
  clear h hD hgl hH htb hto hfz HEx hER hm
  generalize hword bl kd cl = hv at *
  have h256 : (256 : Int) + (bl : Int) = ((256 + bl : Nat) : Int) := by omega
  obtain ⟨ha, Hha⟩ : ∃ ha, Hid (256 + bl = ha) := ⟨_, rfl⟩
  rw [Hha.out] at Hst Hps Hh hfe h256
  have c0 : w.cell? ⟨t, 0, none⟩ = some (.pointer (some ⟨b.d, 0, none⟩)) := Htb.out.cell 0
  have c1 : w.cell? ⟨t, 1, none⟩ = some (.int .i64 K) := Htb.out.cell 1
  have c2 : w.cell? ⟨t, 2, none⟩ = some (.slice (some ⟨g, 0, none⟩) K cap) := Htb.out.cell 2
  have t1 : decide ((bl : Int) < 1) = false := by rw [decide_eq_false_iff_not]; omega
  have t2 : decide (K < bl) = false := by rw [decide_eq_false_iff_not]; omega
  have t3 : decide ((K : Int) - (bl : Int) < 1) = false := by rw [decide_eq_false_iff_not]; omega
  go_enter Tryz.func209, Tryz.ntmps209
  go_wp2_with fail
  go_loopw [37] (fun v37 wr => ∃ j : Nat, v37 = .int .i64 j ∧ j ≤ 1 ∧ Loc Nob w wr []) (fun v37 _ => 1 - (intOf v37).toNat)
  case atStart => exact ⟨0, rfl, by omega, Loc.nil _ _⟩
  case round =>
    obtain ⟨j, rfl, hj, hL⟩ := hrel
    have HL := Lib.hid hL
    clear hL c0 c1 c2
    by_cases hj1 : j < 1
    · obtain rfl : j = 0 := by omega
      obtain ⟨n8, Hn8⟩ : ∃ n, Hid (wr.heap.size = n) := ⟨_, rfl⟩
      have L1 := Lib.hid (HL.out.box 178 #[.int .i64 kd, .int .i64 cl, .int .i64 0] n8 Hn8.out)
      have gb := Hgl.out.below HL.out.below Hgl.out.lt
      have g0 : wr.cell? ⟨gl, 0, none⟩ = some (.int .i64 kd) := gb.cell 0
      have g1 : wr.cell? ⟨gl, 1, none⟩ = some (.int .i64 cl) := gb.cell 1
      have g2 : wr.cell? ⟨gl, 2, none⟩ = some (.int .i64 0) := gb.cell 2
      clear gb
      go_wp2_with fail
      rw [Hn8.out]
      generalize wr.alloc _ = w1 at *
      refine (Hr.out _).mono ?_
      rintro e w2 ⟨rfl, hb2'⟩
      have L2 := Lib.hid (L1.out.call hb2' (Nat.le_refl _))
      clear hb2' L1 g0 g1 g2
      go_wp2_with fail
      exact ⟨⟨1, rfl, Nat.le_refl _, L2.out.tail⟩, by simp [intOf]⟩
    · obtain rfl : j = 1 := by omega
      rw [show ((1 : Nat) : Int) = 1 from rfl]
      go_wp2_with fail
      have HL0 : Hid (PutW B w b m E F t K (hs.set bl (kd, cl)) 0 wr) := .inl ⟨rfl, HL.out⟩
      clear HL
      go_loopw [50] (fun v50 wr => ∃ j : Nat, v50 = .int .i64 j ∧ j ≤ 1 ∧ PutW B w b m E F t K (hs.set bl (kd, cl)) j wr) (fun v50 _ => 1 - (intOf v50).toNat)
      case atStart => exact ⟨0, rfl, by omega, HL0.out⟩
      case round =>
        clear HL0
        obtain ⟨j, rfl, hj, hW⟩ := hrel
        rcases hW with ⟨rfl, hL⟩ | ⟨rfl, hE2, hd, htr, hmr⟩
        · have HL := Lib.hid hL
          clear hL
          obtain ⟨n10, Hn10⟩ : ∃ n, Hid (wr.heap.size = n) := ⟨_, rfl⟩
          have L1 := Lib.hid (HL.out.box 178 #[.int .i64 kd, .int .i64 cl, .int .i64 0] n10 Hn10.out)
          have gb := Hgl.out.below HL.out.below Hgl.out.lt
          have g0 : wr.cell? ⟨gl, 0, none⟩ = some (.int .i64 kd) := gb.cell 0
          have g1 : wr.cell? ⟨gl, 1, none⟩ = some (.int .i64 cl) := gb.cell 1
          have g2 : wr.cell? ⟨gl, 2, none⟩ = some (.int .i64 0) := gb.cell 2
          clear gb
          have hwb : IntKind.i64.wrap (bl : Int) = (bl : Int) := IntWalk.i64_in _ (by omega)
          rw [show ((0 : Nat) : Int) = 0 from rfl]
          go_wp2_with fail
          rw [Hn10.out]
          generalize wr.alloc _ = w1 at *
          have LC := Lib.hid L1.out.drew
          have Hcells : Hid (∀ w', Loc Nob w w' [(n10, 178, #[.int .i64 kd, .int .i64 cl, .int .i64 0])] → w'.cell? ⟨t, 0, none⟩ = some (.pointer (some ⟨b.d, 0, none⟩)) ∧ w'.cell? ⟨t, 1, none⟩ = some (.int .i64 K) ∧ w'.cell? ⟨n10, 0, none⟩ = some (.int .i64 kd) ∧ w'.cell? ⟨n10, 1, none⟩ = some (.int .i64 cl) ∧ w'.cell? ⟨n10, 2, none⟩ = some (.int .i64 0)) := fun w' L =>
            have hb := Htb.out.below L.below Htb.out.lt
            ⟨hb.cell 0, hb.cell 1, L.b0.cell 0, L.b0.cell 1, L.b0.cell 2⟩
          clear g0 g1 g2 L1
          cases hE2 : E.2 with
          | false =>
            have hec : ecode E.2 = 3 := by rw [hE2]; rfl
            rw [hec] at Hst
            go_region_held3 (fun w' => w'.cell? ⟨t, 0, none⟩ = some (.pointer (some ⟨b.d, 0, none⟩)) ∧ w'.cell? ⟨t, 1, none⟩ = some (.int .i64 K) ∧ w'.cell? ⟨n10, 0, none⟩ = some (.int .i64 kd) ∧ w'.cell? ⟨n10, 1, none⟩ = some (.int .i64 cl) ∧ w'.cell? ⟨n10, 2, none⟩ = some (.int .i64 0))
              (first | exact Hcells.out _ LC.out | exact HS7.out)
              (first
                | (go_at_call 116; refine (Hh.out _).mono ?_; rintro e w' ⟨rfl, hb⟩; replace LC := Lib.hid (LC.out.call hb (Nat.le_refl _)); clear hb)
                | (go_at_call 117; refine (He.out _).mono ?_; rintro e w' ⟨rfl, hb⟩; replace LC := Lib.hid (LC.out.call hb (Nat.le_refl _)); clear hb)
                | (go_at_call 115; refine (Hst.out _ (HD.out.below LC.out.below (Nat.le_refl _))).mono ?_; rintro e w7 ⟨rfl, hd7, hm7⟩; obtain ⟨p1, p2, p3, p4⟩ := put_pack Htb.out Hto.out hFt hFg hne HDF.out Hlt.out LC.out hm7; have HS7 := Lib.hid p1; have HT7 := Lib.hid p2; have L7 := Lib.hid p3; have hg7 := p4; have HD7 := Lib.hid hd7; clear p1 p2 p3 hd7 hm7))
            all_goals
              have HRE : Hid (R = E) := by show R = E; rw [hfe.out, hE2]; rfl
              clear hec
              go_wp2_with fail
              all_goals
                go_ret
                rw [HRE.out]
                exact ⟨by first | rfl | (rw [hE2]; rfl) | simp [hE2, ecode], HD7.out, HT7.out.2.2, L7.out.be.mono (fun k _ hk => .inl hk)⟩
          | true =>
            have hec : ecode E.2 = 0 := by rw [hE2]; rfl
            rw [hec] at Hst
            go_region_held3 (fun w' => w'.cell? ⟨t, 0, none⟩ = some (.pointer (some ⟨b.d, 0, none⟩)) ∧ w'.cell? ⟨t, 1, none⟩ = some (.int .i64 K) ∧ w'.cell? ⟨n10, 0, none⟩ = some (.int .i64 kd) ∧ w'.cell? ⟨n10, 1, none⟩ = some (.int .i64 cl) ∧ w'.cell? ⟨n10, 2, none⟩ = some (.int .i64 0))
              (first | exact Hcells.out _ LC.out | exact HS7.out)
              (first
                | (go_at_call 116; refine (Hh.out _).mono ?_; rintro e w' ⟨rfl, hb⟩; replace LC := Lib.hid (LC.out.call hb (Nat.le_refl _)); clear hb)
                | (go_at_call 117; refine (He.out _).mono ?_; rintro e w' ⟨rfl, hb⟩; replace LC := Lib.hid (LC.out.call hb (Nat.le_refl _)); clear hb)
                | (go_at_call 115; refine (Hst.out _ (HD.out.below LC.out.below (Nat.le_refl _))).mono ?_; rintro e w7 ⟨rfl, hd7, hm7⟩; obtain ⟨p1, p2, p3, p4⟩ := put_pack Htb.out Hto.out hFt hFg hne HDF.out Hlt.out LC.out hm7; have HS7 := Lib.hid p1; have HT7 := Lib.hid p2; have L7 := Lib.hid p3; have hg7 := p4; have HD7 := Lib.hid hd7; clear p1 p2 p3 hd7 hm7))
            all_goals
              obtain ⟨_, e8, _, _, _, _, hx8, fz8⟩ := HT7.out.2.1.at_ (by omega)
              cases e8
              have hl8 : hs.length = K := by have := HT7.out.2.1.len; rw [hcells_len] at this; omega
              obtain ⟨i0, i1, i2⟩ := hcells_at hs bl (by omega)
              have v0 := hx8 _ _ i0
              have v1 := hx8 _ _ i1
              have v2 := hx8 _ _ i2
              have f0 := fz8 (bl * 3)
              have f1 := fz8 (bl * 3 + 1)
              have f2 := fz8 (bl * 3 + 2)
              obtain ⟨s0, s1, s2, s3, s4⟩ := HS7.out
              have y0 : w7.cell? ⟨t, 2, none⟩ = some (.slice (some ⟨g, 0, none⟩) K cap) := HT7.out.1.cell 2
              have HS8 := Lib.hid (TabR.set HT7.out.1 HT7.out.2.1 hFt hFg hne hb2 kd cl)
              generalize hs.getD bl (0, 0) = old at *
              clear hx8 fz8 i0 i1 i2 hl8 hec HS7
              have hg7' : ¬ n10 = g := fun e => hg7 e.symm
              go_wp2_with fail
              go_region_law (fail)
              all_goals
                have HD8 := Lib.hid ((HD7.out.mod HS8.out.2 (fun k hk hF => HDF.out k hF hk)).drewN 1)
                have HT8 := Lib.hid (HS8.out.1.mod (S := Nob) ((Mod.refl _ _).drewN 1) (fun _ _ h => h))
                have HM8 := Lib.hid (((L7.out.be.mono (S' := fun k => b.has k ∨ F k) (fun k _ hk => .inl hk)).trans HS8.out.2 (fun k _ hk => .inr hk)).drewN 1)
                clear v0 v1 v2 f0 f1 f2 s0 s1 s2 s3 s4 y0 HS8 HT7 L7 HD7
                go_wp2_with fail
                exact ⟨⟨1, rfl, Nat.le_refl _, .inr ⟨rfl, hE2, HD8.out, HT8.out, HM8.out⟩⟩, by simp [intOf]⟩
        · have HD := Lib.hid hd
          have HT := Lib.hid htr
          have HM := Lib.hid hmr
          have HRE : Hid (R = exec E.1 (persistS ha 1)) := by show R = _; rw [hfe.out, hE2]; rfl
          have HE2 := Lib.hid hE2
          have Hps2 := Lib.hid (Hps.out wr E.1 hd)
          obtain ⟨g8, cap8, tb8, _⟩ := htr
          have hr : R = exec E.1 (persistS ha 1) := HRE.out
          rw [← hr] at Hps2
          have y0 : wr.drew.cell? ⟨t, 0, none⟩ = some (.pointer (some ⟨b.d, 0, none⟩)) := tb8.cell 0
          have y1 : wr.drew.cell? ⟨t, 1, none⟩ = some (.int .i64 K) := tb8.cell 1
          have Hcells : Hid (∀ w', Loc Nob wr.drew w' [] → w'.cell? ⟨t, 0, none⟩ = some (.pointer (some ⟨b.d, 0, none⟩)) ∧ w'.cell? ⟨t, 1, none⟩ = some (.int .i64 K)) := fun w' L =>
            have hb := Blk.below (w := wr.drew) tb8 L.below tb8.lt
            ⟨hb.cell 0, hb.cell 1⟩
          have Hps3 : Hid (∀ w', Loc Nob wr.drew w' [] → Calls Tryz.prog 118 #[.pointer (some ⟨b.d, 0, none⟩), .int .i64 ha, .int .i64 1] w' fun e w'' => e = .returned (.int .i64 (ecode R.2)) ∧ Dev B w'' b m R.1 ∧ Mod w' w'' b.has) := fun w' L => by
            have := Hps.out w' E.1 ((hd.drewN 1).below L.below (Nat.le_refl _))
            rw [← hr] at this
            exact this
          have LC := Lib.hid (Loc.nil Nob wr.drew)
          clear hd hmr hE2 tb8 hr Hps2
          go_wp2_with fail
          go_region_held3 (fun w' => w'.cell? ⟨t, 0, none⟩ = some (.pointer (some ⟨b.d, 0, none⟩)) ∧ w'.cell? ⟨t, 1, none⟩ = some (.int .i64 K))
            (first | exact Hcells.out _ LC.out | exact ⟨z0, z1⟩)
            (first
              | (go_at_call 116; refine (Hh.out _).mono ?_; rintro e w' ⟨rfl, hb⟩; replace LC := Lib.hid (LC.out.call hb (Nat.le_refl _)); clear hb)
              | (go_at_call 118; refine (Hps3.out _ LC.out).mono ?_; rintro e w7 ⟨rfl, hd7, hm7⟩; have z0 := cell_mod (p := ⟨t, 0, none⟩) hm7 (Hcells.out _ LC.out).1 (HDF.out _ hFt); have z1 := cell_mod (p := ⟨t, 1, none⟩) hm7 (Hcells.out _ LC.out).2 (HDF.out _ hFt); have HD7 := Lib.hid hd7; have HM7 := Lib.hid (mod_new LC.out.below hm7); clear hd7 hm7))
          have HT7 := Lib.hid ((HT.out.mod (S := Nob) ((Mod.refl wr _).drewN 1) (fun _ _ h => h)).mod HM7.out HDF.out)
          have HMM := Lib.hid ((HM.out.drewN 1).trans (HM7.out.mono (S' := fun k => b.has k ∨ F k) (fun k _ hk => .inl hk)) (fun _ _ h => h))
          clear z0 z1 y0 y1
          go_wp2_with fail
          go_ret
          exact ⟨rfl, HD7.out, HT7.out, HMM.out⟩
end Go.Proofs.YtcnjipicifkfjaaGreat

/- bman: Small. -/
namespace Go.Proofs.YtcnjipicifkfjaaGreat
open Go.RowKit
set_option linter.unusedVariables false
set_option linter.unusedSimpArgs false

theorem bms_join {B : Nat} {b : DB} {m : Nat} {s' : DS} {F T X : Nat → Prop} {t x mp K k n0 n9 : Nat} {hs' : List (Nat × Nat)} {o : Option (Nat × Nat)} {w W w' : World} (d1 : ∀ k, T k → ¬ X k) (d2 : ∀ k, T k → F k ∧ k < w.heap.size) (d3 : ∀ k, X k → F k ∧ k < w.heap.size)
    (d4 : F mp ∧ mp < w.heap.size) (d5 : ¬ T mp) (d6 : ¬ X mp) (hlt : ∀ k, b.has k → B ≤ k ∧ k < w.heap.size) (hDF : ∀ k, F k → ¬ b.has k)
    (L : Loc X w W [(n9, 178, #[.int .i64 1, .int .i64 k, .int .i64 0]), (n0, 178, #[.int .i64 1, .int .i64 k, .int .i64 0])])
    (hB : Blk W mp 122 #[.pointer (some ⟨t, 0, none⟩), .pointer (some ⟨x, 0, none⟩), .int .i64 K]) (hX : IdxR W X x K o) (hM : Mod w W X)
    (hm : Mod W w' (fun k => b.has k ∨ T k)) (hd : Dev B w' b m s') (ht : TabR w' T t b.d K hs') :
    (w'.cell? ⟨mp, 0, none⟩ = some (.pointer (some ⟨t, 0, none⟩)) ∧ w'.cell? ⟨n0, 0, none⟩ = some (.int .i64 1) ∧ w'.cell? ⟨n0, 1, none⟩ = some (.int .i64 k) ∧ w'.cell? ⟨n0, 2, none⟩ = some (.int .i64 0)) ∧
      Dev B w' b m s' ∧ BmanR w' F mp b.d K hs' o ∧ Mod w w' (fun k => b.has k ∨ F k) := by
  have hS : ∀ k, (b.has k ∨ T k) → (b.has k ∨ F k) ∧ k < w.heap.size := fun k hk => hk.elim (fun h => ⟨.inl h, (hlt k h).2⟩) (fun h => ⟨.inr (d2 k h).1, (d2 k h).2⟩)
  have L5 := (L.weak (S' := fun k => b.has k ∨ F k) (fun k _ h => .inr (d3 k h).1)).eff hm hS
  have hb5 := hm.blk hB (fun h => h.elim (hDF _ d4.1) d5)
  have hX5 := hX.mod hm (fun k hk h => h.elim (hDF _ (d3 k hk).1) (fun h => d1 k h hk))
  exact ⟨⟨hb5.cell 0, L5.b1.cell 0, L5.b1.cell 1, L5.b1.cell 2⟩, hd, ⟨t, x, T, X, hb5, ht, hX5, d1, fun k h => (d2 k h).1, fun k h => (d3 k h).1, d4.1, d5, d6⟩, L5.be⟩
set_option maxRecDepth 100000 in
set_option maxHeartbeats 2000000 in
theorem bmsmall_any (B : Nat) (b : DB) (m : Nat) (s : DS) (F : Nat → Prop) (mp K k st n : Nat) (hs : List (Nat × Nat)) (w : World) (h : Dev B w b m s) (hM : BmanR w F mp b.d K hs (some (st, n))) (hD : ∀ k, F k → ¬ b.has k)
    (hk : Hdr 1 k) (hs1 : 1 ≤ st) (hn1 : 1 ≤ n) (hle : st + n ≤ K) (hK : K ≤ 150) (hm : m = K * 64) :
    Calls Tryz.prog 160 #[.pointer (some ⟨mp, 0, none⟩), .int .i64 k] w fun e w' => e = .returned (.tuple #[.int .i64 (if (exec s (putS st 1 k)).2 then st else 0 : Nat), .int .i64 (ecode (exec s (putS st 1 k)).2)]) ∧ Dev B w' b m (exec s (putS st 1 k)).1 ∧
      BmanR w' F mp b.d K (if (exec s [.st (256 + st) (hword st 1 k)]).2 then hs.set st (1, k) else hs) (restO st n) ∧ Mod w w' (fun k => b.has k ∨ F k) := by
  have Hlt := Lib.hid h.lt
  have HDF := Lib.hid hD
  have hM' := hM.weak (F' := fun k => F k ∧ k < w.heap.size) (fun k h1 h2 => ⟨h2, h1⟩)
  obtain ⟨t, x, T, X, hmb, hT, hX, d1, d2, d3, d4, d5, d6⟩ := hM'
  have Hr := Lib.hid (fun w => bhright_any 1 k w hk)
  obtain ⟨n0, Hn0⟩ : ∃ n, Hid (w.heap.size = n) := ⟨_, rfl⟩
  have L0 := Lib.hid ((Loc.nil Nob w).box 178 #[.int .i64 1, .int .i64 k, .int .i64 0] n0 Hn0.out)
  have HD := Lib.hid h
  have HT := Lib.hid hT
  have HX := Lib.hid hX
  have HMB := Lib.hid hmb
  have Htk := Lib.hid (fun w (h : IdxR w X x K (some (st, n))) => take_one X x K st n w h (by omega) hn1)
  have Hpu := Lib.hid (fun (gl : Nat) w (h : Dev B w b m s) (ht : TabR w T t b.d K hs) (hgl : Blk w gl 178 #[.int .i64 1, .int .i64 k, .int .i64 0]) => tput_any B b m s T t K st 1 k gl hs w h ht (fun k hk => hD k (d2 k hk).1) hgl hk hs1 (by omega) hK hm)
  obtain ⟨R, HR⟩ : ∃ R, Hid (exec s (putS st 1 k) = R) := ⟨_, rfl⟩
  rw [HR.out] at Hpu ⊢
  obtain ⟨v, Hv⟩ : ∃ v, Hid ((if R.2 then st else 0) = v) := ⟨_, rfl⟩
  rw [Hv.out]
  obtain ⟨hs', Hhs⟩ : ∃ hs', Hid ((if (exec s [.st (256 + st) (hword st 1 k)]).2 then hs.set st (1, k) else hs) = hs') := ⟨_, rfl⟩
  rw [Hhs.out] at Hpu ⊢
  clear h hD hmb hT hX hk hM hm
  go_enter Tryz.func160, Tryz.ntmps160
  go_wp2_with fail
  rw [Hn0.out]
  generalize w.alloc _ = w1 at *
  refine (Hr.out _).mono ?_
  rintro e w2 ⟨rfl, hb⟩
  have L2 := Lib.hid (L0.out.call hb (Nat.le_refl _))
  clear hb L0
  have c1 : w2.cell? ⟨mp, 1, none⟩ = some (.pointer (some ⟨x, 0, none⟩)) := (HMB.out.below L2.out.below HMB.out.lt).cell 1
  go_wp2_with fail
  refine (Htk.out _ (HX.out.below L2.out.below (Nat.le_refl _))).mono ?_
  rintro e w3 ⟨rfl, hX3, hM3⟩
  have HX3 := Lib.hid hX3
  have hm2 : Mod w w2 Nob := (mod_below L2.out.below : Mod w w2 Nob)
  have hm3 : Mod w w3 X := Mod.trans (hm2.mono (fun _ _ h => h.elim)) hM3 (fun k _ h => h)
  obtain ⟨n9, Hn9⟩ : ∃ n, Hid (w3.heap.size = n) := ⟨_, rfl⟩
  have L3 := (L2.out.weak (S' := X) (fun _ _ h => h.elim)).eff hM3 (fun k hk => ⟨hk, (d3 k hk).2⟩)
  have LC := Lib.hid (L3.box 178 #[.int .i64 1, .int .i64 k, .int .i64 0] n9 Hn9.out).drew
  obtain ⟨W, HW⟩ : ∃ W, Hid ((w3.alloc (.cells #[.int .i64 1, .int .i64 k, .int .i64 0] 178)).drew = W) := ⟨_, rfl⟩
  rw [HW.out] at LC
  have hMW : Mod w3 W Nob := by rw [← HW.out]; exact ((Mod.refl w3 Nob).alloc _).drewN 1
  have hmW : Mod w W X := hm3.trans hMW (fun _ _ h => h.elim)
  have HMW := Lib.hid hmW
  have HD3 : Hid (Dev B W b m s) := HD.out.mod hmW (fun k h1 h2 => HDF.out k (d3 k h2).1 h1)
  have HT3 : Hid (TabR W T t b.d K hs) := HT.out.mod hmW (fun k h1 h2 => d1 k h1 h2)
  have HX3 : Hid (IdxR W X x K (restO st n)) := hX3.mod hMW (fun _ _ h => h)
  have HB3 := Lib.hid (hmW.blk HMB.out d6)
  have c0 : w3.cell? ⟨mp, 0, none⟩ = some (.pointer (some ⟨t, 0, none⟩)) := (hm3.blk HMB.out d6).cell 0
  have y0 : w3.cell? ⟨n0, 0, none⟩ = some (.int .i64 1) := L3.b0.cell 0
  have y1 : w3.cell? ⟨n0, 1, none⟩ = some (.int .i64 k) := L3.b0.cell 1
  have y2 : w3.cell? ⟨n0, 2, none⟩ = some (.int .i64 0) := L3.b0.cell 2
  clear c1 hM3 hX3 hm2 hm3 L2 L3 hMW hmW HD HT HX HMB
  go_wp2_with fail
  go_region_held3 (fun w' => w'.cell? ⟨mp, 0, none⟩ = some (.pointer (some ⟨t, 0, none⟩)) ∧ w'.cell? ⟨n0, 0, none⟩ = some (.int .i64 1) ∧ w'.cell? ⟨n0, 1, none⟩ = some (.int .i64 k) ∧ w'.cell? ⟨n0, 2, none⟩ = some (.int .i64 0))
    (first | exact ⟨c0, y0, y1, y2⟩ | exact HE.out.1 | exact (HW.out ▸ ⟨HB3.out.cell 0, LC.out.b1.cell 0, LC.out.b1.cell 1, LC.out.b1.cell 2⟩))
    ((go_at_call 209; rw [Hn9.out, HW.out]; refine (Hpu.out n9 W HD3.out HT3.out LC.out.b0).mono ?_; rintro e w' ⟨rfl, hd5, ht5, hm5⟩; have HE := Lib.hid (bms_join d1 d2 d3 d4 d5 d6 Hlt.out HDF.out LC.out HB3.out HX3.out HMW.out hm5 hd5 ht5); have y3 := HE.out.1; clear hd5 ht5 hm5))
  all_goals
    obtain ⟨hd6, hb6, hm6⟩ := HE.out.2
    have HF : Hid (Dev B w' b m R.1 ∧ BmanR w' F mp b.d K hs' (restO st n) ∧ Mod w w' (fun k => b.has k ∨ F k)) := ⟨hd6, hb6, hm6⟩
    clear hd6 hb6 hm6 HE LC HD3 HT3 HX3 HB3
    cases hR : R.2 with
    | true =>
      have hv : v = st := by rw [← Hv.out, hR]; rfl
      rw [show ecode true = 0 from rfl]
      go_wp2_with fail
      refine bodyPost_ret (results_tmp2 rfl _ _ _) rfl ?_
      rw [hv, hR]
      exact ⟨rfl, HF.out⟩
    | false =>
      have hv : v = 0 := by rw [← Hv.out, hR]; rfl
      rw [show ecode false = 3 from rfl]
      go_wp2_with fail
      refine bodyPost_ret (results_tmp2 rfl _ _ _) rfl ?_
      rw [hv, hR]
      exact ⟨rfl, HF.out⟩
end Go.Proofs.YtcnjipicifkfjaaGreat

/- alloc: room, where there is a free cell. -/
namespace Go.Proofs.YtcnjipicifkfjaaGreat
open Go.RowKit
set_option linter.unusedVariables false
set_option linter.unusedSimpArgs false

/-- A cell is taken, for a mutator: its own, or of those that are filled in. -/
def takeA (glob : List Nat) (cs : Nat → List Nat) (mu : Nat) : Nat := if cs mu ≠ [] then (cs mu).getLastD 0 else (glob.drop (glob.length - takeN glob)).getLastD 0
def takeG (glob : List Nat) (cs : Nat → List Nat) (mu : Nat) : List Nat := if cs mu ≠ [] then glob else glob.take (glob.length - takeN glob)
def takeC (glob : List Nat) (cs : Nat → List Nat) (mu : Nat) : Nat → List Nat := if cs mu ≠ [] then updC cs mu (cs mu).dropLast else updC cs mu (glob.drop (glob.length - takeN glob)).dropLast
def AS.take (S : AS) (mu : Nat) : AS := { S with glob := takeG S.glob S.cs mu, cs := takeC S.glob S.cs mu }
theorem ftake_yes (F : Nat → Prop) (f k m : Nat) (glob : List Nat) (cs : Nat → List Nat) (w : World) (h : FreeR w F f k glob cs) (hg : glob.length ≤ 900) (hc : ∀ m, (cs m).length ≤ 1000) (hm : m < 4) (hne : cs m ≠ [] ∨ glob ≠ []) :
    Calls Tryz.prog 159 #[.pointer (some ⟨f, 0, none⟩), .int .i64 m, .int .i64 k] w fun e w' => e = .returned (.tuple #[.int .i64 (takeA glob cs m : Nat), .int .i64 0]) ∧ FreeR w' (GrowF F w) f k (takeG glob cs m) (takeC glob cs m) ∧ Mod w w' F := by
  unfold takeA takeG takeC
  by_cases hq : cs m ≠ []
  · rw [if_pos hq, if_pos hq, if_pos hq]
    exact ftake_own F f k m glob cs w h hg hc hm hq
  · rw [if_neg hq, if_neg hq, if_neg hq]
    exact ftake_fill F f k m glob cs w h hg hc hm (by simpa using hq) (hne.resolve_left hq) _ rfl
/-- The allocator behind free.Take. -/
theorem AllocX.taken {w w' : World} {col : Nat → Nat} {ap d mp us fr mu : Nat} {S : AS} (h : AllocX w col ap d mp us fr S) (hf : FreeR w' (GrowF (fun k => col k = 3) w) fr S.k (takeG S.glob S.cs mu) (takeC S.glob S.cs mu)) (hM : Mod w w' (fun k => col k = 3)) :
    AllocX w' (colW col w 3) ap d mp us fr (S.take mu) := by
  have h1 := (h.recol (colW_lt col w 3))
  have hM2 : Mod w w' (fun k => colW col w 3 k = 3) := hM.mono (fun k hk h => by rw [colW_lt _ _ _ _ hk]; exact h)
  exact h1.free hM2 (hf.weak (fun k hk h => h.elim (fun h => by
    by_cases hkw : k < w.heap.size
    · rw [colW_lt _ _ _ _ hkw]; exact h
    · exact colW_ge _ _ _ _ (by omega)) (fun h => colW_ge _ _ _ _ h)))
set_option maxRecDepth 100000 in
set_option maxHeartbeats 2000000 in
theorem room_take (col : Nat → Nat) (ap d mp us fr mu p dd : Nat) (S : AS) (w : World) (hA : AllocX w col ap d mp us fr S) (hmu : mu < 4) (hp : p ≤ 63) (hd : 1 + p + dd ≤ 256) (hk : cof (1 + p + dd) = S.k) (hg : S.glob.length ≤ 900) (hc : ∀ m, (S.cs m).length ≤ 1000) (hne : S.cs mu ≠ [] ∨ S.glob ≠ []) :
    Calls Tryz.prog 112 #[.pointer (some ⟨ap, 0, none⟩), .int .i64 mu, .agg #[.int .i64 p, .int .i64 dd]] w fun e w' => e = .returned (.tuple #[.int .i64 (takeA S.glob S.cs mu : Nat), .int .i64 0]) ∧ (∃ col', (∀ k, k < w.heap.size → col' k = col k) ∧ AllocX w' col' ap d mp us fr (S.take mu)) ∧ Mod w w' (fun k => col k = 3) := by
  have Hs := Lib.hid (fun w => osmall_any p dd w hp hd)
  rw [hk] at Hs
  obtain ⟨w0, Hw0⟩ : ∃ w0, Hid (w = w0) := ⟨_, rfl⟩
  have Hft := Lib.hid (fun w h => ftake_yes (fun k => colW col w0 9 k = 3) fr S.k mu S.glob S.cs w h hg hc hmu hne)
  obtain ⟨n1, Hn1⟩ : ∃ n, Hid (w.heap.size = n) := ⟨_, rfl⟩
  have L1 := Lib.hid ((Loc.nil Nob w).box 51 #[.int .i64 p, .int .i64 dd] n1 Hn1.out)
  have HA := Lib.hid (Hw0.out ▸ (hA.recol (colW_lt col w 9)) : AllocX w (colW col w0 9) ap d mp us fr S)
  clear hA hk hg hc hne
  obtain ⟨ta, Hta⟩ : ∃ ta, Hid (takeA S.glob S.cs mu = ta) := ⟨_, rfl⟩
  rw [Hta.out] at Hft ⊢
  go_enter Tryz.func112, Tryz.ntmps112
  go_wp2_with fail
  rw [Hn1.out]
  generalize w.alloc _ = w1 at *
  refine (Hs.out _).mono ?_
  rintro e w2 ⟨rfl, hb2⟩
  have L2 := Lib.hid (L1.out.call hb2 (Nat.le_refl _))
  have HA2 := Lib.hid (HA.out.below L2.out.below (Nat.le_refl _))
  have c4 : w2.cell? ⟨ap, 4, none⟩ = some (.pointer (some ⟨fr, 0, none⟩)) := HA2.out.b.cell 4
  clear hb2 L1 HA
  go_wp2_with fail
  refine (Hft.out _ HA2.out.f).mono ?_
  rintro e w3 ⟨rfl, hf3, hM3⟩
  have HA3 := Lib.hid (HA2.out.taken (mu := mu) hf3 hM3)
  have hsz : w.heap.size ≤ w2.heap.size := L2.out.below.size
  have HC : Hid (∀ k, k < w.heap.size → colW (colW col w0 9) w2 3 k = col k) := by
    intro k hk
    rw [colW_lt _ _ _ _ (by omega), ← Hw0.out, colW_lt _ _ _ _ hk]
  have HM : Hid (Mod w w3 (fun k => col k = 3)) := Mod.trans (mod_b L2.out.below : Mod w w2 (fun k => col k = 3)) hM3 (fun k hk h => by rw [← Hw0.out, colW_lt _ _ _ _ hk] at h; exact h)
  clear hf3 hM3 c4 HA2
  go_wp2_with fail
  go_ret2
  exact ⟨rfl, ⟨_, HC.out, HA3.out⟩, HM.out⟩
end Go.Proofs.YtcnjipicifkfjaaGreat
