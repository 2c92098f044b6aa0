/- taproottop: TopRoom, the walk. -/
import Derived.Test.YtcnjipicifkfjaaGreatRm37
import Derived.Test.YtcnjipicifkfjaaGreatRm38
import Derived.Test.YtcnjipicifkfjaaGreatRm02

namespace Go.Proofs.YtcnjipicifkfjaaGreat
open Go.RowKit
set_option linter.unusedVariables false
set_option linter.unusedSimpArgs false

theorem RSt.up {N0 : Nat} {w : World} {hp d live u c c' : Nat} (h : RSt N0 w hp d live u c) (hc : c ≤ c') : RSt N0 w hp d live u c' := by
  obtain ⟨B, b, col, al, mp, us, fr, rt, hl, ca, sh, S, s, h1, h2, h3, h4⟩ := h
  exact ⟨B, b, col, al, mp, us, fr, rt, hl, ca, sh, S, s, h1, ⟨h2.ai, h2.l, h2.ph, h2.st, h2.mo, Nat.le_trans h2.cy hc, h2.ws, h2.he, h2.r0, h2.rx, h2.rl, h2.u⟩, h3, h4⟩
theorem mod_next (i g : Nat) (h1 : 1 ≤ g) (h2 : g ≤ 8) (h : (i + 1) % g ≠ 0) : (i + 1) % g = i % g + 1 := by
  rcases (by omega : g = 1 ∨ g = 2 ∨ g = 3 ∨ g = 4 ∨ g = 5 ∨ g = 6 ∨ g = 7 ∨ g = 8) with rfl | rfl | rfl | rfl | rfl | rfl | rfl | rfl <;> omega
set_option maxRecDepth 100000 in
set_option maxHeartbeats 4000000 in
theorem room_any (a b mny dt : Nat) (w : World) (ha : a < 256) (hb : b < 256) (hm : mny < 65536) (hdt : dt < 256) :
    Calls Tryz.prog 4 #[.agg #[.int .u8 a, .int .u8 b], .int .u16 mny, .int .u8 dt] w fun e w' => e = .returned (.bool true) ∧ Below w.heap.size w w' := by
  obtain ⟨n1, Hn1⟩ : ∃ n, Hid (w.heap.size = n) := ⟨_, rfl⟩
  have L1 := Lib.hid ((Loc.nil Nob w).box 45 #[.int .u8 a, .int .u8 b] n1 Hn1.out)
  obtain ⟨d, Hd⟩ : ∃ d, Hid (1 + dt % 60 = d) := ⟨_, rfl⟩
  obtain ⟨lv, Hlv⟩ : ∃ d, Hid (1 + a % 16 = d) := ⟨_, rfl⟩
  obtain ⟨gp, Hgp⟩ : ∃ d, Hid (1 + b % 8 = d) := ⟨_, rfl⟩
  obtain ⟨cnt, Hcnt⟩ : ∃ d, Hid (mny % 600 = d) := ⟨_, rfl⟩
  go_enter Tryz.func4, Tryz.ntmps4
  go_wp2_with fail
  rw [Hn1.out]
  generalize w.alloc _ = w1 at *
  refine (awake_any w1).mono ?_
  rintro e w2 ⟨rfl, hb2⟩
  have L2 := Lib.hid (L1.out.call hb2 (Nat.le_refl _))
  clear hb2
  go_wp2_with fail
  have ed : (1 + (dt : Int) % 60) = (d : Int) := by have := Hd.out; omega
  have hd60 : d ≤ 60 := by have := Hd.out; omega
  rw [ed]
  refine (rs_new d lv w2 hd60).mono ?_
  rintro e w3 ⟨hp, rfl, hS3, hF3, hb3⟩
  obtain ⟨N0, HN0⟩ : ∃ N0, Hid (w2.heap.size = N0) := ⟨_, rfl⟩
  have L3 := Lib.hid (L2.out.call hb3 (Nat.le_refl _))
  have HN3 : Hid (N0 ≤ w3.heap.size) := by have := hb3.size; have := HN0.out; show _ ≤ _; omega
  have HNw : Hid (w.heap.size ≤ N0) := by have := L2.out.below.size; have := HN0.out; show _ ≤ _; omega
  rw [HN0.out] at hS3
  have HS3 := Lib.hid hS3
  obtain ⟨al, hF⟩ := hF3
  have HF := Lib.hid hF
  clear hS3 hb3 hF
  obtain ⟨cc, Hcc⟩ : ∃ cc, Hid (ccells (cof (1 + 0 + d)) = cc) := ⟨_, rfl⟩
  have hcc := ccells_pos (cof (1 + 0 + d)) (cof_lt _ (by omega))
  rw [Hcc.out] at HF hcc
  go_wp2_with fail
  refine ((HF.out w3 (Below.refl _ _)).1).mono ?_
  rintro e w4 ⟨rfl, rfl⟩
  go_wp2_with fail
  refine ((HF.out w3 (Below.refl _ _)).2).mono ?_
  rintro e w4 ⟨rfl, hb4⟩
  have L4 := Lib.hid (L3.out.call hb4 (Nat.le_refl _))
  have HS4 := Lib.hid (HS3.out.below hb4)
  have HN4 : Hid (N0 ≤ w4.heap.size) := Nat.le_trans HN3.out hb4.size
  clear hb4 HS3 HN3 L3 HF
  have x0 : w4.cell? ⟨n1, 0, none⟩ = some (.int .u8 a) := L4.out.b0.cell 0
  have x1 : w4.cell? ⟨n1, 1, none⟩ = some (.int .u8 b) := L4.out.b0.cell 1
  go_wp2_with fail
  go_region_held3 (fun W => W.cell? ⟨n1, 0, none⟩ = some (.int .u8 a) ∧ W.cell? ⟨n1, 1, none⟩ = some (.int .u8 b)) (exact ⟨x0, x1⟩) (fail)
  obtain ⟨a16, Ha16⟩ : ∃ x, Hid (a % 16 = x) := ⟨_, rfl⟩
  obtain ⟨b8, Hb8⟩ : ∃ x, Hid (b % 8 = x) := ⟨_, rfl⟩
  have t1 : ((a : Int)).tmod 16 = (a16 : Int) := by rw [← Ha16.out]; rfl
  have t2 : ((b : Int)).tmod 8 = (b8 : Int) := by rw [← Hb8.out]; rfl
  have ha16 : a16 < 16 := by have := Ha16.out; omega
  have hb8 : b8 < 8 := by have := Hb8.out; omega
  have t3 : IntKind.i64.wrap (1 + (a16 : Int)) = (lv : Int) := by have := Hlv.out; have := Ha16.out; exact (congrArg IntKind.i64.wrap (by omega)).trans (IntWalk.i64_in _ (by omega))
  have t4 : IntKind.i64.wrap (1 + (b8 : Int)) = (gp : Int) := by have := Hgp.out; have := Hb8.out; exact (congrArg IntKind.i64.wrap (by omega)).trans (IntWalk.i64_in _ (by omega))
  rw [t1, t2, IntWalk.i64_in (a16 : Int) (by omega), IntWalk.i64_in (b8 : Int) (by omega), t3, t4]
  have hlv : 1 ≤ lv ∧ lv ≤ 16 := by have := Hlv.out; omega
  have hgp : 1 ≤ gp ∧ gp ≤ 8 := by have := Hgp.out; omega
  have L5 := Lib.hid (L4.out.drew)
  have HS5 : Hid (RSt N0 w4.drew hp d lv 0 0) := HS4.out.below (below_drewN (Below.refl w4.heap.size w4) 1)
  have HN5 : Hid (N0 ≤ w4.drew.heap.size) := HN4.out
  have HB5 : Hid (Below w.heap.size w w4.drew) := L5.out.below
  clear L5 L4 L2 L1 HS4 HN4 t1 t2 t3 t4 x0 x1
  generalize w4.drew = w5 at *
  by_cases hq : cc < lv + 2 * gp
  · go_wp2_with omega
    go_ret
    exact ⟨rfl, HB5.out⟩
  go_wp2_with omega
  go_loopw [13] (fun v13 wr => ∃ (i u : Nat), v13 = .int .i64 i ∧ i ≤ cnt ∧ RSt N0 wr hp d lv u i ∧ (i % gp ≠ 0 → u ≤ lv + i % gp) ∧ N0 ≤ wr.heap.size ∧ Below w.heap.size w wr) (fun v13 _ => cnt - (intOf v13).toNat)
  case atStart => exact ⟨0, 0, rfl, Nat.zero_le _, HS5.out, fun h => absurd (Nat.zero_mod _) h, HN5.out, HB5.out⟩
  case round =>
    clear HS5 HN5 HB5
    obtain ⟨i, u, rfl, hi, hS, hu, hN, hB⟩ := hrel
    have HS := Lib.hid hS
    have HN := Lib.hid hN
    have HB := Lib.hid hB
    clear hS hN hB
    obtain ⟨wo, rfl⟩ : ∃ wo, wo = wr := ⟨wr, rfl⟩
    have ecn : ((mny : Int) % 600) = (cnt : Int) := by have := Hcnt.out; omega
    have hcnt6 : cnt < 600 := by have := Hcnt.out; omega
    have hmg : i % gp < gp := Nat.mod_lt _ (by omega)
    have hml : i % lv < lv := Nat.mod_lt _ (by omega)
    obtain ⟨r, Hr⟩ : ∃ r, Hid (i % lv = r) := ⟨_, rfl⟩
    rw [Hr.out] at hml
    obtain ⟨r8, Hr8⟩ : ∃ x, Hid (r / 8 = x) := ⟨_, rfl⟩
    obtain ⟨rm, Hrm⟩ : ∃ x, Hid (r % 8 = x) := ⟨_, rfl⟩
    have hrm : rm < 8 := by have := Hrm.out; omega
    have hr8 : r8 < 2 := by have := Hr8.out; omega
    have hlz : (lv : Int) ≠ 0 := by omega
    have hlz0 : lv ≠ 0 := by omega
    have hlz3 : (lv = 0) = False := eq_false hlz0
    have hlz2 : ((lv : Int) == 0) = false := by simp; omega
    have htm : (i : Int).tmod (lv : Int) = (r : Int) := by rw [← Hr.out]; rfl
    have htw : IntKind.i64.wrap (r : Int) = (r : Int) := IntWalk.i64_in _ (by omega)
    have htd : (r : Int).tdiv 8 = (r8 : Int) := by rw [← Hr8.out]; rfl
    have htdw : IntKind.i64.wrap (r8 : Int) = (r8 : Int) := IntWalk.i64_in _ (by omega)
    have htr : (r : Int).tmod 8 = (rm : Int) := by rw [← Hrm.out]; rfl
    have htrw : IntKind.i64.wrap (rm : Int) = (rm : Int) := IntWalk.i64_in _ (by omega)
    have Hal : Hid (∀ W u c, RSt N0 W hp d lv u c → N0 ≤ W.heap.size → u ≤ lv + i % gp → Calls Tryz.prog 20 #[.pointer (some ⟨hp, 0, none⟩), .agg #[.int .i64 r8, .int .i64 rm], .int .i64 0, .int .i64 d] W fun e w' => e = .returned (.int .i64 0) ∧ RSt N0 w' hp d lv (u + 1) c ∧ Below N0 W w') := by
      intro W u c h1 h2 h3
      rw [← Hr8.out, ← Hrm.out]
      exact rs_alloc h1 h2 hd60 hml hlv.2 (by rw [Hcc.out]; omega)
    have hil : i < 600 ∨ 600 ≤ i := Nat.lt_or_ge _ _
    by_cases hic : i < cnt
    · by_cases hz : i % gp = 0
      · obtain ⟨ca, M, c18, c19, c17⟩ := rs_collect HS.out HN.out hd60 (by omega)
        have H18 := Lib.hid c18
        have H19 := Lib.hid c19
        have H17 := Lib.hid c17
        clear c18 c19 c17
        go_wp2_with omega
        refine H18.out.mono ?_
        rintro e w6 ⟨rfl, rfl⟩
        go_wp2_with omega
        refine H19.out.mono ?_
        rintro e w6 ⟨rfl, hb6⟩
        have HB6 := Lib.hid hb6
        clear hb6
        go_wp2_with omega
        refine (H17.out w6 HB6.out).mono ?_
        rintro e w7 ⟨rfl, hS7, hb7⟩
        have HS7 := Lib.hid hS7
        have HN7 : Hid (N0 ≤ w7.heap.size) := Nat.le_trans HN.out (Nat.le_trans HB6.out.size hb7.size)
        have HB7 : Hid (Below w.heap.size w w7) := (HB.out.trans (HB6.out.mono HB.out.size)).trans (hb7.mono HNw.out)
        clear hS7 hb7 H17 H18 H19 HS HB6 HB HN
        have HA7 := Lib.hid (Hal.out w7.drew lv (i + 1) (HS7.out.below (below_drewN (Below.refl w7.heap.size w7) 1)) HN7.out (by omega))
        go_wp2_with omega
        go_region_held3 (fun W => True) (trivial) ((go_at_call 20; refine HA7.out.mono ?_; rintro e w8 ⟨rfl, hS8, hb8⟩; have HS8 := Lib.hid hS8; have HB8 : Hid (Below N0 w7.drew w8) := hb8; clear hS8 hb8))
        all_goals go_wp2_with omega
        all_goals exact ⟨⟨i + 1, lv + 1, by go_num, by omega, HS8.out, fun h => by have := mod_next i gp hgp.1 hgp.2 h; omega, Nat.le_trans HN7.out HB8.out.size, (HB7.out.trans (below_drewN (Below.refl _ _) 1)).trans (HB8.out.mono HNw.out)⟩, by simp [intOf]; omega⟩
      · have HA7 := Lib.hid (Hal.out wo.drew u i (HS.out.below (below_drewN (Below.refl wo.heap.size wo) 1)) HN.out (hu hz))
        go_wp2_with omega
        go_region_held3 (fun W => True) (trivial) ((go_at_call 20; refine HA7.out.mono ?_; rintro e w8 ⟨rfl, hS8, hb8⟩; have HS8 := Lib.hid hS8; have HB8 : Hid (Below N0 wo.drew w8) := hb8; clear hS8 hb8))
        all_goals go_wp2_with omega
        all_goals exact ⟨⟨i + 1, u + 1, by go_num, by omega, HS8.out.up (by omega), fun h => by have := mod_next i gp hgp.1 hgp.2 h; have := hu hz; omega, Nat.le_trans HN.out HB8.out.size, (HB.out.trans (below_drewN (Below.refl _ _) 1)).trans (HB8.out.mono HNw.out)⟩, by simp [intOf]; omega⟩
    · obtain rfl : i = cnt := by omega
      have Hlv := Lib.hid (rs_live HS.out)
      go_wp2_with omega
      refine Hlv.out.mono ?_
      rintro e w6 ⟨⟨A, n, cap, rfl, hn⟩, hb6⟩
      have HB6 : Hid (Below w.heap.size w w6) := HB.out.trans (hb6.mono HB.out.size)
      clear hb6
      have hdl : decide ((n : Int) ≤ (lv : Int)) = true := decide_eq_true (by omega)
      go_wp2_with omega
      go_ret
      exact ⟨by simp, HB6.out⟩
end Go.Proofs.YtcnjipicifkfjaaGreat

/- TopRoom on arguments as they come. -/
namespace Go.Proofs.YtcnjipicifkfjaaGreat
open Go.RowKit
set_option linter.unusedVariables false

theorem room_args (x y m t : Int) (w : World) (hx : (Lit.int .u8 x).wf = true) (hy : (Lit.int .u8 y).wf = true) (hm : (Lit.int .u16 m).wf = true) (ht : (Lit.int .u8 t).wf = true) :
    Calls Tryz.prog 4 #[.agg #[.int .u8 x, .int .u8 y], .int .u16 m, .int .u8 t] w fun e w' => e = .returned (.bool true) ∧ Below w.heap.size w w' := by
  obtain ⟨x0, x1⟩ := bounds_u8 hx
  obtain ⟨y0, y1⟩ := bounds_u8 hy
  obtain ⟨m0, m1⟩ : 0 ≤ m ∧ m < 65536 := by
    simp [Lit.wf, IntKind.min, IntKind.max, IntKind.signed, IntKind.bits] at hm
    omega
  obtain ⟨t0, t1⟩ := bounds_u8 ht
  obtain ⟨x', rfl⟩ := Int.eq_ofNat_of_zero_le x0
  obtain ⟨y', rfl⟩ := Int.eq_ofNat_of_zero_le y0
  obtain ⟨m', rfl⟩ := Int.eq_ofNat_of_zero_le m0
  obtain ⟨t', rfl⟩ := Int.eq_ofNat_of_zero_le t0
  exact room_any x' y' m' t' w (by omega) (by omega) (by omega) (by omega)
end Go.Proofs.YtcnjipicifkfjaaGreat
