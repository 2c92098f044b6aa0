/- revive: Keep. -/
import Derived.Test.YtcnjipicifkfjaaGreatEv25
import Derived.Test.YtcnjipicifkfjaaGreatEv17
import Derived.Test.YtcnjipicifkfjaaGreatEv15
import Derived.Test.YtcnjipicifkfjaaGreatEv16
import Derived.Test.YtcnjipicifkfjaaGreatEv23

namespace Go.Proofs.YtcnjipicifkfjaaGreat
open Go.RowKit
set_option linter.unusedVariables false
set_option linter.unusedSimpArgs false

theorem run_slice_sub3 {P : Program} (t e : TypeId) (ht : P.underlying t = some (.slice e)) (hs : (P.info? e).map (·.size) = some 3) (g o n cap l h : Nat) (h1 : l ≤ h) (h2 : h ≤ cap) (h3 : l < cap) (L H : Int) (hL : L = l) (hH : H = h) (w : World) :
    (Instr.slice t (.slice (some ⟨g, o, none⟩) n cap) (some (.int .i64 L)) (some (.int .i64 H)) none).run P w = .ok (.slice (some ⟨g, o + l * 3, none⟩) (h - l) (cap - l)) w := by
  subst hL hH
  have he : P.elem t = e := by simp [Program.elem, ht]
  cases hq : P.info? e with
  | none => simp [hq] at hs
  | some i =>
    have hsz : i.size = 3 := by simpa [hq] using hs
    rw [run_slice_lh w t _ n cap (by rw [he]; exact ht) .i64 .i64 l h (by omega) (by omega) (by omega), he]
    simp only [sizeOf, typeInfo, Sem.run_bind, run_program, Result.andThen_ok, hq, Sem.run_pure, hsz, sliced, Int.toNat_natCast, Option.map_some]
    rw [if_neg (by omega)]
    have hadd : (⟨g, o, none⟩ : Addr).add (l * 3) = ⟨g, o + l * 3, none⟩ := by unfold Addr.add; split <;> simp_all
    rw [hadd]
theorem size178 : (Tryz.prog.info? 178).map (·.size) = some 3 := by kernel_rfl
theorem run_copy3 {P : Program} (w : World) (dT sT ty elem : TypeId) (g o dCap g2 o2 sCap : Nat) (a b c : Value) (hu : P.underlying dT = some (.slice elem)) (hs : (P.info? elem).map (·.size) = some 3)
    (s0 : w.cell? ⟨g2, o2, none⟩ = some a) (s1 : w.cell? ⟨g2, o2 + 1, none⟩ = some b) (s2 : w.cell? ⟨g2, o2 + 2, none⟩ = some c)
    (hc : ∀ j, j < 3 → (w.cell? ⟨g, o + j, none⟩).isSome = true) (hf : ∀ j, j < 3 → w.frozen? ⟨g, o + j, none⟩ = false) (h1 : a.oneCell' = true ∧ b.oneCell' = true ∧ c.oneCell' = true) :
    (Builtin.copy_ #[dT, sT] ty #[.slice (some ⟨g, o, none⟩) 1 dCap, .slice (some ⟨g2, o2, none⟩) 1 sCap]).run P w = .ok (goInt 1) (((w.setCell ⟨g, o, none⟩ a).setCell ⟨g, o + 1, none⟩ b).setCell ⟨g, o + 2, none⟩ c) := by
  have hl := run_loadCells_list (P := P) w ⟨g2, o2, none⟩ [a, b, c] (fun j v hv => by
    have hadd : (⟨g2, o2, none⟩ : Addr).add j = ⟨g2, o2 + j, none⟩ := by unfold Addr.add; split <;> simp_all
    rw [hadd]
    match j, hv with
    | 0, hv => cases hv; exact s0
    | 1, hv => cases hv; exact s1
    | 2, hv => cases hv; exact s2
    | n + 3, hv => simp at hv)
  have hst := run_storeCells_cells (P := P) g o [a, b, c] 0 w (by simpa using hc) (by simpa using hf) (by simpa using h1)
  cases hq : P.info? elem with
  | none => simp [hq] at hs
  | some i =>
    have hi : i.size = 3 := by simpa [hq] using hs
    simp at hl
    simp [Builtin.copy_, run_underlying hu, Builtin.lenOf, Builtin.firstCells, sizeOf, typeInfo, hq, hi, hl, hst, World.setCells]
/-- The headers that are right behind i objects of a pile. -/
def keepH (hs : List (Nat × Nat)) (K i : Nat) : List (Nat × Nat) := if i = 0 then List.replicate K (0, 0) else (List.replicate K (0, 0)).set 1 (hs.getD 1 (0, 0))
theorem keepH_next (hs : List (Nat × Nat)) (K i : Nat) : (keepH hs K i).set 1 (hs.getD 1 (0, 0)) = keepH hs K (i + 1) := by
  unfold keepH
  rw [if_neg (Nat.succ_ne_zero i)]
  split
  · rfl
  · rw [List.set_set]
set_option maxRecDepth 100000 in
set_option maxHeartbeats 2000000 in
theorem keep_any (K g gcap j cap : Nat) (hs : List (Nat × Nat)) (A : Option Addr) (w : World) (hl : Own w 0 178 3 (some ⟨g, 0, none⟩) K gcap (hcells hs)) (hr : Rd w 1 A j (ncells (adrs j))) (hj : j ≤ 170) (hK : 2 ≤ K) (hK2 : K ≤ 150) (hk1 : (hs.getD 1 (0, 0)).1 ≠ 2) :
    Calls Tryz.prog 94 #[.agg #[.int .i64 K], .slice (some ⟨g, 0, none⟩) K gcap, .slice A j cap] w fun e w' => ∃ g', e = .returned (.slice (some ⟨g', 0, none⟩) K K) ∧ Own w' w.heap.size 178 3 (some ⟨g', 0, none⟩) K K (hcells (keepH hs K j)) ∧ Below w.heap.size w w' := by
  have hhl : hs.length = K := by have := hl.len; rw [hcells_len] at this; omega
  have hmk := mk143 K (by omega)
  obtain ⟨n0, Hn0⟩ : ∃ n, Hid (w.heap.size = n) := ⟨_, rfl⟩
  obtain ⟨g1, Hg1⟩ : ∃ g, Hid (w.heap.size + 1 = g) := ⟨_, rfl⟩
  have HRd : Hid (∀ wr, Below w.heap.size w wr → Rd wr 1 A j (ncells (adrs j))) := fun wr hb => hr.below hb (Nat.le_refl _)
  have HLs : Hid (∀ wr, Below w.heap.size w wr → Own wr 0 178 3 (some ⟨g, 0, none⟩) K gcap (hcells hs)) := fun wr hb => hl.below hb (Nat.le_refl _)
  have HB : Hid (Below w.heap.size w ((w.alloc (.cells #[.int .i64 K] 64)).alloc (.cells (madeCells #[.int .i64 0, .int .i64 0, .int .i64 0] (K * 3)) 178))) := (below_box w _).alloc (by simp) _
  have HN0 : Hid (Blk ((w.alloc (.cells #[.int .i64 K] 64)).alloc (.cells (madeCells #[.int .i64 0, .int .i64 0, .int .i64 0] (K * 3)) 178)) n0 64 #[.int .i64 K]) := by rw [← Hn0.out]; exact (Blk.new w 64 _).alloc _
  have HO : Hid (Own ((w.alloc (.cells #[.int .i64 K] 64)).alloc (.cells (madeCells #[.int .i64 0, .int .i64 0, .int .i64 0] (K * 3)) 178)) w.heap.size 178 3 (some ⟨g1, 0, none⟩) K K (hcells (keepH hs K 0))) := own_madeH _ _ K g1 (by rw [← Hg1.out]; simp) (by rw [← Hg1.out]; omega) (by omega)
  have Hbo := Lib.hid (fun (a : Nat) w (ha : a < K * 512) => gblockof_any K a w ha (by omega))
  have Hwh : Hid (∀ wr, Below w.heap.size w wr → Calls Tryz.prog 134 #[.slice (some ⟨g, 0, none⟩) K gcap, .int .i64 (1 : Nat)] wr fun e w' => e = .returned (.tuple #[.int .i64 0, .bool false]) ∧ wr = w') := fun wr hb => whole_no g K gcap 1 hs wr (hl.below hb (Nat.le_refl _)) (by omega) (by omega) hk1
  have Hgl := Lib.hid (hl.lt _ rfl).2
  clear hl hr
  go_enter Tryz.func94, Tryz.ntmps94
  go_wp2_with fail
  rw [Hg1.out, Hn0.out]
  generalize (w.alloc _).alloc _ = w1 at *
  clear hmk
  go_loopw [19] (fun v19 wr => ∃ i : Nat, v19 = .int .i64 i ∧ i ≤ j ∧ Blk wr n0 64 #[.int .i64 K] ∧ Own wr w.heap.size 178 3 (some ⟨g1, 0, none⟩) K K (hcells (keepH hs K i)) ∧ Below w.heap.size w wr) (fun v19 _ => j - (intOf v19).toNat)
  case atStart => exact ⟨0, rfl, Nat.zero_le _, HN0.out, HO.out, HB.out⟩
  case round =>
    clear HN0 HO HB
    obtain ⟨i, rfl, hi, hn, hO, hb⟩ := hrel
    have HN0 := Lib.hid hn
    have HO := Lib.hid hO
    have HB := Lib.hid hb
    clear hn hO hb
    by_cases hij : i < j
    · obtain ⟨g2, off, rfl, hg2, hc⟩ := (HRd.out wr HB.out).2 (by omega)
      have y0 : wr.cell? ⟨g2, off + i, none⟩ = some (.int .i64 (adr (i + 1) : Nat)) := by rw [← adrs_at j i hij]; exact hc i _ (ncells_at _ i (by rw [adrs_len]; exact hij))
      have c0 : wr.cell? ⟨n0, 0, none⟩ = some (.int .i64 K) := HN0.out.cell 0
      have HC := Lib.hid (fun w => Hbo.out (adr (i + 1)) w (by unfold adr; omega))
      rw [show adr (i + 1) / 512 = 1 by unfold adr; omega] at HC
      generalize adr (i + 1) = a at *
      clear hc
      go_wp2_with fail
      refine (HC.out _).mono ?_
      rintro e w2 ⟨rfl, hb2⟩
      have HN2 := Lib.hid (HN0.out.below hb2 HN0.out.lt)
      have HO2 := Lib.hid (HO.out.below hb2 (Nat.le_refl _))
      have HB2 := Lib.hid (HB.out.trans (hb2.mono HB.out.size))
      have hwh := Lib.hid (Hwh.out _ HB2.out)
      have g1' : decide ((K : Int) ≤ 1) = false := by rw [decide_eq_false_iff_not]; omega
      have g2' : decide (K ≤ 1) = false := by rw [decide_eq_false_iff_not]; omega
      have g3' : decide ((1 : Int) ≥ (K : Int)) = false := by rw [decide_eq_false_iff_not]; omega
      clear hb2 HN0 HO HB y0 c0 HC
      go_wp2_with fail
      refine hwh.out.mono ?_
      rintro e _ ⟨rfl, rfl⟩
      have hs1 : ∀ w, (Instr.slice 143 (.slice (some ⟨g1, 0, none⟩) K K) (some (.int .i64 1)) (some (.int .i64 2)) none).run Tryz.prog w = .ok (.slice (some ⟨g1, 3, none⟩) 1 (K - 1)) w := fun w => run_slice_sub3 143 178 Tryz.underlying143 size178 g1 0 K K 1 2 (by omega) (by omega) (by omega) 1 2 rfl rfl w
      have hgc : K ≤ gcap := by
        obtain ⟨_, e, _, _, h, _⟩ := (HLs.out w2 HB2.out).at_ (by omega)
        exact h
      have hs2 : ∀ w, (Instr.slice 143 (.slice (some ⟨g, 0, none⟩) K gcap) (some (.int .i64 1)) (some (.int .i64 2)) none).run Tryz.prog w = .ok (.slice (some ⟨g, 3, none⟩) 1 (gcap - 1)) w := fun w => run_slice_sub3 143 178 Tryz.underlying143 size178 g 0 K gcap 1 2 (by omega) (by omega) (by omega) 1 2 rfl rfl w
      obtain ⟨x1, x2, x3⟩ := hcells_at hs 1 (by omega)
      obtain ⟨_, e, _, _, _, _, hx, _⟩ := (HLs.out w2 HB2.out).at_ (by omega)
      cases e
      have z1 := hx _ _ x1
      have z2 := hx _ _ x2
      have z3 := hx _ _ x3
      obtain ⟨_, e, _, _, _, _, hy, hf⟩ := HO2.out.at_ (by omega)
      cases e
      have hkl : (keepH hs K i).length = K := by unfold keepH; split <;> simp
      have hcp : (Builtin.copy_ #[143, 143] 3 #[.slice (some ⟨g1, 3, none⟩) 1 (K - 1), .slice (some ⟨g, 3, none⟩) 1 (gcap - 1)]).run Tryz.prog w2.drew = .ok (.int .i64 1) (((w2.drew.setCell ⟨g1, 3, none⟩ (.int .i64 (hs.getD 1 (0, 0)).1)).setCell ⟨g1, 4, none⟩ (.int .i64 (hs.getD 1 (0, 0)).2)).setCell ⟨g1, 5, none⟩ (.int .i64 0)) :=
        run_copy3 w2.drew 143 143 3 178 g1 3 (K - 1) g 3 (gcap - 1) _ _ _ Tryz.underlying143 size178 z1 z2 z3 (fun jj hjj => by
          have h3 : 3 + jj < (hcells (keepH hs K i)).length := by rw [hcells_len, hkl]; omega
          have := hy (3 + jj) _ (List.getElem?_eq_getElem h3)
          show (w2.cell? ⟨g1, 3 + jj, none⟩).isSome = true
          rw [this]; rfl) (fun jj _ => hf (3 + jj)) ⟨rfl, rfl, rfl⟩
      obtain ⟨W3, HW3⟩ : ∃ W3, Hid ((((w2.drew.setCell ⟨g1, 3, none⟩ (.int .i64 (hs.getD 1 (0, 0)).1)).setCell ⟨g1, 4, none⟩ (.int .i64 (hs.getD 1 (0, 0)).2)).setCell ⟨g1, 5, none⟩ (.int .i64 0)) = W3) := ⟨_, rfl⟩
      rw [HW3.out] at hcp
      have hg1w : w.heap.size ≤ g1 := (HO2.out.lt _ rfl).1
      have hn0g : n0 ≠ g1 := by rw [← Hn0.out, ← Hg1.out]; omega
      have HO3 : Hid (Own W3 w.heap.size 178 3 (some ⟨g1, 0, none⟩) K K (hcells (keepH hs K (i + 1)))) := by
        rw [← HW3.out, ← keepH_next]
        exact (HO2.out.drewN 1).setH 1 (by omega) _ _
      have HN3 : Hid (Blk W3 n0 64 #[.int .i64 K]) := by
        rw [← HW3.out]
        exact (((HN2.out.drew).far (p := ⟨g1, 3, none⟩) hn0g _).far (p := ⟨g1, 4, none⟩) hn0g _).far (p := ⟨g1, 5, none⟩) hn0g _
      have HB3 : Hid (Below w.heap.size w W3) := by
        rw [← HW3.out]
        exact (((below_drewN HB2.out 1).setCell (p := ⟨g1, 3, none⟩) hg1w _).setCell (p := ⟨g1, 4, none⟩) hg1w _).setCell (p := ⟨g1, 5, none⟩) hg1w _
      clear x1 x2 x3 hx z1 z2 z3 hy hf hkl HO2 HN2 HB2 hwh hn0g hg1w
      go_wp2_with fail
      go_region
      clear hs1 hs2 hcp hgc g1' g2' g3'
      go_wp2_with fail
      exact ⟨⟨i + 1, by go_num, by omega, HN3.out, HO3.out, HB3.out⟩, by simp [intOf]; omega⟩
    · obtain rfl : i = j := by omega
      go_wp2_with fail
      go_ret
      exact ⟨g1, rfl, HO.out, HB.out⟩
end Go.Proofs.YtcnjipicifkfjaaGreat

/- revive: write. -/
namespace Go.Proofs.YtcnjipicifkfjaaGreat
open Go.RowKit
set_option linter.unusedVariables false
set_option linter.unusedSimpArgs false

theorem mod_b' {w w' : World} {F : Nat → Prop} (h : Below w.heap.size w w') : Mod w w' F := (Mod.of_below h).mono (fun k h1 h2 => absurd h2 (Nat.not_le.2 h1))
theorem eq178g (a b a' b' : Nat) : ∀ w, (binOp .eql 178 (.agg #[.int .i64 a, .int .i64 b, .int .i64 0]) (.agg #[.int .i64 a', .int .i64 b', .int .i64 0])).run Tryz.prog w = .ok (.bool (decide (a = a' ∧ b = b'))) w := by
  intro w
  have hf : Tryz.prog.fieldsOf 178 = #[{ name := "Kind", type := 3, offset := 0, embedded := false, tag := "", pkgPath := "", byteOffset := 0 }, { name := "Class", type := 3, offset := 1, embedded := false, tag := "", pkgPath := "", byteOffset := 8 }, { name := "Len", type := 3, offset := 2, embedded := false, tag := "", pkgPath := "", byteOffset := 16 }] := by simp [Program.fieldsOf, Tryz.underlying178]
  have h := run_equalIn_struct (P := Tryz.prog) w 9999 178 #[.int .i64 a, .int .i64 b, .int .i64 0] #[.int .i64 a', .int .i64 b', .int .i64 0] (by rw [hf]; exact Tryz.underlying178) (by kernel_rfl)
  have hi : ∀ (a b : Int), (Op.equalIn 9999 3 (.int .i64 a) (.int .i64 b)).run Tryz.prog w = .ok (a == b) w := fun a b => by
    unfold Op.equalIn
    simp [run_underlying Tryz.underlying3]
  have p0 : ∀ (a b c : Value), (part 3 #[a, b, c] 0).run Tryz.prog w = .ok a w := fun a b c => by kernel_rfl
  have p1 : ∀ (a b c : Value), (part 3 #[a, b, c] 1).run Tryz.prog w = .ok b w := fun a b c => by kernel_rfl
  have p2 : ∀ (a b c : Value), (part 3 #[a, b, c] 2).run Tryz.prog w = .ok c w := fun a b c => by kernel_rfl
  have h2 : (Op.equal 178 (.agg #[.int .i64 a, .int .i64 b, .int .i64 0]) (.agg #[.int .i64 a', .int .i64 b', .int .i64 0])).run Tryz.prog w = .ok (decide (a = a' ∧ b = b')) w := by
    show (Op.equalIn 10000 178 _ _).run Tryz.prog w = _
    rw [h, hf]
    simp only [Op.eqFields, Sem.run_bind, Sem.run_ite, p0, p1, p2, hi, Result.andThen_ok, Sem.run_pure]
    by_cases h1 : a = a' <;> by_cases h3 : b = b' <;> simp [h1, h3, Sem.run_pure]
    all_goals omega
  simp only [binOp, Sem.run_bind, h2, Result.andThen_ok, Sem.run_pure]
def wrS (was now : List (Nat × Nat)) : Nat → List Step
  | 0 => []
  | t + 1 => wrS was now t ++ (if was.getD (t + 1) (0, 0) = now.getD (t + 1) (0, 0) then [] else [.st (256 + (t + 1)) (hword (t + 1) (now.getD (t + 1) (0, 0)).1 (now.getD (t + 1) (0, 0)).2)])
def writeHS (was now : List (Nat × Nat)) (K : Nat) : List Step := if wrS was now (K - 1) = [] then [] else wrS was now (K - 1) ++ persistS 257 (K - 1)
set_option maxRecDepth 100000 in
set_option maxHeartbeats 2000000 in
theorem rvwrite_any (B : Nat) (b : DB) (m : Nat) (s : DS) (K g gcap g2 gcap2 : Nat) (was now : List (Nat × Nat)) (w : World) (h : Dev B w b m s) (hl : s.Live) (hK : 2 ≤ K) (hK2 : K ≤ 150) (hm : m = K * 64)
    (h1 : Own w 0 178 3 (some ⟨g, 0, none⟩) K gcap (hcells was)) (h2 : Own w 0 178 3 (some ⟨g2, 0, none⟩) K gcap2 (hcells now)) (hg : ¬ b.has g) (hg2 : ¬ b.has g2) (hH : ∀ b, b < K → Hdr (now.getD b (0, 0)).1 (now.getD b (0, 0)).2) :
    Calls Tryz.prog 93 #[.pointer (some ⟨b.d, 0, none⟩), .agg #[.int .i64 K], .slice (some ⟨g, 0, none⟩) K gcap, .slice (some ⟨g2, 0, none⟩) K gcap2] w fun e w' => e = .returned (.int .i64 0) ∧ Dev B w' b m (exec s (writeHS was now K)).1 ∧ Mod w w' b.has := by
  have HL := Lib.hid hl
  have hm2 : m ≤ 100000 := by omega
  have Hlt := Lib.hid h.lt
  have hwl : was.length = K := by have := h1.len; rw [hcells_len] at this; omega
  have hnl : now.length = K := by have := h2.len; rw [hcells_len] at this; omega
  have HW : Hid (∀ wr, Mod w wr b.has → Own wr 0 178 3 (some ⟨g, 0, none⟩) K gcap (hcells was)) := fun wr hM => h1.mod hM (fun a ha => by cases ha; exact hg)
  have HN : Hid (∀ wr, Mod w wr b.has → Own wr 0 178 3 (some ⟨g2, 0, none⟩) K gcap2 (hcells now)) := fun wr hM => h2.mod hM (fun a ha => by cases ha; exact hg2)
  have Hg := Lib.hid (fun (bb : Nat) (w : World) (h0 : 1 ≤ bb) (h1 : bb < K) => gheader_any K bb w h0 h1 (by omega))
  have He := Lib.hid (fun (bb kd cl : Nat) (w : World) (h1 : bb < K) (hh : Hdr kd cl) => bhenc_any bb kd cl w hh (by omega))
  obtain ⟨n0, Hn0⟩ : ∃ n, Hid (w.heap.size = n) := ⟨_, rfl⟩
  have HD0 : Hid (Dev B (w.alloc (.cells #[.int .i64 K] 64)) b m s) := h.below (below_box w _) (Nat.le_refl _)
  have HB0 : Hid (Blk (w.alloc (.cells #[.int .i64 K] 64)) n0 64 #[.int .i64 K]) := by rw [← Hn0.out]; exact Blk.new w 64 _
  have HM0 : Hid (Mod w (w.alloc (.cells #[.int .i64 K] 64)) b.has) := (Mod.refl w b.has).alloc _
  have hn0 : ¬ b.has n0 := fun hk => by have := (h.lt n0 hk).2; rw [Hn0.out] at this; omega
  obtain ⟨F, HF⟩ : ∃ F, Hid (writeHS was now K = F) := ⟨_, rfl⟩
  rw [HF.out]
  clear h hl h1 h2
  go_enter Tryz.func93, Tryz.ntmps93
  go_wp2_with fail
  rw [Hn0.out]
  generalize w.alloc _ = w1 at *
  go_loopw [9, 10] (fun v9 v10 wr => ∃ (t : Nat) (u : DS) (r : Bool), v10 = .int .i64 ((t + 1 : Nat) : Int) ∧ v9 = .bool r ∧ r = decide (wrS was now t ≠ []) ∧ t + 1 ≤ K ∧ u.Live ∧ (exec s (wrS was now t)).1 = u ∧ Dev B wr b m u ∧ Blk wr n0 64 #[.int .i64 K] ∧ Mod w wr b.has) (fun _ v10 _ => K - (intOf v10).toNat)
  case atStart => exact ⟨0, s, false, rfl, rfl, rfl, by omega, HL.out, rfl, HD0.out, HB0.out, HM0.out⟩
  case round =>
    clear HD0 HB0 HM0
    obtain ⟨t, u, r, rfl, rfl, hr, ht, hul, hu, hd, hb, hM⟩ := hrel
    have Hr := Lib.hid hr
    have Hul := Lib.hid hul
    have Hu := Lib.hid hu
    have HD := Lib.hid hd
    have HB := Lib.hid hb
    have HM := Lib.hid hM
    have hOw := HW.out wr hM
    have hOn := HN.out wr hM
    clear hr hul hu hd hb hM
    obtain ⟨j, Hj⟩ : ∃ j, Hid (t + 1 = j) := ⟨_, rfl⟩
    have hj1 : 1 ≤ j := by rw [← Hj.out]; omega
    rw [Hj.out] at ht ⊢
    by_cases hjK : j < K
    · obtain ⟨x1, x2, x3⟩ := hcells_at was j (by omega)
      obtain ⟨_, e, _, _, _, _, hx, _⟩ := hOw.at_ (by omega)
      cases e
      have a1 := hx _ _ x1
      have a2 := hx _ _ x2
      have a3 := hx _ _ x3
      obtain ⟨x1, x2, x3⟩ := hcells_at now j (by omega)
      obtain ⟨_, e, _, _, _, _, hx, _⟩ := hOn.at_ (by omega)
      cases e
      have b1 := hx _ _ x1
      have b2 := hx _ _ x2
      have b3 := hx _ _ x3
      have HS : Hid (wrS was now j = wrS was now t ++ (if was.getD j (0, 0) = now.getD j (0, 0) then [] else [.st (256 + j) (hword j (now.getD j (0, 0)).1 (now.getD j (0, 0)).2)])) := by show _ = _; rw [← Hj.out]; rfl
      have HH := Lib.hid (hH j hjK)
      have hpe : (was.getD j (0, 0) = now.getD j (0, 0)) ↔ ((was.getD j (0, 0)).1 = (now.getD j (0, 0)).1 ∧ (was.getD j (0, 0)).2 = (now.getD j (0, 0)).2) := Prod.ext_iff
      rw [show (if was.getD j (0, 0) = now.getD j (0, 0) then ([] : List Step) else [.st (256 + j) (hword j (now.getD j (0, 0)).1 (now.getD j (0, 0)).2)]) = if ((was.getD j (0, 0)).1 = (now.getD j (0, 0)).1 ∧ (was.getD j (0, 0)).2 = (now.getD j (0, 0)).2) then [] else [.st (256 + j) (hword j (now.getD j (0, 0)).1 (now.getD j (0, 0)).2)] by simp only [hpe]] at HS
      generalize (was.getD j (0, 0)).1 = p1 at *
      generalize (was.getD j (0, 0)).2 = p2 at *
      generalize (now.getD j (0, 0)).1 = q1 at *
      generalize (now.getD j (0, 0)).2 = q2 at *
      have heq := eq178g p1 p2 q1 q2
      clear hx x1 x2 x3 hOw hOn hpe
      by_cases hpq : p1 = q1 ∧ p2 = q2
      · have HS2 : Hid (wrS was now j = wrS was now t) := by show _ = _; rw [HS.out, if_pos hpq, List.append_nil]
        rw [decide_eq_true hpq] at heq
        clear hpq HS HH
        go_wp2_with fail
        go_region
        go_wp2_with fail
        exact ⟨⟨j, u, r, by go_num, rfl, by rw [HS2.out]; exact Hr.out, by omega, Hul.out, by rw [HS2.out]; exact Hu.out, HD.out.drewN 1, HB.out.drew, HM.out.drewN 1⟩, by simp [intOf]; omega⟩
      · rw [decide_eq_false hpq] at heq
        have HS2 : Hid (wrS was now j = wrS was now t ++ [.st (256 + j) (hword j q1 q2)]) := by show _ = _; rw [HS.out, if_neg hpq]
        clear hpq HS
        go_wp2_with fail
        go_region
        obtain ⟨w2, Hw2⟩ : ∃ w2, Hid (wr.drew = w2) := ⟨_, rfl⟩
        rw [Hw2.out]
        have HD2 : Hid (Dev B w2 b m u) := by rw [← Hw2.out]; exact HD.out.drewN 1
        have HB2 : Hid (Blk w2 n0 64 #[.int .i64 K]) := by rw [← Hw2.out]; exact HB.out.drew
        have HM2 : Hid (Mod w w2 b.has) := by rw [← Hw2.out]; exact HM.out.drewN 1
        have c0 : w2.cell? ⟨n0, 0, none⟩ = some (.int .i64 K) := HB2.out.cell 0
        have d1 : w2.cell? ⟨g2, j * 3, none⟩ = some (.int .i64 q1) := by rw [← Hw2.out]; exact b1
        have d2 : w2.cell? ⟨g2, j * 3 + 1, none⟩ = some (.int .i64 q2) := by rw [← Hw2.out]; exact b2
        have d3 : w2.cell? ⟨g2, j * 3 + 2, none⟩ = some (.int .i64 0) := by rw [← Hw2.out]; exact b3
        have hg2w : g2 < w2.heap.size := cell_lt d1
        clear a1 a2 a3 b1 b2 b3 HD HB HM
        obtain ⟨q, Hq⟩ : ∃ q, Hid (256 + j = q) := ⟨_, rfl⟩
        obtain ⟨v, Hv⟩ : ∃ v, Hid (hword j q1 q2 = v) := ⟨_, rfl⟩
        rw [Hq.out, Hv.out] at HS2
        have Hgq : Hid (∀ w, Calls Tryz.prog 116 #[.agg #[.int .i64 K], .int .i64 j] w fun e w' => e = .returned (.int .i64 q) ∧ Below w.heap.size w w') := fun w => by have := Hg.out j w hj1 hjK; rwa [Hq.out] at this
        have Heq : Hid (∀ w, Calls Tryz.prog 117 #[.int .i64 j, .agg #[.int .i64 q1, .int .i64 q2, .int .i64 0]] w fun e w' => e = .returned (.int .u64 v) ∧ Below w.heap.size w w') := fun w => by have := He.out j q1 q2 w hjK HH.out; rwa [Hv.out] at this
        have Hst : Hid (∀ w, Dev B w b m u → Calls Tryz.prog 115 #[.pointer (some ⟨b.d, 0, none⟩), .int .i64 q, .int .u64 v] w fun e w' => e = .returned (.int .i64 0) ∧ Dev B w' b m (exec u [.st q v]).1 ∧ Mod w w' b.has) := fun w h => by
          have := store_any B b m u q v w h (by rw [← Hq.out]; omega) hm2
          rwa [ecode_live Hul.out] at this
        have HBb : Hid (Below w2.heap.size w2 w2) := Below.refl _ _
        have HC : Hid (∀ W, Below w2.heap.size w2 W → W.cell? ⟨n0, 0, none⟩ = some (.int .i64 K) ∧ W.cell? ⟨g2, j * 3, none⟩ = some (.int .i64 q1) ∧ W.cell? ⟨g2, j * 3 + 1, none⟩ = some (.int .i64 q2) ∧ W.cell? ⟨g2, j * 3 + 2, none⟩ = some (.int .i64 0)) := by
          intro W hb
          exact ⟨(HB2.out.below hb HB2.out.lt).cell 0, (hb.cell (p := ⟨g2, j * 3, none⟩) hg2w).trans d1, (hb.cell (p := ⟨g2, j * 3 + 1, none⟩) hg2w).trans d2, (hb.cell (p := ⟨g2, j * 3 + 2, none⟩) hg2w).trans d3⟩
        have HBd := Lib.hid (below_drewN HBb.out 1)
        go_wp2_with fail
        go_region_held3 (fun W => W.cell? ⟨n0, 0, none⟩ = some (.int .i64 K) ∧ W.cell? ⟨g2, j * 3, none⟩ = some (.int .i64 q1) ∧ W.cell? ⟨g2, j * 3 + 1, none⟩ = some (.int .i64 q2) ∧ W.cell? ⟨g2, j * 3 + 2, none⟩ = some (.int .i64 0))
          (first | exact HC.out _ HBb.out | exact HC.out _ HBd.out | exact HY.out)
          (first
            | (go_at_call 116; refine (Hgq.out _).mono ?_; rintro e w3 ⟨rfl, hb3⟩; replace HBd := Lib.hid (HBd.out.trans (hb3.mono HBd.out.size)); clear hb3)
            | (go_at_call 117; refine (Heq.out _).mono ?_; rintro e w3 ⟨rfl, hb3⟩; replace HBd := Lib.hid (HBd.out.trans (hb3.mono HBd.out.size)); clear hb3)
            | (go_at_call 115; refine (Hst.out _ (HD2.out.below HBd.out (Nat.le_refl _))).mono ?_; rintro e w4 ⟨rfl, hd4, hm4⟩; have HD4 := Lib.hid hd4; have HM4 : Hid (Mod w w4 b.has) := (HM2.out.trans (mod_b' HBd.out : Mod w2 _ b.has) (fun _ _ h => h)).trans hm4 (fun _ _ h => h); have HB4 := Lib.hid (hm4.blk (HB2.out.below HBd.out HB2.out.lt) hn0); have HY : Hid (w4.cell? ⟨n0, 0, none⟩ = some (.int .i64 K) ∧ w4.cell? ⟨g2, j * 3, none⟩ = some (.int .i64 q1) ∧ w4.cell? ⟨g2, j * 3 + 1, none⟩ = some (.int .i64 q2) ∧ w4.cell? ⟨g2, j * 3 + 2, none⟩ = some (.int .i64 0)) := ⟨HB4.out.cell 0, cell_mod hm4 (HC.out _ HBd.out).2.1 hg2, cell_mod hm4 (HC.out _ HBd.out).2.2.1 hg2, cell_mod hm4 (HC.out _ HBd.out).2.2.2 hg2⟩; clear hd4 hm4))
        all_goals
          clear c0 d1 d2 d3
          go_wp2_with fail
          exact ⟨⟨j, _, true, by go_num, rfl, by rw [HS2.out]; simp, by omega, (exec_live Hul.out _).2, by rw [HS2.out, exec_snoc HL.out, Hu.out], HD4.out, HB4.out, HM4.out⟩, by simp [intOf]; omega⟩
    · obtain rfl : j = K := by omega
      have htK : j - 1 = t := by have := Hj.out; omega
      cases r with
      | false =>
        have HE : Hid (wrS was now t = []) := by
          have h := Hr.out
          simp at h
          exact h
        have HF2 : Hid (F = []) := by show _ = _; rw [← HF.out]; unfold writeHS; rw [htK, if_pos HE.out]
        have hus : s = u := by rw [← Hu.out, HE.out]; rfl
        clear hOw hOn
        go_wp2_with fail
        go_ret
        rw [HF2.out]
        exact ⟨rfl, by rw [show (exec s []).1 = u from hus]; exact HD.out, HM.out⟩
      | true =>
        have HE : Hid (wrS was now t ≠ []) := by
          have h := Hr.out
          simp at h
          exact h
        have HF2 : Hid (F = wrS was now t ++ persistS 257 t) := by show _ = _; rw [← HF.out]; unfold writeHS; rw [htK, if_neg HE.out]
        have c0 : wr.cell? ⟨n0, 0, none⟩ = some (.int .i64 j) := HB.out.cell 0
        have Hg1 : Hid (∀ w, Calls Tryz.prog 116 #[.agg #[.int .i64 j], .int .i64 1] w fun e w' => e = .returned (.int .i64 257) ∧ Below w.heap.size w w') := fun w => Hg.out 1 w (by omega) (by omega)
        have hj3 : (j : Int) - 1 = (t : Int) := by have := Hj.out; omega
        have hwr : IntKind.i64.wrap (t : Int) = (t : Int) := by rw [IntKind.wrap_i64]; omega
        have hwr2 : IntKind.i64.wrap ((j : Int) - 1) = (t : Int) := by rw [hj3]; exact hwr
        have ht1 : 0 < t := by omega
        have ht2 : 257 + t ≤ 8 * m := by omega
        have Hp : Hid (∀ w, Dev B w b m u → Calls Tryz.prog 118 #[.pointer (some ⟨b.d, 0, none⟩), .int .i64 257, .int .i64 t] w fun e w' => e = .returned (.int .i64 0) ∧ Dev B w' b m (exec u (persistS 257 t)).1 ∧ Mod w w' b.has) := fun w h => by
          have := persist_any B b m u 257 t w h ht1 ht2 hm2
          rwa [ecode_live Hul.out] at this
        clear hOw hOn
        go_wp2_with fail
        refine (Hg1.out _).mono ?_
        rintro e w2 ⟨rfl, hb2⟩
        have HD2 := Lib.hid (HD.out.below hb2 (Nat.le_refl _))
        have HM2 : Hid (Mod w w2 b.has) := HM.out.trans (mod_b' hb2 : Mod wr w2 b.has) (fun _ _ h => h)
        clear hb2
        go_wp2_with fail
        refine (Hp.out _ HD2.out).mono ?_
        rintro e w3 ⟨rfl, hd3, hm3⟩
        have HD3 := Lib.hid hd3
        have HM3 := Lib.hid (HM2.out.trans hm3 (fun _ _ h => h))
        clear hd3 hm3
        go_wp2_with fail
        go_ret
        rw [HF2.out, exec_live_app HL.out, Hu.out]
        exact ⟨rfl, HD3.out, HM3.out⟩
end Go.Proofs.YtcnjipicifkfjaaGreat

/- revive: Look. -/
namespace Go.Proofs.YtcnjipicifkfjaaGreat
open Go.RowKit
set_option linter.unusedVariables false
set_option linter.unusedSimpArgs false

/-- The roots of a pile of j objects. -/
def rootsL (j : Nat) : List Nat := [if j = 0 then 0 else adr j, 0, 0, 0, 0, 0, 0, 0]
/-- What lasts on a device is a heap with a pile of j objects. -/
structure HeapIn (s : DS) (m K id ep wh j : Nat) (hs : List (Nat × Nat)) : Prop where
  sup : SupIn s K id
  hdr : HdrsIn s K hs
  s0 : Slot16 (slotOf s 0)
  s1 : Slot16 (slotOf s 1)
  ch : chooseM (sdecM (slotOf s 0)) (sdecM (slotOf s 1)) = ((ep, rootsL j), wh, true)
  p : PileIn s m K hs j
  j : j ≤ 170
  hm : m = K * 64
theorem size98 : (Tryz.prog.info? 98).map (·.size) = some 6 := by kernel_rfl
def stC (K id : Nat) (al rt : Option Addr) (A : Option Addr) (j cap : Nat) : Array Value := #[.int .i64 K, .int .u64 id, .int .i64 K, .pointer al, .pointer rt, .slice A j cap]
set_option maxRecDepth 100000 in
set_option maxHeartbeats 4000000 in
theorem look_any (B : Nat) (b : DB) (m : Nat) (s : DS) (K id ep wh j : Nat) (hs : List (Nat × Nat)) (w : World) (h : Dev B w b m s) (hI : HeapIn s m K id ep wh j hs) (hK : 2 ≤ K) (hK2 : K ≤ 150) (hid : id < 18446744073709551616) :
    Calls Tryz.prog 92 #[.pointer (some ⟨b.d, 0, none⟩)] w fun e w' => ∃ rt g A cap, e = .returned (.tuple #[.agg (stC K id none (some ⟨rt, 0, none⟩) A j cap), .slice (some ⟨g, 0, none⟩) K K, .int .i64 0]) ∧ w.heap.size ≤ rt ∧ RootR w' (fun k => k = rt) rt b.d ep wh (rootsL j) (rootsL j) ∧
      Own w' w.heap.size 178 3 (some ⟨g, 0, none⟩) K K (hcells hs) ∧ Own w' w.heap.size 3 1 A j cap (ncells (adrs j)) ∧ Below w.heap.size w w' := by
  have hm := hI.hm
  have HD : Hid (∀ wr, Below w.heap.size w wr → Dev B wr b m s) := fun wr hb => h.below hb (Nat.le_refl _)
  have Hsu : Hid (∀ wr, Below w.heap.size w wr → _) := fun wr hb => supread_any B b m s K id wr (HD.out wr hb) hI.sup hK (by omega) hid hm
  have Hbr : Hid (∀ wr, Below w.heap.size w wr → _) := fun wr hb => bread_any B b m s K hs wr (HD.out wr hb) hI.hdr hK (by omega) hm
  have Hro : Hid (∀ wr, Below w.heap.size w wr → _) := fun wr hb => ropen_any B b m s ep wh (rootsL j) wr (HD.out wr hb) (by omega) (by omega) hI.s0 hI.s1 hI.ch rfl
  have Hcl : Hid (∀ (g n base : Nat) wr, Below w.heap.size w wr → Own wr base 178 3 (some ⟨g, 0, none⟩) K K (hcells hs) → Rd wr 1 (some ⟨n, 0, none⟩) 8 (ncells (rootsL j)) → Calls Tryz.prog 132 #[.pointer (some ⟨b.d, 0, none⟩), .agg #[.int .i64 K], .slice (some ⟨g, 0, none⟩) K K, .slice (some ⟨n, 0, none⟩) 8 8] wr fun e w' => ∃ A' cap', e = .returned (.tuple #[.slice A' j cap', .int .i64 0]) ∧ Own w' wr.heap.size 3 1 A' j cap' (ncells (adrs j)) ∧ Below wr.heap.size wr w') :=
    fun g n base wr hb hO hr => closure_any B b m s K g K j 8 8 hs _ (rootsL j) wr (HD.out wr hb) (hO.base_ (Nat.zero_le _)) hr (by omega) (by omega) rfl (fun i hi => by
      unfold rootsL
      match i, hi with
      | i + 1, _ => rw [List.getD_cons_succ]; simp only [List.getD_eq_getElem?_getD, List.getElem?_cons]; repeat (first | rfl | split)) hI.j hI.p hm hK2
  obtain ⟨x, Hx⟩ : ∃ x, Hid ((if j = 0 then 0 else adr j) = x) := ⟨_, rfl⟩
  have HrL : Hid (rootsL j = [x, 0, 0, 0, 0, 0, 0, 0]) := by show _ = _; unfold rootsL; rw [Hx.out]
  have Hrl : Hid (∀ rt w, RootR w (fun k => k = rt) rt b.d ep wh (rootsL j) (rootsL j) → Calls Tryz.prog 85 #[.pointer (some ⟨rt, 0, none⟩)] w fun e w' => e = .returned (.agg #[.int .i64 x, .int .i64 0, .int .i64 0, .int .i64 0, .int .i64 0, .int .i64 0, .int .i64 0, .int .i64 0]) ∧ Below w.heap.size w w') := fun rt w h => by
    have := rlasting_any (fun k => k = rt) rt b.d ep wh (rootsL j) (rootsL j) w h
    rw [HrL.out] at this
    exact this
  obtain ⟨n2, Hn2⟩ : ∃ n, Hid (w.heap.size = n) := ⟨_, rfl⟩
  have L0 := Lib.hid ((Loc.nil Nob w).box 98 #[.int .i64 0, .int .u64 0, .int .i64 0, .pointer none, .pointer none, .slice none 0 0] n2 Hn2.out)
  clear h hI
  go_enter Tryz.func92, Tryz.ntmps92
  go_wp2_with fail
  rw [Hn2.out]
  generalize w.alloc _ = w1 at *
  refine (Hsu.out _ L0.out.below).mono ?_
  rintro e w2 ⟨rfl, hb2⟩
  have L2 := Lib.hid (L0.out.call hb2 (Nat.le_refl _))
  obtain ⟨n5, Hn5⟩ : ∃ n, Hid (w2.heap.size = n) := ⟨_, rfl⟩
  have L3 := Lib.hid (L2.out.box 96 #[.int .i64 K, .int .u64 id] n5 Hn5.out)
  obtain ⟨n7, Hn7⟩ : ∃ n, Hid (n5 + 1 = n) := ⟨_, rfl⟩
  have L4 := Lib.hid (L3.out.box 64 #[.int .i64 K] n7 (by rw [World.size_alloc, Hn5.out, Hn7.out]))
  clear hb2 L0 Hsu
  go_wp2_with fail
  rw [Hn5.out, Hn7.out]
  generalize (w2.alloc _).alloc _ = w3 at *
  refine (Hbr.out _ L4.out.below).mono ?_
  rintro e w5 ⟨g, rfl, hO5, hb5⟩
  have L5 := Lib.hid (L4.out.call hb5 (Nat.le_refl _))
  have HO5 := Lib.hid (hO5.base_ L4.out.below.size)
  clear hO5 hb5 L4 L3 L2 Hbr
  go_wp2_with fail
  refine (Hro.out _ L5.out.below).mono ?_
  rintro e w6 ⟨rt, rfl, hR6, hb6⟩
  have L6 := Lib.hid (L5.out.call hb6 (Nat.le_refl _))
  have HO6 := Lib.hid (HO5.out.below hb6 (Nat.le_refl _))
  have Hrt : Hid (w.heap.size ≤ rt) := Nat.le_trans L5.out.below.size hR6.2.2.2
  have HR6 : Hid (RootR w6 (fun k => k = rt) rt b.d ep wh (rootsL j) (rootsL j)) := ⟨hR6.1, hR6.2.1, hR6.2.2.1, rfl⟩
  clear hR6 hb6 L5 HO5 Hro
  go_wp2_with fail
  refine (Hrl.out _ _ HR6.out).mono ?_
  rintro e w7 ⟨rfl, hb7⟩
  have L7 := Lib.hid (L6.out.call hb7 (Nat.le_refl _))
  have HO7 := Lib.hid (HO6.out.below hb7 (Nat.le_refl _))
  have HR7 := Lib.hid (HR6.out.below hb7 (Nat.le_refl _))
  clear hb7 L6 HO6 HR6 Hrl
  obtain ⟨n11, Hn11⟩ : ∃ n, Hid (w7.heap.size = n) := ⟨_, rfl⟩
  have L8 := Lib.hid (L7.out.box 80 #[.int .i64 x, .int .i64 0, .int .i64 0, .int .i64 0, .int .i64 0, .int .i64 0, .int .i64 0, .int .i64 0] n11 Hn11.out)
  have L9 := Lib.hid L8.out.drew
  have HRd : Hid (Rd (w7.alloc (.cells #[.int .i64 x, .int .i64 0, .int .i64 0, .int .i64 0, .int .i64 0, .int .i64 0, .int .i64 0, .int .i64 0] 80)).drew 1 (some ⟨n11, 0, none⟩) 8 (ncells (rootsL j))) := by
    refine ⟨by rw [HrL.out]; rfl, fun _ => ⟨n11, 0, rfl, L9.out.b0.lt, fun i u hu => ?_⟩⟩
    rw [Nat.zero_add, L9.out.b0.cell i, ← hu, HrL.out]
    simp [ncells]
  have HO9 : Hid (Own (w7.alloc (.cells #[.int .i64 x, .int .i64 0, .int .i64 0, .int .i64 0, .int .i64 0, .int .i64 0, .int .i64 0, .int .i64 0] 80)).drew w.heap.size 178 3 (some ⟨g, 0, none⟩) K K (hcells hs)) := (HO7.out.alloc _).drewN 1
  have HR9 : Hid (RootR (w7.alloc (.cells #[.int .i64 x, .int .i64 0, .int .i64 0, .int .i64 0, .int .i64 0, .int .i64 0, .int .i64 0, .int .i64 0] 80)).drew (fun k => k = rt) rt b.d ep wh (rootsL j) (rootsL j)) := ⟨(HR7.out.1.alloc _).drew, HR7.out.2⟩
  clear L7 HO7 HR7
  go_wp2_with fail
  rw [Hn11.out]
  obtain ⟨w8, Hw8⟩ : ∃ w8, Hid ((w7.alloc (.cells #[.int .i64 x, .int .i64 0, .int .i64 0, .int .i64 0, .int .i64 0, .int .i64 0, .int .i64 0, .int .i64 0] 80)) = w8) := ⟨_, rfl⟩
  rw [Hw8.out] at L8 L9 HRd HO9 HR9 ⊢
  have e0 : w8.cell? ⟨n7, 0, none⟩ = some (.int .i64 K) := L8.out.b1.cell 0
  clear L8
  go_region_held3 (fun W => W.cell? ⟨n7, 0, none⟩ = some (.int .i64 K))
    (first | exact e0 | exact L10.out.b1.cell 0)
    ((go_at_call 132; refine (Hcl.out g n11 _ _ L9.out.below HO9.out HRd.out).mono ?_; rintro e w9 ⟨A9, cap9, rfl, hO9, hb9⟩; have HLv := Lib.hid (hO9.base_ L9.out.below.size); have L10 := Lib.hid (L9.out.call hb9 (Nat.le_refl _)); have HO10 := Lib.hid (HO9.out.below hb9 (Nat.le_refl _)); have HR10 := Lib.hid (HR9.out.below hb9 (Nat.le_refl _)); clear hO9 hb9))
  clear e0 L9 HO9 HR9 HRd
  have LL := L10.out
  have u0 : w9.cell? ⟨n5, 0, none⟩ = some (.int .i64 K) := (LL.nth 2 rfl).cell 0
  have u1 : w9.cell? ⟨n5, 1, none⟩ = some (.int .u64 id) := (LL.nth 2 rfl).cell 1
  have u2 : w9.cell? ⟨n7, 0, none⟩ = some (.int .i64 K) := LL.b1.cell 0
  have L11 := Lib.hid (LL.tail.tail.tail)
  have v0 : w9.cell? ⟨n2, 0, none⟩ = some (.int .i64 0) := L11.out.b0.cell 0
  have v1 : w9.cell? ⟨n2, 1, none⟩ = some (.int .u64 0) := L11.out.b0.cell 1
  have v2 : w9.cell? ⟨n2, 2, none⟩ = some (.int .i64 0) := L11.out.b0.cell 2
  have v3 : w9.cell? ⟨n2, 3, none⟩ = some (.pointer none) := L11.out.b0.cell 3
  have v4 : w9.cell? ⟨n2, 4, none⟩ = some (.pointer none) := L11.out.b0.cell 4
  have v5 : w9.cell? ⟨n2, 5, none⟩ = some (.slice none 0 0) := L11.out.b0.cell 5
  have f0 := L11.out.b0.frozen 0
  have f1 := L11.out.b0.frozen 1
  have f2 := L11.out.b0.frozen 2
  have f3 := L11.out.b0.frozen 3
  have f4 := L11.out.b0.frozen 4
  have f5 := L11.out.b0.frozen 5
  clear LL L10
  go_wp2_with fail
  have LF := Lib.hid ((((((L11.out.set 0 (.int .i64 K)).set 1 (.int .u64 id)).set 2 (.int .i64 K)).set 3 (.pointer none)).set 4 (.pointer (some ⟨rt, 0, none⟩))).set 5 (.slice A9 j cap9))
  have hM : Mod w9 ((((((w9.setCell ⟨n2, 0, none⟩ (.int .i64 K)).setCell ⟨n2, 1, none⟩ (.int .u64 id)).setCell ⟨n2, 2, none⟩ (.int .i64 K)).setCell ⟨n2, 3, none⟩ (.pointer none)).setCell ⟨n2, 4, none⟩ (.pointer (some ⟨rt, 0, none⟩))).setCell ⟨n2, 5, none⟩ (.slice A9 j cap9)) (fun k => k = n2) :=
    Mod.set (p := ⟨n2, 5, none⟩) (Mod.set (p := ⟨n2, 4, none⟩) (Mod.set (p := ⟨n2, 3, none⟩) (Mod.set (p := ⟨n2, 2, none⟩) (Mod.set (p := ⟨n2, 1, none⟩) (Mod.set (p := ⟨n2, 0, none⟩) (Mod.refl w9 (fun k => k = n2)) (.inr rfl) _) (.inr rfl) _) (.inr rfl) _) (.inr rfl) _) (.inr rfl) _) (.inr rfl) _
  have hb := L11.out.b0
  refine bodyPost_ret (results_row_tmp2 rfl _ _ n2 98 _ _ _ rfl LF.out.b0 Tryz.underlying98 rfl size98) rfl ?_
  refine ⟨rt, g, A9, cap9, rfl, Hrt.out, HR10.out.mod hM (fun k h1 h2 => ?_), HO10.out.mod hM (fun a ha => HO10.out.ne hb (by decide) a ha), HLv.out.mod hM (fun a ha => HLv.out.ne hb (by decide) a ha), LF.out.below⟩
  have h3 := HR10.out.1
  rw [← h1, h2] at h3
  unfold Blk at h3 hb
  rw [hb] at h3
  cases h3
end Go.Proofs.YtcnjipicifkfjaaGreat
