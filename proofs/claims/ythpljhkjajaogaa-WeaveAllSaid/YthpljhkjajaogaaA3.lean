/- The walk of WeaveAll. -/
import Derived.Test.YthpljhkjajaogaaW11
namespace Go.Proofs.Ythpljhkjajaogaa
open Go.RowKit
set_option linter.unusedVariables false
set_option linter.unusedSimpArgs false

theorem strs3 (w : World) (A0 A1 A2 : Option Addr) (n0 c0 n1 c1 n2 c2 : Nat) :
    Strs (w.alloc (Obj.cells #[Value.slice A0 n0 c0, Value.slice A1 n1 c1, Value.slice A2 n2 c2] 43)) (some ⟨w.heap.size, 0, none⟩) 3 (sel3 A0 A1 A2) (sel3 n0 n1 n2) (sel3 c0 c1 c2) := by
  refine ⟨_, 0, rfl, by simp, fun j hj => ?_⟩
  rw [(Blk.new w 43 _).cell]
  match j, hj with
  | 0, _ => rfl
  | 1, _ => rfl
  | 2, _ => rfl
theorem rd_new (w : World) (e : TypeId) (vs : List Value) (n : Nat) (h : vs.length = n) : Rd (w.alloc (.cells vs.toArray e)) 1 (some ⟨w.heap.size, 0, none⟩) n vs :=
  ⟨by omega, fun _ => ⟨_, 0, rfl, by simp, fun j u hu => by rw [Nat.zero_add, (Blk.new w e _).cell]; simpa using hu⟩⟩
theorem all3_at (A0 A1 A2 : Option Addr) (n0 c0 n1 c1 n2 c2 z : Nat) (h : z < 3) :
    (#[Value.slice A0 n0 c0, Value.slice A1 n1 c1, Value.slice A2 n2 c2] : Array Value)[z]? = some (.slice (sel3 A0 A1 A2 z) (sel3 n0 n1 n2 z) (sel3 c0 c1 c2 z)) := by
  match z, h with
  | 0, _ => rfl
  | 1, _ => rfl
  | 2, _ => rfl
theorem woven_at (sv : Nat → List Int) (ts : List (Nat × Nat)) (i : Nat) (h : i < ts.length) : (woven sv ts)[i]? = some (.int .u64 ((sv (ts.getD i (0, 0)).1).getD (ts.getD i (0, 0)).2 0)) := by
  unfold woven
  rw [List.getElem?_map, List.getD_eq_getElem?_getD (l := ts), List.getElem?_eq_getElem h]
  rfl
theorem lens3 (n0 n1 n2 : Nat) : icells (lens (sel3 n0 n1 n2) 3) = [.int .i64 n0, .int .i64 n1, .int .i64 n2] := by
  simp [icells, lens, List.range_succ, sel3]

set_option maxRecDepth 100000 in
set_option maxHeartbeats 2000000 in
theorem wa_any (A0 A1 A2 A3 : Option Addr) (n0 c0 n1 c1 n2 c2 n3 c3 : Nat) (z0 z1 z2 ps : List Int) (w : World)
    (hn0 : n0 ≤ c0) (hc0 : c0 ≤ maxLen) (hr0 : Row w A0 n0 1 (fun i => [.int .u64 (z0.getD i 0)]))
    (hn1 : n1 ≤ c1) (hc1 : c1 ≤ maxLen) (hr1 : Row w A1 n1 1 (fun i => [.int .u64 (z1.getD i 0)]))
    (hn2 : n2 ≤ c2) (hc2 : c2 ≤ maxLen) (hr2 : Row w A2 n2 1 (fun i => [.int .u64 (z2.getD i 0)]))
    (hl3 : ps.length = n3) (hn3 : n3 ≤ c3) (hc3 : c3 ≤ maxLen) (hk3 : ∀ i, (Lit.int .u8 (ps.getD i 0)).wf = true) (hr3 : Row w A3 n3 1 (fun i => [.int .u8 (ps.getD i 0)])) :
    Calls Try.prog 5 #[.agg #[.slice A0 n0 c0, .slice A1 n1 c1], .slice A2 n2 c2, .slice A3 n3 c3] w fun e w' => e = .returned (.bool true) ∧ Below w.heap.size w w' := by
  have Hv : Hid (Vals w 3 (sel3 A0 A1 A2) (sel3 n0 n1 n2) (sel3 z0 z1 z2)) := by
    intro j hj h0
    match j, hj, h0 with
    | 0, _, h0 => obtain ⟨b, off, h1, h2, h3⟩ := hr0 h0; exact ⟨b, off, h1, h2, fun i hi => by simpa [sel3] using h3 i hi 0 _ rfl⟩
    | 1, _, h0 => obtain ⟨b, off, h1, h2, h3⟩ := hr1 h0; exact ⟨b, off, h1, h2, fun i hi => by simpa [sel3] using h3 i hi 0 _ rfl⟩
    | 2, _, h0 => obtain ⟨b, off, h1, h2, h3⟩ := hr2 h0; exact ⟨b, off, h1, h2, fun i hi => by simpa [sel3] using h3 i hi 0 _ rfl⟩
  have Hl3 := Lib.hid hl3
  have Hk3 : Hid (∀ i, i < n3 → 0 ≤ ps.getD i 0 ∧ ps.getD i 0 ≤ 255) := fun i _ => bounds_u8 (hk3 i)
  have Hr3 := Lib.hid hr3
  unfold maxLen at hc0 hc1 hc2 hc3
  clear hr0 hr1 hr2 hl3 hk3 hr3
  go_enter Try.func5, Try.ntmps5
  go_wp2_with fail
  refine (awake_any _).mono ?_
  rintro e w1 ⟨rfl, hb1⟩
  have HX1 := Lib.hid ((Blk.new w 40 #[.slice A0 n0 c0, .slice A1 n1 c1]).below hb1 (by simp))
  have Hb1 := Lib.hid (((Below.refl _ w).alloc (Nat.le_refl _) _).trans (hb1.mono (by simp)))
  clear hb1
  have e0 := HX1.out.cell 0
  have e1 := HX1.out.cell 1
  simp only [List.getElem?_toArray, List.getElem?_cons_zero, List.getElem?_cons_succ] at e0 e1
  go_wp2_with fail
  go_region
  have Hb2 : Hid (Below w.heap.size w w1.drew) := below_drewN Hb1.out 1
  clear e0 e1 HX1 Hb1
  generalize w1.drew = w2 at *
  by_cases h0 : 100 < n0 ∨ 100 < n1 ∨ 100 < n2
  · by_cases a0 : 100 < n0
    · have d0 : decide ((100 : Int) < (n0 : Int)) = true := by simp; omega
      clear h0
      go_wp2_with fail
      go_ret
      exact ⟨rfl, Hb2.out⟩
    · by_cases a1 : 100 < n1
      · have d0 : decide ((100 : Int) < (n0 : Int)) = false := by simp; omega
        have d1 : decide ((100 : Int) < (n1 : Int)) = true := by simp; omega
        clear h0
        go_wp2_with fail
        go_ret
        exact ⟨rfl, Hb2.out⟩
      · have a2 : 100 < n2 := by omega
        have d0 : decide ((100 : Int) < (n0 : Int)) = false := by simp; omega
        have d1 : decide ((100 : Int) < (n1 : Int)) = false := by simp; omega
        have d2 : decide ((100 : Int) < (n2 : Int)) = true := by simp; omega
        clear h0
        go_wp2_with fail
        go_ret
        exact ⟨rfl, Hb2.out⟩
  · have g0 : n0 ≤ 100 := by omega
    have g1 : n1 ≤ 100 := by omega
    have g2 : n2 ≤ 100 := by omega
    have Hn : Hid (∀ j, j < 3 → sel3 n0 n1 n2 j ≤ 1000) := by
      intro j hj
      match j, hj with
      | 0, _ => show n0 ≤ _; omega
      | 1, _ => show n1 ≤ _; omega
      | 2, _ => show n2 ≤ _; omega
    have Htot : Hid (total (ilens (sel3 n0 n1 n2) 3) = n0 + n1 + n2) := total_ilens3 n0 n1 n2
    have d0 : decide ((100 : Int) < (n0 : Int)) = false := by simp; omega
    have d1 : decide ((100 : Int) < (n1 : Int)) = false := by simp; omega
    have d2 : decide ((100 : Int) < (n2 : Int)) = false := by simp; omega
    have hs2 := Hb2.out.size
    clear h0
    go_wp2_with fail
    have Hs := Lib.hid (strs3 w2 A0 A1 A2 n0 c0 n1 c1 n2 c2)
    have Hb3 := Lib.hid (Hb2.out.alloc hs2 (.cells #[.slice A0 n0 c0, .slice A1 n1 c1, .slice A2 n2 c2] 43))
    generalize w2.alloc _ = w3 at *
    refine (weave_any A3 n3 c3 ps _ 3 3 (sel3 A0 A1 A2) (sel3 n0 n1 n2) (sel3 c0 c1 c2) (sel3 z0 z1 z2) w3 (by omega) (Hr3.out.mono Hb3.out (Nat.le_refl _)) Hl3.out (by omega) Hk3.out Hs.out (Hv.out.below Hb3.out (Nat.le_refl _)) Hn.out (by rw [Htot.out]; omega)).mono ?_
    rintro e w4 ⟨k, A4, cap4, rfl, hE, hO4, hb4⟩
    have HE := Lib.hid hE
    have hk : k = n0 + n1 + n2 := by rw [ends_total hE, Htot.out]
    have Hk := Lib.hid hk
    have hkb : k ≤ 300 := by omega
    have Hl4 := Lib.hid hO4.rd
    have Hb4 := Lib.hid (Hb3.out.trans (hb4.mono Hb3.out.size))
    have hs4 := Hb4.out.size
    clear hE hk hO4 hb4 Hs Hb3 Hb2 hs2
    go_wp2_with fail
    have Hs := Lib.hid (strs3 w4 A0 A1 A2 n0 c0 n1 c1 n2 c2)
    have Hb5 := Lib.hid (Hb4.out.alloc hs4 (.cells #[.slice A0 n0 c0, .slice A1 n1 c1, .slice A2 n2 c2] 43))
    have Hl5 := Lib.hid (Hl4.out.alloc (.cells #[.slice A0 n0 c0, .slice A1 n1 c1, .slice A2 n2 c2] 43))
    generalize w4.alloc _ = w5 at *
    refine (lists_any _ 3 3 (sel3 A0 A1 A2) (sel3 n0 n1 n2) (sel3 c0 c1 c2) w5 (by omega) Hs.out (fun j hj => Nat.le_trans (Hn.out j hj) (by omega))).mono ?_
    rintro e w6 ⟨A6, cap6, rfl, hO6, hb6⟩
    have Hr6 := Lib.hid hO6.irow
    have Hi6 := Lib.hid hO6.rd
    have Hb6 := Lib.hid (Hb5.out.trans (hb6.mono Hb5.out.size))
    have Hl6 := Lib.hid (Hl5.out.below hb6 (Nat.le_refl _))
    have hs6 := Hb6.out.size
    clear hO6 hb6 Hb5 Hl5 Hl4 Hb4 hs4 Hs
    go_wp2_with fail
    refine (order_any A6 3 cap6 (ilens (sel3 n0 n1 n2) 3) A3 n3 c3 ps _ (lens_len _ _) (by omega) (by rw [Htot.out]; omega) Hr6.out (Hr3.out.mono Hb6.out (Nat.le_refl _)) Hl3.out (by omega) Hk3.out).mono ?_
    rintro e w7 ⟨k7, A7, cap7, rfl, hE7, hO7, hb7⟩
    have e7 := hE7.eq HE.out
    subst e7
    have Ho7 := Lib.hid hO7.rd
    have Hr7 := Lib.hid (Hr6.out.mono hb7 (Nat.le_refl _))
    have Hi7 := Lib.hid (Hi6.out.below hb7 (Nat.le_refl _))
    have Hb7 := Lib.hid (Hb6.out.trans (hb7.mono Hb6.out.size))
    have Hl7 := Lib.hid (Hl6.out.below hb7 (Nat.le_refl _))
    have hs7 := Hb7.out.size
    clear hE7 hO7 hb7 Hb6 Hl6 Hi6 Hr6 hs6
    go_wp2_with fail
    have Hs8 : Hid (Rd (w7.alloc (Obj.cells #[Value.int IntKind.i64 ↑n0, Value.int IntKind.i64 ↑n1, Value.int IntKind.i64 ↑n2] 3)) 1 (some ⟨w7.heap.size, 0, none⟩) 3 (icells (lens (sel3 n0 n1 n2) 3))) := by
      rw [lens3]
      exact rd_new w7 3 _ 3 rfl
    have Hb8 := Lib.hid (Hb7.out.alloc hs7 (Obj.cells #[Value.int IntKind.i64 ↑n0, Value.int IntKind.i64 ↑n1, Value.int IntKind.i64 ↑n2] 3))
    have Hl8 := Lib.hid (Hl7.out.alloc (Obj.cells #[Value.int IntKind.i64 ↑n0, Value.int IntKind.i64 ↑n1, Value.int IntKind.i64 ↑n2] 3))
    have Ho8 := Lib.hid (Ho7.out.alloc (Obj.cells #[Value.int IntKind.i64 ↑n0, Value.int IntKind.i64 ↑n1, Value.int IntKind.i64 ↑n2] 3))
    have Hi8 := Lib.hid (Hi7.out.alloc (Obj.cells #[Value.int IntKind.i64 ↑n0, Value.int IntKind.i64 ↑n1, Value.int IntKind.i64 ↑n2] 3))
    have Hr8 : Hid (Row (w7.alloc (Obj.cells #[Value.int IntKind.i64 ↑n0, Value.int IntKind.i64 ↑n1, Value.int IntKind.i64 ↑n2] 3)) A6 3 1 (fun i => [.int .i64 ((ilens (sel3 n0 n1 n2) 3).getD i 0)])) :=
      Hr7.out.mono ((Below.refl w7.heap.size w7).alloc (Nat.le_refl _) _) (Nat.le_refl _)
    generalize w7.alloc _ = w8 at *
    refine (ints_any A6 _ 3 cap6 3 _ w8 (by omega) Hi8.out Hs8.out).mono ?_
    rintro e w9 ⟨rfl, hb9⟩
    have Hr9 := Lib.hid (Hr8.out.mono hb9 (Nat.le_refl _))
    have Ho9 := Lib.hid (Ho8.out.below hb9 (Nat.le_refl _))
    have Hl9 := Lib.hid (Hl8.out.below hb9 (Nat.le_refl _))
    have Hb9 := Lib.hid (Hb8.out.trans (hb9.mono Hb8.out.size))
    have hs9 := Hb9.out.size
    clear hb9 Hb8 Hl8 Ho8 Hi8 Hr8 Hs8 Hl7 Ho7 Hi7 Hr7 Hb7 hs7
    have hkk : (n0 : Int) + (n1 : Int) + (n2 : Int) = (k7 : Int) := by have := Hk.out; omega
    go_wp2_with fail
    refine (Go.Proofs.Ythpljhkjajaogaa.right_any A6 3 cap6 _ ps A7 k7 cap7 _ (lens_len _ _) (by omega) (by rw [Htot.out]; omega) Hr9.out (fun i hi => ?_) HE.out Ho9.out).mono ?_
    · rw [lens_getD _ _ _ hi]
      have := Hn.out i hi
      omega
    rintro e wa ⟨rfl, hba⟩
    have Hoa := Lib.hid (Ho9.out.below hba (Nat.le_refl _))
    have Hla := Lib.hid (Hl9.out.below hba (Nat.le_refl _))
    have Hba := Lib.hid (Hb9.out.trans (hba.mono Hb9.out.size))
    have hsa := Hba.out.size
    clear hba Hb9 hs9 Hr9 Ho9 Hl9
    go_wp2_with fail
    obtain ⟨ts, Hts⟩ : ∃ ts, Hid ((st (ilens (sel3 n0 n1 n2) 3) ps k7).1 = ts) := ⟨_, rfl⟩
    have Hln : Hid (ts.length = k7) := by show ts.length = k7; rw [← Hts.out, st_len]
    have Hth := Lib.hid (fun j hj => st_things (ilens (sel3 n0 n1 n2) 3) ps k7 j HE.out hj)
    rw [Hts.out] at Hth Hoa Hla
    obtain ⟨ga, Hga⟩ : ∃ ga, Hid (wa.heap.size = ga) := ⟨_, rfl⟩
    have HX := Lib.hid (Blk.new wa 46 #[.slice A0 n0 c0, .slice A1 n1 c1, .slice A2 n2 c2])
    have Hob := Lib.hid (Hoa.out.alloc (.cells #[.slice A0 n0 c0, .slice A1 n1 c1, .slice A2 n2 c2] 46))
    have Hlb := Lib.hid (Hla.out.alloc (.cells #[.slice A0 n0 c0, .slice A1 n1 c1, .slice A2 n2 c2] 46))
    have Hbb := Lib.hid (Hba.out.alloc hsa (.cells #[.slice A0 n0 c0, .slice A1 n1 c1, .slice A2 n2 c2] 46))
    rw [Hga.out] at HX
    rw [Hga.out]
    generalize wa.alloc _ = wb at *
    have Hvb := Lib.hid (Hv.out.below Hbb.out (Nat.le_refl _))
    clear Hga Hoa Hla Hba hsa Hv Hr3 Hl3 Hk3 d0 d1 d2 hkk Hk
    go_loopw [13] (fun v13 wr => ∃ i : Nat, v13 = .int .i64 i ∧ i ≤ k7 ∧ Below wb.heap.size wb wr) (fun v13 _ => k7 - (intOf v13).toNat)
    case atStart => exact ⟨0, rfl, Nat.zero_le _, Below.refl _ _⟩
    case round =>
      obtain ⟨i, rfl, hi, hb⟩ := hrel
      have Hb := Lib.hid hb
      clear hb
      by_cases hlt : i < k7
      · obtain ⟨_, g, off, rfl, hg, hc⟩ := Rd.things Hob.out (by omega)
        have e0 := (Hb.out.cell (p := ⟨g, off + i * 2, none⟩) hg).trans (hc i hlt).1
        have e1 := (Hb.out.cell (p := ⟨g, off + i * 2 + 1, none⟩) hg).trans (hc i hlt).2
        obtain ⟨gl, ol, rfl, hgl, hcl⟩ := Hlb.out.2 (by omega)
        have cl := (Hb.out.cell (p := ⟨gl, ol + i, none⟩) hgl).trans (hcl i _ (woven_at _ ts i (by rw [Hln.out]; exact hlt)))
        obtain ⟨hz, hy⟩ := Hth.out i hlt
        clear hc hcl
        obtain ⟨z, Hz⟩ : ∃ z, Hid ((ts.getD i (0, 0)).1 = z) := ⟨_, rfl⟩
        obtain ⟨y, Hy⟩ : ∃ y, Hid ((ts.getD i (0, 0)).2 = y) := ⟨_, rfl⟩
        simp only [Hz.out, Hy.out] at e0 e1 cl hz hy
        rw [lens_len] at hz
        rw [lens_getD _ _ _ hz] at hy
        have hnz := Hn.out z hz
        obtain ⟨ge, oe, hA, hge, hce⟩ := Hvb.out z hz (by omega)
        have cx := (Hb.out.cell (p := ⟨ga, z, none⟩) HX.out.lt).trans ((HX.out.cell z).trans (all3_at A0 A1 A2 n0 c0 n1 c1 n2 c2 z hz))
        have ce := (Hb.out.cell (p := ⟨ge, oe + y, none⟩) hge).trans (hce y (by omega))
        rw [hA] at cx
        clear hce hA
        generalize sel3 n0 n1 n2 z = nz at *
        generalize sel3 c0 c1 c2 z = cz at *
        generalize (sel3 z0 z1 z2 z).getD y 0 = u at *
        have hyn : y < nz := by omega
        clear hy
        go_wp2_with fail
        have hbx := Hb.out.alloc Hb.out.size (.cells #[.int .i64 z, .int .i64 y] 31)
        have HX2 := Lib.hid (Blk.new wr 31 #[.int .i64 z, .int .i64 y])
        have f1 := (World.cell?_alloc_lt wr (.cells #[.int .i64 z, .int .i64 y] 31) ⟨gl, ol + i, none⟩ (Nat.lt_of_lt_of_le hgl Hb.out.size)).trans cl
        have f2 := (World.cell?_alloc_lt wr (.cells #[.int .i64 z, .int .i64 y] 31) ⟨ga, z, none⟩ (Nat.lt_of_lt_of_le HX.out.lt Hb.out.size)).trans cx
        have f3 := (World.cell?_alloc_lt wr (.cells #[.int .i64 z, .int .i64 y] 31) ⟨ge, oe + y, none⟩ (Nat.lt_of_lt_of_le hge Hb.out.size)).trans ce
        have Hb2 := Lib.hid hbx
        obtain ⟨N, HNN⟩ : ∃ N, Hid (wr.heap.size = N) := ⟨_, rfl⟩
        rw [HNN.out] at HX2
        rw [HNN.out]
        clear hbx e0 e1 cl cx ce HNN Hb
        generalize wr.alloc _ = w5 at *
        have f4 := HX2.out.cell 0
        have f5 := HX2.out.cell 1
        simp only [List.getElem?_toArray, List.getElem?_cons_zero, List.getElem?_cons_succ] at f4 f5
        go_quiet (fail)
        go_wp2_with fail
        exact ⟨⟨i + 1, by go_num, by omega, below_drewN Hb2.out _⟩, by simp [intOf]; omega⟩
      · go_wp2_with fail
        go_ret
        exact ⟨rfl, Hbb.out.trans (Hb.out.mono Hbb.out.size)⟩
end Go.Proofs.Ythpljhkjajaogaa
