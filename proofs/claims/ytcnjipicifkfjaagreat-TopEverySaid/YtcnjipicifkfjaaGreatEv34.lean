/- pile: All. -/
import Derived.Test.YtcnjipicifkfjaaGreatEv33
import Derived.Test.YtcnjipicifkfjaaGreatEv20
import Derived.Test.YtcnjipicifkfjaaGreatEv31

namespace Go.Proofs.YtcnjipicifkfjaaGreat
open Go.RowKit Go.Shelf
set_option linter.unusedVariables false
set_option linter.unusedSimpArgs false
attribute [local go_sem] Oper.semAt_some

/-- A pile as it lies on the device: what hangs on one root. -/
def ChainIn (s : DS) (m : Nat) (used : Nat → Bool) : Nat → List Nat → Prop
  | a, [] => used a = false ∧ a ≤ 1099511627776
  | a, v :: vs => used a = true ∧ a ≤ 1099511627776 ∧ ObjAt s m a 1 1 ∧ s.C.getD (a + 2) 0 = v ∧ s.C.getD (a + 1) 0 ≤ 1099511627776 ∧ ChainIn s m used (s.C.getD (a + 1) 0) vs
def clen (s : DS) (used : Nat → Bool) : Nat → Nat → Nat
  | 0, _ => 0
  | f + 1, a => if used a then 1 + clen s used f (s.C.getD (a + 1) 0) else 0
theorem ChainIn.clen {s : DS} {m : Nat} {used : Nat → Bool} {vs : List Nat} : ∀ {a f : Nat}, ChainIn s m used a vs → vs.length ≤ f → clen s used f a = vs.length := by
  induction vs with
  | nil =>
    intro a f h hf
    cases f with
    | zero => rfl
    | succ f => simp [Go.Proofs.YtcnjipicifkfjaaGreat.clen, h.1]
  | cons v vs ih =>
    intro a f h hf
    cases f with
    | zero => simp at hf
    | succ f =>
      have := ih h.2.2.2.2.2 (f := f) (by simp at hf; omega)
      show (if used a then 1 + Go.Proofs.YtcnjipicifkfjaaGreat.clen s used f (s.C.getD (a + 1) 0) else 0) = _
      rw [if_pos h.1, this, List.length_cons]
      omega
/-- What a round of the pile keeps. -/
def KeepP (n0 Bn : Nat) (q : Value) (A B : World) : Prop := Below n0 A B ∧ (Boxed A Bn 31 q → Boxed B Bn 31 q)
theorem keepP_t {n0 Bn : Nat} {q : Value} {A B C : World} (h : KeepP n0 Bn q A B) (k : KeepP n0 Bn q B C) : KeepP n0 Bn q A C := ⟨h.1.trans k.1, fun x => k.2 (h.2 x)⟩
theorem keepP_b {n0 Bn : Nat} {q : Value} {w : World} (hn : n0 ≤ w.heap.size) (W : World) (l : Nat) (o o' : Go.Obj) (hl : w.heap.size ≤ l) (h : W.heap[l]? = some o) (hc : o.isCells = false) (hw : o.isWalk = false) : KeepP n0 Bn q W (W.putObj l o') :=
  ⟨belowK_b hn W l o o' hl h hc hw, fun hb => hb.kept (grownBy_putObj' W l o') (fun e => by
    cases e
    rw [show W.heap[Bn]? = _ from hb] at h
    cases h
    cases hc)⟩
theorem boxedP_below {Bn : Nat} {q : Value} {A B : World} (h : Boxed A Bn 31 q) (hb : Below A.heap.size A B) : Boxed B Bn 31 q :=
  (hb.block Bn (by
    rcases Nat.lt_or_ge Bn A.heap.size with h1 | h1
    · exact h1
    · exact absurd ((Array.getElem?_eq_none h1).symm.trans (show A.heap[Bn]? = _ from h)) (by simp))).trans h

set_option maxRecDepth 100000 in
set_option maxHeartbeats 2000000 in
theorem pall1_in (B : Nat) (b : DB) (m : Nat) (s : DS) (col : Nat → Nat) (hp al mp us fr rt hl ca sh pp a0 : Nat) (vs : List Nat) (S : HS) (mm l Bn : Nat) (hm : 1 ≤ mm) (w0 : World) (h : HeapX w0 B b m s col hp al mp us fr rt hl ca sh S) (hws : S.ws.length = 8)
    (hpb : Blk w0 pp 68 #[.pointer (some ⟨hp, 0, none⟩), .int .i64 0]) (ha0 : S.ws.getD 0 0 = a0) (hch : ChainIn s m S.A.used a0 vs) (J Jx : List Nat → World → Prop)
    (hY : ∀ pre (x : Nat) W, J pre W → pre.length < vs.length → YieldAt Fence.wide (mm - 1) Tryz.prog l #[.int .u64 (x : Int)] W fun e W' =>
      (e = .returned (.bool true) ∧ J (pre ++ [x]) W' ∧ KeepP w0.heap.size Bn (.pointer (some ⟨pp, 0, none⟩)) W W') ∨ (e = .returned (.bool false) ∧ Jx (pre ++ [x]) W'))
    (W : World) (hBx : Boxed W Bn 31 (.pointer (some ⟨pp, 0, none⟩))) (hW : Below w0.heap.size w0 W) (h0 : J [] W) (hJb : ∀ pre A C, J pre A → Below A.heap.size A C → J pre C) :
    CallsIn Fence.wide mm Tryz.prog 86 #[.func (.yield l) #[] #[], .pointer (some ⟨Bn, 0, none⟩)] W fun e W' => (∃ v, e = .returned v) ∧
      ((∃ ys, ys = vs ∧ J ys W') ∨ (∃ pre, pre <+: vs ∧ Jx pre W')) := by
  have HXb : Hid (∀ wr, Below w0.heap.size w0 wr → HeapX wr B b m s col hp al mp us fr rt hl ca sh S ∧ Blk wr pp 68 #[.pointer (some ⟨hp, 0, none⟩), .int .i64 0]) := fun wr hb => ⟨h.below hb, hpb.below hb hpb.lt⟩
  obtain ⟨r0, r1, r2, r3, r4, r5, r6, r7, hw8⟩ := eight S.ws hws
  have hr0 : r0 = a0 := by rw [← ha0, hw8]; rfl
  subst hr0
  clear ha0
  have Hwk : Hid (∀ wr, Below w0.heap.size w0 wr → Calls Tryz.prog 87 #[.pointer (some ⟨hp, 0, none⟩)] wr fun e w' => e = .returned (.agg #[.int .i64 r0, .int .i64 r1, .int .i64 r2, .int .i64 r3, .int .i64 r4, .int .i64 r5, .int .i64 r6, .int .i64 r7]) ∧ Below wr.heap.size wr w') := fun wr hb => by
    have := hworking_any B b m s col hp al mp us fr rt hl ca sh S wr (h.below hb) hws
    rw [hw8] at this
    exact this
  have Hdv : Hid (∀ wr, Below w0.heap.size w0 wr → Calls Tryz.prog 10 #[.pointer (some ⟨hp, 0, none⟩)] wr fun e w' => e = .returned (.pointer (some ⟨b.d, 0, none⟩)) ∧ wr = w') := fun wr hb => hdev_any hp b.d wr (h.below hb).c0
  have Hsp : Hid (∀ wr, Below w0.heap.size w0 wr → Calls Tryz.prog 16 #[.pointer (some ⟨hp, 0, none⟩)] wr fun e w' => e = .returned (.pointer (some ⟨al, 0, none⟩)) ∧ wr = w') := fun wr hb => hspace_any B b m s col hp al mp us fr rt hl ca sh S wr (h.below hb)
  have Hus : Hid (∀ a wr, Below w0.heap.size w0 wr → a ≤ 1099511627776 → Calls Tryz.prog 88 #[.pointer (some ⟨al, 0, none⟩), .int .i64 (a : Nat)] wr fun e w' => e = .returned (.bool (S.A.used a)) ∧ wr = w') := fun a wr hb ha => aused_any col al b.d a S.A wr (h.below hb).a.r (by have := h.k4; omega) (by omega)
  have Hda : Hid (∀ a v wr, Below w0.heap.size w0 wr → ObjAt s m a 1 1 → s.C.getD (a + 2) 0 = v → Calls Tryz.prog 89 #[.pointer (some ⟨b.d, 0, none⟩), .int .i64 a, .int .i64 0] wr fun e w' => e = .returned (.tuple #[.int .u64 v, .int .i64 0]) ∧ Below wr.heap.size wr w') := fun a v wr hb ho hv => odataOf_any B b m s a v wr (h.below hb).dev ho hv (by have := h.hm; have := h.k4; omega)
  have Hpt : Hid (∀ a v wr, Below w0.heap.size w0 wr → ObjAt s m a 1 1 → s.C.getD (a + 1) 0 = v → v ≤ 1099511627776 → Calls Tryz.prog 76 #[.pointer (some ⟨b.d, 0, none⟩), .int .i64 a, .int .i64 0] wr fun e w' => e = .returned (.tuple #[.int .i64 v, .int .i64 0]) ∧ Below wr.heap.size wr w') := fun a v wr hb ho hv hv2 => optrOf_any B b m s a v wr (h.below hb).dev ho hv hv2 (by have := h.hm; have := h.k4; omega)
  have HBx := Lib.hid hBx
  have h0' := Lib.hid h0
  have HW := Lib.hid hW
  have Hch := Lib.hid hch
  have HJb := Lib.hid hJb
  have y0 : W.cell? ⟨Bn, 0, none⟩ = some (.pointer (some ⟨pp, 0, none⟩)) := hBx.cell
  have y1 : W.cell? ⟨pp, 0, none⟩ = some (.pointer (some ⟨hp, 0, none⟩)) := (HXb.out _ hW).2.cell 0
  have y2 : W.cell? ⟨pp, 1, none⟩ = some (.int .i64 0) := (HXb.out _ hW).2.cell 1
  clear h hpb hBx h0 hW hch hJb hw8 hws
  refine callsIn_of_wp Tryz.func86 rfl trivial ?_ rfl
  simp only [Tryz.ntmps86, List.size_toArray, List.length_cons, List.length_nil, Nat.reduceAdd, Nat.reduceSub, Array.replicate_succ, Array.replicate_zero, List.push_toArray, List.append_toArray, List.nil_append, List.cons_append]
  gi_wp2_with (refine ⟨trivial, ?_⟩; gi_at_call 10; refine (callsIn_wide.2 (Hdv.out _ HW.out)).mono ?_; rintro e w' ⟨rfl, rfl⟩)
  have hix : ∀ w : World, (Instr.index 80 (.agg #[.int .i64 r0, .int .i64 r1, .int .i64 r2, .int .i64 r3, .int .i64 r4, .int .i64 r5, .int .i64 r6, .int .i64 r7]) (.int .i64 0)).run Tryz.prog w = .ok (.int .i64 r0) w := fun w => run_index_one 8 0 _ Tryz.underlying80 Tryz.underlying3 rfl size3 (by omega) rfl w
  refine wpIn_wide.2 ?_
  go_region_held3 (fun A => A.cell? ⟨Bn, 0, none⟩ = some (.pointer (some ⟨pp, 0, none⟩)) ∧ A.cell? ⟨pp, 0, none⟩ = some (.pointer (some ⟨hp, 0, none⟩)) ∧ A.cell? ⟨pp, 1, none⟩ = some (.int .i64 0))
    (first | exact ⟨y0, y1, y2⟩ | exact ⟨HB2.out.cell, (HXb.out _ HW2.out).2.cell 0, (HXb.out _ HW2.out).2.cell 1⟩)
    ((go_at_call 87; refine (Hwk.out W.drew (HW.out.trans ((below_drewN (Below.refl W.heap.size W) 1).mono HW.out.size))).mono ?_; rintro e w2 ⟨rfl, hb2⟩; have HB2a : Hid (Below W.heap.size W w2) := (below_drewN (Below.refl W.heap.size W) 1).trans hb2; have HW2 : Hid (Below w0.heap.size w0 w2) := HW.out.trans (HB2a.out.mono HW.out.size); have HB2 : Hid (Boxed w2 Bn 31 (.pointer (some ⟨pp, 0, none⟩))) := boxedP_below HBx.out HB2a.out; clear hb2))
  clear hix y0 y1 y2
  gi_wp2
  gi_loopw [4] (fun v4 wr => ∃ (a : Nat) (pre rest : List Nat), v4 = .int .i64 (a : Int) ∧ vs = pre ++ rest ∧ ChainIn s m S.A.used a rest ∧ Below w0.heap.size w0 wr ∧ Boxed wr Bn 31 (.pointer (some ⟨pp, 0, none⟩)) ∧ J pre wr)
    (fun v4 _ => clen s S.A.used vs.length (intOf v4).toNat)
  case atStart => exact ⟨r0, [], vs, rfl, rfl, Hch.out, HW2.out, HB2.out, HJb.out _ _ _ h0'.out HB2a.out⟩
  case round =>
    obtain ⟨a, pre, rest, rfl, hvs, hc, hw, hbx, hJ⟩ := hrel
    have Hvs := Lib.hid hvs
    have HC := Lib.hid hc
    have HWr := Lib.hid hw
    have HBr := Lib.hid hbx
    have HJ := Lib.hid hJ
    have y0 : wr.cell? ⟨Bn, 0, none⟩ = some (.pointer (some ⟨pp, 0, none⟩)) := hbx.cell
    have y1 : wr.cell? ⟨pp, 0, none⟩ = some (.pointer (some ⟨hp, 0, none⟩)) := (HXb.out _ hw).2.cell 0
    have hle : a ≤ 1099511627776 := by cases rest with | nil => exact hc.2 | cons v rest => exact hc.2.1
    have HU := Lib.hid (Hus.out a wr hw hle)
    clear hvs hw hbx hJ Hch HB2a HW2 HB2 h0' HW HBx
    cases rest with
    | nil =>
      have hu := hc.1
      rw [hu] at HU
      clear hc hu
      gi_wp2_with (refine ⟨trivial, ?_⟩; first | (gi_at_call 16; refine (callsIn_wide.2 (Hsp.out _ HWr.out)).mono ?_; rintro e w' ⟨rfl, rfl⟩) | (gi_at_call 88; refine (callsIn_wide.2 HU.out).mono ?_; rintro e w' ⟨rfl, rfl⟩))
      go_end0
      exact ⟨⟨_, rfl⟩, .inl ⟨vs, rfl, by rw [Hvs.out, List.append_nil]; exact HJ.out⟩⟩
    | cons v rest =>
      obtain ⟨hu, _, ho, hv, hpl, hcr⟩ := hc
      rw [hu] at HU
      have HO := Lib.hid ho
      have HV := Lib.hid hv
      have HPl := Lib.hid hpl
      have HCr := Lib.hid hcr
      have HUa : Hid (S.A.used a = true ∧ a ≤ 1099511627776) := ⟨hu, hle⟩
      clear hu ho hv hpl hcr
      gi_wp2_with (refine ⟨trivial, ?_⟩; first | (gi_at_call 16; refine (callsIn_wide.2 (Hsp.out _ HWr.out)).mono ?_; rintro e w' ⟨rfl, rfl⟩) | (gi_at_call 88; refine (callsIn_wide.2 HU.out).mono ?_; rintro e w' ⟨rfl, rfl⟩))
      clear HU
      refine ⟨trivial, ?_⟩
      refine (callsIn_wide.2 (Hda.out a v wr HWr.out HO.out HV.out)).mono ?_
      rintro e w3 ⟨rfl, hb3⟩
      have HB3 : Hid (Below w0.heap.size w0 w3) := HWr.out.trans (hb3.mono HWr.out.size)
      have HX3 : Hid (Boxed w3 Bn 31 (.pointer (some ⟨pp, 0, none⟩))) := boxedP_below HBr.out hb3
      have hpl : pre.length < vs.length := by rw [Hvs.out, List.length_append, List.length_cons]; omega
      obtain ⟨fn, tmps, assign, body, hy, hR⟩ := hY pre v w3 (HJb.out _ _ _ HJ.out hb3) hpl
      have HRm := Lib.hid hR
      clear hR hb3 y0 y1 hpl
      gi_wp2
      refine HRm.out.mono ?_
      clear HRm hy
      rintro e w4 (⟨rfl, hJ4, hk4⟩ | ⟨rfl, hJx4⟩)
      · have HJ4 := Lib.hid hJ4
        have HB4 : Hid (Below w0.heap.size w0 w4) := HB3.out.trans hk4.1
        have HX4 : Hid (Boxed w4 Bn 31 (.pointer (some ⟨pp, 0, none⟩))) := hk4.2 HX3.out
        clear hJ4 hk4
        gi_wp2_with (refine ⟨trivial, ?_⟩; gi_at_call 76; refine (callsIn_wide.2 (Hpt.out a _ w4 HB4.out HO.out rfl HPl.out)).mono ?_; rintro e w5 ⟨rfl, hb5⟩; have HB5 : Hid (Below w0.heap.size w0 w5) := HB4.out.trans (hb5.mono HB4.out.size); have HX5 : Hid (Boxed w5 Bn 31 (.pointer (some ⟨pp, 0, none⟩))) := boxedP_below HX4.out hb5; have HJ5 := Lib.hid (HJb.out _ _ _ HJ4.out hb5); clear hb5)
        go_roundw
        case rel => exact ⟨s.C.getD (a + 1) 0, pre ++ [v], rest, rfl, by rw [Hvs.out]; simp, HCr.out, HB5.out, HX5.out, HJ5.out⟩
        case measure =>
          have hl : (v :: rest).length ≤ vs.length := by rw [Hvs.out, List.length_append]; omega
          have h1 := HCr.out.clen (f := vs.length) (by simp at hl; omega)
          have h2 : clen s S.A.used vs.length a = (v :: rest).length := ChainIn.clen ⟨HUa.out.1, HUa.out.2, HO.out, HV.out, HPl.out, HCr.out⟩ hl
          have e : clen s S.A.used vs.length (intOf (.int .i64 ((s.C.getD (a + 1) 0 : Nat) : Int))).toNat < clen s S.A.used vs.length (intOf (.int .i64 (a : Int))).toNat := by
            show clen s S.A.used vs.length ((s.C.getD (a + 1) 0 : Nat) : Int).toNat < clen s S.A.used vs.length (a : Int).toNat
            rw [Int.toNat_natCast, Int.toNat_natCast, h1, h2, List.length_cons]
            omega
          exact e
      · have HX : Hid (Jx (pre ++ [v]) w4) := hJx4
        clear hJx4
        gi_wp2
        refine bodyPost_ret (results_none rfl _ _ _) rfl ?_
        exact ⟨⟨_, rfl⟩, .inr ⟨pre ++ [v], by rw [Hvs.out]; exact ⟨rest, by simp⟩, HX.out⟩⟩
end Go.Proofs.YtcnjipicifkfjaaGreat

/- Plain law: the pile in the words. -/
namespace Go.Proofs.YtcnjipicifkfjaaGreat
open Go.RowKit
set_option linter.unusedVariables false
set_option linter.unusedSimpArgs false

theorem obj_adr {s : DS} {K t : Nat} (h : s.C.getD (adr t) 0 = oword (adr t) 1 1) (h2 : t ≤ 170) (hK : 3 ≤ K) : ObjAt s (K * 64) (adr t) 1 1 :=
  ⟨.inl ⟨rfl, rfl⟩, h, by unfold adr; omega⟩
theorem pl_adr {s : DS} {K t : Nat} {hs : List (Nat × Nat)} (h : s.C.getD (adr t) 0 = oword (adr t) 1 1) (h1 : 1 ≤ t) (h2 : t ≤ 170) (hK : 3 ≤ K) (hh : hs.getD 1 (0, 0) = (1, 1)) : Pl s (K * 64) K 1 1 hs (adr t) :=
  ⟨1, 1, t - 1, obj_adr h h2 hK, by decide, ⟨by have := cadr1 (t - 1); unfold cadr at this; rw [this, show t - 1 + 1 = t by omega], by omega, by omega, by omega, by rw [ccells1]; omega⟩, hh⟩
theorem adrs_in (n a : Nat) : a ∈ adrs n ↔ ∃ t, 1 ≤ t ∧ t ≤ n ∧ a = adr t := by
  unfold adrs
  rw [List.mem_map]
  constructor
  · rintro ⟨i, hi, rfl⟩
    have := List.mem_range.1 hi
    exact ⟨i + 1, by omega, by omega, rfl⟩
  · rintro ⟨t, h1, h2, rfl⟩
    exact ⟨t - 1, List.mem_range.2 (by omega), by rw [show t - 1 + 1 = t by omega]⟩
/-- The objects of a pile of j, in some words. -/
def ObjsIn (C : List Nat) (j : Nat) (vs : List Nat) : Prop := ∀ t, 1 ≤ t → t ≤ j → C.getD (adr t) 0 = oword (adr t) 1 1 ∧ C.getD (adr t + 1) 0 = (if t = 1 then 0 else adr (t - 1)) ∧ C.getD (adr t + 2) 0 = vs.getD (t - 1) 0
theorem ObjsIn.pile {s : DS} {K j : Nat} {vs : List Nat} {hs : List (Nat × Nat)} (h : ObjsIn s.C j vs) (hj : j ≤ 170) (hK : 3 ≤ K) (hh : 0 < j → hs.getD 1 (0, 0) = (1, 1)) : PileIn s (K * 64) K hs j :=
  ⟨fun t h1 h2 => pl_adr (h t h1 h2).1 h1 (by omega) hK (hh (by omega)), fun t h1 h2 => (h t h1 h2).2.1⟩
theorem ObjsIn.chain {s : DS} {K n : Nat} {vs : List Nat} {used : Nat → Bool} (h : ObjsIn s.C n vs) (hn : n ≤ 170) (hK : 3 ≤ K) (hv : vs.length = n) (hu : ∀ a, used a = decide (a ∈ adrs n)) : ∀ j, j ≤ n → ChainIn s (K * 64) used (if j = 0 then 0 else adr j) (vs.take j).reverse := by
  intro j
  induction j with
  | zero =>
    intro _
    rw [if_pos rfl, List.take_zero, List.reverse_nil]
    refine ⟨?_, by omega⟩
    rw [hu, decide_eq_false_iff_not, adrs_in]
    rintro ⟨t, _, _, e⟩
    unfold adr at e
    omega
  | succ j ih =>
    intro hj
    have hlt : j < vs.length := by omega
    have e : (vs.take (j + 1)).reverse = vs.getD j 0 :: (vs.take j).reverse := by
      rw [List.take_succ_eq_append_getElem hlt, List.reverse_append, List.getD_eq_getElem?_getD, List.getElem?_eq_getElem hlt]
      rfl
    obtain ⟨o1, o2, o3⟩ := h (j + 1) (by omega) (by omega)
    have hp : (if j + 1 = 1 then 0 else adr (j + 1 - 1)) = if j = 0 then 0 else adr j := by
      by_cases h0 : j = 0
      · rw [if_pos h0, if_pos (by omega)]
      · rw [if_neg h0, if_neg (by omega)]; rfl
    rw [hp] at o2
    have hle : adr (j + 1) ≤ 1099511627776 := by unfold adr; omega
    rw [if_neg (by omega), e]
    refine ⟨?_, hle, obj_adr o1 (by omega) hK, by rw [o3]; rfl, ?_, by rw [o2]; exact ih (by omega)⟩
    · rw [hu, decide_eq_true_eq, adrs_in]; exact ⟨j + 1, by omega, hj, rfl⟩
    · rw [o2]
      split
      · omega
      · unfold adr; omega
end Go.Proofs.YtcnjipicifkfjaaGreat

/- Plain law: an image can be opened. -/
namespace Go.Proofs.YtcnjipicifkfjaaGreat
open Go.RowKit
set_option linter.unusedVariables false
set_option linter.unusedSimpArgs false

/-- The headers: block 1 in use or not. -/
def hsB (K : Nat) (c : Bool) : List (Nat × Nat) := if c then (List.replicate K (0, 0)).set 1 (1, 1) else List.replicate K (0, 0)
theorem hsB_len (K : Nat) (c : Bool) : (hsB K c).length = K := by unfold hsB; split <;> simp
theorem hsB_get (K : Nat) (c : Bool) (b : Nat) (hK : 2 ≤ K) : (hsB K c).getD b (0, 0) = if b = 1 ∧ c = true then (1, 1) else (0, 0) := by
  have hz : ∀ b, (List.replicate K ((0 : Nat), (0 : Nat))).getD b (0, 0) = (0, 0) := fun b => by
    rw [List.getD_eq_getElem?_getD, List.getElem?_replicate]; split <;> rfl
  unfold hsB
  cases c with
  | false => rw [if_neg (by decide), if_neg (by simp)]; exact hz b
  | true =>
    rw [if_pos rfl, getD_set, hz]
    by_cases hb : b = 1
    · rw [if_pos ⟨hb.symm, by simp; omega⟩, if_pos ⟨hb, rfl⟩]
    · rw [if_neg (fun e => hb e.1.symm), if_neg (fun e => hb e.1)]
/-- Words that are a heap with a pile of j. -/
structure IW (I : List Nat) (K id j e wh : Nat) (vs : List Nat) (c : Bool) : Prop where
  len : I.length = 8 * (K * 64)
  sup : ∀ i, i < 8 → I.getD i 0 = (superL K id).getD i 0
  hdr : ∀ b, 1 ≤ b → b < K → I.getD (256 + b) 0 = if b = 1 ∧ c = true then hword 1 1 1 else hword b 0 0
  obj : ObjsIn I j vs
  cj : 0 < j → c = true
  jl : j ≤ 170
  s0 : Slot16 (slotOf (fresh I (K * 64)) 0)
  s1 : Slot16 (slotOf (fresh I (K * 64)) 1)
  ch : chooseM (sdecM (slotOf (fresh I (K * 64)) 0)) (sdecM (slotOf (fresh I (K * 64)) 1)) = ((e, rootsL j), wh, true)
/-- The device behind Open. -/
def openS (I : List Nat) (K j : Nat) (c : Bool) : DS := if j = 0 ∧ c = true then (exec (fresh I (K * 64)) (phaseS [(257, hword 1 0 0)] 32 1)).1 else fresh I (K * 64)
theorem IW.hdrs {I : List Nat} {K id j e wh : Nat} {vs : List Nat} {c : Bool} (h : IW I K id j e wh vs c) (hK : 3 ≤ K) : HdrsIn (fresh I (K * 64)) K (hsB K c) := by
  refine ⟨hsB_len K c, by rw [hsB_get K c 0 (by omega), if_neg (by omega)], fun b _ => ?_, fun b h1 h2 => ?_⟩
  · rw [hsB_get K c b (by omega)]
    split
    · exact .inr ⟨rfl, by omega⟩
    · exact .inl ⟨rfl, rfl⟩
  · show I.getD (256 + b) 0 = _
    rw [h.hdr b h1 h2, hsB_get K c b (by omega)]
    by_cases hb : b = 1 ∧ c = true
    · rw [if_pos hb, if_pos hb, hb.1]
    · rw [if_neg hb, if_neg hb]
theorem wrS_same (hs : List (Nat × Nat)) (t : Nat) : wrS hs hs t = [] := by
  induction t with
  | zero => rfl
  | succ t ih => rw [wrS, ih]; simp
theorem wrS_one (K : Nat) (hK : 2 ≤ K) (t : Nat) : wrS (hsB K true) (hsB K false) t = if t = 0 then [] else [.st 257 (hword 1 0 0)] := by
  induction t with
  | zero => rfl
  | succ t ih =>
    rw [wrS, ih, hsB_get K true (t + 1) hK, hsB_get K false (t + 1) hK]
    by_cases h : t = 0
    · subst h; rfl
    · simp [h]
theorem IW.open_ {I : List Nat} {K id j e wh : Nat} {vs : List Nat} {c : Bool} (h : IW I K id j e wh vs c) (hK : 3 ≤ K) (hK4 : K ≤ 4) : OpenIn (fresh I (K * 64)) (openS I K j c) (K * 64) K id e wh j 1 (hsB K c) := by
  have hh := h.hdrs hK
  have h1 := hsB_get K c 1 (by omega)
  have hpile : PileIn (fresh I (K * 64)) (K * 64) K (hsB K c) j := h.obj.pile h.jl hK (fun hj => by rw [h1, if_pos ⟨rfl, h.cj hj⟩])
  have hI : HeapIn (fresh I (K * 64)) (K * 64) K id e wh j (hsB K c) := ⟨h.sup, hh, h.s0, h.s1, h.ch, hpile, h.jl, rfl⟩
  have hk0 : j = 0 → keepH (hsB K c) K j = hsB K false := fun h0 => by rw [h0]; rfl
  have hk1 : j ≠ 0 → keepH (hsB K c) K j = hsB K c := fun h0 => by
    have hc := h.cj (by omega)
    unfold keepH
    rw [if_neg h0, h1, if_pos ⟨rfl, hc⟩, hc]
    rfl
  have ho : j ≠ 0 → (hsB K c).getD 1 (0, 0) = (1, 1) := fun h0 => by rw [h1, if_pos ⟨rfl, h.cj (by omega)⟩]
  have hn2 : ((hsB K c).getD 1 (0, 0)).1 ≠ 2 := by rw [h1]; split <;> decide
  by_cases hjc : j = 0 ∧ c = true
  · obtain ⟨h0, hc⟩ := hjc
    subst hc
    have hr := fresh_rest I (K * 64) h.len
    have hl : (fresh I (K * 64)).Live := ⟨rfl, rfl⟩
    have hos : openS I K j true = (exec (fresh I (K * 64)) (phaseS [(257, hword 1 0 0)] 32 1)).1 := if_pos ⟨h0, rfl⟩
    obtain ⟨r1, r2⟩ := (phase hr [(257, hword 1 0 0)] 32 1 (by omega) (fun p hp => by rw [List.mem_singleton] at hp; subst hp; simp only; omega)).1 (exec_live hl _).1
    have hC : (openS I K j true).C = I.set 257 (hword 1 0 0) := by rw [hos, r2]; rfl
    have hws : writeHS (hsB K true) (hsB K false) K = phaseS [(257, hword 1 0 0)] 32 1 := by
      unfold writeHS
      have hk : wrS (hsB K true) (hsB K false) (K - 1) = [.st 257 (hword 1 0 0)] := by rw [wrS_one K (by omega), if_neg (by omega)]
      rw [hk, if_neg (by simp)]
      unfold phaseS persistS
      rw [show (257 + (K - 1) - 1) / 8 + 1 - 257 / 8 = 1 by omega]
      rfl
    refine ⟨hI, hl, by rw [hk0 h0, hws, hos], ?_, ?_, fun x => absurd h0 x, by omega, fun x => absurd h0 x, hn2⟩
    · rw [hk0 h0]
      refine ⟨hsB_len _ _, by rw [hsB_get K false 0 (by omega), if_neg (by omega)], fun b _ => by rw [hsB_get K false b (by omega), if_neg (by simp)]; exact .inl ⟨rfl, rfl⟩, fun b b1 b2 => ?_⟩
      have hf : (hsB K false).getD b (0, 0) = (0, 0) := by rw [hsB_get K false b (by omega), if_neg (by simp)]
      rw [hC, getD_set, hf]
      by_cases hb : b = 1
      · subst hb; rw [if_pos ⟨rfl, by rw [h.len]; omega⟩]
      · rw [if_neg (by omega), h.hdr b b1 b2, if_neg (fun x => hb x.1)]
    · rw [h0]; exact ⟨fun t a b => by omega, fun t a b => by omega⟩
  · have hos : openS I K j c = fresh I (K * 64) := if_neg hjc
    have hkeep : keepH (hsB K c) K j = hsB K c := by
      by_cases h0 : j = 0
      · rw [hk0 h0]
        cases c with
        | false => rfl
        | true => exact absurd ⟨h0, rfl⟩ hjc
      · exact hk1 h0
    have hws : writeHS (hsB K c) (hsB K c) K = [] := by unfold writeHS; rw [if_pos (wrS_same _ _)]
    exact ⟨hI, ⟨rfl, rfl⟩, by rw [hkeep, hws, hos]; rfl, by rw [hkeep, hos]; exact hh, by rw [hkeep, hos]; exact hpile, fun _ => rfl, by omega, ho, hn2⟩
end Go.Proofs.YtcnjipicifkfjaaGreat

/- Plain law: a heap at rest, as an image. -/
namespace Go.Proofs.YtcnjipicifkfjaaGreat
open Go.RowKit
set_option linter.unusedVariables false
set_option linter.unusedSimpArgs false

theorem slotEnc_words (ep : Nat) (rs : List Nat) (h : rs.length = 8) : rsOf (slotEnc ep rs) = rs ∧ (slotEnc ep rs).getD 0 0 = ep := by
  obtain ⟨r0, r1, r2, r3, r4, r5, r6, r7, rfl⟩ := eight rs h
  rw [slotEnc_eq]
  generalize crcW _ = c
  generalize crcW _ = d
  exact ⟨rfl, rfl⟩
theorem slot16_enc (ep : Nat) (rs : List Nat) (h : RootsOk rs) (h0 : 0 < ep) (h1 : ep < 18446744073709551616) : Slot16 (slotEnc ep rs) := by
  obtain ⟨a, b⟩ := slotEnc_words ep rs h.len
  exact ⟨slotEnc_len _ _, outS_lt ep rs h1 h.lt 2 (Nat.le_refl _), fun _ _ => ⟨by rw [a]; exact h, by rw [b]; exact h0⟩⟩
theorem rootsL_ok (n : Nat) (hn : n ≤ 170) : RootsOk (rootsL n) := by
  refine ⟨rfl, fun i hi => ?_⟩
  have ha : (if n = 0 then 0 else adr n) < 131072 := by
    split
    · omega
    · unfold adr; omega
  rcases (by omega : i = 0 ∨ i = 1 ∨ i = 2 ∨ i = 3 ∨ i = 4 ∨ i = 5 ∨ i = 6 ∨ i = 7) with rfl | rfl | rfl | rfl | rfl | rfl | rfl | rfl
  · exact ha
  all_goals exact (by omega : (0 : Nat) < 131072)
theorem sdec_roots (ep n : Nat) : sdecM (slotEnc ep (rootsL n)) = (0, ep, rootsL n) := sdec_full ep _ 0 0 0 0 0 0 0
theorem PW.iw {C : List Nat} {K id n : Nat} {vs : List Nat} (h : PW C K id n vs) (hn : n ≤ 100) : IW C K id n (n + 1) (n % 2) vs (decide (0 < n)) := by
  have hw : slotOf (fresh C (K * 64)) (n % 2) = slotEnc (n + 1) (rootsL n) := slotOf_eq _ _ _ (slotEnc_len _ _) h.new
  have ho : slotOf (fresh C (K * 64)) (1 - n % 2) = if n = 0 then zerosN 16 else slotEnc n (rootsL (n - 1)) := slotOf_eq _ _ _ (by
    split
    · simp [zerosN]
    · exact slotEnc_len _ _) (fun i hi => by
    have := h.old i hi
    show C.getD _ 0 = _
    rw [this]
    split
    · rw [zeros_get]
    · rfl)
  have s1 : Slot16 (slotOf (fresh C (K * 64)) (n % 2)) := by rw [hw]; exact slot16_enc _ _ (rootsL_ok n (by omega)) (by omega) (by omega)
  have s2 : Slot16 (slotOf (fresh C (K * 64)) (1 - n % 2)) := by
    rw [ho]
    split
    · exact slot16_zero
    · exact slot16_enc _ _ (rootsL_ok (n - 1) (by omega)) (by omega) (by omega)
  have hlow : (slotOf (fresh C (K * 64)) (1 - n % 2)).getD 0 0 < n + 1 := by
    rw [ho]
    split
    · rw [zeros_get]; omega
    · rw [(slotEnc_words n (rootsL (n - 1)) rfl).2]; omega
  have hch := choose_w (fresh C (K * 64)) (n % 2) (n + 1) (rootsL n) (by omega) (by rw [hw]; exact sdec_roots _ _) (.inl hlow)
  refine ⟨h.len, h.sup, fun b h1 h2 => ?_, h.obj, fun h1 => by simpa using h1, by omega, ?_, ?_, hch⟩
  · rw [h.hdr b h1 h2]
    simp
  · rcases (by omega : n % 2 = 0 ∨ n % 2 = 1) with e | e
    · rw [e] at s1; exact s1
    · rw [e] at s2; exact s2
  · rcases (by omega : n % 2 = 0 ∨ n % 2 = 1) with e | e
    · rw [e] at s2; exact s2
    · rw [e] at s1; exact s1
end Go.Proofs.YtcnjipicifkfjaaGreat

/- Plain law: images of the room's phase and of the object's. -/
namespace Go.Proofs.YtcnjipicifkfjaaGreat
open Go.RowKit
set_option linter.unusedVariables false
set_option linter.unusedSimpArgs false

theorem slotOf_same {I C : List Nat} {m i : Nat} (h : ∀ j, j < 16 → I.getD (64 + i * 64 + j) 0 = C.getD (64 + i * 64 + j) 0) : slotOf (fresh I m) i = slotOf (fresh C m) i :=
  slotOf_eq _ _ _ (slotOf_len _ _) (fun j hj => by
    show I.getD _ 0 = _
    rw [h j hj]
    unfold slotOf
    rw [copyS_get _ 16 16 j (Nat.le_refl _), if_pos hj]
    rfl)
/-- Words that are unlike those of a heap only where the next object comes to lie, and maybe in the first header. -/
theorem PW.iw_old {C I : List Nat} {K id n : Nat} {vs : List Nat} (h : PW C K id n vs) (hn : n ≤ 100) (hK3 : 3 ≤ K) (hK4 : K ≤ 4) (hl : I.length = 8 * (K * 64))
    (hI : ∀ j, (j < adr (n + 1) ∨ adr (n + 1) + 2 < j) → (n = 0 → j ≠ 257) → I.getD j 0 = C.getD j 0) (h257 : n = 0 → I.getD 257 0 = hword 1 1 1 ∨ I.getD 257 0 = hword 1 0 0) :
    ∃ c, IW I K id n (n + 1) (n % 2) vs c := by
  have g := h.iw hn
  have ha := adr_ge (n + 1)
  have hadr : ∀ t, adr t = 509 + 3 * t := fun _ => rfl
  have hlow : ∀ j, j < 257 → I.getD j 0 = C.getD j 0 := fun j hj => hI j (by omega) (fun _ => by omega)
  have e0 : slotOf (fresh I (K * 64)) 0 = slotOf (fresh C (K * 64)) 0 := slotOf_same (fun j hj => hlow _ (by omega))
  have e1 : slotOf (fresh I (K * 64)) 1 = slotOf (fresh C (K * 64)) 1 := slotOf_same (fun j hj => hlow _ (by omega))
  have hob : ObjsIn I n vs := fun t t1 t2 => by
    have q := hadr t
    have q2 := hadr (n + 1)
    rw [hI (adr t) (by omega) (fun h => by omega), hI (adr t + 1) (by omega) (fun h => by omega), hI (adr t + 2) (by omega) (fun h => by omega)]
    exact h.obj t t1 t2
  have mk : ∀ c, (∀ b, 1 ≤ b → b < K → I.getD (256 + b) 0 = if b = 1 ∧ c = true then hword 1 1 1 else hword b 0 0) → (0 < n → c = true) → IW I K id n (n + 1) (n % 2) vs c := fun c hh hc =>
    ⟨hl, fun i hi => by rw [hlow i (by omega)]; exact h.sup i hi, hh, hob, hc, by omega, by rw [e0]; exact g.s0, by rw [e1]; exact g.s1, by rw [e0, e1]; exact g.ch⟩
  by_cases h0 : n = 0
  · have hb : ∀ b, 2 ≤ b → b < K → I.getD (256 + b) 0 = hword b 0 0 := fun b b1 b2 => by
      rw [hI (256 + b) (by omega) (fun _ => by omega), h.hdr b (by omega) b2, if_neg (by omega)]
    rcases h257 h0 with h1 | h1
    · refine ⟨true, mk true (fun b b1 b2 => ?_) (fun _ => rfl)⟩
      by_cases e : b = 1
      · subst e; rw [if_pos ⟨rfl, rfl⟩]; exact h1
      · rw [if_neg (fun x => e x.1)]; exact hb b (by omega) b2
    · refine ⟨false, mk false (fun b b1 b2 => ?_) (fun h => by omega)⟩
      rw [if_neg (by simp)]
      by_cases e : b = 1
      · subst e; exact h1
      · exact hb b (by omega) b2
  · refine ⟨true, mk true (fun b b1 b2 => ?_) (fun _ => rfl)⟩
    rw [hI (256 + b) (by omega) (fun h => absurd h h0), h.hdr b b1 b2]
    by_cases e : b = 1
    · rw [if_pos ⟨e, by omega⟩, if_pos ⟨e, rfl⟩]
    · rw [if_neg (fun x => e x.1), if_neg (fun x => e x.1)]
end Go.Proofs.YtcnjipicifkfjaaGreat

/- Plain law: the sums of a first slot half written. -/
namespace Go.Proofs.YtcnjipicifkfjaaGreat
open Go.RowKit
set_option linter.unusedVariables false

theorem crc_zero : crcW [0, 0, 0, 0, 0, 0, 0] ≠ 0 ∧ crcW [0, 0, 0, 0, 0, 0, 0] ≠ crcW [2, 512, 0, 0, 0, 0, 0] := by
  have : (decide (crcW [0, 0, 0, 0, 0, 0, 0] ≠ 0) && decide (crcW [0, 0, 0, 0, 0, 0, 0] ≠ crcW [2, 512, 0, 0, 0, 0, 0])) = true := by kernel_rfl
  rw [Bool.and_eq_true] at this
  exact ⟨of_decide_eq_true this.1, of_decide_eq_true this.2⟩
theorem crc_512 : crcW [0, 512, 0, 0, 0, 0, 0] ≠ 0 ∧ crcW [0, 512, 0, 0, 0, 0, 0] ≠ crcW [2, 512, 0, 0, 0, 0, 0] := by
  have : (decide (crcW [0, 512, 0, 0, 0, 0, 0] ≠ 0) && decide (crcW [0, 512, 0, 0, 0, 0, 0] ≠ crcW [2, 512, 0, 0, 0, 0, 0])) = true := by kernel_rfl
  rw [Bool.and_eq_true] at this
  exact ⟨of_decide_eq_true this.1, of_decide_eq_true this.2⟩
end Go.Proofs.YtcnjipicifkfjaaGreat
