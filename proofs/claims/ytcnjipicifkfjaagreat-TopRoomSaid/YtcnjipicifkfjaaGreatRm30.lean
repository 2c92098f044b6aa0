/- cycle: the collector's own block; Step, each phase. -/
import Derived.Test.YtcnjipicifkfjaaGreatRm29
import Derived.Test.YtcnjipicifkfjaaGreatRm24

namespace Go.Proofs.YtcnjipicifkfjaaGreat
open Go.RowKit
set_option linter.unusedVariables false
set_option linter.unusedSimpArgs false

section
variable {w w' : World} {B m : Nat} {b : DB} {s s' : DS} {col col' : Nat → Nat} {hp al mp us fr rt hl ca sh : Nat} {S : HS} {mk sw m1 m2 sk cap gcap cap' gcap' : Nat} {A G A' G' : Option Addr}
/-- A change of the collector's own numbers. -/
theorem HC.cycP (h : HC w B b m s col hp al mp us fr rt hl ca sh S mk sw m1 m2 sk A cap G gcap) (hM : Mod w w' (fun k => k = ca)) {ph cy st : Nat}
    (hb : Blk w' ca 118 #[.pointer (some ⟨al, 0, none⟩), .pointer (some ⟨mk, 0, none⟩), .pointer (some ⟨sw, 0, none⟩), liveF hp, .int .i64 ph, .int .i64 cy, .int .i64 st]) :
    HC w' B b m s col hp al mp us fr rt hl ca sh { S with C := { S.C with phase := ph, cycles := cy, steps := st } } mk sw m1 m2 sk A cap G gcap := by
  have g := h.y.x
  have hX : MarkX w' col mk al S.A.K m1 m2 sk A cap S.C :=
    ⟨hM.blk g.b (g.b.ne_ h.y.b (by decide)), hM.blk g.s (g.s.ne_ h.y.b (by decide)), g.o.mod hM (fun a ha e => g.o.ne h.y.b (by decide) a ha e),
      g.m.mod hM (fun k hk e => by have := h.y.cb; rw [e] at hk; omega), g.c.mod hM (fun k hk e => by have := h.y.cb; rw [e] at hk; omega), g.cb, g.cs, g.co⟩
  have hny : CycX w' col ca al S.A.K (liveF hp) mk sw m1 m2 sk A cap G gcap { S.C with phase := ph, cycles := cy, steps := st } :=
    ⟨hb, ⟨hX.b, hX.s, hX.o, hX.m, hX.c, hX.cb, hX.cs, hX.co⟩, hM.blk h.y.wb (h.y.wb.ne_ h.y.b (by decide)), h.y.g.mod hM (fun a ha e => h.y.g.ne h.y.b (by decide) a ha e), h.y.cb, h.y.cw, h.y.cg⟩
  exact ⟨h.x.cycS (hM.mono (fun k _ e => by have := h.y.cb; rw [e]; omega)) (fun _ _ => rfl) ⟨mk, sw, m1, m2, sk, A, cap, G, gcap, hny⟩, hny⟩
/-- The marker cleared. -/
def CS.clr (C : CS) (K : Nat) : CS := { C with mkd := fun _ => false, sc := fun _ => false, stk := [], missed := 0, again := false, cur := 512 * K }
end
set_option maxRecDepth 100000 in
set_option maxHeartbeats 2000000 in
/-- Step, of an idle collector. -/
theorem cstep_0 (B : Nat) (b : DB) (m : Nat) (s : DS) (col : Nat → Nat) (hp al mp us fr rt hl ca sh : Nat) (S : HS) (mk sw m1 m2 sk cap gcap : Nat) (A G : Option Addr) (w : World) (h : HC w B b m s col hp al mp us fr rt hl ca sh S mk sw m1 m2 sk A cap G gcap) (hn : ∀ k, w.heap.size ≤ k → col k = 9)
    (hph : S.C.phase = 0) (hst : S.C.stk = []) (hws : S.ws.length = 8) (hmo : S.C.most ≤ 10000) (hle : ∀ x ∈ rootsS S, x ≤ 1000000) :
    Calls Tryz.prog 110 #[.pointer (some ⟨ca, 0, none⟩)] w fun e w' => e = .returned (.int .i64 0) ∧ ∃ A' cap' col', (∀ k, k < w.heap.size → col' k = col k) ∧ (∀ k, w'.heap.size ≤ k → col' k = 9) ∧
      HC w' B b m s col' hp al mp us fr rt hl ca sh { S with C := { (shN S.A.used (S.C.clr S.A.K) (rootsS S) (rootsS S).length).1 with phase := 1, steps := 1 } } mk sw m1 m2 sk A' cap' G gcap ∧ Mod w w' (fun k => mfp col mk sk k ∨ k = ca) := by
  have z4 : w.cell? ⟨ca, 4, none⟩ = some (.int .i64 0) := by have := h.y.b.cell 4; rw [hph] at this; exact this
  have z1 : w.cell? ⟨ca, 1, none⟩ = some (.pointer (some ⟨mk, 0, none⟩)) := h.y.b.cell 1
  have k3 := h.x.k3
  have k4 := h.x.k4
  have Hc := Lib.hid (mclear_any col mk al S.A.K m1 m2 sk cap A S.C w h.y.x (by omega) (by omega) hst)
  have HX := Lib.hid h
  have Hn := Lib.hid hn
  have Hle := Lib.hid hle
  clear h hn hle
  go_enter Tryz.func110, Tryz.ntmps110
  go_wp2_with fail
  refine Hc.out.mono ?_
  rintro e w1 ⟨⟨v, rfl⟩, hX1, hM1⟩
  have HC1 : Hid (HC w1 B b m s col hp al mp us fr rt hl ca sh { S with C := S.C.clr S.A.K } mk sw m1 m2 sk A cap G gcap) := HX.out.markS hM1 (fun _ _ => rfl) hX1 rfl rfl rfl rfl rfl
  have HM1 := Lib.hid hM1
  have Hs := Lib.hid (cshade_any B b m s col hp al mp us fr rt hl ca sh { S with C := S.C.clr S.A.K } mk sw m1 m2 sk cap gcap A G w1 HC1.out (fun k hk => Hn.out k (Nat.le_trans HM1.out.size hk)) hws (by show ([] : List Nat).length ≤ _; simp) (by show 0 ≤ _; omega) hmo Hle.out)
  clear hX1 hM1
  go_wp2_with fail
  refine Hs.out.mono ?_
  rintro e w2 ⟨rfl, A', cap', col', hc, hn2, hX2, hM2⟩
  obtain ⟨b1, b2, b3, b4, b5, b6, b7, b8, b9, b10⟩ := shN_bd S.A.used (S.C.clr S.A.K) (rootsS S) (rootsS S).length
  obtain ⟨C2, HC2⟩ : ∃ C2, Hid ((shN S.A.used (S.C.clr S.A.K) (rootsS S) (rootsS S).length).1 = C2) := ⟨_, rfl⟩
  have HX2 : Hid (HC w2 B b m s col' hp al mp us fr rt hl ca sh { S with C := C2 } mk sw m1 m2 sk A' cap' G gcap) := by rw [← HC2.out]; exact hX2
  have Hn2 := Lib.hid hn2
  have Hc2 : Hid (∀ k, k < w.heap.size → col' k = col k) := fun k hk => hc k (Nat.lt_of_lt_of_le hk HM1.out.size)
  have HM2 : Hid (Mod w w2 (fun k => mfp col mk sk k)) := HM1.out.trans hM2 (fun k hk e => e)
  have yb : Blk w2 ca 118 #[.pointer (some ⟨al, 0, none⟩), .pointer (some ⟨mk, 0, none⟩), .pointer (some ⟨sw, 0, none⟩), liveF hp, .int .i64 C2.phase, .int .i64 C2.cycles, .int .i64 C2.steps] := HX2.out.y.b
  have yf := yb.frozen
  have q4 : w2.cell? ⟨ca, 4, none⟩ = some (.int .i64 C2.phase) := yb.cell 4
  have q6 : w2.cell? ⟨ca, 6, none⟩ = some (.int .i64 C2.steps) := yb.cell 6
  clear hX2 hM2 hc hn2 Hs Hc HC1 b1 b2 b3 b4 b5 b6 b7 b8 b9 b10
  have Hyb := Lib.hid yb
  clear yb
  go_wp2_with omega
  go_ret
  have hM3 : Mod w2 ((w2.setCell ⟨ca, 4, none⟩ (.int .i64 1)).setCell ⟨ca, 6, none⟩ (.int .i64 1)) (fun k => k = ca) := ((Mod.refl w2 (fun k => k = ca)).cell 4 _).cell 6 _
  have h3 := HX2.out.cycP (ph := 1) (cy := C2.cycles) (st := 1) hM3 (Blk.conv ((Hyb.out.set_ 4 _).set_ 6 _) (by simp))
  refine ⟨rfl, A', cap', col', Hc2.out, fun k hk => Hn2.out k (Nat.le_trans hM3.size hk), (by rw [HC2.out]; exact h3), ?_⟩
  exact (HM2.out.mono (fun k _ e => .inl e)).trans hM3 (fun k _ e => .inr e)
end Go.Proofs.YtcnjipicifkfjaaGreat

/- cycle: Step while marking, while sweeping. -/
namespace Go.Proofs.YtcnjipicifkfjaaGreat
open Go.RowKit
set_option linter.unusedVariables false
set_option linter.unusedSimpArgs false

theorem StepR.keep {C C' : CS} {r : Bool} (h : StepR C r C') : C'.phase = C.phase ∧ C'.cycles = C.cycles ∧ C'.steps = C.steps ∧ C'.blk = C.blk ∧ C'.gone = C.gone ∧ C'.mkd = C.mkd ∧ C'.most = C.most ∧ C'.missed = C.missed := by
  rcases h with ⟨l, x, _, _, _, _, rfl⟩ | ⟨_, x, _, _, rfl⟩ | ⟨_, _, _, _, rfl⟩ | ⟨_, _, _, _, rfl⟩ <;> exact ⟨rfl, rfl, rfl, rfl, rfl, rfl, rfl, rfl⟩
theorem StepR.no {C C' : CS} (h : StepR C false C') : C.stk = [] ∧ GreyNo C ∧ C.again = false ∧ C' = C := by
  rcases h with ⟨l, x, _, _, _, h, _⟩ | ⟨_, x, _, h, _⟩ | ⟨_, _, _, h, _⟩ | ⟨h1, h2, h3, _, h4⟩
  · cases h
  · cases h
  · cases h
  · exact ⟨h1, h2, h3, h4⟩
theorem shN_same (used : Nat → Bool) (C : CS) (l : List Nat) (h : ∀ x ∈ l, used x = true → C.mkd x = true) (j : Nat) (hj : j ≤ l.length) : shN used C l j = (C, false) := by
  induction j with
  | zero => rfl
  | succ j ih =>
    have e : (used (l.getD j 0) && !C.mkd (l.getD j 0)) = false := by
      have hm : l.getD j 0 ∈ l := by
        rw [List.getD_eq_getElem?_getD, List.getElem?_eq_getElem (by omega), Option.getD_some]
        exact List.getElem_mem _
      cases hu : used (l.getD j 0) with
      | false => rfl
      | true => rw [h _ hm hu]; rfl
    simp only [shN, ih (by omega)]
    rw [e]
    unfold shadeC
    rw [e]
    rfl
/-- What a step of the marking phase does. -/
def Step1 (C C' : CS) : Prop := ∃ r C2, StepR { C with steps := C.steps + 1 } r C2 ∧ C' = if r then C2 else { C2 with phase := 2, blk := 1, gone := [] }
set_option maxRecDepth 100000 in
set_option maxHeartbeats 4000000 in
/-- Step, of a marking collector. -/
theorem cstep_1 (B : Nat) (b : DB) (m : Nat) (s : DS) (col : Nat → Nat) (hp al mp us fr rt hl ca sh dd : Nat) (S : HS) (mk sw m1 m2 sk cap gcap : Nat) (A G : Option Addr) (w : World) (h : HC w B b m s col hp al mp us fr rt hl ca sh S mk sw m1 m2 sk A cap G gcap) (hn : ∀ k, w.heap.size ≤ k → col k = 9)
    (hph : S.C.phase = 1) (hws : S.ws.length = 8) (hmo : S.C.most ≤ 10000) (hmi : S.C.missed ≤ 10000) (hle : ∀ x ∈ rootsS S, x ≤ 1000000) (hstp : S.C.steps ≤ 1000000000)
    (ho : ∀ x, S.C.mkd x = true → ObjAt s m x 0 dd) (hcu : S.C.cur ≤ 512 * S.A.K) (hst : ∀ x ∈ S.C.stk, S.C.mkd x = true ∧ S.C.sc x = false) (hsl : S.C.stk.length ≤ 10000) (hsh : ∀ x ∈ rootsS S, S.A.used x = true → S.C.mkd x = true) :
    Calls Tryz.prog 110 #[.pointer (some ⟨ca, 0, none⟩)] w fun e w' => e = .returned (.int .i64 0) ∧ ∃ C' A' cap' G' gcap' col', Step1 S.C C' ∧ (∀ k, k < w.heap.size → col' k = col k) ∧ (∀ k, w'.heap.size ≤ k → col' k = 9) ∧
      HC w' B b m s col' hp al mp us fr rt hl ca sh { S with C := C' } mk sw m1 m2 sk A' cap' G' gcap' ∧ Mod w w' (fun k => mfp col mk sk k ∨ k = ca ∨ k = sw) := by
  have z4 : w.cell? ⟨ca, 4, none⟩ = some (.int .i64 1) := by have := h.y.b.cell 4; rw [hph] at this; exact this
  have z1 : w.cell? ⟨ca, 1, none⟩ = some (.pointer (some ⟨mk, 0, none⟩)) := h.y.b.cell 1
  obtain ⟨ns, Hns⟩ : ∃ ns, Hid (S.C.steps = ns) := ⟨_, rfl⟩
  have z6 : w.cell? ⟨ca, 6, none⟩ = some (.int .i64 ns) := by rw [← Hns.out]; exact h.y.b.cell 6
  have zf := h.y.b.frozen
  rw [Hns.out] at hstp
  have k3 := h.x.k3
  have k4 := h.x.k4
  have hM0 : Mod w (w.setCell ⟨ca, 6, none⟩ (.int .i64 ((ns : Int) + 1))) (fun k => k = ca) := (Mod.refl w (fun k => k = ca)).cell 6 _
  have HM0 := Lib.hid hM0
  have HX : Hid (HC (w.setCell ⟨ca, 6, none⟩ (.int .i64 ((ns : Int) + 1))) B b m s col hp al mp us fr rt hl ca sh { S with C := { S.C with steps := S.C.steps + 1 } } mk sw m1 m2 sk A cap G gcap) :=
    h.cycP (ph := S.C.phase) (cy := S.C.cycles) (st := S.C.steps + 1) hM0 (Blk.conv (h.y.b.set_ 6 _) (by rw [Hns.out]; simp))
  have Hm := Lib.hid (mstep_any B b m s col mk al m1 m2 sk cap dd A S.A { S.C with steps := S.C.steps + 1 } _ HX.out.x.dev HX.out.x.hdv HX.out.x.a.r HX.out.y.x (by omega) (by omega) (by have := h.x.hm; omega) ho hcu hst (by show S.C.stk.length ≤ _; omega))
  obtain ⟨w0, Hw0⟩ : ∃ w0, Hid (w.setCell ⟨ca, 6, none⟩ (.int .i64 ((ns : Int) + 1)) = w0) := ⟨_, rfl⟩
  have Hn := Lib.hid hn
  have Hle := Lib.hid hle
  have Ho := Lib.hid ho
  have Hsh := Lib.hid hsh
  have Hst := Lib.hid hst
  have e152 : ∀ post, Calls Tryz.prog 152 #[.pointer (some ⟨mk, 0, none⟩)] w0 post → Calls Tryz.prog 152 #[.pointer (some ⟨mk, 0, none⟩)] (w.setCell ⟨ca, 6, none⟩ (.int .i64 ((ns : Int) + 1))) post := fun post hp => by rw [Hw0.out]; exact hp
  have He := Lib.hid e152
  rw [Hw0.out] at HX Hm HM0
  clear h hn hle ho hsh hst hM0 e152
  go_enter Tryz.func110, Tryz.ntmps110
  go_wp2_with fail
  refine He.out _ ?_
  refine Hm.out.mono ?_
  clear He Hw0 zf z4 z1 z6
  rintro e w1 ⟨r, C2, rfl, hR, hX1, hM1⟩
  obtain ⟨p1, p2, p3, p4, p5, p6, p7, p8⟩ := hR.keep
  have HR := Lib.hid hR
  have HX1 : Hid (HC w1 B b m s col hp al mp us fr rt hl ca sh { S with C := C2 } mk sw m1 m2 sk A cap G gcap) := HX.out.markS hM1 (fun _ _ => rfl) hX1 p1 p2 p3 p4 p5
  have HM1 : Hid (Mod w w1 (fun k => mfp col mk sk k ∨ k = ca ∨ k = sw)) := (HM0.out.mono (fun k _ e => .inr (.inl e))).trans hM1 (fun k _ e => .inl e)
  clear hX1 hM1 hR HX Hm HM0
  cases r with
  | true =>
    go_wp2_with fail
    go_ret
    exact ⟨rfl, C2, A, cap, G, gcap, col, ⟨true, C2, HR.out, rfl⟩, fun _ _ => rfl, fun k hk => Hn.out k (Nat.le_trans HM1.out.size hk), HX1.out, HM1.out⟩
  | false =>
    obtain ⟨n1, n2, n3, n4⟩ := HR.out.no
    have Hs := Lib.hid (cshade_any B b m s col hp al mp us fr rt hl ca sh { S with C := C2 } mk sw m1 m2 sk cap gcap A G w1 HX1.out (fun k hk => Hn.out k (Nat.le_trans HM1.out.size hk)) hws (by rw [n4]; exact hsl) (by rw [n4]; exact hmi) (by rw [n4]; exact hmo) Hle.out)
    have hsm := shN_same S.A.used C2 (rootsS S) (fun x hx hu => by rw [p6]; exact Hsh.out x hx hu) (rootsS S).length (Nat.le_refl _)
    rw [show shN ({ S with C := C2 } : HS).A.used ({ S with C := C2 } : HS).C (rootsS { S with C := C2 }) (rootsS { S with C := C2 }).length = (C2, false) from hsm] at Hs
    go_wp2_with fail
    refine Hs.out.mono ?_
    rintro e w2 ⟨rfl, A', cap', col', hc, hn2, hX2, hM2⟩
    have yb : Blk w2 ca 118 #[.pointer (some ⟨al, 0, none⟩), .pointer (some ⟨mk, 0, none⟩), .pointer (some ⟨sw, 0, none⟩), liveF hp, .int .i64 C2.phase, .int .i64 C2.cycles, .int .i64 C2.steps] := hX2.y.b
    have q4 : w2.cell? ⟨ca, 4, none⟩ = some (.int .i64 C2.phase) := yb.cell 4
    have q2 : w2.cell? ⟨ca, 2, none⟩ = some (.pointer (some ⟨sw, 0, none⟩)) := yb.cell 2
    have yf := yb.frozen
    have hM3 : Mod w2 (w2.setCell ⟨ca, 4, none⟩ (.int .i64 2)) (fun k => k = ca) := (Mod.refl w2 (fun k => k = ca)).cell 4 _
    have h3 := hX2.cycP (ph := 2) (cy := C2.cycles) (st := C2.steps) hM3 (Blk.conv (yb.set_ 4 _) (by simp))
    have Hb := Lib.hid (sbegin_any B b m s col' hp al mp us fr rt hl ca sh _ mk sw m1 m2 sk cap' gcap A' G _ h3)
    have Hc := Lib.hid hc
    have Hn2 := Lib.hid hn2
    have HM2 : Hid (Mod w (w2.setCell ⟨ca, 4, none⟩ (.int .i64 2)) (fun k => mfp col mk sk k ∨ k = ca ∨ k = sw)) := (HM1.out.trans hM2 (fun k _ e => .inl e)).trans hM3 (fun k _ e => .inr (.inl e))
    have hsz := hM3.size
    clear yb h3 hX2 hM2 hc hn2 Hs hM3
    go_wp2_with fail
    refine Hb.out.mono ?_
    rintro e w3 ⟨⟨v, rfl⟩, hX3, hM3⟩
    have HX3 := Lib.hid hX3
    have HM3 : Hid (Mod w w3 (fun k => mfp col mk sk k ∨ k = ca ∨ k = sw)) := HM2.out.trans hM3 (fun k _ e => .inr (.inr e))
    have hsz3 := hM3.size
    clear hX3 hM3
    go_wp2_with fail
    go_ret
    exact ⟨rfl, _, A', cap', none, 0, col', ⟨false, C2, HR.out, rfl⟩, fun k hk => Hc.out k (Nat.lt_of_lt_of_le hk HM1.out.size), fun k hk => Hn2.out k (Nat.le_trans hsz (Nat.le_trans hsz3 hk)), HX3.out, HM3.out⟩
end Go.Proofs.YtcnjipicifkfjaaGreat

/- cycle: Step while sweeping. -/
namespace Go.Proofs.YtcnjipicifkfjaaGreat
open Go.RowKit
set_option linter.unusedVariables false
set_option linter.unusedSimpArgs false

/-- What the sweeping of a block leaves. -/
def Step2 (S : HS) (A2 : AS) : HS := { S with A := A2, C := { S.C with steps := S.C.steps + 1, blk := S.C.blk + 1, gone := S.C.gone ++ whL S.A.used S.C S.C.blk, phase := if S.A.K ≤ S.C.blk + 1 then 0 else 2, cycles := if S.A.K ≤ S.C.blk + 1 then S.C.cycles + 1 else S.C.cycles } }
set_option maxRecDepth 100000 in
set_option maxHeartbeats 4000000 in
theorem cstep_2 (B : Nat) (b : DB) (m : Nat) (s s2 : DS) (col : Nat → Nat) (hp al mp us fr rt hl ca sh d : Nat) (S : HS) (A2 : AS) (mk sw m1 m2 sk cap gcap : Nat) (A G : Option Addr) (w : World) (h : HC w B b m s col hp al mp us fr rt hl ca sh S mk sw m1 m2 sk A cap G gcap) (hn : ∀ k, w.heap.size ≤ k → col k = 9) (hL : s.Live)
    (hph : S.C.phase = 2) (hb1 : 1 ≤ S.C.blk) (hb2 : S.C.blk < S.A.K) (hI : FrI s m d S.A) (hd : d ≤ 60) (hcof : cof (1 + 0 + d) = S.A.k) (hg : S.A.glob.length + (whL S.A.used S.C S.C.blk).length ≤ 900) (hc : ∀ m, (S.A.cs m).length ≤ 1000) (hgo : S.C.gone.length ≤ 100000) (hstp : S.C.steps ≤ 1000000000) (hcy : S.C.cycles ≤ 1000000000)
    (hT : TrimR s (freesA S.A (whL S.A.used S.C S.C.blk) (whL S.A.used S.C S.C.blk).length) S.C.blk A2 s2) (hA2 : A2.K = S.A.K) :
    Calls Tryz.prog 110 #[.pointer (some ⟨ca, 0, none⟩)] w fun e w' => e = .returned (.int .i64 0) ∧ ∃ G' gcap' col', (∀ k, k < w.heap.size → col' k = col k) ∧ (∀ k, w'.heap.size ≤ k → col' k = 9) ∧
      HC w' B b m s2 col' hp al mp us fr rt hl ca sh (Step2 S A2) mk sw m1 m2 sk A cap G' gcap' ∧ Mod w w' (fun k => hcol (col k)) := by
  have z4 : w.cell? ⟨ca, 4, none⟩ = some (.int .i64 2) := by have := h.y.b.cell 4; rw [hph] at this; exact this
  obtain ⟨ns, Hns⟩ : ∃ ns, Hid (S.C.steps = ns) := ⟨_, rfl⟩
  obtain ⟨nc, Hnc⟩ : ∃ nc, Hid (S.C.cycles = nc) := ⟨_, rfl⟩
  have z6 : w.cell? ⟨ca, 6, none⟩ = some (.int .i64 ns) := by rw [← Hns.out]; exact h.y.b.cell 6
  have z2 : w.cell? ⟨ca, 2, none⟩ = some (.pointer (some ⟨sw, 0, none⟩)) := h.y.b.cell 2
  have zf := h.y.b.frozen
  rw [Hns.out] at hstp
  rw [Hnc.out] at hcy
  have hca := h.y.cb
  have hM0 : Mod w (w.setCell ⟨ca, 6, none⟩ (.int .i64 ((ns : Int) + 1))) (fun k => k = ca) := (Mod.refl w (fun k => k = ca)).cell 6 _
  have HM0 := Lib.hid hM0
  have HX : Hid (HC (w.setCell ⟨ca, 6, none⟩ (.int .i64 ((ns : Int) + 1))) B b m s col hp al mp us fr rt hl ca sh { S with C := { S.C with steps := S.C.steps + 1 } } mk sw m1 m2 sk A cap G gcap) :=
    h.cycP (ph := S.C.phase) (cy := S.C.cycles) (st := S.C.steps + 1) hM0 (Blk.conv (h.y.b.set_ 6 _) (by rw [Hns.out]; simp))
  have Hm := Lib.hid (sstep_any B b m s s2 col hp al mp us fr rt hl ca sh d S.C.blk { S with C := { S.C with steps := S.C.steps + 1 } } A2 mk sw m1 m2 sk cap gcap A G _ HX.out (fun k hk => hn k (Nat.le_trans hM0.size hk)) hL rfl hb1 hb2 hI hd hcof hg hc hgo hT hA2)
  obtain ⟨w0, Hw0⟩ : ∃ w0, Hid (w.setCell ⟨ca, 6, none⟩ (.int .i64 ((ns : Int) + 1)) = w0) := ⟨_, rfl⟩
  have e152 : ∀ post, Calls Tryz.prog 154 #[.pointer (some ⟨sw, 0, none⟩)] w0 post → Calls Tryz.prog 154 #[.pointer (some ⟨sw, 0, none⟩)] (w.setCell ⟨ca, 6, none⟩ (.int .i64 ((ns : Int) + 1))) post := fun post hp => by rw [Hw0.out]; exact hp
  have He := Lib.hid e152
  rw [Hw0.out] at HX Hm HM0
  clear h hn hI hT hg hc hM0 e152
  go_enter Tryz.func110, Tryz.ntmps110
  go_wp2_with fail
  refine He.out _ ?_
  refine Hm.out.mono ?_
  clear He Hw0 zf z4 z6 z2
  rintro e w1 ⟨rfl, G1, gcap1, col1, hc1, hn1, hX1, hM1⟩
  have HX1 := Lib.hid hX1
  have Hn1 := Lib.hid hn1
  have Hc1 : Hid (∀ k, k < w.heap.size → col1 k = col k) := fun k hk => hc1 k (Nat.lt_of_lt_of_le hk HM0.out.size)
  have HM1 : Hid (Mod w w1 (fun k => hcol (col k))) := (HM0.out.mono (fun k _ e => by show hcol (col k); rw [e, hca]; unfold hcol; omega)).trans hM1 (fun k _ e => e)
  have hcal : ca < w.heap.size ∨ w.heap.size ≤ ca := Nat.lt_or_ge _ _
  have q2 : w1.cell? ⟨ca, 2, none⟩ = some (.pointer (some ⟨sw, 0, none⟩)) := hX1.y.b.cell 2
  have Hd := Lib.hid (sdone_any B b m s2 col1 hp al mp us fr rt hl ca sh _ mk sw m1 m2 sk cap gcap1 A G1 w1 hX1)
  clear hX1 hn1 hc1 hM1 Hm HX HM0
  go_wp2_with fail
  refine Hd.out.mono ?_
  rintro e w2 ⟨rfl, q, hw2⟩
  have hb2' : Below w1.heap.size w1 w2 := by rw [hw2]; exact below_drewN (Below.refl _ _) q
  have HX2 := Lib.hid (HX1.out.below hb2')
  have HM2 : Hid (Mod w w2 (fun k => hcol (col k))) := by rw [hw2]; exact HM1.out.trans (mod_below (F := fun k => False) (below_drewN (Below.refl _ _) q)) (fun k _ e => e.elim)
  have Hn2 : Hid (∀ k, w2.heap.size ≤ k → col1 k = 9) := by rw [hw2]; exact Hn1.out
  clear hb2' hw2 Hd HX1 HM1 Hn1 q2
  have yb : Blk w2 ca 118 #[.pointer (some ⟨al, 0, none⟩), .pointer (some ⟨mk, 0, none⟩), .pointer (some ⟨sw, 0, none⟩), liveF hp, .int .i64 S.C.phase, .int .i64 S.C.cycles, .int .i64 (S.C.steps + 1 : Nat)] := HX2.out.y.b
  rw [Hnc.out] at yb
  have q4 : w2.cell? ⟨ca, 4, none⟩ = some (.int .i64 S.C.phase) := yb.cell 4
  have q5 : w2.cell? ⟨ca, 5, none⟩ = some (.int .i64 nc) := yb.cell 5
  have yf := yb.frozen
  have Hyb := Lib.hid yb
  clear yb
  rw [hA2]
  by_cases hK : S.A.K ≤ S.C.blk + 1
  · rw [decide_eq_true hK]
    have hM3 : Mod w2 ((w2.setCell ⟨ca, 4, none⟩ (.int .i64 0)).setCell ⟨ca, 5, none⟩ (.int .i64 ((nc : Int) + 1))) (fun k => k = ca) := ((Mod.refl w2 (fun k => k = ca)).cell 4 _).cell 5 _
    have h3 := HX2.out.cycP (ph := 0) (cy := nc + 1) (st := S.C.steps + 1) hM3 (Blk.conv ((Hyb.out.set_ 4 _).set_ 5 _) (by simp))
    go_wp2_with omega
    go_ret
    refine ⟨rfl, G1, gcap1, col1, Hc1.out, fun k hk => Hn2.out k (Nat.le_trans hM3.size hk), ?_, HM2.out.trans hM3 (fun k hk e => by show hcol (col k); rw [e, hca]; unfold hcol; omega)⟩
    unfold Step2
    rw [if_pos hK, if_pos hK, Hnc.out]
    exact h3
  · rw [decide_eq_false hK]
    go_wp2_with omega
    go_ret
    refine ⟨rfl, G1, gcap1, col1, Hc1.out, Hn2.out, ?_, HM2.out⟩
    unfold Step2
    rw [if_neg hK, if_neg hK, ← hph]
    exact HX2.out
end Go.Proofs.YtcnjipicifkfjaaGreat

/- Plain law of the allocator: what it knows of three blocks with one class of objects. -/
namespace Go.Proofs.YtcnjipicifkfjaaGreat
open Go.RowKit
set_option linter.unusedVariables false
set_option linter.unusedSimpArgs false

/-- A step that leaves a word alone. -/
def Step.off (j : Nat) : Step → Prop
  | .st a _ => a ≠ j
  | .fl _ => True
  | .fe => True
theorem fenceTo_C (s : DS) (i : Nat) : (fenceTo s i).C = s.C := by
  induction i with
  | zero => rfl
  | succ i ih =>
    show (fenceOne (fenceTo s i) i).C = _
    unfold fenceOne
    split
    · exact ih
    · exact ih
theorem run_off {j : Nat} (s : DS) (o : Step) (h : o.off j) : (o.run s).C.getD j 0 = s.C.getD j 0 ∧ (o.run s).C.length = s.C.length := by
  cases o with
  | st a v =>
    refine ⟨?_, List.length_set⟩
    show (s.C.set a v).getD j 0 = _
    rw [List.getD_eq_getElem?_getD, List.getD_eq_getElem?_getD, List.getElem?_set_ne h]
  | fl l =>
    show (if s.D.getD l false then _ else s).C.getD j 0 = _ ∧ (if s.D.getD l false then _ else s).C.length = _
    split <;> exact ⟨rfl, rfl⟩
  | fe => exact ⟨by show (fenceTo s s.P.length).C.getD j 0 = _; rw [fenceTo_C], by show (fenceTo s s.P.length).C.length = _; rw [fenceTo_C]⟩
theorem exec_off {j : Nat} (os : List Step) : ∀ s : DS, (∀ o ∈ os, o.off j) → (exec s os).1.C.getD j 0 = s.C.getD j 0 ∧ (exec s os).1.C.length = s.C.length := by
  induction os with
  | nil => exact fun s _ => ⟨rfl, rfl⟩
  | cons o os ih =>
    intro s h
    simp only [exec]
    split
    · have h1 := run_off s.tick o (h o (List.mem_cons_self ..))
      have h2 := ih (o.run s.tick) (fun p hp => h p (List.mem_cons_of_mem _ hp))
      exact ⟨h2.1.trans h1.1, h2.2.trans h1.2⟩
    · exact ⟨rfl, rfl⟩
theorem flushes_off (j l n : Nat) : ∀ o ∈ flushes l n, o.off j := by
  induction n generalizing l with
  | zero => intro o h; simp [flushes] at h
  | succ n ih =>
    intro o h
    simp only [flushes, List.mem_cons] at h
    rcases h with rfl | h
    · trivial
    · exact ih _ o h
theorem putS_off {bl kd cl j : Nat} (h : j ≠ 256 + bl) : ∀ o ∈ putS bl kd cl, o.off j := by
  intro o ho
  unfold putS persistS at ho
  simp only [List.mem_append, List.mem_singleton] at ho
  rcases ho with rfl | h1 | rfl
  · exact fun e => h e.symm
  · exact flushes_off j _ _ o h1
  · trivial
theorem zeroS_off {a n j : Nat} (h : j ≤ a ∨ a + n < j) : ∀ o ∈ zeroS a n, o.off j := by
  induction n with
  | zero => intro o ho; simp [zeroS] at ho
  | succ n ih =>
    intro o ho
    simp only [zeroS, List.mem_append, List.mem_singleton] at ho
    rcases ho with ho | rfl
    · exact ih (by omega) o ho
    · show a + (n + 1) ≠ j
      omega
theorem initS_off {a p d j : Nat} (h : j < a ∨ a + (p + d) < j) : ∀ o ∈ initS a p d, o.off j := by
  intro o ho
  simp only [initS, List.mem_append, List.mem_singleton] at ho
  rcases ho with ho | rfl
  · exact zeroS_off (by omega) o ho
  · show a ≠ j
    omega
theorem initS_at {s : DS} {a p d : Nat} (hl : s.Live) (ha : a < s.C.length) : (exec s (initS a p d)).1.C.getD a 0 = oword a p d := by
  unfold initS
  rw [exec_snoc hl]
  have h1 := exec_live hl (zeroS a (p + d))
  have h2 := exec_off (j := a) (zeroS a (p + d)) s (zeroS_off (.inl (Nat.le_refl _)))
  have hc : (exec s (zeroS a (p + d))).1.can = true := by simp [DS.can, h1.2.a, h1.2.d]
  simp only [exec, hc, if_true]
  show ((exec s (zeroS a (p + d))).1.C.set a (oword a p d)).getD a 0 = _
  rw [List.getD_eq_getElem?_getD, List.getElem?_set_self (by rw [h2.2]; exact ha)]
  rfl
theorem initS_len {s : DS} {a p d : Nat} : ∀ os : List Step, ∀ s : DS, (exec s os).1.C.length = s.C.length := by
  intro os
  induction os with
  | nil => exact fun s => rfl
  | cons o os ih =>
    intro s
    simp only [exec]
    split
    · rw [ih]
      cases o with
      | st a v => exact List.length_set
      | fl l => exact (run_off (j := 0) s.tick (.fl l) trivial).2
      | fe => exact (run_off (j := 0) s.tick .fe trivial).2
    · rfl
/-- A list without repeats is no longer than one that holds it. -/
theorem nodup_le : ∀ (l l' : List Nat), l.Nodup → (∀ x ∈ l, x ∈ l') → l.length ≤ l'.length := by
  intro l
  induction l with
  | nil => intro l' _ _; exact Nat.zero_le _
  | cons a t ih =>
    intro l' hn hs
    have ha : a ∈ l' := hs a (List.mem_cons_self ..)
    have hn2 := List.nodup_cons.1 hn
    have := ih (l'.erase a) hn2.2 (fun x hx => (List.mem_erase_of_ne (fun (e : x = a) => hn2.1 (e ▸ hx))).2 (hs x (List.mem_cons_of_mem _ hx)))
    rw [List.length_erase_of_mem ha] at this
    have hp := List.length_pos_of_mem ha
    rw [List.length_cons]
    omega
/-- Which blocks are free. -/
def oF (f1 f2 : Bool) : Option (Nat × Nat) := if f1 then (if f2 then some (1, 2) else some (1, 1)) else if f2 then some (2, 1) else none
def isF (hs : List (Nat × Nat)) (bl : Nat) : Bool := decide (hs.getD bl (0, 0) = (0, 0))
/-- All free cells. -/
def AS.fs (S : AS) : List Nat := S.glob ++ (S.cs 0 ++ S.cs 1)
/-- A cell of a block of small objects. -/
def AS.at_ (S : AS) (x : Nat) : Prop := ∃ bl i, CellAt 3 S.k x bl i ∧ S.hs.getD bl (0, 0) = (1, S.k)
structure AI (s : DS) (m d : Nat) (S : AS) : Prop where
  kk : S.K = 3
  k : cof (1 + 0 + d) = S.k
  hl : S.hs.length = 3
  hb : ∀ bl, 1 ≤ bl → bl < 3 → S.hs.getD bl (0, 0) = (1, S.k) ∨ S.hs.getD bl (0, 0) = (0, 0)
  o : S.o = oF (isF S.hs 1) (isF S.hs 2)
  nd : S.fs.Nodup
  c2 : ∀ m, 2 ≤ m → S.cs m = []
  cl : ∀ m, (S.cs m).length ≤ 3
  fr : ∀ x, x ∈ S.fs → S.at_ x ∧ S.used x = false
  al : ∀ x, S.at_ x → S.used x = true ∨ x ∈ S.fs
  us : ∀ x, S.used x = true → ObjAt s m x 0 d ∧ S.at_ x
theorem AI.has {s : DS} {m d : Nat} {S : AS} (h : AI s m d S) (x : Nat) : HasF S.glob S.cs x ↔ x ∈ S.fs := by
  unfold HasF AS.fs
  rw [List.mem_append, List.mem_append]
  constructor
  · rintro (h1 | ⟨n, h1, h2⟩)
    · exact .inl h1
    · by_cases e0 : n = 0
      · subst e0; exact .inr (.inl h2)
      · by_cases e1 : n = 1
        · subst e1; exact .inr (.inr h2)
        · rw [h.c2 n (by omega)] at h2; simp at h2
  · rintro (h1 | h1 | h1)
    · exact .inl h1
    · exact .inr ⟨0, by omega, h1⟩
    · exact .inr ⟨1, by omega, h1⟩
theorem AI.fri {s : DS} {m d : Nat} {S : AS} (h : AI s m d S) : FrI s m d S := by
  intro x hx
  obtain ⟨h1, bl, i, h2, h3⟩ := h.us x hx
  refine ⟨h1, ⟨bl, i, by rw [h.kk]; exact h2, h3⟩, fun h4 => ?_⟩
  have := (h.fr x ((h.has x).1 h4)).2
  rw [hx] at this
  cases this
theorem AI.free {s : DS} {m d a : Nat} {S : AS} (h : AI s m d S) (ha : S.used a = true) : AI s m d (S.free a) := by
  have hna : a ∉ S.fs := fun h1 => by have := (h.fr a h1).2; rw [ha] at this; cases this
  have hmem : ∀ x, x ∈ (S.free a).fs ↔ x = a ∨ x ∈ S.fs := by
    intro x
    show x ∈ (S.glob ++ [a]) ++ (S.cs 0 ++ S.cs 1) ↔ x = a ∨ x ∈ S.glob ++ (S.cs 0 ++ S.cs 1)
    simp only [List.mem_append, List.mem_singleton]
    constructor
    · rintro ((h | h) | h) <;> simp [h]
    · rintro (h | h | h) <;> simp [h]
  refine ⟨h.kk, h.k, h.hl, h.hb, h.o, ?_, h.c2, h.cl, fun x hx => ?_, fun x hx => ?_, fun x hx => ?_⟩
  · show ((S.glob ++ [a]) ++ (S.cs 0 ++ S.cs 1)).Nodup
    have hp : ((S.glob ++ [a]) ++ (S.cs 0 ++ S.cs 1)).Perm (a :: (S.glob ++ (S.cs 0 ++ S.cs 1))) := by
      rw [List.append_assoc]
      exact List.perm_middle
    exact hp.nodup_iff.2 (List.nodup_cons.2 ⟨hna, h.nd⟩)
  · rcases (hmem x).1 hx with rfl | h1
    · refine ⟨(h.us x ha).2, ?_⟩
      show dropS S.used x x = false
      simp [dropS]
    · refine ⟨(h.fr x h1).1, ?_⟩
      show dropS S.used a x = false
      unfold dropS
      rw [(h.fr x h1).2]
      simp
  · rcases h.al x hx with h1 | h1
    · by_cases e : x = a
      · exact .inr ((hmem x).2 (.inl e))
      · left
        show dropS S.used a x = true
        unfold dropS
        rw [h1]; simp [e]
    · exact .inr ((hmem x).2 (.inr h1))
  · have hx : dropS S.used a x = true := hx
    unfold dropS at hx
    rw [Bool.and_eq_true] at hx
    exact h.us x hx.2
theorem AI.frees {s : DS} {m d : Nat} {S : AS} (h : AI s m d S) {l : List Nat} (hn : l.Nodup) (hu : ∀ x ∈ l, S.used x = true) : ∀ j, j ≤ l.length → AI s m d (freesA S l j) := by
  intro j
  induction j with
  | zero => exact fun _ => h
  | succ j ih =>
    intro hj
    refine (ih (by omega)).free ?_
    have hm : l.getD j 0 ∈ l := by
      rw [List.getD_eq_getElem?_getD, List.getElem?_eq_getElem (by omega), Option.getD_some]
      exact List.getElem_mem _
    rw [freesA_used S l j (by omega), hu _ hm, decide_eq_false (nodup_take hn (by omega))]
    rfl
theorem keepF_mem {a b x : Nat} {l : List Nat} : x ∈ keepF a b l ↔ x ∈ l ∧ ¬ (a ≤ x ∧ x < b) := by
  unfold keepF inP
  rw [List.mem_filter]
  simp only [Bool.not_eq_true', Bool.and_eq_false_iff, decide_eq_false_iff_not]
  constructor
  · rintro ⟨h1, h2⟩; exact ⟨h1, by omega⟩
  · rintro ⟨h1, h2⟩; exact ⟨h1, by omega⟩
theorem keepF_app (a b : Nat) (l l' : List Nat) : keepF a b (l ++ l') = keepF a b l ++ keepF a b l' := List.filter_append ..
/-- A block given back. -/
theorem AI.trim {s : DS} {m d bl : Nat} {S : AS} (h : AI s m d S) (hb1 : 1 ≤ bl) (hb2 : bl < 3) (hh : S.hs.getD bl (0, 0) = (1, S.k)) (hno : ∀ j, bl * 512 ≤ j → j < bl * 512 + 512 → S.used j = false) :
    ∃ o', XGive S.K bl S.o o' ∧ AI (exec s (putS bl 0 0)).1 m d (S.trim bl o') := by
  have hl := h.hl
  have hset : ∀ b2, (S.hs.set bl (0, 0)).getD b2 (0, 0) = if b2 = bl then (0, 0) else S.hs.getD b2 (0, 0) := by
    intro b2
    rw [List.getD_eq_getElem?_getD, List.getElem?_set]
    by_cases e : bl = b2
    · rw [if_pos e, if_pos (by omega), if_pos e.symm]; rfl
    · rw [if_neg e, if_neg (fun e2 => e e2.symm), List.getD_eq_getElem?_getD]
  have hne : ((1, S.k) : Nat × Nat) ≠ (0, 0) := fun e => by cases e
  have hat : ∀ o' x, (S.trim bl o').at_ x ↔ S.at_ x ∧ ¬ (bl * 512 ≤ x ∧ x < bl * 512 + 512) := by
    intro o' x
    constructor
    · rintro ⟨b2, i, h1, h2⟩
      have h2 : (S.hs.set bl (0, 0)).getD b2 (0, 0) = (1, S.k) := h2
      rw [hset] at h2
      by_cases e : b2 = bl
      · rw [if_pos e] at h2; exact absurd h2.symm hne
      · rw [if_neg e] at h2
        have := h1.fit
        exact ⟨⟨b2, i, h1, h2⟩, by omega⟩
    · rintro ⟨⟨b2, i, h1, h2⟩, h3⟩
      refine ⟨b2, i, h1, ?_⟩
      show (S.hs.set bl (0, 0)).getD b2 (0, 0) = (1, S.k)
      have := h1.fit
      rw [hset, if_neg (by omega), h2]
  have hfs : ∀ o', (S.trim bl o').fs = keepF (bl * 512) (bl * 512 + 512) S.fs := by
    intro o'
    show keepF (bl * 512) (bl * 512 + 512) S.glob ++ (csK (bl * 512) (bl * 512 + 512) 4 S.cs 0 ++ csK (bl * 512) (bl * 512 + 512) 4 S.cs 1) = _
    unfold AS.fs
    rw [keepF_app, keepF_app]
    rfl
  have hmem : ∀ o' x, x ∈ (S.trim bl o').fs ↔ x ∈ S.fs ∧ ¬ (bl * 512 ≤ x ∧ x < bl * 512 + 512) := fun o' x => by rw [hfs]; exact keepF_mem
  have hnu : ∀ x, S.used x = true → ¬ (bl * 512 ≤ x ∧ x < bl * 512 + 512) := fun x hx e => by rw [hno x e.1 e.2] at hx; cases hx
  obtain ⟨o', hG, ho⟩ : ∃ o', XGive S.K bl S.o o' ∧ o' = oF (isF (S.hs.set bl (0, 0)) 1) (isF (S.hs.set bl (0, 0)) 2) := by
    refine ⟨_, ?_, rfl⟩
    rw [h.kk, h.o]
    unfold isF
    rw [hset, hset]
    rcases (by omega : bl = 1 ∨ bl = 2) with rfl | rfl
    · rw [hh, decide_eq_false hne, if_pos rfl, if_neg (by omega), decide_eq_true rfl]
      rcases h.hb 2 (by omega) (by omega) with h2 | h2
      · rw [h2, decide_eq_false hne]; exact xgive_n 1 (by omega) (by omega)
      · rw [h2, decide_eq_true rfl]; exact xgive_1
    · rw [hh, decide_eq_false hne, if_pos rfl, if_neg (by omega), decide_eq_true rfl]
      rcases h.hb 1 (by omega) (by omega) with h2 | h2
      · rw [h2, decide_eq_false hne]; exact xgive_n 2 (by omega) (by omega)
      · rw [h2, decide_eq_true rfl]; exact xgive_2
  refine ⟨o', hG, h.kk, h.k, ?_, fun b2 h1 h2 => ?_, ho, ?_, fun n hn => ?_, fun n => ?_, fun x hx => ?_, fun x hx => ?_, fun x hx => ?_⟩
  · show (S.hs.set bl (0, 0)).length = 3
    rw [List.length_set]; exact hl
  · show (S.hs.set bl (0, 0)).getD b2 (0, 0) = (1, S.k) ∨ (S.hs.set bl (0, 0)).getD b2 (0, 0) = (0, 0)
    rw [hset]
    by_cases e : b2 = bl
    · rw [if_pos e]; exact .inr rfl
    · rw [if_neg e]; exact h.hb b2 h1 h2
  · rw [hfs]; exact h.nd.filter _
  · show csK (bl * 512) (bl * 512 + 512) 4 S.cs n = []
    unfold csK
    rw [h.c2 n hn]
    split <;> rfl
  · show (csK (bl * 512) (bl * 512 + 512) 4 S.cs n).length ≤ 3
    unfold csK
    split
    · exact Nat.le_trans (List.length_filter_le _ _) (h.cl n)
    · exact h.cl n
  · obtain ⟨h1, h2⟩ := (hmem o' x).1 hx
    exact ⟨(hat o' x).2 ⟨(h.fr x h1).1, h2⟩, (h.fr x h1).2⟩
  · obtain ⟨h1, h2⟩ := (hat o' x).1 hx
    rcases h.al x h1 with h3 | h3
    · exact .inl h3
    · exact .inr ((hmem o' x).2 ⟨h3, h2⟩)
  · have hx : S.used x = true := hx
    obtain ⟨h1, h2⟩ := h.us x hx
    refine ⟨⟨h1.o, ?_, h1.le⟩, (hat o' x).2 ⟨h2, hnu x hx⟩⟩
    rw [(exec_off (putS bl 0 0) s (putS_off ?_)).1]
    · exact h1.w
    · obtain ⟨b2, i, h3, _⟩ := h2
      have := h3.fit
      have := h3.b0
      have := h3.e
      omega
/-- A block swept. -/
theorem AI.sweep {s : DS} {m d bl : Nat} {S : AS} (h : AI s m d S) (hL : s.Live) (C : CS) (hb1 : 1 ≤ bl) (hb2 : bl < 3) :
    ∃ A2 s2, TrimR s (freesA S (whL S.used C bl) (whL S.used C bl).length) bl A2 s2 ∧ AI s2 m d A2 ∧ s2.Live ∧ ∀ x, A2.used x = (S.used x && !decide (x ∈ whL S.used C bl)) := by
  have hw : ∀ x ∈ whL S.used C bl, S.used x = true := fun x hx => (whL_used hx).1
  have hn : (whL S.used C bl).Nodup := setTo_nodup _ _
  generalize whL S.used C bl = L at *
  have h1 := h.frees hn hw L.length (Nat.le_refl _)
  have hu : ∀ x, (freesA S L L.length).used x = (S.used x && !decide (x ∈ L)) := fun x => by rw [freesA_used S L L.length (Nat.le_refl _), List.take_of_length_le (Nat.le_refl _)]
  generalize freesA S L L.length = A1 at *
  rcases h1.hb bl hb1 hb2 with hh | hh
  · by_cases hno : ∃ j, bl * 512 ≤ j ∧ j < bl * 512 + 512 ∧ A1.used j = true
    · exact ⟨A1, s, .inl ⟨rfl, rfl, .inr ⟨by rw [hh], hno⟩⟩, h1, hL, hu⟩
    · have hno2 : ∀ j, bl * 512 ≤ j → j < bl * 512 + 512 → A1.used j = false := fun j e1 e2 => by
        cases hj : A1.used j with
        | false => rfl
        | true => exact absurd ⟨j, e1, e2, hj⟩ hno
      obtain ⟨o', hG, h2⟩ := h1.trim hb1 hb2 hh hno2
      exact ⟨A1.trim bl o', _, .inr ⟨hh, hno2, o', hG, rfl, rfl⟩, h2, (exec_live hL _).2, hu⟩
  · exact ⟨A1, s, .inl ⟨rfl, rfl, .inl (by rw [hh])⟩, h1, hL, hu⟩
/-- All cells of the blocks 1 and 2. -/
def allC (k : Nat) : List Nat := (List.range (ccells k)).map (cadr k 1) ++ (List.range (ccells k)).map (cadr k 2)
theorem allC_len (k : Nat) : (allC k).length = 2 * ccells k := by
  unfold allC
  rw [List.length_append, List.length_map, List.length_map, List.length_range]
  omega
theorem AS.at_.mem {S : AS} {x : Nat} (h : S.at_ x) : x ∈ allC S.k := by
  obtain ⟨bl, i, h1, _⟩ := h
  have hb0 := h1.b0
  have hb := h1.b
  have he := h1.e
  unfold allC
  rw [List.mem_append]
  rcases (by omega : bl = 1 ∨ bl = 2) with rfl | rfl
  · exact .inl (List.mem_map.2 ⟨i, List.mem_range.2 h1.i, he.symm⟩)
  · exact .inr (List.mem_map.2 ⟨i, List.mem_range.2 h1.i, he.symm⟩)
/-- The free cells, and some in use, are no more than all. -/
theorem AI.len {s : DS} {m d : Nat} {S : AS} (h : AI s m d S) {l : List Nat} (hn : l.Nodup) (hu : ∀ x ∈ l, S.used x = true) : S.fs.length + l.length ≤ 2 * ccells S.k := by
  have : (S.fs ++ l).Nodup := List.nodup_append.2 ⟨h.nd, hn, fun x hx y hy e => by
    subst e
    have := (h.fr x hx).2
    rw [hu x hy] at this
    cases this⟩
  have := nodup_le _ (allC S.k) this (fun x hx => by
    rcases List.mem_append.1 hx with hx | hx
    · exact (h.fr x hx).1.mem
    · exact (h.us x (hu x hx)).2.mem)
  rw [List.length_append, allC_len] at this
  exact this
theorem AS.glob_le (S : AS) : S.glob.length ≤ S.fs.length := by
  unfold AS.fs
  rw [List.length_append]
  omega
end Go.Proofs.YtcnjipicifkfjaaGreat
