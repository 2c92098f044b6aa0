/- cycle: New (stack.New, mark.New, sweep.New). -/
import Derived.Test.YtcnjipicifkfjaaGreatRm16
import Derived.Test.YtcnjipicifkfjaaGreatRm18

namespace Go.Proofs.YtcnjipicifkfjaaGreat
open Go.RowKit
set_option linter.unusedVariables false
set_option linter.unusedSimpArgs false

theorem snew_any (n : Nat) (w : World) :
    Calls Tryz.prog 144 #[.int .i64 n] w fun e w' => ∃ p, e = .returned (.pointer (some ⟨p, 0, none⟩)) ∧ w.heap.size ≤ p ∧ Blk w' p 244 #[.slice none 0 0, .int .i64 n, .int .i64 0] ∧ Below w.heap.size w w' := by
  have hmax : max (n : Int) 0 = (n : Int) := by omega
  obtain ⟨n1, Hn1⟩ : ∃ k, Hid (w.heap.size = k) := ⟨_, rfl⟩
  go_enter Tryz.func144, Tryz.ntmps144
  go_wp2_with fail
  rw [Hn1.out]
  have L := (Loc.nil Nob w).box 244 #[.slice none 0 0, .int .i64 n, .int .i64 0] n1 Hn1.out
  have hL := L.below
  rw [Hn1.out] at hL
  go_ret
  exact ⟨n1, rfl, Nat.le_refl _, L.b0, hL⟩
/-- What a collector knows: which objects are marked, gone through; its stack, its bound, how many were missed; the cursor; the sweep's block; what is gone; the phase. -/
structure CS where
  mkd : Nat → Bool
  sc : Nat → Bool
  stk : List Nat
  most : Nat
  missed : Nat
  again : Bool
  cur : Nat
  blk : Nat
  gone : List Nat
  phase : Nat
  cycles : Nat
  steps : Nat
structure MarkX (w : World) (col : Nat → Nat) (mk ap K : Nat) (m1 m2 sk : Nat) (A : Option Addr) (cap : Nat) (C : CS) : Prop where
  b : Blk w mk 211 #[.pointer (some ⟨ap, 0, none⟩), .pointer (some ⟨m1, 0, none⟩), .pointer (some ⟨m2, 0, none⟩), .pointer (some ⟨sk, 0, none⟩), .bool C.again, .int .i64 C.cur]
  s : Blk w sk 244 #[.slice A C.stk.length cap, .int .i64 C.most, .int .i64 C.missed]
  o : Own w 0 3 1 A C.stk.length cap (ncells C.stk)
  m : SetR w (fun k => col k = 21) m1 (8 * K) C.mkd
  c : SetR w (fun k => col k = 22) m2 (8 * K) C.sc
  cb : col mk = 20
  cs : col sk = 20
  co : ∀ a, A = some a → col a.block = 23
structure CycX (w : World) (col : Nat → Nat) (ca ap K : Nat) (fv : Value) (mk sw m1 m2 sk : Nat) (A : Option Addr) (cap : Nat) (G : Option Addr) (gcap : Nat) (C : CS) : Prop where
  b : Blk w ca 118 #[.pointer (some ⟨ap, 0, none⟩), .pointer (some ⟨mk, 0, none⟩), .pointer (some ⟨sw, 0, none⟩), fv, .int .i64 C.phase, .int .i64 C.cycles, .int .i64 C.steps]
  x : MarkX w col mk ap K m1 m2 sk A cap C
  wb : Blk w sw 213 #[.pointer (some ⟨ap, 0, none⟩), .pointer (some ⟨mk, 0, none⟩), .int .i64 C.blk, .slice G C.gone.length gcap]
  g : Own w 0 3 1 G C.gone.length gcap (ncells C.gone)
  cb : col ca = 20
  cw : col sw = 20
  cg : ∀ a, G = some a → col a.block = 24
def CycR (w : World) (col : Nat → Nat) (ca ap K : Nat) (fv : Value) (C : CS) : Prop := ∃ mk sw m1 m2 sk A cap G gcap, CycX w col ca ap K fv mk sw m1 m2 sk A cap G gcap C
section
variable {w w' : World} {col col' : Nat → Nat} {ca ap K mk sw m1 m2 sk cap gcap : Nat} {fv : Value} {A G : Option Addr} {C : CS} {T : Nat → Prop}
theorem MarkX.mod (h : MarkX w col mk ap K m1 m2 sk A cap C) (m : Mod w w' T) (hs : ∀ k, 20 ≤ col k ∧ col k ≤ 24 → ¬ T k) : MarkX w' col mk ap K m1 m2 sk A cap C :=
  ⟨m.blk h.b (hs _ (by simp [h.cb])), m.blk h.s (hs _ (by simp [h.cs])), h.o.mod m (fun a ha => hs _ (by simp [h.co a ha])), h.m.mod m (fun k hk => hs k (by simp [hk])), h.c.mod m (fun k hk => hs k (by simp [hk])), h.cb, h.cs, h.co⟩
theorem CycX.mod (h : CycX w col ca ap K fv mk sw m1 m2 sk A cap G gcap C) (m : Mod w w' T) (hs : ∀ k, 20 ≤ col k ∧ col k ≤ 24 → ¬ T k) : CycX w' col ca ap K fv mk sw m1 m2 sk A cap G gcap C :=
  ⟨m.blk h.b (hs _ (by simp [h.cb])), h.x.mod m hs, m.blk h.wb (hs _ (by simp [h.cw])), h.g.mod m (fun a ha => hs _ (by simp [h.cg a ha])), h.cb, h.cw, h.cg⟩
theorem CycR.mod (h : CycR w col ca ap K fv C) (m : Mod w w' T) (hs : ∀ k, 20 ≤ col k ∧ col k ≤ 24 → ¬ T k) : CycR w' col ca ap K fv C := by
  obtain ⟨mk, sw, m1, m2, sk, A, cap, G, gcap, h⟩ := h
  exact ⟨mk, sw, m1, m2, sk, A, cap, G, gcap, h.mod m hs⟩
theorem MarkX.recol (h : MarkX w col mk ap K m1 m2 sk A cap C) (hc : ∀ k, k < w.heap.size → col' k = col k) : MarkX w col' mk ap K m1 m2 sk A cap C :=
  ⟨h.b, h.s, h.o, h.m.weak (fun k hk e => (hc k hk).trans e), h.c.weak (fun k hk e => (hc k hk).trans e), (hc _ h.b.lt).trans h.cb, (hc _ h.s.lt).trans h.cs, fun a ha => (hc _ (h.o.lt a ha).2).trans (h.co a ha)⟩
theorem CycX.recol (h : CycX w col ca ap K fv mk sw m1 m2 sk A cap G gcap C) (hc : ∀ k, k < w.heap.size → col' k = col k) : CycX w col' ca ap K fv mk sw m1 m2 sk A cap G gcap C :=
  ⟨h.b, h.x.recol hc, h.wb, h.g, (hc _ h.b.lt).trans h.cb, (hc _ h.wb.lt).trans h.cw, fun a ha => (hc _ (h.g.lt a ha).2).trans (h.cg a ha)⟩
theorem CycR.recol (h : CycR w col ca ap K fv C) (hc : ∀ k, k < w.heap.size → col' k = col k) : CycR w col' ca ap K fv C := by
  obtain ⟨mk, sw, m1, m2, sk, A, cap, G, gcap, h⟩ := h
  exact ⟨mk, sw, m1, m2, sk, A, cap, G, gcap, h.recol hc⟩
end
def CS.new (K most : Nat) : CS := ⟨fun _ => false, fun _ => false, [], most, 0, false, 512 * K, K, [], 0, 0, 0⟩
def colM (col : Nat → Nat) (a b c : Nat) : Nat → Nat := fun k => if k < a then col k else if k < b then 21 else if k < c then 22 else 20
theorem mnew_any (B : Nat) (b : DB) (m : Nat) (s : DS) (col : Nat → Nat) (ap most : Nat) (S : AS) (w : World) (h : Dev B w b m s) (hA : AllocR w col ap b.d S) (hm : m = S.K * 64) (hK0 : 0 < S.K) (hK : S.K ≤ 150) :
    Calls Tryz.prog 98 #[.pointer (some ⟨ap, 0, none⟩), .int .i64 most] w fun e w' => ∃ mk m1 m2 sk q q2, e = .returned (.pointer (some ⟨mk, 0, none⟩)) ∧ w.heap.size ≤ q ∧ q ≤ q2 ∧ q2 ≤ w'.heap.size ∧ (∀ C : CS, C.mkd = (fun _ => false) → C.sc = (fun _ => false) → C.stk = [] → C.most = most → C.missed = 0 → C.again = false → C.cur = 512 * S.K → MarkX w' (colM col w.heap.size q q2) mk ap S.K m1 m2 sk none 0 C) ∧ Below w.heap.size w w' := by
  have Hd := Lib.hid (adev_any col ap b.d S w hA)
  have Hl := Lib.hid (len_any B b m s w h)
  have Hn := Lib.hid (fun w => bnew_any (8 * S.K) w (by omega) (by omega))
  have Hs := Lib.hid (fun w => snew_any most w)
  obtain ⟨N, HN⟩ : ∃ N, Hid (8 * m = N) := ⟨_, rfl⟩
  rw [HN.out] at Hl
  rw [show 64 * (8 * S.K) = N by rw [← HN.out, hm]; omega] at Hn
  have HN2 : Hid (512 * S.K = N) := by show _ = _; rw [← HN.out, hm]; omega
  clear h hA
  go_enter Tryz.func98, Tryz.ntmps98
  go_wp2_with fail
  refine Hd.out.mono ?_
  rintro e w1 ⟨rfl, rfl⟩
  go_wp2_with fail
  refine Hl.out.mono ?_
  rintro e w1 ⟨rfl, rfl⟩
  go_wp2_with fail
  refine (Hn.out _).mono ?_
  rintro e w1 ⟨m1, rfl, hS1, hb1⟩
  have HS1 := Lib.hid hS1
  have HB1 := Lib.hid hb1
  clear hS1 hb1 Hd Hl
  go_wp2_with fail
  refine (Hn.out _).mono ?_
  rintro e w2 ⟨m2, rfl, hS2, hb2⟩
  have HS2 := Lib.hid hS2
  have HB2 := Lib.hid hb2
  clear hS2 hb2 Hn
  go_wp2_with fail
  refine (Hs.out _).mono ?_
  rintro e w3 ⟨sk, rfl, hs1, hs2, hb3⟩
  have HS3 : Hid (w2.heap.size ≤ sk ∧ Blk w3 sk 244 #[.slice none 0 0, .int .i64 most, .int .i64 0]) := ⟨hs1, hs2⟩
  have HB3 := Lib.hid hb3
  clear hs1 hs2 hb3 Hs
  obtain ⟨n4, Hn4⟩ : ∃ k, Hid (w3.heap.size = k) := ⟨_, rfl⟩
  go_wp2_with fail
  rw [Hn4.out]
  go_ret
  have L := (Loc.nil Nob w3).box 211 #[.pointer (some ⟨ap, 0, none⟩), .pointer (some ⟨m1, 0, none⟩), .pointer (some ⟨m2, 0, none⟩), .pointer (some ⟨sk, 0, none⟩), .bool false, .int .i64 N] n4 Hn4.out
  have hb4 := L.below
  have h1 := HB1.out.size
  have h2 := HB2.out.size
  have h3 := HB3.out.size
  have h4 := hb4.size
  refine ⟨n4, m1, m2, sk, w1.heap.size, w2.heap.size, rfl, h1, h2, by omega, ?_, HB1.out.trans ((HB2.out.mono h1).trans ((HB3.out.mono (by omega)).trans (hb4.mono (by omega))))⟩
  intro C e1 e2 e3 e4 e5 e6 e7
  have hn4 := Hn4.out
  have hsk := HS3.out.1
  refine ⟨?_, ?_, ?_, ?_, ?_, ?_, ?_, ?_⟩
  · rw [e6, e7, HN2.out]; exact L.b0
  · rw [e3, e4, e5]; exact HS3.out.2.below hb4 HS3.out.2.lt
  · rw [e3]; exact Own.nil _ _ _ _
  · rw [e1]
    have hh := HS1.out.weak (F' := fun k => colM col w.heap.size w1.heap.size w2.heap.size k = 21) (fun k hk hk2 => by simp only [colM]; rw [if_neg (by omega), if_pos hk])
    exact ((hh.below HB2.out (Nat.le_refl _)).below HB3.out (Nat.le_refl _)).below hb4 (Nat.le_refl _)
  · rw [e2]
    have hh := HS2.out.weak (F' := fun k => colM col w.heap.size w1.heap.size w2.heap.size k = 22) (fun k hk hk2 => by simp only [colM]; rw [if_neg (by omega), if_neg (by omega), if_pos hk])
    exact (hh.below HB3.out (Nat.le_refl _)).below hb4 (Nat.le_refl _)
  · simp only [colM]; rw [if_neg (by omega), if_neg (by omega), if_neg (by omega)]
  · simp only [colM]; rw [if_neg (by omega), if_neg (by omega), if_neg (by omega)]
  · rintro a ha; cases ha
theorem swnew_any (col : Nat → Nat) (ap d mk : Nat) (S : AS) (w : World) (hA : AllocR w col ap d S) :
    Calls Tryz.prog 99 #[.pointer (some ⟨ap, 0, none⟩), .pointer (some ⟨mk, 0, none⟩)] w fun e w' => ∃ sw, e = .returned (.pointer (some ⟨sw, 0, none⟩)) ∧ w.heap.size ≤ sw ∧ Blk w' sw 213 #[.pointer (some ⟨ap, 0, none⟩), .pointer (some ⟨mk, 0, none⟩), .int .i64 S.K, .slice none 0 0] ∧ Below w.heap.size w w' := by
  obtain ⟨mp, us, fr, h1, h2, h3, h4, h5⟩ := hA
  obtain ⟨t, x, T, X, hb, hT, hX, d1, d2, d3, d4, d5, d6⟩ := h2
  have c0 : w.cell? ⟨ap, 0, none⟩ = some (.pointer (some ⟨mp, 0, none⟩)) := h1.cell 0
  have c1 : w.cell? ⟨mp, 0, none⟩ = some (.pointer (some ⟨t, 0, none⟩)) := hb.cell 0
  have Hl := Lib.hid (tlen_any T t d S.K S.hs w hT)
  obtain ⟨n1, Hn1⟩ : ∃ k, Hid (w.heap.size = k) := ⟨_, rfl⟩
  clear h1 h3 h4 h5 hb hT hX d1 d2 d3 d4 d5 d6
  go_enter Tryz.func99, Tryz.ntmps99
  go_wp2_with fail
  refine Hl.out.mono ?_
  rintro e w1 ⟨rfl, rfl⟩
  go_wp2_with fail
  rw [Hn1.out]
  have L := (Loc.nil Nob w).box 213 #[.pointer (some ⟨ap, 0, none⟩), .pointer (some ⟨mk, 0, none⟩), .int .i64 S.K, .slice none 0 0] n1 Hn1.out
  have hL := L.below
  rw [Hn1.out] at hL
  go_ret
  exact ⟨n1, rfl, Nat.le_refl _, L.b0, hL⟩
theorem cnew_any (B : Nat) (b : DB) (m : Nat) (s : DS) (col : Nat → Nat) (ap most : Nat) (fn : Fn) (v1 v2 : Array Value) (S : AS) (w : World) (h : Dev B w b m s) (hA : AllocR w col ap b.d S) (hm : m = S.K * 64) (hK0 : 0 < S.K) (hK : S.K ≤ 150) :
    Calls Tryz.prog 44 #[.pointer (some ⟨ap, 0, none⟩), .int .i64 most, (.func fn v1 v2)] w fun e w' => ∃ ca col', e = .returned (.pointer (some ⟨ca, 0, none⟩)) ∧ (∀ k, k < w.heap.size → col' k = col k) ∧ CycR w' col' ca ap S.K (.func fn v1 v2) (CS.new S.K most) ∧ Below w.heap.size w w' := by
  have Hm := Lib.hid (mnew_any B b m s col ap most S w h hA hm hK0 hK)
  have HA := Lib.hid hA
  clear h hA
  go_enter Tryz.func44, Tryz.ntmps44
  go_wp2_with fail
  refine Hm.out.mono ?_
  rintro e w1 ⟨mk, m1, m2, sk, q, q2, rfl, hq1, hq2, hq3, hM, hb1⟩
  have HM := Lib.hid (hM (CS.new S.K most) rfl rfl rfl rfl rfl rfl rfl)
  have HB1 := Lib.hid hb1
  have HQ : Hid (w.heap.size ≤ q ∧ q ≤ q2 ∧ q2 ≤ w1.heap.size) := ⟨hq1, hq2, hq3⟩
  have Hw := Lib.hid (swnew_any col ap b.d mk S w1 (HA.out.below hb1 (Nat.le_refl _)))
  clear hM hb1 hq1 hq2 hq3 Hm
  go_wp2_with fail
  refine Hw.out.mono ?_
  rintro e w2 ⟨sw, rfl, hsw, hb, hb2⟩
  have HW : Hid (w1.heap.size ≤ sw ∧ Blk w2 sw 213 #[.pointer (some ⟨ap, 0, none⟩), .pointer (some ⟨mk, 0, none⟩), .int .i64 S.K, .slice none 0 0]) := ⟨hsw, hb⟩
  have HB2 := Lib.hid hb2
  clear hsw hb hb2 Hw
  obtain ⟨n4, Hn4⟩ : ∃ k, Hid (w2.heap.size = k) := ⟨_, rfl⟩
  go_wp2_with fail
  rw [Hn4.out]
  go_ret
  have L := (Loc.nil Nob w2).box 118 #[.pointer (some ⟨ap, 0, none⟩), .pointer (some ⟨mk, 0, none⟩), .pointer (some ⟨sw, 0, none⟩), (.func fn v1 v2), .int .i64 0, .int .i64 0, .int .i64 0] n4 Hn4.out
  have hb4 := L.below
  have h1 := HB1.out.size
  have h2 := HB2.out.size
  have h4 := hb4.size
  have hq := HQ.out
  have hw := HW.out.1
  have hn4 := Hn4.out
  refine ⟨n4, colM col w.heap.size q q2, rfl, fun k hk => by simp only [colM]; rw [if_pos hk], ⟨mk, sw, m1, m2, sk, none, 0, none, 0, ?_⟩, HB1.out.trans ((HB2.out.mono h1).trans (hb4.mono (by omega)))⟩
  have hx := HM.out
  refine ⟨L.b0, ⟨(hx.b.below HB2.out hx.b.lt).below hb4 (hx.b.below HB2.out hx.b.lt).lt, (hx.s.below HB2.out hx.s.lt).below hb4 (hx.s.below HB2.out hx.s.lt).lt, (hx.o.below HB2.out (Nat.le_refl _)).below hb4 (Nat.le_refl _), (hx.m.below HB2.out (Nat.le_refl _)).below hb4 (Nat.le_refl _), (hx.c.below HB2.out (Nat.le_refl _)).below hb4 (Nat.le_refl _), hx.cb, hx.cs, hx.co⟩,
    HW.out.2.below hb4 HW.out.2.lt, Own.nil _ _ _ _, ?_, ?_, fun a ha => by cases ha⟩
  · simp only [colM]; rw [if_neg (by omega), if_neg (by omega), if_neg (by omega)]
  · simp only [colM]; rw [if_neg (by omega), if_neg (by omega), if_neg (by omega)]
/-- Made, Stored: while the collector is idle. -/
theorem cmade_idle (col : Nat → Nat) (ca ap K a : Nat) (fv : Value) (C : CS) (w : World) (h : CycR w col ca ap K fv C) (hp : C.phase = 0) :
    Calls Tryz.prog 61 #[.pointer (some ⟨ca, 0, none⟩), .int .i64 a] w fun e w' => (∃ v, e = .returned v) ∧ w = w' := by
  obtain ⟨mk, sw, m1, m2, sk, A, cap, G, gcap, hx⟩ := h
  have c4 : w.cell? ⟨ca, 4, none⟩ = some (.int .i64 0) := by have := hx.b.cell 4; rw [hp] at this; exact this
  clear hx
  go_enter Tryz.func61, Tryz.ntmps61
  go_wp2_with fail
  first
    | go_end0
    | skip
  exact ⟨⟨_, rfl⟩, rfl⟩
end Go.Proofs.YtcnjipicifkfjaaGreat

/- stack: Push, Pop, Clear. -/
namespace Go.Proofs.YtcnjipicifkfjaaGreat
open Go.RowKit
set_option linter.unusedVariables false
set_option linter.unusedSimpArgs false

/-- A stack. -/
structure StkX (w : World) (sk : Nat) (A : Option Addr) (cap : Nat) (l : List Nat) (most missed : Nat) : Prop where
  s : Blk w sk 244 #[.slice A l.length cap, .int .i64 most, .int .i64 missed]
  o : Own w 0 3 1 A l.length cap (ncells l)
theorem StkX.ne {w : World} {sk cap most missed : Nat} {A : Option Addr} {l : List Nat} (h : StkX w sk A cap l most missed) : ∀ a, A = some a → a.block ≠ sk := fun a ha e => h.o.ne h.s (by decide) a ha e
set_option maxRecDepth 100000 in
set_option maxHeartbeats 1000000 in
theorem spush_any (sk cap most missed x : Nat) (A : Option Addr) (l : List Nat) (w : World) (h : StkX w sk A cap l most missed) (hl : l.length ≤ 100000) (hm : missed ≤ 1000000) (hmo : most ≤ 100000) :
    Calls Tryz.prog 218 #[.pointer (some ⟨sk, 0, none⟩), .int .i64 x] w fun e w' => e = .returned (.bool (decide (l.length < most))) ∧ ∃ A' cap', StkX w' sk A' cap' (if l.length < most then l ++ [x] else l) most (if l.length < most then missed else missed + 1) ∧
      Mod w w' (fun k => k = sk ∨ ∃ a, A = some a ∧ a.block = k) ∧ (∀ a', A' = some a' → (∃ a, A = some a ∧ a.block = a'.block) ∨ w.heap.size ≤ a'.block) := by
  have HS := Lib.hid h.s
  have HO := Lib.hid h.o
  have Hne := Lib.hid h.ne
  have z0 : w.cell? ⟨sk, 0, none⟩ = some (.slice A l.length cap) := h.s.cell 0
  have z1 : w.cell? ⟨sk, 1, none⟩ = some (.int .i64 most) := h.s.cell 1
  have z2 : w.cell? ⟨sk, 2, none⟩ = some (.int .i64 missed) := h.s.cell 2
  have zf := h.s.frozen
  clear h
  by_cases hlt : l.length < most
  · have Hp : Hid (decide (l.length < most) = true ∧ (if l.length < most then l ++ [x] else l) = l ++ [x] ∧ (if l.length < most then missed else missed + 1) = missed) := ⟨decide_eq_true hlt, if_pos hlt, if_pos hlt⟩
    rw [Hp.out.1, Hp.out.2.1, Hp.out.2.2]
    clear Hp
    obtain ⟨n, Hn⟩ : ∃ n, Hid (l.length = n) := ⟨_, rfl⟩
    rw [Hn.out] at HS HO z0 hl hlt
    have hd : decide ((most : Int) ≤ (n : Int)) = false := decide_eq_false (by omega)
    obtain ⟨i0, hi0, hz0, hz1, hz2⟩ := info3s
    go_enter Tryz.func218, Tryz.ntmps218
    go_wp2_with fail
    go_quiet (fail)
    obtain ⟨w2, Hw2⟩ : ∃ w2, Hid (w.drewN nq = w2) := ⟨_, rfl⟩
    rw [Hw2.out]
    have HM2 : Hid (Mod w w2 Nob) := by rw [← Hw2.out]; exact (Mod.refl w Nob).drewN nq
    have HS2 : Hid (Blk w2 sk 244 #[.slice A n cap, .int .i64 most, .int .i64 missed]) := HM2.out.blk HS.out (fun h => h)
    have HO2 := Lib.hid (HO.out.mod HM2.out (fun _ _ h => h))
    clear Hw2 z0 z1 z2 zf HS HO
    have z0 : w2.cell? ⟨sk, 0, none⟩ = some (.slice A n cap) := HS2.out.cell 0
    have z1 : w2.cell? ⟨sk, 1, none⟩ = some (.int .i64 most) := HS2.out.cell 1
    have z2 : w2.cell? ⟨sk, 2, none⟩ = some (.int .i64 missed) := HS2.out.cell 2
    have zf := HS2.out.frozen
    go_wp2_with (at_builtin; (refine append_one rfl (.tmp 26) (.tmp 28) 60 rfl 0 3 i0 _ 8 Tryz.underlying60 hi0 hz0 hz1 hz2 rfl A n cap _ rfl HO2.out (.int .i64 x) rfl rfl (by unfold maxLen; omega) (by omega) (Nat.zero_le _) ?_))
    intro A6 cap6 w6 hO6 hM6 hat6
    have HO6 : Hid (Own w6 0 3 1 A6 (n + 1) cap6 (ncells (l ++ [x]))) := by
      have e : ncells (l ++ [x]) = ncells l ++ [.int .i64 x] := by simp [ncells]
      rw [e]; exact hO6
    have HM6 := Lib.hid hM6
    have Hat6 := Lib.hid hat6
    have HS6 := Lib.hid (hM6.blk HS2.out (fun ⟨a, ha, e⟩ => Hne.out a ha e))
    have y1 := HS6.out.frozen
    have y0 : w6.cell? ⟨sk, 0, none⟩ = some (.slice A n cap) := HS6.out.cell 0
    clear hO6 hM6 hat6 z0 z1 z2 zf HO2 HS2
    go_wp2_with fail
    go_ret
    have hne6 : ∀ a, A6 = some a → a.block ≠ sk := fun a ha e => HO6.out.ne HS6.out (by decide) a ha e
    have hMs : Mod w6 (w6.setCell ⟨sk, 0, none⟩ (.slice A6 (n + 1) cap6)) (fun k => k = sk) := (Mod.refl w6 (fun k => k = sk)).cell 0 _
    refine ⟨rfl, A6, cap6, ⟨?_, ?_⟩, (((HM2.out.mono (fun k _ h => False.elim h)).trans HM6.out (fun k _ h => .inr h)).trans hMs (fun k _ e => .inl e)), fun a' ha => (Hat6.out a' ha).imp id (fun h => Nat.le_trans HM2.out.size h)⟩
    · rw [List.length_append, Hn.out]
      exact Blk.conv (HS6.out.set_ 0 _) (by simp)
    · rw [List.length_append, Hn.out]
      exact HO6.out.mod hMs (fun a ha => hne6 a ha)
  · have Hp : Hid (decide (l.length < most) = false ∧ (if l.length < most then l ++ [x] else l) = l ∧ (if l.length < most then missed else missed + 1) = missed + 1) := ⟨decide_eq_false hlt, if_neg hlt, if_neg hlt⟩
    rw [Hp.out.1, Hp.out.2.1, Hp.out.2.2]
    clear Hp
    obtain ⟨n, Hn⟩ : ∃ n, Hid (l.length = n) := ⟨_, rfl⟩
    rw [Hn.out] at HS HO z0 hl hlt
    have hd : decide ((most : Int) ≤ (n : Int)) = true := decide_eq_true (by omega)
    go_enter Tryz.func218, Tryz.ntmps218
    go_wp2_with fail
    go_quiet (fail)
    obtain ⟨w2, Hw2⟩ : ∃ w2, Hid (w.drewN nq = w2) := ⟨_, rfl⟩
    rw [Hw2.out]
    have HM2 : Hid (Mod w w2 Nob) := by rw [← Hw2.out]; exact (Mod.refl w Nob).drewN nq
    have HS2 : Hid (Blk w2 sk 244 #[.slice A n cap, .int .i64 most, .int .i64 missed]) := HM2.out.blk HS.out (fun h => h)
    have HO2 := Lib.hid (HO.out.mod HM2.out (fun _ _ h => h))
    clear Hw2 z0 z1 z2 zf HS HO
    have z0 : w2.cell? ⟨sk, 0, none⟩ = some (.slice A n cap) := HS2.out.cell 0
    have z1 : w2.cell? ⟨sk, 1, none⟩ = some (.int .i64 most) := HS2.out.cell 1
    have z2 : w2.cell? ⟨sk, 2, none⟩ = some (.int .i64 missed) := HS2.out.cell 2
    have zf := HS2.out.frozen
    go_wp2_with fail
    go_ret
    have hMs : Mod w2 (w2.setCell ⟨sk, 2, none⟩ (.int .i64 ((missed : Int) + 1))) (fun k => k = sk) := (Mod.refl w2 (fun k => k = sk)).cell 2 _
    refine ⟨rfl, A, cap, ⟨?_, ?_⟩, (HM2.out.mono (fun k _ h => False.elim h)).trans hMs (fun k _ e => .inl e), fun a ha => .inl ⟨a, ha, rfl⟩⟩
    · rw [Hn.out]
      exact Blk.conv (HS2.out.set_ 2 _) (by simp)
    · rw [Hn.out]
      exact HO2.out.mod hMs (fun a ha => Hne.out a ha)
theorem spop_none (sk cap most missed : Nat) (A : Option Addr) (w : World) (h : StkX w sk A cap [] most missed) :
    Calls Tryz.prog 198 #[.pointer (some ⟨sk, 0, none⟩)] w fun e w' => e = .returned (.tuple #[.int .i64 0, .bool false]) ∧ w = w' := by
  have z0 : w.cell? ⟨sk, 0, none⟩ = some (.slice A 0 cap) := h.s.cell 0
  clear h
  go_enter Tryz.func198, Tryz.ntmps198
  go_wp2_with fail
  go_ret2
  exact ⟨rfl, rfl⟩
set_option maxRecDepth 100000 in
set_option maxHeartbeats 1000000 in
theorem spop_any (sk cap most missed x : Nat) (A : Option Addr) (l : List Nat) (w : World) (h : StkX w sk A cap (l ++ [x]) most missed) (hl : l.length ≤ 100000) :
    Calls Tryz.prog 198 #[.pointer (some ⟨sk, 0, none⟩)] w fun e w' => e = .returned (.tuple #[.int .i64 x, .bool true]) ∧ StkX w' sk A cap l most missed ∧ Mod w w' (fun k => k = sk) := by
  obtain ⟨m, Hm⟩ : ∃ m, Hid (l.length = m) := ⟨_, rfl⟩
  obtain ⟨n, Hn⟩ : ∃ n, Hid (n = m + 1) := ⟨_, rfl⟩
  have Hln : Hid ((l ++ [x]).length = n) := by show _ = _; rw [List.length_append, Hm.out, Hn.out]; rfl
  have HS : Hid (Blk w sk 244 #[.slice A n cap, .int .i64 most, .int .i64 missed]) := by have := h.s; rw [Hln.out] at this; exact this
  have HO : Hid (Own w 0 3 1 A n cap (ncells (l ++ [x]))) := by have := h.o; rw [Hln.out] at this; exact this
  have Hne := Lib.hid h.ne
  rw [Hm.out] at hl
  clear h
  have hnm : n ≤ 100001 := by have := Hn.out; omega
  obtain ⟨g, rfl, _, _, _, _, hx, hfz⟩ := HO.out.at_ (by have := Hn.out; omega)
  have x0 : w.cell? ⟨g, m, none⟩ = some (.int .i64 x) := hx m _ (by rw [ncells_at (l ++ [x]) m (by rw [Hln.out]; have := Hn.out; omega), List.getD_eq_getElem?_getD, List.getElem?_append_right (by rw [Hm.out]; exact Nat.le_refl _), Hm.out]; simp)
  clear hx hfz
  have hmn : m < n := by have := Hn.out; omega
  have hwr : IntKind.i64.wrap ((n : Int) - 1) = (m : Int) := by have := Hn.out; exact (congrArg IntKind.i64.wrap (by omega)).trans (IntWalk.i64_in _ (by omega))
  have hlb : ((n : Int) == 0) = false := by rw [beq_eq_false_iff_ne]; omega
  have hlb2 : (n == 0) = false := by rw [beq_eq_false_iff_ne]; omega
  have hsl : ∀ w, (Instr.slice 60 (.slice (some ⟨g, 0, none⟩) n cap) none (some (.int .i64 (m : Int))) none).run Tryz.prog w = .ok (.slice (some ⟨g, 0, none⟩) m cap) w := by
    intro w
    rw [run_slice_h w 60 _ _ cap Tryz.underlying60 .i64 _ (by omega) (by omega)]
    have : (sizeOf (Tryz.prog.elem 60)).run Tryz.prog w = .ok 1 w := by kernel_rfl
    rw [this]
    simp only [Result.andThen, sliced, Option.map_some, Int.toNat_natCast]
    rw [if_neg (by omega)]
    rfl
  have z0 : w.cell? ⟨sk, 0, none⟩ = some (.slice (some ⟨g, 0, none⟩) n cap) := HS.out.cell 0
  have zf := HS.out.frozen
  go_enter Tryz.func198, Tryz.ntmps198
  go_wp2_with fail
  go_quiet (fail)
  go_wp2_with fail
  obtain ⟨w2, Hw2⟩ : ∃ w2, Hid (w.drewN nq = w2) := ⟨_, rfl⟩
  rw [Hw2.out]
  have HM2 : Hid (Mod w w2 Nob) := by rw [← Hw2.out]; exact (Mod.refl w Nob).drewN nq
  have HS2 : Hid (Blk w2 sk 244 #[.slice (some ⟨g, 0, none⟩) n cap, .int .i64 most, .int .i64 missed]) := HM2.out.blk HS.out (fun h => h)
  have HO2 := Lib.hid (HO.out.mod HM2.out (fun _ _ h => h))
  clear Hw2 z0 zf HS HO x0
  have z0 : w2.cell? ⟨sk, 0, none⟩ = some (.slice (some ⟨g, 0, none⟩) n cap) := HS2.out.cell 0
  have zf := HS2.out.frozen
  go_region
  obtain ⟨w3, Hw3⟩ : ∃ w3, Hid ((w2.setCell ⟨sk, 0, none⟩ (.slice (some ⟨g, 0, none⟩) m cap)).drew = w3) := ⟨_, rfl⟩
  rw [Hw3.out]
  have HM3 : Hid (Mod w2 w3 (fun k => k = sk)) := by rw [← Hw3.out]; exact ((Mod.refl w2 (fun k => k = sk)).cell 0 _).drewN 1
  have HS3 : Hid (Blk w3 sk 244 #[.slice (some ⟨g, 0, none⟩) m cap, .int .i64 most, .int .i64 missed]) := by rw [← Hw3.out]; exact Blk.conv ((HS2.out.set_ 0 _).drewN 1) (by simp)
  clear Hw3 z0 zf
  go_wp2_with fail
  go_ret2
  refine ⟨by simp, ⟨by rw [Hm.out]; exact HS3.out, ?_⟩, (HM2.out.mono (fun k _ h => False.elim h)).trans HM3.out (fun k _ e => e)⟩
  have hc := (HO2.out.mod HM3.out (fun a ha => Hne.out a ha)).cut (k := m) (by omega)
  rw [Nat.mul_one] at hc
  rw [Hm.out]
  have e : ncells l = (ncells (l ++ [x])).take m := by
    unfold ncells
    rw [List.map_append, List.take_append_of_le_length (by rw [List.length_map, Hm.out]; exact Nat.le_refl _), List.take_of_length_le (by rw [List.length_map, Hm.out]; exact Nat.le_refl _)]
  rw [e]
  exact hc
theorem clear_zero {P : Program} {ops : Array Oper} {rest : List Oper} {o : Oper} {a : Act} {w : World} {Q : Exit → Act → World → Prop} (hgd : o.guard = none) (x : Operand) (t e : TypeId)
    (ho : o.op = .call { callee := .builtin .clear, args := #[x], argTypes := #[t] }) (ht : P.underlying t = some (.slice e)) (A : Option Addr) (cap : Nat) (hx : a.eval x = .slice A 0 cap) (h : wpList P ops Q rest (a.put o.dst (.tuple #[])) w) :
    wpList P ops Q (o :: rest) a w := by
  refine wpList_plain hgd fun K hK => ?_
  have hrun : (Builtin.clear_ #[t] o.type #[.slice A 0 cap]).run P w = .ok (.tuple #[]) w := by cases A <;> simp [Builtin.clear_, run_underlying ht]
  unfold Oper.wp execOp
  simp only [ho, resolve, invoke, builtin, Sem.run_bind, Sem.run_pure, Result.andThen_ok, List.map_toArray, List.map_cons, List.map_nil, hx, hrun]
  exact hK _ _ h
set_option maxRecDepth 100000 in
set_option maxHeartbeats 1000000 in
theorem sclear_any (sk cap most missed : Nat) (A : Option Addr) (w : World) (h : StkX w sk A cap [] most missed) :
    Calls Tryz.prog 196 #[.pointer (some ⟨sk, 0, none⟩)] w fun e w' => (∃ v, e = .returned v) ∧ StkX w' sk A cap [] most 0 ∧ Mod w w' (fun k => k = sk) := by
  have z0 : w.cell? ⟨sk, 0, none⟩ = some (.slice A 0 cap) := h.s.cell 0
  have z2 : w.cell? ⟨sk, 2, none⟩ = some (.int .i64 missed) := h.s.cell 2
  have zf := h.s.frozen
  have HX := Lib.hid h
  clear h
  have hsl : ∀ w, (Instr.slice 60 (.slice A 0 cap) none (some (.int .i64 0)) none).run Tryz.prog w = .ok (.slice A 0 cap) w := by
    intro w
    rw [run_slice_h w 60 _ _ cap Tryz.underlying60 .i64 _ (by omega) (by omega)]
    have : (sizeOf (Tryz.prog.elem 60)).run Tryz.prog w = .ok 1 w := by kernel_rfl
    rw [this]
    simp only [Result.andThen, sliced]
    cases A <;> simp [Addr.add]
  go_enter Tryz.func196, Tryz.ntmps196
  go_wp2_with (refine clear_zero rfl (.tmp 5) 60 3 rfl Tryz.underlying60 A cap rfl ?_)
  go_end0
  have hM : Mod w ((w.setCell ⟨sk, 0, none⟩ (.slice A 0 cap)).setCell ⟨sk, 2, none⟩ (.int .i64 0)) (fun k => k = sk) := ((Mod.refl w (fun k => k = sk)).cell 0 _).cell 2 _
  exact ⟨⟨_, rfl⟩, ⟨Blk.conv ((HX.out.s.set_ 0 _).set_ 2 _) (by simp), HX.out.o.mod hM (fun a ha => HX.out.ne a ha)⟩, hM⟩
end Go.Proofs.YtcnjipicifkfjaaGreat

/- mark: Colour, Shade. -/
namespace Go.Proofs.YtcnjipicifkfjaaGreat
open Go.RowKit
set_option linter.unusedVariables false
set_option linter.unusedSimpArgs false

/-- A marker's blocks. -/
def mfp (col : Nat → Nat) (mk sk k : Nat) : Prop := k = mk ∨ k = sk ∨ (21 ≤ col k ∧ col k ≤ 23)
theorem mfp_c {col : Nat → Nat} {mk sk k : Nat} (h : 21 ≤ col k ∧ col k ≤ 23) : mfp col mk sk k := .inr (.inr h)
theorem mfp.cc {col : Nat → Nat} {mk sk k : Nat} (h : mfp col mk sk k) (h1 : col mk = 20) (h2 : col sk = 20) : 20 ≤ col k ∧ col k ≤ 23 := by
  rcases h with rfl | rfl | h <;> omega
section
variable {w w' : World} {col col' : Nat → Nat} {mk ap K m1 m2 sk cap : Nat} {A : Option Addr} {C : CS}
theorem MarkX.stk (h : MarkX w col mk ap K m1 m2 sk A cap C) : StkX w sk A cap C.stk C.most C.missed := ⟨h.s, h.o⟩
theorem MarkX.mdS (h : MarkX w col mk ap K m1 m2 sk A cap C) (hM : Mod w w' (fun k => col k = 21)) {st : Nat → Bool} (hs : SetR w' (fun k => col k = 21) m1 (8 * K) st) : MarkX w' col mk ap K m1 m2 sk A cap { C with mkd := st } :=
  ⟨hM.blk h.b (by simp [h.cb]), hM.blk h.s (by simp [h.cs]), h.o.mod hM (fun a ha => by simp [h.co a ha]), hs, h.c.mod hM (fun k hk => by simp [hk]), h.cb, h.cs, h.co⟩
theorem MarkX.scS (h : MarkX w col mk ap K m1 m2 sk A cap C) (hM : Mod w w' (fun k => col k = 22)) {st : Nat → Bool} (hs : SetR w' (fun k => col k = 22) m2 (8 * K) st) : MarkX w' col mk ap K m1 m2 sk A cap { C with sc := st } :=
  ⟨hM.blk h.b (by simp [h.cb]), hM.blk h.s (by simp [h.cs]), h.o.mod hM (fun a ha => by simp [h.co a ha]), h.m.mod hM (fun k hk => by simp [hk]), hs, h.cb, h.cs, h.co⟩
/-- Another stack; its row may be new. -/
theorem MarkX.stkS (h : MarkX w col mk ap K m1 m2 sk A cap C) {A' : Option Addr} {cap' missed : Nat} {l : List Nat} (hM : Mod w w' (fun k => k = sk ∨ ∃ a, A = some a ∧ a.block = k)) (hs : StkX w' sk A' cap' l C.most missed)
    (ha : ∀ a', A' = some a' → (∃ a, A = some a ∧ a.block = a'.block) ∨ w.heap.size ≤ a'.block) : MarkX w' (colW col w 23) mk ap K m1 m2 sk A' cap' { C with stk := l, missed := missed } := by
  have hT : ∀ k, (k = sk ∨ ∃ a, A = some a ∧ a.block = k) → col k = 20 ∨ col k = 23 := by
    rintro k (rfl | ⟨a, ha, rfl⟩)
    · exact .inl h.cs
    · exact .inr (h.co a ha)
  have hne : mk ≠ sk := fun e => by
    have h1 := h.b
    rw [e] at h1
    have h2 := h.s
    unfold Blk at h1 h2
    rw [h1] at h2
    simp at h2
  have hc : ∀ k, k < w.heap.size → colW col w 23 k = col k := fun k hk => colW_lt _ _ _ _ hk
  have hcl : ∀ i k, i ≠ 23 → i ≠ 20 → colW col w 23 k = i → ¬ (k = sk ∨ ∃ a, A = some a ∧ a.block = k) := fun i k hi hi2 hk e => by
    by_cases hk2 : k < w.heap.size
    · rw [hc k hk2] at hk
      rcases hT k e with h | h
      · exact hi2 (hk.symm.trans h)
      · exact hi (hk.symm.trans h)
    · rw [colW_ge _ _ _ _ (by omega)] at hk
      exact hi hk.symm
  refine ⟨hM.blk h.b ?_, hs.s, hs.o, (h.m.weak (fun k hk e => (hc k hk).trans e)).mod hM (fun k hk e => hcl 21 k (by omega) (by omega) hk e), (h.c.weak (fun k hk e => (hc k hk).trans e)).mod hM (fun k hk e => hcl 22 k (by omega) (by omega) hk e), (hc _ h.b.lt).trans h.cb, (hc _ h.s.lt).trans h.cs, fun a ha2 => ?_⟩
  · rintro (e | ⟨a, ha2, e⟩)
    · exact hne e
    · have := h.co a ha2; rw [e, h.cb] at this; omega
  · rcases ha a ha2 with ⟨a0, h0, e⟩ | h0
    · rw [← e, hc _ (h.o.lt a0 h0).2]; exact h.co a0 h0
    · exact colW_ge _ _ _ _ h0
theorem MarkX.againS (h : MarkX w col mk ap K m1 m2 sk A cap C) (v : Bool) : MarkX (w.setCell ⟨mk, 4, none⟩ (.bool v)) col mk ap K m1 m2 sk A cap { C with again := v } ∧ Mod w (w.setCell ⟨mk, 4, none⟩ (.bool v)) (fun k => k = mk) := by
  have hM : Mod w (w.setCell ⟨mk, 4, none⟩ (.bool v)) (fun k => k = mk) := (Mod.refl w (fun k => k = mk)).cell 4 _
  have hne : ∀ {g : Nat} {t : TypeId} {cs : Array Value}, Blk w g t cs → t ≠ 211 → g ≠ mk := fun h1 ht e => by
    have h2 := h.b
    rw [e] at h1
    unfold Blk at h1 h2
    rw [h1] at h2
    simp only [Option.some.injEq, Go.Obj.cells.injEq] at h2
    exact ht h2.2.1
  exact ⟨⟨Blk.conv (h.b.set_ 4 _) (by simp), hM.blk h.s (hne h.s (by decide)), h.o.mod hM (fun a ha e => h.o.ne h.b (by decide) a ha e), h.m.mod hM (fun k hk e => by rw [e, h.cb] at hk; omega), h.c.mod hM (fun k hk e => by rw [e, h.cb] at hk; omega), h.cb, h.cs, h.co⟩, hM⟩
theorem MarkX.curS (h : MarkX w col mk ap K m1 m2 sk A cap C) (v : Nat) : MarkX (w.setCell ⟨mk, 5, none⟩ (.int .i64 v)) col mk ap K m1 m2 sk A cap { C with cur := v } ∧ Mod w (w.setCell ⟨mk, 5, none⟩ (.int .i64 v)) (fun k => k = mk) := by
  have hM : Mod w (w.setCell ⟨mk, 5, none⟩ (.int .i64 v)) (fun k => k = mk) := (Mod.refl w (fun k => k = mk)).cell 5 _
  have hne : ∀ {g : Nat} {t : TypeId} {cs : Array Value}, Blk w g t cs → t ≠ 211 → g ≠ mk := fun h1 ht e => by
    have h2 := h.b
    rw [e] at h1
    unfold Blk at h1 h2
    rw [h1] at h2
    simp only [Option.some.injEq, Go.Obj.cells.injEq] at h2
    exact ht h2.2.1
  exact ⟨⟨Blk.conv (h.b.set_ 5 _) (by simp), hM.blk h.s (hne h.s (by decide)), h.o.mod hM (fun a ha e => h.o.ne h.b (by decide) a ha e), h.m.mod hM (fun k hk e => by rw [e, h.cb] at hk; omega), h.c.mod hM (fun k hk e => by rw [e, h.cb] at hk; omega), h.cb, h.cs, h.co⟩, hM⟩
end
theorem colour_any (col : Nat → Nat) (mk ap K m1 m2 sk cap at_ : Nat) (A : Option Addr) (C : CS) (w : World) (h : MarkX w col mk ap K m1 m2 sk A cap C) (hK : K ≤ 150) (ha : at_ ≤ 1000000000000000) :
    Calls Tryz.prog 199 #[.pointer (some ⟨mk, 0, none⟩), .int .i64 at_] w fun e w' => e = .returned (.int .i64 (if C.sc at_ then 2 else if C.mkd at_ then 1 else 0)) ∧ w = w' := by
  have z1 : w.cell? ⟨mk, 1, none⟩ = some (.pointer (some ⟨m1, 0, none⟩)) := h.b.cell 1
  have z2 : w.cell? ⟨mk, 2, none⟩ = some (.pointer (some ⟨m2, 0, none⟩)) := h.b.cell 2
  have H1 := Lib.hid (bhas_any _ m1 (8 * K) at_ C.mkd w h.m (by omega) ha)
  have H2 := Lib.hid (bhas_any _ m2 (8 * K) at_ C.sc w h.c (by omega) ha)
  generalize C.sc at_ = b2 at *
  generalize C.mkd at_ = b1 at *
  clear h
  cases b2 with
  | true =>
    go_enter Tryz.func199, Tryz.ntmps199
    go_wp2_with fail
    refine H2.out.mono ?_
    rintro e w1 ⟨rfl, rfl⟩
    go_wp2_with fail
    go_ret
    exact ⟨rfl, rfl⟩
  | false =>
    cases b1 with
    | true =>
      go_enter Tryz.func199, Tryz.ntmps199
      go_wp2_with fail
      refine H2.out.mono ?_
      rintro e w1 ⟨rfl, rfl⟩
      go_wp2_with fail
      refine H1.out.mono ?_
      rintro e w1 ⟨rfl, rfl⟩
      go_wp2_with fail
      go_ret
      exact ⟨rfl, rfl⟩
    | false =>
      go_enter Tryz.func199, Tryz.ntmps199
      go_wp2_with fail
      refine H2.out.mono ?_
      rintro e w1 ⟨rfl, rfl⟩
      go_wp2_with fail
      refine H1.out.mono ?_
      rintro e w1 ⟨rfl, rfl⟩
      go_wp2_with fail
      go_ret
      exact ⟨rfl, rfl⟩
/-- What Shade leaves. -/
def shadeC (used : Nat → Bool) (C : CS) (a : Nat) : CS :=
  if used a && !C.mkd a then { C with mkd := addS C.mkd a, stk := if C.stk.length < C.most then C.stk ++ [a] else C.stk, missed := if C.stk.length < C.most then C.missed else C.missed + 1, again := if C.stk.length < C.most then C.again else true } else C
set_option maxRecDepth 100000 in
set_option maxHeartbeats 1000000 in
theorem shade_any (col : Nat → Nat) (mk ap d m1 m2 sk cap a : Nat) (A : Option Addr) (S : AS) (C : CS) (w : World) (hA : AllocR w col ap d S) (h : MarkX w col mk ap S.K m1 m2 sk A cap C) (hK : S.K ≤ 150) (ha : a ≤ 1000000000000000) (hl : C.stk.length ≤ 100000) (hm : C.missed ≤ 1000000) (hmo : C.most ≤ 100000) :
    Calls Tryz.prog 174 #[.pointer (some ⟨mk, 0, none⟩), .int .i64 a] w fun e w' => e = .returned (.bool (S.used a && !C.mkd a)) ∧ ∃ A' cap' col', (∀ k, k < w.heap.size → col' k = col k) ∧ MarkX w' col' mk ap S.K m1 m2 sk A' cap' (shadeC S.used C a) ∧ Mod w w' (fun k => mfp col mk sk k) := by
  have z0 : w.cell? ⟨mk, 0, none⟩ = some (.pointer (some ⟨ap, 0, none⟩)) := h.b.cell 0
  have z1 : w.cell? ⟨mk, 1, none⟩ = some (.pointer (some ⟨m1, 0, none⟩)) := h.b.cell 1
  have Hu := Lib.hid (aused_any col ap d a S w hA hK ha)
  have HX := Lib.hid h
  cases hus : S.used a with
  | false =>
    have he : Hid (shadeC S.used C a = C) := by show _ = _; unfold shadeC; rw [hus]; simp
    rw [he.out]
    rw [hus] at Hu
    clear h hus he hA
    go_enter Tryz.func174, Tryz.ntmps174
    go_wp2_with fail
    refine Hu.out.mono ?_
    rintro e w1 ⟨rfl, rfl⟩
    go_wp2_with fail
    go_ret
    exact ⟨by simp, A, cap, col, fun _ _ => rfl, HX.out, Mod.refl _ _⟩
  | true =>
    rw [hus] at Hu
    have ha2 : a < 64 * (8 * S.K) := by
      obtain ⟨_, _, _, _, _, hs, _, _⟩ := hA
      by_cases hlt : a < 64 * (8 * S.K)
      · exact hlt
      · have := hs.out a (by omega); rw [hus] at this; cases this
    have Hadd := Lib.hid (badd_any _ m1 (8 * S.K) a C.mkd w h.m (by omega) ha)
    cases hmk : C.mkd a with
    | true =>
      have he : Hid (shadeC S.used C a = C) := by show _ = _; unfold shadeC; rw [hus, hmk]; simp
      rw [he.out]
      have hr : Hid ((decide (a < 64 * (8 * S.K)) && !C.mkd a) = false) := by show _ = _; rw [hmk]; simp
      rw [hr.out] at Hadd
      have hset : Hid (∀ i, (C.mkd i || (decide (i = a) && decide (a < 64 * (8 * S.K)))) = C.mkd i) := fun i => by
        by_cases e : i = a
        · rw [e, hmk]; rfl
        · simp [e]
      clear h hus he hA hr hmk
      go_enter Tryz.func174, Tryz.ntmps174
      go_wp2_with fail
      refine Hu.out.mono ?_
      rintro e w1 ⟨rfl, rfl⟩
      go_wp2_with fail
      refine Hadd.out.mono ?_
      rintro e w1 ⟨rfl, hs, hM⟩
      have Hs := Lib.hid (hs.conv hset.out)
      have HM := Lib.hid hM
      clear hs hM
      go_wp2_with fail
      go_ret
      exact ⟨by simp, A, cap, col, fun _ _ => rfl, HX.out.mdS HM.out Hs.out, HM.out.mono (fun k _ e => mfp_c (by omega))⟩
    | false =>
      have he : Hid (shadeC S.used C a = { C with mkd := addS C.mkd a, stk := if C.stk.length < C.most then C.stk ++ [a] else C.stk, missed := if C.stk.length < C.most then C.missed else C.missed + 1, again := if C.stk.length < C.most then C.again else true }) := by show _ = _; unfold shadeC; rw [hus, hmk]; simp
      rw [he.out]
      obtain ⟨l2, Hl2⟩ : ∃ l2, Hid ((if C.stk.length < C.most then C.stk ++ [a] else C.stk) = l2) := ⟨_, rfl⟩
      obtain ⟨ms2, Hms2⟩ : ∃ l2, Hid ((if C.stk.length < C.most then C.missed else C.missed + 1) = l2) := ⟨_, rfl⟩
      obtain ⟨ag2, Hag2⟩ : ∃ l2, Hid ((if C.stk.length < C.most then C.again else true) = l2) := ⟨_, rfl⟩
      rw [Hl2.out, Hms2.out, Hag2.out]
      have hr : Hid ((decide (a < 64 * (8 * S.K)) && !C.mkd a) = true) := by show _ = _; rw [hmk, decide_eq_true ha2]; rfl
      rw [hr.out] at Hadd
      have hset : Hid (∀ i, (C.mkd i || (decide (i = a) && decide (a < 64 * (8 * S.K)))) = addS C.mkd a i) := fun i => addS_conv _ _ _ ha2 i
      clear h hus he hA hr hmk
      go_enter Tryz.func174, Tryz.ntmps174
      go_wp2_with fail
      refine Hu.out.mono ?_
      rintro e w1 ⟨rfl, rfl⟩
      go_wp2_with fail
      refine Hadd.out.mono ?_
      rintro e w1 ⟨rfl, hs, hM⟩
      have HX1 := Lib.hid (HX.out.mdS hM (hs.conv hset.out))
      have HM1 := Lib.hid hM
      clear hs hM Hadd z0 z1 HX
      have z3 : w1.cell? ⟨mk, 3, none⟩ = some (.pointer (some ⟨sk, 0, none⟩)) := HX1.out.b.cell 3
      go_wp2_with fail
      refine (spush_any sk cap C.most C.missed a A C.stk w1 HX1.out.stk hl hm hmo).mono ?_
      rintro e w2 ⟨rfl, A', cap', hS2, hM2, hat⟩
      have HX2 := Lib.hid (HX1.out.stkS hM2 hS2 hat)
      have HM2 : Hid (Mod w1 w2 (fun k => mfp col mk sk k)) := hM2.mono (fun k _ e => by
        rcases e with e | ⟨a, ha, e⟩
        · exact .inr (.inl e)
        · exact mfp_c (by rw [← e, HX1.out.co a ha]; omega))
      have Hcol : Hid (∀ k, k < w.heap.size → colW col w1 23 k = col k) := fun k hk => colW_lt _ _ _ _ (Nat.lt_of_lt_of_le hk HM1.out.size)
      have HM : Hid (Mod w w2 (fun k => mfp col mk sk k)) := (HM1.out.mono (fun k _ e => mfp_c (by omega))).trans HM2.out (fun k _ e => e)
      clear hS2 hM2 hat z3
      rw [Hl2.out, Hms2.out] at HX2
      by_cases hlt : C.stk.length < C.most
      · have hd : decide (C.stk.length < C.most) = true := decide_eq_true hlt
        have hag : ag2 = C.again := by rw [← Hag2.out, if_pos hlt]
        rw [hd]
        subst hag
        clear hlt hd Hag2
        go_wp2_with fail
        go_ret
        exact ⟨by simp, A', cap', _, Hcol.out, HX2.out, HM.out⟩
      · have hd : decide (C.stk.length < C.most) = false := decide_eq_false hlt
        have hag : ag2 = true := by rw [← Hag2.out, if_neg hlt]
        rw [hd]
        subst hag
        have y4 : w2.cell? ⟨mk, 4, none⟩ = some (.bool C.again) := HX2.out.b.cell 4
        have yf := HX2.out.b.frozen
        clear hlt hd Hag2
        go_wp2_with fail
        go_ret
        obtain ⟨q1, q2⟩ := HX2.out.againS true
        exact ⟨by simp, A', cap', _, Hcol.out, q1, HM.out.trans q2 (fun k hk e => .inl e)⟩
end Go.Proofs.YtcnjipicifkfjaaGreat
