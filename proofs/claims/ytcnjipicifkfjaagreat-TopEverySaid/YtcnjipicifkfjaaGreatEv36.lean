/- pile: Push. -/
import Derived.Test.YtcnjipicifkfjaaGreatEv33
import Derived.Test.YtcnjipicifkfjaaGreatEv35

namespace Go.Proofs.YtcnjipicifkfjaaGreat
open Go.RowKit
set_option linter.unusedVariables false
set_option linter.unusedSimpArgs false

/-- What all of a push comes to. -/
def pushE (E1 E2 E3 E4 E5 : DS × Bool) : DS × Bool := if E1.2 then (if E2.2 then (if E3.2 then (if E4.2 then E5 else E4) else E3) else E2) else E1
/-- What a push leaves. -/
def PushOut (w0 w : World) (B : Nat) (b : DB) (m : Nat) (E : DS × Bool) (col : Nat → Nat) (hp al mp us fr rt hl ca sh : Nat) (A : AS) (ep wh : Nat) (ws : List Nat) (C : CS) : Prop :=
  (E.2 = true ∧ ∃ col' S', (∀ k, k < w0.heap.size → col' k = col k) ∧ (∀ k, w.heap.size ≤ k → col' k = 9) ∧ HeapX w B b m E.1 col' hp al mp us fr rt hl ca sh S' ∧ S'.A = A ∧ S'.ep = ep ∧ S'.wh = wh ∧ S'.rs = ws ∧ S'.ws = ws ∧ S'.C = C) ∨ (E.2 = false ∧ HeapD w B b m E.1 hp)
/-- What a push keeps of a heap on its way. -/
def PS (S S2 : HS) (A : AS) (rg ws : List Nat) : Prop := S2.A = A ∧ S2.ep = S.ep ∧ S2.wh = S.wh ∧ S2.ws = ws ∧ S2.rg = rg ∧ S2.C = S.C
theorem pleave_dead (B : Nat) (b : DB) (m : Nat) (s : DS) (hp pp nm : Nat) (S : HS) (w : World) (h : HeapD w B b m s hp) (hpb : Blk w pp 68 #[.pointer (some ⟨hp, 0, none⟩), .int .i64 nm]) (hne : pp ≠ hp) :
    CallsD Tryz.prog 26 #[.pointer (some ⟨pp, 0, none⟩)] .returning w fun e u' w' => u' = .returning ∧ (∃ v, e = .returned v) ∧ HeapD w' B b m s hp ∧ Mod w w' (fun k => k = hp) := by
  refine (pleave_any .returning B b m (s, false) (fun _ => 9) hp 0 0 0 0 0 0 0 0 pp nm S w (.inr ⟨rfl, h⟩) (fun _ _ => rfl) hpb hne).mono ?_
  rintro e u' w' ⟨h1, h2, h3, h4⟩
  rcases h3 with ⟨h5, _⟩ | ⟨_, h5⟩
  · exact absurd h5 (by simp)
  · exact ⟨h1, h2, h5, h4⟩
set_option maxHeartbeats 4000000 in
set_option maxRecDepth 100000 in
theorem ppush_any (B : Nat) (b : DB) (m : Nat) (s : DS) (col : Nat → Nat) (hp al mp us fr rt hl ca sh pp nm v prev a p : Nat) (S : HS) (A1 : AS) (st : List Step) (E1 E2 E3 E4 E5 : DS × Bool) (w : World)
    (h : HeapX w B b m s col hp al mp us fr rt hl ca sh S) (hn : ∀ k, w.heap.size ≤ k → col k = 9) (hpb : Blk w pp 68 #[.pointer (some ⟨hp, 0, none⟩), .int .i64 nm]) (hpc : ¬ hcol (col pp)) (hnm : nm < 8) (hws : S.ws.length = 8)
    (hprev : S.ws.getD nm 0 = prev) (hprev2 : prev ≤ 1000000) (ha0 : 0 < a) (ha : a + 3 ≤ 8 * m) (ha2 : a < 131072) (hp0 : S.C.phase = 0) (hwh : S.wh < 2) (hep : S.ep < 1000000) (hro : RootsOk (S.ws.set nm a))
    (hR : RoomOk B b m s al mp us fr 1 1 1 S.A st a A1) (hK1 : A1.K = S.A.K) (hu0 : (A1.add a).used 0 = false)
    (hE1 : exec s (st ++ initS a 1 1) = E1) (hE2 : exec E1.1 [.st (a + 1) prev] = E2) (hE3 : exec E2.1 [.st (a + 2) v] = E3) (hE4 : exec E3.1 (persistS a (1 + 1 + 1)) = E4) (hE5 : exec E4.1 (writeS (64 + (1 - S.wh) * 64) (slotEnc (S.ep + 1) (S.ws.set nm a))) = E5)
    (o1 : E1.2 = true → ObjAt E1.1 m a 1 1 ∧ E1.1.C.getD (a + 1) 0 ≤ 1099511627776 ∧ OB E1.1 m (A1.add a).used 1) (o2 : E1.2 = true → E2.2 = true → ObjAt E2.1 m a 1 1) (o3 : E1.2 = true → E2.2 = true → E3.2 = true → ObjAt E3.1 m a 1 1)
    (o4 : E1.2 = true → E2.2 = true → E3.2 = true → E4.2 = true → E4.1.C.getD (64 + (1 - S.wh) * 64) 0 ≤ S.ep ∧ E4.1.C.getD (64 + (1 - S.wh) * 64 + 8) 0 ≤ S.ep)
    (o5 : E1.2 = true → E2.2 = true → E3.2 = true → E4.2 = true → E5.2 = true → OB E5.1 m (A1.add a).used p) :
    Calls Tryz.prog 8 #[.pointer (some ⟨pp, 0, none⟩), .int .u64 v] w fun e w' => e = .returned (.int .i64 (ecode (pushE E1 E2 E3 E4 E5).2)) ∧ PushOut w w' B b m (pushE E1 E2 E3 E4 E5) col hp al mp us fr rt hl ca sh (A1.add a) (S.ep + 1) (1 - S.wh) (S.ws.set nm a) S.C ∧ Mod w w' (fun k => hcol (col k)) := by
  have HC : Hid ((∀ k, w.heap.size ≤ k → col k = 9) ∧ col hp = 7 ∧ S.rg.length = 32 ∧ pp ≠ hp ∧ pp < w.heap.size) := ⟨hn, h.chp, h.rg, fun e => by rw [e, h.chp] at hpc; exact hpc (.inl (by omega)), hpb.lt⟩
  have HPC : Hid (¬ hcol (col pp)) := hpc
  have HP := Lib.hid hpb
  have HX := Lib.hid h
  have x0 : w.cell? ⟨pp, 0, none⟩ = some (.pointer (some ⟨hp, 0, none⟩)) := hpb.cell 0
  have x1 : w.cell? ⟨pp, 1, none⟩ = some (.int .i64 nm) := hpb.cell 1
  have HT : ∀ w0 : World, Hid (Calls Tryz.prog 29 #[] w0.drew fun e w' => e = .returned (.agg #[.int .i64 1, .int .i64 0]) ∧ Below w0.heap.size w0 w') := fun w0 => (pname_any 29 0 w0.drew (.inl ⟨rfl, rfl⟩)).mono (by rintro e w' ⟨rfl, hb⟩; exact ⟨rfl, (below_drewN (Below.refl w0.heap.size w0) 1).trans hb⟩)
  have HR : ∀ w0 : World, Hid (Calls Tryz.prog 28 #[] w0.drew fun e w' => e = .returned (.agg #[.int .i64 1, .int .i64 1]) ∧ Below w0.heap.size w0 w') := fun w0 => (pname_any 28 1 w0.drew (.inr ⟨rfl, rfl⟩)).mono (by rintro e w' ⟨rfl, hb⟩; exact ⟨rfl, (below_drewN (Below.refl w0.heap.size w0) 1).trans hb⟩)
  have Hroot : Hid (∀ wr, Below w.heap.size w wr → Calls Tryz.prog 27 #[.pointer (some ⟨hp, 0, none⟩), .agg #[.int .i64 1, .int .i64 1], .int .i64 nm] wr fun e w' => e = .returned (.int .i64 0) ∧ HeapX w' B b m s col hp al mp us fr rt hl ca sh { S with rg := S.rg.set 9 prev } ∧ Mod wr w' (fun k => k = hp)) := fun wr hb => hroot_any B b m s col hp al mp us fr rt hl ca sh 1 1 nm prev S wr (h.below hb) (by omega) (by omega) hnm hprev (by omega)
  have Hal : Hid (∀ wr, HeapX wr B b m s col hp al mp us fr rt hl ca sh { S with rg := S.rg.set 9 prev } → w.heap.size ≤ wr.heap.size → Calls Tryz.prog 20 #[.pointer (some ⟨hp, 0, none⟩), .agg #[.int .i64 1, .int .i64 0], .int .i64 1, .int .i64 1] wr fun e w' => e = .returned (.int .i64 (ecode E1.2)) ∧ HOutA wr w' B b m E1 col hp al mp us fr rt hl ca sh { S with A := A1.add a, rg := (S.rg.set 9 prev).set 8 a } ∧ Mod wr w' (fun k => hcol (col k))) := by
    intro wr hX hz
    have := halloc_any B b m s col hp al mp us fr rt hl ca sh 1 0 1 1 a { S with rg := S.rg.set 9 prev } A1 st wr hX (fun k hk => hn k (by omega)) (by omega) (by omega) (.inl ⟨rfl, rfl⟩) hK1 hR (by omega) hp0
    rw [hE1] at this
    exact this
  obtain ⟨E, HE⟩ : ∃ E, Hid (pushE E1 E2 E3 E4 E5 = E) := ⟨_, rfl⟩
  rw [HE.out]
  have Ho1 := Lib.hid o1
  have Ho2 := Lib.hid o2
  have Ho3 := Lib.hid o3
  have Ho4 := Lib.hid o4
  have Ho5 := Lib.hid o5
  have Hq : Hid (prev ≤ 1000000 ∧ 0 < a ∧ a < 131072 ∧ S.C.phase = 0 ∧ (A1.add a).used 0 = false ∧ S.wh < 2 ∧ S.ep < 1000000 ∧ RootsOk (S.ws.set nm a) ∧ nm < 8) := ⟨hprev2, ha0, ha2, hp0, hu0, hwh, hep, hro, hnm⟩
  have HE2 := Lib.hid hE2
  have HE3 := Lib.hid hE3
  have HE4 := Lib.hid hE4
  have HE5 := Lib.hid hE5
  have Hg8 : Hid (((S.rg.set 9 prev).set 8 a).getD 8 0 = a) := by
    have := h.rg
    have e : ((S.rg.set 9 prev).set 8 a).getD 8 0 = a := by simp [List.getD_eq_getElem?_getD, this]
    exact e
  have Hg9 : Hid (((S.rg.set 9 prev).set 8 a).getD 9 0 = prev) := by
    have := h.rg
    have e : ((S.rg.set 9 prev).set 8 a).getD 9 0 = prev := by simp [List.getD_eq_getElem?_getD, this]
    exact e
  clear h hn hpb hpc o1 hR o2 o3 o4 o5 hE1 hE2 hE3 hE4 hE5 hprev2 ha0 ha2 ha hp0 hu0 hwh hep hro hprev hws hK1
  go_enter_defers Tryz.func8, Tryz.ntmps8
  go_wp2_with fail
  go_region_held3 (fun W => W.cell? ⟨pp, 0, none⟩ = some (.pointer (some ⟨hp, 0, none⟩)) ∧ W.cell? ⟨pp, 1, none⟩ = some (.int .i64 nm))
    (first | exact ⟨x0, x1⟩ | exact ⟨HP2.out.cell 0, HP2.out.cell 1⟩ | exact ⟨HP3.out.cell 0, HP3.out.cell 1⟩)
    (first
      | (go_at_call 28; refine (HR w).out.mono ?_; rintro e w2 ⟨rfl, hb2⟩; have HP2 : Hid (Blk w2 pp 68 #[.pointer (some ⟨hp, 0, none⟩), .int .i64 nm]) := HP.out.below hb2 HP.out.lt; have HB2 := Lib.hid hb2; clear hb2)
      | (go_at_call 27; refine (Hroot.out _ HB2.out).mono ?_; rintro e w3 ⟨rfl, hX3, hM3⟩; have HX3 := Lib.hid hX3; have HP3 := Lib.hid (hM3.blk HP2.out HC.out.2.2.2.1); have HM3 : Hid (Mod w w3 (fun k => hcol (col k))) := Mod.trans (mod_b HB2.out : Mod w w2 (fun k => hcol (col k))) hM3 (fun k _ e => by rw [e, HC.out.2.1]; exact .inl (by omega)); clear hX3 hM3))
  have x0 : w3.cell? ⟨pp, 0, none⟩ = some (.pointer (some ⟨hp, 0, none⟩)) := HP3.out.cell 0
  clear Hroot HX HP2 HB2 HP
  go_wp2_with fail
  have Hz3 : Hid (w.heap.size ≤ w3.heap.size) := HM3.out.size
  go_region_held3 (fun W => W.cell? ⟨pp, 0, none⟩ = some (.pointer (some ⟨hp, 0, none⟩)))
    (first | exact x0 | exact HP4.out.cell 0 | exact HP5.out.cell 0)
    (first
      | (go_at_call 29; refine (HT w3).out.mono ?_; rintro e w4 ⟨rfl, hb4⟩; have HP4 : Hid (Blk w4 pp 68 #[.pointer (some ⟨hp, 0, none⟩), .int .i64 nm]) := HP3.out.below hb4 HP3.out.lt; have HB4 := Lib.hid hb4; have HX4 : Hid (HeapX w4 B b m s col hp al mp us fr rt hl ca sh { S with rg := S.rg.set 9 prev }) := HX3.out.below hb4; clear hb4)
      | (go_at_call 20; refine (Hal.out _ HX4.out (Nat.le_trans Hz3.out HB4.out.size)).mono ?_; rintro e w5 ⟨rfl, hX5, hM5⟩; have HX5 := Lib.hid hX5; have HP5 := Lib.hid (hM5.blk HP4.out HPC.out); have HM5 : Hid (Mod w w5 (fun k => hcol (col k))) := Mod.trans HM3.out (Mod.trans (mod_b HB4.out : Mod w3 w4 (fun k => hcol (col k))) hM5 (fun k _ h => h)) (fun k _ h => h); clear hX5 hM5))
  have x0 : w5.cell? ⟨pp, 0, none⟩ = some (.pointer (some ⟨hp, 0, none⟩)) := HP5.out.cell 0
  have Hz4 : Hid (w.heap.size ≤ w4.heap.size) := Nat.le_trans Hz3.out HB4.out.size
  clear Hal HX3 HP4 HB4 HP3 HX4
  cases hE : E1.2 with
  | false =>
    rw [show ecode false = 3 from rfl]
    have Hf := Lib.hid hE
    have HD5 : Hid (HeapD w5 B b m E1.1 hp) := by
      rcases HX5.out with ⟨h1, _⟩ | ⟨_, h1⟩
      · rw [h1] at hE; cases hE
      · exact h1
    have hEE : E = E1 := by rw [← HE.out]; simp only [pushE, hE]; rfl
    have HEE := Lib.hid hEE
    clear hE hEE
    go_wp2_with fail
    refine leaves_cons (f := 26) (args := #[.pointer (some ⟨pp, 0, none⟩)]) (by simp) (by simp [go_sem]) ?_
    refine (pleave_dead B b m E1.1 hp pp nm S w5 HD5.out HP5.out HC.out.2.2.2.1).mono ?_
    rintro e u' w6 ⟨rfl, ⟨v6, rfl⟩, hD6, hM6⟩
    refine ⟨_, results_tmp rfl _ _ _, by rw [HEE.out, Hf.out]; rfl, by rw [HEE.out]; exact .inr ⟨Hf.out, hD6⟩, HM5.out.trans hM6 (fun k _ e => by rw [e, HC.out.2.1]; exact .inl (by omega))⟩
  | true =>
    rw [show ecode true = 0 from rfl]
    have Hf1 := Lib.hid hE
    obtain ⟨col1, hc1, hn1, S2, hX5, hS2⟩ : ∃ col', (∀ k, k < w4.heap.size → col' k = col k) ∧ (∀ k, w5.heap.size ≤ k → col' k = 9) ∧ ∃ S2, HeapX w5 B b m E1.1 col' hp al mp us fr rt hl ca sh S2 ∧ PS S S2 (A1.add a) ((S.rg.set 9 prev).set 8 a) S.ws := by
      rcases HX5.out with ⟨_, h1⟩ | ⟨h1, _⟩
      · obtain ⟨col', h2, h3, st, h4⟩ := h1
        exact ⟨col', h2, h3, _, h4, rfl, rfl, rfl, rfl, rfl, rfl⟩
      · rw [h1] at hE; cases hE
    have HX5 := Lib.hid hX5
    have HS2 := Lib.hid hS2
    have HC1 : Hid ((∀ k, k < w.heap.size → col1 k = col k) ∧ (∀ k, w5.heap.size ≤ k → col1 k = 9) ∧ ¬ hcol (col1 pp)) := ⟨fun k hk => hc1 k (Nat.lt_of_lt_of_le hk Hz4.out), hn1, by rw [hc1 pp (Nat.lt_of_lt_of_le HC.out.2.2.2.2 Hz4.out)]; exact HPC.out⟩
    have Hst : Hid (∀ wr, HeapX wr B b m E1.1 col1 hp al mp us fr rt hl ca sh S2 → w5.heap.size ≤ wr.heap.size → Calls Tryz.prog 30 #[.pointer (some ⟨hp, 0, none⟩), .agg #[.int .i64 1, .int .i64 0], .int .i64 0, .agg #[.int .i64 1, .int .i64 1]] wr fun e w' => e = .returned (.int .i64 (ecode E2.2)) ∧ (∃ S3, HOutX w' B b m E2 col1 hp al mp us fr rt hl ca sh S3 ∧ PS S S3 (A1.add a) ((S.rg.set 9 prev).set 8 a) S.ws) ∧ Mod wr w' (fun k => hcol (col1 k))) := by
      intro wr hX hz
      obtain ⟨q1, q2, q3, q4, q5, q6⟩ := HS2.out
      obtain ⟨g1, g2, g3⟩ := Ho1.out hE
      have := hstore_any B b m E1.1 col1 hp al mp us fr rt hl ca sh 1 0 1 1 a prev (E1.1.C.getD (a + 1) 0) S2 wr hX (fun k hk => HC1.out.2.1 k (by omega)) (by omega) (by omega) (by omega) (by omega) (by rw [q5]; exact Hg8.out) Hq.out.2.1 (by rw [q5]; exact Hg9.out) Hq.out.1 g1 rfl g2 (by rw [q6]; exact Hq.out.2.2.2.1) (by rw [q1]; exact g3) (by rw [q1]; exact Hq.out.2.2.2.2.1)
      rw [HE2.out] at this
      refine this.mono ?_
      rintro e w' ⟨rfl, ⟨st, st2, hO⟩, hM⟩
      exact ⟨rfl, ⟨_, hO, q1, q2, q3, q4, q5, q6⟩, hM⟩
    have HXb : Hid (∀ wr, Below w5.heap.size w5 wr → HeapX wr B b m E1.1 col1 hp al mp us fr rt hl ca sh S2) := fun wr hb => HX5.out.below hb
    clear hE hX5 hS2 hc1 hn1
    go_wp2_with fail
    go_region_held3 (fun W => W.cell? ⟨pp, 0, none⟩ = some (.pointer (some ⟨hp, 0, none⟩)))
      (first | exact x0 | exact HP6.out.cell 0 | exact HP7.out.cell 0 | exact HP8.out.cell 0)
      (first
        | (go_at_call 29; refine (HT w5).out.mono ?_; rintro e w6 ⟨rfl, hb6⟩; have HP6 : Hid (Blk w6 pp 68 #[.pointer (some ⟨hp, 0, none⟩), .int .i64 nm]) := HP5.out.below hb6 HP5.out.lt; have HB6 := Lib.hid hb6; have HR7 : Hid (Calls Tryz.prog 28 #[] w6 fun e w' => e = .returned (.agg #[.int .i64 1, .int .i64 1]) ∧ Below w6.heap.size w6 w') := pname_any 28 1 w6 (.inr ⟨rfl, rfl⟩); clear hb6)
        | (go_at_call 28; refine HR7.out.mono ?_; rintro e w7 ⟨rfl, hb7⟩; have HP7 : Hid (Blk w7 pp 68 #[.pointer (some ⟨hp, 0, none⟩), .int .i64 nm]) := HP6.out.below hb7 HP6.out.lt; have HB7 : Hid (Below w5.heap.size w5 w7) := HB6.out.trans (hb7.mono HB6.out.size); clear hb7)
        | (go_at_call 30; refine (Hst.out _ (HXb.out _ HB7.out) HB7.out.size).mono ?_; rintro e w8 ⟨rfl, ⟨S3, hX8, hS3⟩, hM8⟩; have HX8 := Lib.hid hX8; have HS3 := Lib.hid hS3; have HZ8a : Hid (w5.heap.size ≤ w8.heap.size) := Nat.le_trans HB7.out.size hM8.size; have HP8 := Lib.hid (hM8.blk HP7.out HC1.out.2.2); have HM8 : Hid (Mod w w8 (fun k => hcol (col k))) := Mod.trans HM5.out (Mod.trans (mod_b HB7.out : Mod w5 w7 (fun k => hcol (col1 k))) hM8 (fun k _ h => h)) (fun k hk h => by rw [← HC1.out.1 k hk]; exact h); clear hX8 hM8 hS3))
    have x0 : w8.cell? ⟨pp, 0, none⟩ = some (.pointer (some ⟨hp, 0, none⟩)) := HP8.out.cell 0
    have HZ8 : Hid (w5.heap.size ≤ w8.heap.size) := by
      have h1 := HM8.out.size
      exact HZ8a.out
    clear Hst HXb HR7 HP6 HP7 HB6 HB7 HP5 HM5
    cases hE : E2.2 with
    | false =>
      rw [show ecode false = 3 from rfl]
      have Hf := Lib.hid hE
      have HDd : Hid (HeapD w8 B b m E2.1 hp) := by
        rcases HX8.out with ⟨h1, _⟩ | ⟨_, h1⟩
        · rw [h1] at hE; cases hE
        · exact h1
      have hEE : E = E2 := by rw [← HE.out]; simp only [pushE, Hf1.out, hE]; rfl
      have HEE := Lib.hid hEE
      clear hE hEE
      go_wp2_with fail
      refine leaves_cons (f := 26) (args := #[.pointer (some ⟨pp, 0, none⟩)]) (by simp) (by simp [go_sem]) ?_
      refine (pleave_dead B b m E2.1 hp pp nm S w8 HDd.out HP8.out HC.out.2.2.2.1).mono ?_
      rintro e u' w9 ⟨rfl, ⟨v6, rfl⟩, hD6, hM6⟩
      refine ⟨_, results_tmp rfl _ _ _, by rw [HEE.out, Hf.out]; rfl, by rw [HEE.out]; exact .inr ⟨Hf.out, hD6⟩, HM8.out.trans hM6 (fun k _ e => by rw [e, HC.out.2.1]; exact .inl (by omega))⟩
    | true =>
      rw [show ecode true = 0 from rfl]
      have Hf2 := Lib.hid hE
      have HY2 : Hid (HeapX w8 B b m E2.1 col1 hp al mp us fr rt hl ca sh S3) := by
        rcases HX8.out with ⟨_, h1⟩ | ⟨h1, _⟩
        · exact h1
        · rw [h1] at hE; cases hE
      have HXb2 : Hid (∀ wr, Below w8.heap.size w8 wr → HeapX wr B b m E2.1 col1 hp al mp us fr rt hl ca sh S3) := fun wr hb => HY2.out.below hb
      clear hE HX8
      have Hsd : Hid (∀ wr, HeapX wr B b m E2.1 col1 hp al mp us fr rt hl ca sh S3 → Calls Tryz.prog 31 #[.pointer (some ⟨hp, 0, none⟩), .agg #[.int .i64 1, .int .i64 0], .int .i64 0, .int .u64 v] wr fun e w' => e = .returned (.int .i64 (ecode E3.2)) ∧ HOutX w' B b m E3 col1 hp al mp us fr rt hl ca sh S3 ∧ Mod wr w' (fun k => hcol (col1 k))) := by
        intro wr hX
        obtain ⟨q1, q2, q3, q4, q5, q6⟩ := HS3.out
        have := hsetdata_any B b m E2.1 col1 hp al mp us fr rt hl ca sh 1 0 a v S3 wr hX (by omega) (by omega) (by rw [q5]; exact Hg8.out) Hq.out.2.1 (Ho2.out Hf1.out Hf2.out)
        rw [HE3.out] at this
        exact this
      go_wp2_with fail
      go_region_held3 (fun W => W.cell? ⟨pp, 0, none⟩ = some (.pointer (some ⟨hp, 0, none⟩)))
        (first | exact x0 | exact HP9.out.cell 0 | exact HP10.out.cell 0)
        (first
          | (go_at_call 29; refine (HT w8).out.mono ?_; rintro e w9 ⟨rfl, hb9⟩; have HP9 : Hid (Blk w9 pp 68 #[.pointer (some ⟨hp, 0, none⟩), .int .i64 nm]) := HP8.out.below hb9 HP8.out.lt; have HB9 := Lib.hid hb9; clear hb9)
          | (go_at_call 31; refine (Hsd.out _ (HXb2.out _ HB9.out)).mono ?_; rintro e w10 ⟨rfl, hX10, hM10⟩; have HX10 := Lib.hid hX10; have HP10 := Lib.hid (hM10.blk HP9.out HC1.out.2.2); have HZ10 : Hid (w5.heap.size ≤ w10.heap.size) := Nat.le_trans HZ8.out (Nat.le_trans HB9.out.size hM10.size); have HM10 : Hid (Mod w w10 (fun k => hcol (col k))) := Mod.trans HM8.out (Mod.trans (mod_b HB9.out : Mod w8 w9 (fun k => hcol (col1 k))) hM10 (fun k _ h => h)) (fun k hk h => by rw [← HC1.out.1 k hk]; exact h); clear hX10 hM10))
      have x0 : w10.cell? ⟨pp, 0, none⟩ = some (.pointer (some ⟨hp, 0, none⟩)) := HP10.out.cell 0
      clear Hsd HXb2 HY2 HP9 HB9 HP8 HM8 HZ8
      cases hE : E3.2 with
      | false =>
        rw [show ecode false = 3 from rfl]
        have Hf := Lib.hid hE
        have HDd : Hid (HeapD w10 B b m E3.1 hp) := by
          rcases HX10.out with ⟨h1, _⟩ | ⟨_, h1⟩
          · rw [h1] at hE; cases hE
          · exact h1
        have hEE : E = E3 := by rw [← HE.out]; simp only [pushE, Hf1.out, Hf2.out, hE]; rfl
        have HEE := Lib.hid hEE
        clear hE hEE
        go_wp2_with fail
        refine leaves_cons (f := 26) (args := #[.pointer (some ⟨pp, 0, none⟩)]) (by simp) (by simp [go_sem]) ?_
        refine (pleave_dead B b m E3.1 hp pp nm S w10 HDd.out HP10.out HC.out.2.2.2.1).mono ?_
        rintro e u' w11 ⟨rfl, ⟨v6, rfl⟩, hD6, hM6⟩
        refine ⟨_, results_tmp rfl _ _ _, by rw [HEE.out, Hf.out]; rfl, by rw [HEE.out]; exact .inr ⟨Hf.out, hD6⟩, HM10.out.trans hM6 (fun k _ e => by rw [e, HC.out.2.1]; exact .inl (by omega))⟩
      | true =>
        rw [show ecode true = 0 from rfl]
        have Hf3 := Lib.hid hE
        have HY3 : Hid (HeapX w10 B b m E3.1 col1 hp al mp us fr rt hl ca sh S3) := by
          rcases HX10.out with ⟨_, h1⟩ | ⟨h1, _⟩
          · exact h1
          · rw [h1] at hE; cases hE
        have HXb3 : Hid (∀ wr, Below w10.heap.size w10 wr → HeapX wr B b m E3.1 col1 hp al mp us fr rt hl ca sh S3) := fun wr hb => HY3.out.below hb
        clear hE HX10
        have Hpe : Hid (∀ wr, HeapX wr B b m E3.1 col1 hp al mp us fr rt hl ca sh S3 → Calls Tryz.prog 32 #[.pointer (some ⟨hp, 0, none⟩), .agg #[.int .i64 1, .int .i64 0]] wr fun e w' => e = .returned (.int .i64 (ecode E4.2)) ∧ HOutX w' B b m E4 col1 hp al mp us fr rt hl ca sh S3 ∧ Mod wr w' (fun k => hcol (col1 k))) := by
          intro wr hX
          obtain ⟨q1, q2, q3, q4, q5, q6⟩ := HS3.out
          have := hpersist_any B b m E3.1 col1 hp al mp us fr rt hl ca sh 1 0 a 1 1 S3 wr hX (by omega) (by omega) (by rw [q5]; exact Hg8.out) Hq.out.2.1 (Ho3.out Hf1.out Hf2.out Hf3.out)
          rw [HE4.out] at this
          exact this
        go_wp2_with fail
        go_region_held3 (fun W => W.cell? ⟨pp, 0, none⟩ = some (.pointer (some ⟨hp, 0, none⟩)))
          (first | exact x0 | exact HP11.out.cell 0 | exact HP12.out.cell 0)
          (first
            | (go_at_call 29; refine (HT w10).out.mono ?_; rintro e w11 ⟨rfl, hb9⟩; have HP11 : Hid (Blk w11 pp 68 #[.pointer (some ⟨hp, 0, none⟩), .int .i64 nm]) := HP10.out.below hb9 HP10.out.lt; have HB11 := Lib.hid hb9; clear hb9)
            | (go_at_call 32; refine (Hpe.out _ (HXb3.out _ HB11.out)).mono ?_; rintro e w12 ⟨rfl, hX10, hM10⟩; have HX12 := Lib.hid hX10; have HP12 := Lib.hid (hM10.blk HP11.out HC1.out.2.2); have HZ12 : Hid (w5.heap.size ≤ w12.heap.size) := Nat.le_trans HZ10.out (Nat.le_trans HB11.out.size hM10.size); have HM12 : Hid (Mod w w12 (fun k => hcol (col k))) := Mod.trans HM10.out (Mod.trans (mod_b HB11.out : Mod w10 w11 (fun k => hcol (col1 k))) hM10 (fun k _ h => h)) (fun k hk h => by rw [← HC1.out.1 k hk]; exact h); clear hX10 hM10))
        have x0 : w12.cell? ⟨pp, 0, none⟩ = some (.pointer (some ⟨hp, 0, none⟩)) := HP12.out.cell 0
        have x1 : w12.cell? ⟨pp, 1, none⟩ = some (.int .i64 nm) := HP12.out.cell 1
        clear Hpe HXb3 HY3 HP11 HB11 HP10 HM10 HZ10
        cases hE : E4.2 with
        | false =>
          rw [show ecode false = 3 from rfl]
          have Hf := Lib.hid hE
          have HDd : Hid (HeapD w12 B b m E4.1 hp) := by
            rcases HX12.out with ⟨h1, _⟩ | ⟨_, h1⟩
            · rw [h1] at hE; cases hE
            · exact h1
          have hEE : E = E4 := by rw [← HE.out]; simp only [pushE, Hf1.out, Hf2.out, Hf3.out, hE]; rfl
          have HEE := Lib.hid hEE
          clear hE hEE
          go_wp2_with fail
          refine leaves_cons (f := 26) (args := #[.pointer (some ⟨pp, 0, none⟩)]) (by simp) (by simp [go_sem]) ?_
          refine (pleave_dead B b m E4.1 hp pp nm S w12 HDd.out HP12.out HC.out.2.2.2.1).mono ?_
          rintro e u' w13 ⟨rfl, ⟨v6, rfl⟩, hD6, hM6⟩
          refine ⟨_, results_tmp rfl _ _ _, by rw [HEE.out, Hf.out]; rfl, by rw [HEE.out]; exact .inr ⟨Hf.out, hD6⟩, HM12.out.trans hM6 (fun k _ e => by rw [e, HC.out.2.1]; exact .inl (by omega))⟩
        | true =>
          rw [show ecode true = 0 from rfl]
          have Hf4 := Lib.hid hE
          have HY4 : Hid (HeapX w12 B b m E4.1 col1 hp al mp us fr rt hl ca sh S3) := by
            rcases HX12.out with ⟨_, h1⟩ | ⟨h1, _⟩
            · exact h1
            · rw [h1] at hE; cases hE
          have HXb4 : Hid (∀ wr, Below w12.heap.size w12 wr → HeapX wr B b m E4.1 col1 hp al mp us fr rt hl ca sh S3) := fun wr hb => HY4.out.below hb
          clear hE HX12
          have Hsr : Hid (∀ wr, HeapX wr B b m E4.1 col1 hp al mp us fr rt hl ca sh S3 → w5.heap.size ≤ wr.heap.size → Calls Tryz.prog 33 #[.pointer (some ⟨hp, 0, none⟩), .int .i64 nm, .agg #[.int .i64 1, .int .i64 0]] wr fun e w' => e = .returned (.int .i64 0) ∧ (∃ S4, HeapX w' B b m E4.1 col1 hp al mp us fr rt hl ca sh S4 ∧ PS S S4 (A1.add a) ((S.rg.set 9 prev).set 8 a) (S.ws.set nm a)) ∧ Mod wr w' (fun k => hcol (col1 k))) := by
            intro wr hX hz
            obtain ⟨q1, q2, q3, q4, q5, q6⟩ := HS3.out
            refine (hsetroot_any B b m E4.1 col1 hp al mp us fr rt hl ca sh 1 0 nm a S3 wr hX (fun k hk => HC1.out.2.1 k (by omega)) (by omega) (by omega) Hq.out.2.2.2.2.2.2.2.2 (by rw [q5]; exact Hg8.out) Hq.out.2.2.1 (by rw [q6]; exact Hq.out.2.2.2.1)).mono ?_
            rintro e w' ⟨rfl, ⟨st, hX2⟩, hM⟩
            exact ⟨rfl, ⟨_, hX2, q1, q2, q3, by rw [q4], q5, q6⟩, hM⟩
          go_wp2_with fail
          go_region_held3 (fun W => W.cell? ⟨pp, 0, none⟩ = some (.pointer (some ⟨hp, 0, none⟩)) ∧ W.cell? ⟨pp, 1, none⟩ = some (.int .i64 nm))
            (first | exact ⟨x0, x1⟩ | exact ⟨HP13.out.cell 0, HP13.out.cell 1⟩ | exact ⟨HP14.out.cell 0, HP14.out.cell 1⟩)
            (first
              | (go_at_call 29; refine (HT w12).out.mono ?_; rintro e w13 ⟨rfl, hb9⟩; have HP13 : Hid (Blk w13 pp 68 #[.pointer (some ⟨hp, 0, none⟩), .int .i64 nm]) := HP12.out.below hb9 HP12.out.lt; have HB13 := Lib.hid hb9; clear hb9)
              | (go_at_call 33; refine (Hsr.out _ (HXb4.out _ HB13.out) (Nat.le_trans HZ12.out HB13.out.size)).mono ?_; rintro e w14 ⟨rfl, ⟨S4, hX10, hS4⟩, hM10⟩; have HX14 := Lib.hid hX10; have HS4 := Lib.hid hS4; have HP14 := Lib.hid (hM10.blk HP13.out HC1.out.2.2); have HZ14 : Hid (w5.heap.size ≤ w14.heap.size) := Nat.le_trans HZ12.out (Nat.le_trans HB13.out.size hM10.size); have HM14 : Hid (Mod w w14 (fun k => hcol (col k))) := Mod.trans HM12.out (Mod.trans (mod_b HB13.out : Mod w12 w13 (fun k => hcol (col1 k))) hM10 (fun k _ h => h)) (fun k hk h => by rw [← HC1.out.1 k hk]; exact h); clear hX10 hM10 hS4))
          have x0 : w14.cell? ⟨pp, 0, none⟩ = some (.pointer (some ⟨hp, 0, none⟩)) := HP14.out.cell 0
          clear Hsr HXb4 HY4 HP13 HB13 HP12 HM12 HZ12 x1
          have Hcm : Hid (Calls Tryz.prog 34 #[.pointer (some ⟨hp, 0, none⟩)] w14 fun e w' => e = .returned (.int .i64 (ecode E5.2)) ∧ (∃ S5, HOutX w' B b m E5 col1 hp al mp us fr rt hl ca sh S5 ∧ S5.A = A1.add a ∧ S5.ep = S.ep + 1 ∧ S5.wh = 1 - S.wh ∧ S5.rs = S.ws.set nm a ∧ S5.ws = S.ws.set nm a ∧ S5.C = S.C) ∧ Mod w14 w' (fun k => hcol (col1 k))) := by
            obtain ⟨q1, q2, q3, q4, q5, q6⟩ := HS4.out
            have hcs : commitS S4 = writeS (64 + (1 - S.wh) * 64) (slotEnc (S.ep + 1) (S.ws.set nm a)) := by unfold commitS; rw [q2, q3, q4]
            have hcx : exec E4.1 (commitS S4) = E5 := by rw [hcs]; exact HE5.out
            obtain ⟨j1, j2⟩ := Ho4.out Hf1.out Hf2.out Hf3.out Hf4.out
            have := hcommit_any B b m E4.1 col1 hp al mp us fr rt hl ca sh p S4 w14 HX14.out (fun k hk => HC1.out.2.1 k (Nat.le_trans HZ14.out hk)) (by rw [q3]; exact Hq.out.2.2.2.2.2.1) (by rw [q2, q3]; exact j1) (by rw [q2, q3]; exact j2) (by rw [q2]; exact Hq.out.2.2.2.2.2.2.1) (by rw [q4]; exact Hq.out.2.2.2.2.2.2.2.1) (by rw [q1]; exact Hq.out.2.2.2.2.1) (by rw [hcx, q1]; exact Ho5.out Hf1.out Hf2.out Hf3.out Hf4.out)
            rw [hcx] at this
            refine this.mono ?_
            rintro e w' ⟨rfl, hO, hM⟩
            refine ⟨rfl, ?_, hM⟩
            rcases hO with ⟨h1, st, h2⟩ | ⟨h1, h2⟩
            · exact ⟨_, .inl ⟨h1, h2⟩, q1, by show S4.ep + 1 = S.ep + 1; rw [q2], by show 1 - S4.wh = 1 - S.wh; rw [q3], q4, q4, q6⟩
            · exact ⟨{ S4 with ep := S.ep + 1, wh := 1 - S.wh, rs := S.ws.set nm a }, .inr ⟨h1, h2⟩, q1, rfl, rfl, rfl, q4, q6⟩
          have hEE : E = E5 := by rw [← HE.out]; simp only [pushE, Hf1.out, Hf2.out, Hf3.out, Hf4.out]; rfl
          have HEE := Lib.hid hEE
          clear hEE
          go_wp2_with fail
          refine Hcm.out.mono ?_
          rintro e w15 ⟨rfl, ⟨S5, hO, hS5⟩, hM⟩
          have HO15 := Lib.hid hO
          have HS5 := Lib.hid hS5
          have HP15 := Lib.hid (hM.blk HP14.out HC1.out.2.2)
          have HZ15 : Hid (w5.heap.size ≤ w15.heap.size) := Nat.le_trans HZ14.out hM.size
          have HM15 : Hid (Mod w w15 (fun k => hcol (col k))) := Mod.trans HM14.out hM (fun k hk h => by rw [← HC1.out.1 k hk]; exact h)
          clear hO hS5 hM Hcm HX14 HM14 x0
          go_wp2_with fail
          refine leaves_cons (f := 26) (args := #[.pointer (some ⟨pp, 0, none⟩)]) (by simp) (by simp [go_sem]) ?_
          refine (pleave_any .returning B b m E5 col1 hp al mp us fr rt hl ca sh pp nm S5 w15 HO15.out (fun k hk => HC1.out.2.1 k (Nat.le_trans HZ15.out hk)) HP15.out HC.out.2.2.2.1).mono ?_
          rintro e u' w16 ⟨rfl, ⟨v6, rfl⟩, hO6, hM6⟩
          refine ⟨_, results_tmp rfl _ _ _, by rw [HEE.out]; rfl, ?_, HM15.out.trans hM6 (fun k _ e => by rw [e, HC.out.2.1]; exact .inl (by omega))⟩
          rw [HEE.out]
          rcases hO6 with ⟨h1, h2⟩ | ⟨h1, h2⟩
          · exact .inl ⟨h1, col1, _, HC1.out.1, fun k hk => HC1.out.2.1 k (Nat.le_trans HZ15.out (Nat.le_trans hM6.size hk)), h2, HS5.out⟩
          · exact .inr ⟨h1, h2⟩
end Go.Proofs.YtcnjipicifkfjaaGreat

/- Plain law: a push in its phases, and what it may leave. -/
namespace Go.Proofs.YtcnjipicifkfjaaGreat
open Go.RowKit
set_option linter.unusedVariables false
set_option linter.unusedSimpArgs false

def prevN (n : Nat) : Nat := if n = 0 then 0 else adr n
/-- All steps of a push. -/
def pushS (n v : Nat) : List Step :=
  roomSt n ++ (phaseS (pushP (adr (n + 1)) (prevN n) v) (adr (n + 1) / 8) ((adr (n + 1) + 3 - 1) / 8 + 1 - adr (n + 1) / 8) ++ writeS (64 + (1 - n % 2) * 64) (slotEnc (n + 2) (rootsL (n + 1))))
theorem pushE_all (s : DS) (x b c d e : List Step) (E1 E2 E3 E4 E5 : DS × Bool) (h1 : exec s x = E1) (h2 : exec E1.1 b = E2) (h3 : exec E2.1 c = E3) (h4 : exec E3.1 d = E4) (h5 : exec E4.1 e = E5) :
    pushE E1 E2 E3 E4 E5 = exec s (x ++ (b ++ (c ++ (d ++ e)))) := by
  rw [exec_append s x, h1]
  unfold pushE
  cases E1.2 with
  | false => rfl
  | true =>
    rw [if_pos rfl, if_pos rfl, exec_append E1.1 b, h2]
    cases E2.2 with
    | false => rfl
    | true =>
      rw [if_pos rfl, if_pos rfl, exec_append E2.1 c, h3]
      cases E3.2 with
      | false => rfl
      | true =>
        rw [if_pos rfl, if_pos rfl, exec_append E3.1 d, h4]
        cases E4.2 with
        | false => rfl
        | true => rw [if_pos rfl, if_pos rfl, h5]
theorem phaseS_push (a prev v : Nat) : phaseS (pushP a prev v) (a / 8) ((a + 3 - 1) / 8 + 1 - a / 8) = initS a 1 1 ++ ([.st (a + 1) prev] ++ ([.st (a + 2) v] ++ persistS a (1 + 1 + 1))) := rfl
theorem pushS_eq (n v : Nat) : pushS n v = (roomSt n ++ initS (adr (n + 1)) 1 1) ++ ([.st (adr (n + 1) + 1) (prevN n)] ++ ([.st (adr (n + 1) + 2) v] ++ (persistS (adr (n + 1)) (1 + 1 + 1) ++ writeS (64 + (1 - n % 2) * 64) (slotEnc (n + 2) (rootsL (n + 1)))))) := by
  unfold pushS
  rw [phaseS_push]
  simp only [List.append_assoc]
theorem room_phase {s : DS} {m n : Nat} (h : Rest s m) (hm : 33 ≤ m) :
    ((exec s (roomSt n)).2 = true → Rest (exec s (roomSt n)).1 m ∧ (exec s (roomSt n)).1.C = cR s.C (roomP n)) ∧
    ((exec s (roomSt n)).2 = false → n = 0 ∧ ∃ t, Ph (exec s (roomSt n)).1 m s.C (cR s.C ([(257, hword 1 1 1)].take t)) (fun l => 32 ≤ l ∧ l < 32 + 1)) := by
  unfold roomSt roomP
  by_cases h0 : n = 0
  · rw [if_pos h0, if_pos h0]
    have e : putS 1 1 1 = phaseS [(257, hword 1 1 1)] 32 1 := rfl
    rw [e]
    obtain ⟨a1, a2⟩ := phase h [(257, hword 1 1 1)] 32 1 (by omega) (by
      intro p hp
      simp only [List.mem_cons, List.not_mem_nil, or_false] at hp
      subst hp
      simp only
      omega)
    refine ⟨a1, fun hf => ⟨h0, ?_⟩⟩
    obtain ⟨t, _, h2⟩ := a2 hf
    exact ⟨t, h2⟩
  · rw [if_neg h0, if_neg h0]
    exact ⟨fun _ => ⟨h, rfl⟩, fun e => by cases e⟩
theorem obj_phase {s : DS} {m n v : Nat} (h : Rest s m) (hm : adr (n + 1) + 3 ≤ 8 * m) :
    ((exec s (phaseS (pushP (adr (n + 1)) (prevN n) v) (adr (n + 1) / 8) ((adr (n + 1) + 3 - 1) / 8 + 1 - adr (n + 1) / 8))).2 = true → Rest (exec s (phaseS (pushP (adr (n + 1)) (prevN n) v) (adr (n + 1) / 8) ((adr (n + 1) + 3 - 1) / 8 + 1 - adr (n + 1) / 8))).1 m ∧ (exec s (phaseS (pushP (adr (n + 1)) (prevN n) v) (adr (n + 1) / 8) ((adr (n + 1) + 3 - 1) / 8 + 1 - adr (n + 1) / 8))).1.C = cR s.C (pushP (adr (n + 1)) (prevN n) v)) ∧
    ((exec s (phaseS (pushP (adr (n + 1)) (prevN n) v) (adr (n + 1) / 8) ((adr (n + 1) + 3 - 1) / 8 + 1 - adr (n + 1) / 8))).2 = false → ∃ t T, Ph (exec s (phaseS (pushP (adr (n + 1)) (prevN n) v) (adr (n + 1) / 8) ((adr (n + 1) + 3 - 1) / 8 + 1 - adr (n + 1) / 8))).1 m s.C (cR s.C ((pushP (adr (n + 1)) (prevN n) v).take t)) T) := by
  generalize adr (n + 1) = a at *
  obtain ⟨a1, a2⟩ := phase h (pushP a (prevN n) v) (a / 8) ((a + 3 - 1) / 8 + 1 - a / 8) (by omega) (by
    intro p hp
    simp only [pushP, List.mem_cons, List.not_mem_nil, or_false] at hp
    rcases hp with rfl | rfl | rfl | rfl | rfl <;> simp only <;> omega)
  refine ⟨a1, fun hf => ?_⟩
  obtain ⟨t, _, h2⟩ := a2 hf
  exact ⟨t, _, h2⟩
theorem slot_phase {s : DS} {m n : Nat} (h : Rest s m) (hm : 64 ≤ m) :
    ((exec s (writeS (64 + (1 - n % 2) * 64) (slotEnc (n + 2) (rootsL (n + 1))))).2 = true → Rest (exec s (writeS (64 + (1 - n % 2) * 64) (slotEnc (n + 2) (rootsL (n + 1))))).1 m ∧ (exec s (writeS (64 + (1 - n % 2) * 64) (slotEnc (n + 2) (rootsL (n + 1))))).1.C = cR s.C (slotP (64 + (1 - n % 2) * 64) (slotEnc (n + 2) (rootsL (n + 1))))) ∧
    ((exec s (writeS (64 + (1 - n % 2) * 64) (slotEnc (n + 2) (rootsL (n + 1))))).2 = false → ∃ t, t ≤ 16 ∧ ∃ T, Ph (exec s (writeS (64 + (1 - n % 2) * 64) (slotEnc (n + 2) (rootsL (n + 1))))).1 m s.C (cR s.C ((slotP (64 + (1 - n % 2) * 64) (slotEnc (n + 2) (rootsL (n + 1)))).take t)) T) := by
  obtain ⟨a, ha⟩ : ∃ a, 64 + (1 - n % 2) * 64 = a := ⟨_, rfl⟩
  rw [ha, writeS_phase]
  have hps : ∀ p ∈ slotP a (slotEnc (n + 2) (rootsL (n + 1))), a / 8 ≤ p.1 / 8 ∧ p.1 / 8 < a / 8 + ((a + 16 - 1) / 8 + 1 - a / 8) := fun p hp => by
    obtain ⟨h1, h2, _⟩ := slotP_val _ _ _ hp
    omega
  obtain ⟨a1, a2⟩ := phase h (slotP a (slotEnc (n + 2) (rootsL (n + 1)))) (a / 8) ((a + 16 - 1) / 8 + 1 - a / 8) (by omega) hps
  refine ⟨a1, fun hf => ?_⟩
  obtain ⟨t, h1, h2⟩ := a2 hf
  exact ⟨t, h1, _, h2⟩
theorem pushP_part_out (a prev v j t : Nat) (C : List Nat) (h : j < a ∨ a + 2 < j) : (cR C ((pushP a prev v).take t)).getD j 0 = C.getD j 0 :=
  cR_out _ _ _ (fun p hp e => by
    have hp := List.mem_of_mem_take hp
    simp only [pushP, List.mem_cons, List.not_mem_nil, or_false] at hp
    rcases hp with rfl | rfl | rfl | rfl | rfl <;> simp only at e <;> omega)
/-- What a push leaves: the words behind it, or images that lead to either pile. -/
def Either (I : List Nat) (K id n : Nat) (vs : List Nat) (v : Nat) : Prop :=
  (∃ c, IW I K id n (n + 1) (n % 2) vs c) ∨ (∃ c, IW I K id (n + 1) (n + 2) ((n + 1) % 2) (vs ++ [v]) c)
theorem push_fin {s : DS} {K id n v : Nat} {vs : List Nat} (h : Rest s (K * 64)) (hp : PW s.C K id n vs) (hv : vs.length = n) (hn : n < 100) (hK3 : 3 ≤ K) (hK4 : K ≤ 4) :
    ((exec s (pushS n v)).2 = true → Rest (exec s (pushS n v)).1 (K * 64) ∧ (exec s (pushS n v)).1.C = pushC s.C n v) ∧
    ∀ cs, Either (crashTo (exec s (pushS n v)).1 (dirtyL (exec s (pushS n v)).1.D (K * 64)) cs (dirtyL (exec s (pushS n v)).1.D (K * 64)).length) K id n vs v := by
  have hl := hp.len
  have hadr : ∀ t, adr t = 509 + 3 * t := fun _ => rfl
  obtain ⟨r1, r2⟩ := room_phase (n := n) h (by omega)
  unfold pushS
  rw [exec_append s (roomSt n)]
  cases hr : (exec s (roomSt n)).2 with
  | false =>
    rw [if_neg (by simp)]
    refine ⟨fun e => (by rw [hr] at e; cases e), fun cs => .inl ?_⟩
    obtain ⟨h0, t, hPh⟩ := r2 hr
    obtain ⟨ch, hI⟩ := crash_img hPh cs _ (Nat.le_refl _)
    refine hp.iw_old (by omega) hK3 hK4 hI.len (fun j h1 h2 => ?_) (fun _ => ?_)
    · rw [hI.at_ j]
      split
      · exact cR_out _ _ _ (fun p hp e => by
          have := List.mem_of_mem_take hp
          simp only [List.mem_cons, List.not_mem_nil, or_false] at this
          subst this
          exact h2 h0 e.symm)
      · rfl
    · have hC : s.C.getD 257 0 = hword 1 0 0 := by
        have := hp.hdr 1 (by omega) (by omega)
        rw [if_neg (by omega)] at this
        exact this
      rw [hI.at_ 257]
      split
      · rcases cR_or ([(257, hword 1 1 1)].take t) 257 s.C with e | ⟨p, hp2, e1, e2⟩
        · right; rw [e]; exact hC
        · left
          have := List.mem_of_mem_take hp2
          simp only [List.mem_cons, List.not_mem_nil, or_false] at this
          subst this
          exact e2
      · exact .inr hC
  | true =>
    rw [if_pos rfl]
    obtain ⟨hR1, hC1⟩ := r1 hr
    generalize (exec s (roomSt n)).1 = u at *
    obtain ⟨o1, o2⟩ := obj_phase (v := v) (n := n) hR1 (by rw [hadr]; omega)
    rw [exec_append u]
    cases ho : (exec u (phaseS (pushP (adr (n + 1)) (prevN n) v) (adr (n + 1) / 8) ((adr (n + 1) + 3 - 1) / 8 + 1 - adr (n + 1) / 8))).2 with
    | false =>
      rw [if_neg (by simp)]
      refine ⟨fun e => (by rw [ho] at e; cases e), fun cs => .inl ?_⟩
      obtain ⟨t, T, hPh⟩ := o2 ho
      obtain ⟨ch, hI⟩ := crash_img hPh cs _ (Nat.le_refl _)
      have hg := adr_ge (n + 1)
      have hout : ∀ j, (j < adr (n + 1) ∨ adr (n + 1) + 2 < j) → (crashTo (exec u (phaseS (pushP (adr (n + 1)) (prevN n) v) (adr (n + 1) / 8) ((adr (n + 1) + 3 - 1) / 8 + 1 - adr (n + 1) / 8))).1 (dirtyL (exec u (phaseS (pushP (adr (n + 1)) (prevN n) v) (adr (n + 1) / 8) ((adr (n + 1) + 3 - 1) / 8 + 1 - adr (n + 1) / 8))).1.D (K * 64)) cs (dirtyL (exec u (phaseS (pushP (adr (n + 1)) (prevN n) v) (adr (n + 1) / 8) ((adr (n + 1) + 3 - 1) / 8 + 1 - adr (n + 1) / 8))).1.D (K * 64)).length).getD j 0 = if n = 0 ∧ j = 257 then hword 1 1 1 else s.C.getD j 0 := fun j hj => by
        rw [hI.at_ j, pushP_part_out _ _ _ j t _ hj, ite_self, hC1, roomP_at n j _ (by omega)]
      refine hp.iw_old (by omega) hK3 hK4 hI.len (fun j h1 h2 => ?_) (fun h0 => .inl ?_)
      · rw [hout j h1, if_neg (fun x => h2 x.1 x.2)]
      · rw [hout 257 (by omega), if_pos ⟨h0, rfl⟩]
    | true =>
      rw [if_pos rfl]
      obtain ⟨hR2, hC2⟩ := o1 ho
      generalize (exec u (phaseS (pushP (adr (n + 1)) (prevN n) v) (adr (n + 1) / 8) ((adr (n + 1) + 3 - 1) / 8 + 1 - adr (n + 1) / 8))).1 = q at *
      have hmid : q.C = midC s.C n v := by rw [hC2, hC1]; rfl
      obtain ⟨w1, w2⟩ := slot_phase (n := n) hR2 (by omega)
      refine ⟨fun e => ?_, fun cs => ?_⟩
      · obtain ⟨a1, a2⟩ := w1 e
        exact ⟨a1, by rw [a2, hmid, pushC_mid]⟩
      · cases hw : (exec q (writeS (64 + (1 - n % 2) * 64) (slotEnc (n + 2) (rootsL (n + 1))))).2 with
        | true =>
          obtain ⟨a1, a2⟩ := w1 hw
          right
          obtain ⟨d1, d2⟩ := crash_rest a1 cs
          rw [d1, d2, a2, hmid, ← pushC_mid]
          exact ⟨_, (hp.step v hv hn hK3 hK4).iw (by omega)⟩
        | false =>
          obtain ⟨t, ht, T, hPh⟩ := w2 hw
          rw [hmid] at hPh
          obtain ⟨ch, hI⟩ := crash_img hPh cs _ (Nat.le_refl _)
          exact hp.iw_slot v t hv hn hK3 hK4 ht ch T hI
end Go.Proofs.YtcnjipicifkfjaaGreat
