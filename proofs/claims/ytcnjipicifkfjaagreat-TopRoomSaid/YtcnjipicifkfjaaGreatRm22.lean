/- free: Remove. -/
import Derived.Test.YtcnjipicifkfjaaGreatRm21
import Derived.Test.YtcnjipicifkfjaaGreatRm09
import Derived.Test.YtcnjipicifkfjaaGreatRm19
import Derived.Test.YtcnjipicifkfjaaGreatRm20

namespace Go.Proofs.YtcnjipicifkfjaaGreat
open Go.RowKit
set_option linter.unusedVariables false
set_option linter.unusedSimpArgs false

section
variable {w w1 w2 : World} {F : Nat → Prop} {f k : Nat} {glob : List Nat} {cs : Nat → List Nat} {mb : Nat} {A : Option Addr} {cap : Nat} {fm : Nat × Nat → Option Value} {ad : Nat → Option Addr} {cp : Nat → Nat}
theorem FreeX.g_ne (h : FreeX w F f k glob cs mb A cap fm ad cp) : ∀ a, A = some a → a.block ≠ f := fun a ha e => h.g.ne h.b (by decide) a ha e
theorem FreeX.c_ne (h : FreeX w F f k glob cs mb A cap fm ad cp) : ∀ m a, ad m = some a → a.block ≠ f := fun m a ha e => by
  rcases h.c m with ⟨_, _, h1, _⟩ | ⟨_, h1⟩
  · rw [h1] at ha; cases ha
  · exact h1.ne h.b (by decide) a ha e
/-- The list for all cut down where it lies. -/
theorem FreeX.cutG (h : FreeX w F f k glob cs mb A cap fm ad cp) (glob' : List Nat) (hO : Own w1 0 3 1 A glob'.length cap (ncells glob')) (hM : Mod w w1 (fun k => ∃ a, A = some a ∧ a.block = k)) :
    FreeX (w1.setCell ⟨f, k, none⟩ (.slice A glob'.length cap)) F f k glob' cs mb A cap fm ad cp ∧ Mod w (w1.setCell ⟨f, k, none⟩ (.slice A glob'.length cap)) F := by
  obtain ⟨n1, n2, n3⟩ := h.ne_fm
  have hfA : ¬ ∃ a, A = some a ∧ a.block = f := by rintro ⟨a, ha, e⟩; exact h.g_ne a ha e
  have hb1 : Blk w1 f 238 (fcells k (.slice A glob.length cap) mb) := hM.blk h.b hfA
  have hm1 := h.m.mod hM (by rintro ⟨a, ha, e⟩; exact n2 a ha e)
  have hset : (fcells k (.slice A glob.length cap) mb).setIfInBounds k (.slice A glob'.length cap) = fcells k (.slice A glob'.length cap) mb := by
    rcases fcells_set k (.slice A glob.length cap) (.slice A glob'.length cap) mb with h1 | h1
    · exact h1
    · have := h.hk; omega
  have m2 : Mod w1 (w1.setCell ⟨f, k, none⟩ (.slice A glob'.length cap)) (fun j => j = f) := Mod.set (p := ⟨f, k, none⟩) (Mod.refl w1 (fun j => j = f)) (.inr rfl) _
  refine ⟨⟨h.hk, (hb1.set_ k _).conv hset, hO.mod m2 (fun a ha => h.g_ne a ha), hm1.mod m2 (fun e => n1 e.symm), fun m => ?_, h.no, h.d1, h.d2, h.ff, h.fmb, h.fA, h.fad⟩, (hM.mono (S' := F) (by rintro j _ ⟨a, ha, rfl⟩; exact h.fA a ha)).trans m2 (fun j _ e => by rw [e]; exact h.ff)⟩
  exact ((h.c m).mod hM (fun a ha => by rintro ⟨a2, ha2, e⟩; exact h.d1 _ _ _ ha2 ha e)).mod m2 (fun a ha => h.c_ne m a ha)
/-- A mutator's own cells cut down where they lie. -/
theorem FreeX.cutC (h : FreeX w F f k glob cs mb A cap fm ad cp) (m : Nat) (l : List Nat) (hO : Own w1 0 3 1 (ad m) l.length (cp m) (ncells l)) (hM : Mod w w1 (fun k => ∃ a, ad m = some a ∧ a.block = k))
    (hm2 : MapF w2 mb slotK (putF fm (m, k) (.slice (ad m) l.length (cp m)))) (hM2 : Mod w1 w2 (fun j => j = mb)) :
    FreeX w2 F f k glob (updC cs m l) mb A cap (putF fm (m, k) (.slice (ad m) l.length (cp m))) ad cp ∧ Mod w w2 F := by
  obtain ⟨n1, n2, n3⟩ := h.ne_fm
  refine ⟨⟨h.hk, hM2.blk (hM.blk h.b (by rintro ⟨a, ha, e⟩; exact h.c_ne m a ha e)) n1, (h.g.mod hM (fun a ha => by rintro ⟨a2, ha2, e⟩; exact h.d1 _ _ _ ha ha2 e.symm)).mod hM2 n2, hm2, fun j => ?_, fun j i hi => ?_, h.d1, h.d2, h.ff, h.fmb, h.fA, h.fad⟩, (hM.mono (S' := F) (by rintro j _ ⟨a, ha, rfl⟩; exact h.fad m a ha)).trans hM2 (fun j _ e => by rw [e]; exact h.fmb)⟩
  · by_cases hj : j = m
    · subst hj
      refine .inr ⟨by simp [putF, updC], ?_⟩
      simp only [updC, if_pos rfl]
      exact hO.mod hM2 (n3 j)
    · rcases h.c j with ⟨c1, c2, c3, c4⟩ | ⟨c1, c2⟩
      · exact .inl ⟨by simp [putF, hj, c1], by simp [updC, hj, c2], c3, c4⟩
      · refine .inr ⟨by simp [putF, updC, hj, c1], ?_⟩
        simp only [updC, if_neg hj]
        exact (c2.mod hM (fun a ha => by rintro ⟨a2, ha2, e⟩; exact h.d2 _ _ _ _ hj ha ha2 e.symm)).mod hM2 (n3 j)
  · simp only [putF]
    rw [if_neg (fun e => hi (by cases e; rfl))]
    exact h.no j i hi
/-- A look into the caches: is there any? -/
theorem FreeX.look2 (h : FreeX w F f k glob cs mb A cap fm ad cp) (m : Nat) : ((Instr.lookup 235 (.map (some mb)) (slotK (m, k)) true).run Tryz.prog w = .ok (.tuple #[.slice none 0 0, .bool false]) w ∧ cs m = []) ∨
    ((Instr.lookup 235 (.map (some mb)) (slotK (m, k)) true).run Tryz.prog w = .ok (.tuple #[.slice (ad m) (cs m).length (cp m), .bool true]) w ∧ Own w 0 3 1 (ad m) (cs m).length (cp m) (ncells (cs m))) := by
  have := h.m.look2 slotT Tryz.underlying235 zeroValue60 (m, k)
  rw [this]
  rcases h.c m with ⟨h1, h2, h3, h4⟩ | ⟨h1, h2⟩
  · rw [h1]; exact .inl ⟨rfl, h2⟩
  · rw [h1]; exact .inr ⟨rfl, h2⟩
end
/-- The caches of the first mutators cut down. -/
def csK (fr to n : Nat) (cs : Nat → List Nat) : Nat → List Nat := fun m => if m < n then keepF fr to (cs m) else cs m
theorem csK_next (fr to n : Nat) (cs : Nat → List Nat) : csK fr to (n + 1) cs = updC (csK fr to n cs) n (keepF fr to (cs n)) := by
  funext j
  show (if j < n + 1 then keepF fr to (cs j) else cs j) = if j = n then keepF fr to (cs n) else (if j < n then keepF fr to (cs j) else cs j)
  by_cases h : j = n
  · subst h; rw [if_pos (by omega), if_pos rfl]
  · rw [if_neg h]
    by_cases h2 : j < n
    · rw [if_pos (by omega), if_pos h2]
    · rw [if_neg (by omega), if_neg h2]
theorem keepF_len (fr to : Nat) (l : List Nat) : (keepF fr to l).length ≤ l.length := List.length_filter_le _ _
set_option maxRecDepth 100000 in
set_option maxHeartbeats 2000000 in
theorem fremove_any (F : Nat → Prop) (f k fr to : Nat) (glob : List Nat) (cs : Nat → List Nat) (w : World) (h : FreeR w F f k glob cs) (hF : ∀ j, F j → j < w.heap.size) (hg : glob.length ≤ 900) (hc : ∀ m, (cs m).length ≤ 1000) :
    Calls Tryz.prog 236 #[.pointer (some ⟨f, 0, none⟩), .int .i64 k, .int .i64 fr, .int .i64 to] w fun e w' => (∃ v, e = .returned v) ∧ FreeR w' F f k (keepF fr to glob) (csK fr to 4 cs) ∧ Mod w w' F := by
  obtain ⟨mb, A, cap, fm, ad, cp, hx⟩ := h
  have hk := hx.hk
  have k0 : (0 : Int) ≤ (k : Int) := by omega
  have k1 : (k : Int) < 32 := by omega
  have Hr := Lib.hid (fun w => cright_yes k w hk)
  have HX := Lib.hid hx
  have HF := Lib.hid hF
  obtain ⟨nf, Hnf⟩ : ∃ n, Hid (w.heap.size = n) := ⟨_, rfl⟩
  have L1 := Lib.hid (((Loc.nil F w).box 3 #[.int .i64 fr] nf Hnf.out).box 3 #[.int .i64 to] (nf + 1) (by rw [World.size_alloc, Hnf.out]))
  have HB1 : Hid (Below w.heap.size w ((w.alloc (.cells #[.int .i64 fr] 3)).alloc (.cells #[.int .i64 to] 3))) := ((Below.refl w.heap.size w).alloc (Nat.le_refl _) _).alloc (by simp) _
  clear hx hF
  go_enter Tryz.func236, Tryz.ntmps236
  go_wp2_with fail
  refine (Hr.out _).mono ?_
  rintro e w1 ⟨rfl, rfl⟩
  rw [Hnf.out]
  generalize (w.alloc (.cells #[.int .i64 fr] 3)).alloc (.cells #[.int .i64 to] 3) = w1 at *
  have HX1 := Lib.hid (HX.out.below HB1.out (Nat.le_refl _))
  clear HX
  go_wp2_with fail
  refine (flen_any F f k glob cs w1 ⟨mb, A, cap, fm, ad, cp, HX1.out⟩ hg hc).mono ?_
  rintro e w2 ⟨rfl, hb2⟩
  have HX2 := Lib.hid (HX1.out.below hb2 (Nat.le_refl _))
  have L2 := Lib.hid (L1.out.call hb2 (Nat.le_refl _))
  obtain ⟨was, Hwas⟩ : ∃ n, Hid ((glob ++ csN cs 4).length = n) := ⟨_, rfl⟩
  rw [Hwas.out]
  clear hb2 HX1 L1
  have x0 : w2.cell? ⟨f, k, none⟩ = some (.slice A glob.length cap) := (HX2.out.b.cell k).trans (fcells_at k _ mb hk)
  have x0f := HX2.out.b.frozen k
  have HX2d := Lib.hid (HX2.out.mod (S := Nob) ((Mod.refl w2 _).drewN 1) (fun _ _ h => h))
  have L2d := Lib.hid L2.out.drew
  have Hdl : Hid (∀ wr, Loc F w wr [(nf + 1, 3, #[.int .i64 to]), (nf, 3, #[.int .i64 fr])] → ∀ (A2 : Option Addr) (n2 c2 : Nat) (l2 : List Nat), Own wr 0 3 1 A2 n2 c2 (ncells l2) → (∀ a, A2 = some a → a.block < nf) → n2 ≤ 10000 →
      Calls Tryz.prog 262 #[.slice A2 n2 c2, .func (.func 261) #[] #[.pointer (some ⟨nf, 0, none⟩), .pointer (some ⟨nf + 1, 0, none⟩)]] wr fun e w' => e = .returned (.slice A2 (keepF fr to l2).length c2) ∧ Own w' 0 3 1 A2 (keepF fr to l2).length c2 (ncells (keepF fr to l2)) ∧ Mod wr w' (fun k => ∃ a, A2 = some a ∧ a.block = k)) := fun wr hL A2 n2 c2 l2 hO hlt hn2 =>
    delete_gone 0 nf (nf + 1) fr to n2 c2 A2 l2 wr (hL.b1.cell 0) (hL.b0.cell 0) hO (fun a ha => ⟨by have := hlt a ha; omega, by have := hlt a ha; omega⟩) hn2
  obtain ⟨gn, Hgn⟩ : ∃ n, Hid (glob.length = n) := ⟨_, rfl⟩
  have HD2 := Lib.hid (Hdl.out w2.drew L2d.out A glob.length cap glob HX2d.out.g (fun a ha => by rw [← Hnf.out]; exact HF.out _ (HX2.out.fA a ha)) (by omega))
  rw [Hgn.out] at x0 HD2
  have Hgf := Lib.hid HX2.out.g_ne
  have hfw2 := HX2.out.b.lt
  go_wp2_with fail
  go_region_with
    ((go_at_call 262; refine HD2.out.mono ?_; rintro e w3 ⟨rfl, hO3, hM3⟩; have HO3 := Lib.hid hO3; have HM3 : Hid (Mod w2 w3 (fun k => ∃ a, A = some a ∧ a.block = k)) := ((Mod.refl w2 _).drewN 1).trans hM3 (fun k _ e => e); have y0 := cell_mod HM3.out x0 (fun ⟨a, ha, e⟩ => Hgf.out a ha e); have y1 := frozen_mod HM3.out hfw2 x0f (fun ⟨a, ha, e⟩ => Hgf.out a ha e); clear hO3 hM3))
  obtain ⟨hX4, hM4⟩ := HX2.out.cutG (keepF fr to glob) HO3.out HM3.out
  have HX4 := Lib.hid hX4
  have L4 := Lib.hid (L2.out.eff hM4 (fun k hk => ⟨hk, HF.out k hk⟩))
  have hgl := keepF_len fr to glob
  obtain ⟨gn2, Hgn2⟩ : ∃ n, Hid ((keepF fr to glob).length = n) := ⟨_, rfl⟩
  rw [Hgn2.out] at hgl HX4 L4 ⊢
  rw [Hgn.out] at hgl
  clear hX4 hM4 HD2 HX2d L2d HX2 L2 x0 x0f Hgf hfw2 HO3 HM3 y0 y1
  generalize w3.setCell ⟨f, k, none⟩ (.slice A gn2 cap) = w4 at *
  go_wp2_with fail
  go_loopw [35] (fun v35 wr => ∃ (m : Nat) (fmj : Nat × Nat → Option Value), v35 = .int .i64 m ∧ m ≤ 4 ∧ FreeX wr F f k (keepF fr to glob) (csK fr to m cs) mb A cap fmj ad cp ∧ Loc F w wr [(nf + 1, 3, #[.int .i64 to]), (nf, 3, #[.int .i64 fr])]) (fun v35 _ => 4 - (intOf v35).toNat)
  case atStart => exact ⟨0, fm, rfl, by omega, by
    have e : csK fr to 0 cs = cs := by funext j; unfold csK; rw [if_neg (by omega)]
    rw [e]; exact HX4.out, L4.out⟩
  case round =>
    clear HX4 L4
    obtain ⟨m, fmj, rfl, hm, hXj, hLj⟩ := hrel
    have HXj := Lib.hid hXj
    have HLj := Lib.hid hLj
    clear hXj hLj
    obtain ⟨wo, rfl⟩ : ∃ wo, wo = wr := ⟨wr, rfl⟩
    by_cases hm4 : m < 4
    · obtain ⟨nb, Hnb⟩ : ∃ n, Hid (wo.heap.size = n) := ⟨_, rfl⟩
      have L5 := Lib.hid (HLj.out.box 249 #[.int .i64 (m : Nat), .int .i64 (k : Nat)] nb Hnb.out)
      have HB5 : Hid (Below wo.heap.size wo (wo.alloc (.cells #[.int .i64 (m : Nat), .int .i64 (k : Nat)] 249))) := (Below.refl _ wo).alloc (Nat.le_refl _) _
      have HX5 := Lib.hid (HXj.out.below HB5.out (Nat.le_refl _))
      have Hcm : Hid (csK fr to m cs m = cs m) := by show _ = _; unfold csK; rw [if_neg (by omega)]
      go_wp2_with fail
      rw [Hnb.out]
      generalize wo.alloc (.cells #[.int .i64 (m : Nat), .int .i64 (k : Nat)] 249) = w5 at *
      have z0 : w5.cell? ⟨f, 32, none⟩ = some (.map (some mb)) := (HX5.out.b.cell 32).trans (fcells_map k _ mb)
      have z1 : w5.cell? ⟨nb, 0, none⟩ = some (.int .i64 (m : Nat)) := L5.out.b0.cell 0
      have z2 : w5.cell? ⟨nb, 1, none⟩ = some (.int .i64 (k : Nat)) := L5.out.b0.cell 1
      have HX5d : Hid (FreeX w5.drew F f k (keepF fr to glob) (csK fr to m cs) mb A cap fmj ad cp) := HX5.out.mod (S := Nob) ((Mod.refl w5 _).drewN 1) (fun _ _ h => h)
      clear HXj HLj
      rcases HX5d.out.look2 m with ⟨hlk, hcs0⟩ | ⟨hlk, hOm⟩
      · have Hcs0 : Hid (cs m = []) := by rw [Hcm.out] at hcs0; exact hcs0
        have hlk2 : (Instr.lookup 235 (.map (some mb)) (.agg #[.int .i64 (m : Nat), .int .i64 (k : Nat)]) true).run Tryz.prog w5.drew = .ok (.tuple #[.slice none 0 0, .bool false]) w5.drew := hlk
        have HXn : Hid (FreeX w5.drew F f k (keepF fr to glob) (csK fr to (m + 1) cs) mb A cap fmj ad cp) := by
          have e : csK fr to (m + 1) cs = csK fr to m cs := by
            rw [csK_next, Hcs0.out]
            funext j
            unfold updC
            by_cases hj : j = m
            · rw [if_pos hj, hj, Hcm.out, Hcs0.out]; rfl
            · rw [if_neg hj]
          rw [e]; exact HX5d.out
        have Ln : Hid (Loc F w w5.drew [(nf + 1, 3, #[.int .i64 to]), (nf, 3, #[.int .i64 fr])]) := ⟨L5.out.drew.be, fun x hx => L5.out.drew.at_ x (List.mem_cons_of_mem _ hx), (List.pairwise_cons.1 L5.out.drew.ne).2⟩
        clear hlk hcs0
        go_wp2_with fail
        go_region
        go_wp2_with fail
        exact ⟨⟨m + 1, fmj, by go_num, by omega, HXn.out, Ln.out⟩, by simp [intOf]; omega⟩
      · rw [Hcm.out] at hlk hOm
        obtain ⟨ln, Hln⟩ : ∃ n, Hid ((cs m).length = n) := ⟨_, rfl⟩
        rw [Hln.out] at hlk hOm
        have hln : ln ≤ 1000 := by rw [← Hln.out]; exact hc m
        have HOm := Lib.hid hOm
        have hlk2 : (Instr.lookup 235 (.map (some mb)) (.agg #[.int .i64 (m : Nat), .int .i64 (k : Nat)]) true).run Tryz.prog w5.drew = .ok (.tuple #[.slice (ad m) ln (cp m), .bool true]) w5.drew := hlk
        clear hlk hOm
        go_wp2_with fail
        go_region
        obtain ⟨w6, Hw6⟩ : ∃ w6, Hid (w5.drew = w6) := ⟨_, rfl⟩
        rw [Hw6.out] at HX5d HOm
        have L6 : Hid (Loc F w w6 [(nb, 249, #[.int .i64 (m : Nat), .int .i64 (k : Nat)]), (nf + 1, 3, #[.int .i64 to]), (nf, 3, #[.int .i64 fr])]) := by rw [← Hw6.out]; exact L5.out.drew
        rw [Hw6.out]
        clear HX5 L5 z0 z1 z2 hlk2 Hw6 HB5
        have z0 : w6.cell? ⟨f, 32, none⟩ = some (.map (some mb)) := (HX5d.out.b.cell 32).trans (fcells_map k _ mb)
        have z1 : w6.cell? ⟨nb, 0, none⟩ = some (.int .i64 (m : Nat)) := L6.out.b0.cell 0
        have z2 : w6.cell? ⟨nb, 1, none⟩ = some (.int .i64 (k : Nat)) := L6.out.b0.cell 1
        have L6n : Hid (Loc F w w6 [(nf + 1, 3, #[.int .i64 to]), (nf, 3, #[.int .i64 fr])]) := ⟨L6.out.be, fun x hx => L6.out.at_ x (List.mem_cons_of_mem _ hx), (List.pairwise_cons.1 L6.out.ne).2⟩
        have HD6 := Lib.hid (Hdl.out w6.drew L6n.out.drew (ad m) ln (cp m) (cs m) (HOm.out.drewN 1) (fun a ha => by rw [← Hnf.out]; exact HF.out _ (HX5d.out.fad m a ha)) (by omega))
        obtain ⟨q, Hq⟩ : ∃ n, Hid ((keepF fr to (cs m)).length = n) := ⟨_, rfl⟩
        rw [Hq.out] at HD6
        have hnbA : Hid (∀ a, ad m = some a → a.block ≠ nb ∧ a.block ≠ f ∧ a.block ≠ mb) := fun a ha => ⟨by have h1 := HF.out _ (HX5d.out.fad m a ha); have h2 := L6.out.le0; simp only at h2; omega, HX5d.out.c_ne m a ha, HX5d.out.ne_fm.2.2 m a ha⟩
        have HP7 : Hid (∀ w7, Own w7 0 3 1 (ad m) q (cp m) (ncells (keepF fr to (cs m))) → Mod w6.drew w7 (fun k => ∃ a, ad m = some a ∧ a.block = k) → ∃ w8, (Instr.mapUpdate 235 (.map (some mb)) (.agg #[.int .i64 (m : Nat), .int .i64 (k : Nat)]) (.slice (ad m) q (cp m))).run Tryz.prog w7 = .ok () w8 ∧
            (∃ fm2, FreeX w8 F f k (keepF fr to glob) (csK fr to (m + 1) cs) mb A cap fm2 ad cp) ∧ Mod w6 w8 F) := fun w7 hO7 hM7 => by
          have hm7 := HX5d.out.m.mod (((Mod.refl w6 _).drewN 1).trans hM7 (fun _ _ h => h)) (fun ⟨a, ha, e⟩ => (hnbA.out a ha).2.2 e)
          obtain ⟨w8, h5, h6, h7⟩ := hm7.put slotT Tryz.underlying235 (m, k) (.slice (ad m) q (cp m))
          have hM67 : Mod w6 w7 (fun k => ∃ a, ad m = some a ∧ a.block = k) := ((Mod.refl w6 _).drewN 1).trans hM7 (fun _ _ h => h)
          have := HX5d.out.cutC (w1 := w7) (w2 := w8) m (keepF fr to (cs m)) (by rw [Hq.out]; exact hO7) hM67 (by rw [Hq.out]; exact h6) h7
          rw [← csK_next] at this
          exact ⟨w8, h5, ⟨_, this.1⟩, this.2⟩
        clear HOm
        go_wp2_with fail
        go_region_with
          ((go_at_call 262; refine HD6.out.mono ?_; rintro e w7 ⟨rfl, hO7, hM7⟩; obtain ⟨w8, hput, hX8, hM8⟩ := HP7.out w7 hO7 hM7; have HX8 := Lib.hid hX8; have HM8 := Lib.hid hM8; have y0 : w7.cell? ⟨f, 32, none⟩ = some (.map (some mb)) := cell_mod hM7 z0 (fun ⟨a, ha, e⟩ => (hnbA.out a ha).2.1 e); have y1 : w7.cell? ⟨nb, 0, none⟩ = some (.int .i64 (m : Nat)) := cell_mod hM7 z1 (fun ⟨a, ha, e⟩ => (hnbA.out a ha).1 e); have y2 : w7.cell? ⟨nb, 1, none⟩ = some (.int .i64 (k : Nat)) := cell_mod hM7 z2 (fun ⟨a, ha, e⟩ => (hnbA.out a ha).1 e); clear hX8 hM8 hM7 hO7))
        all_goals
          have L8 := Lib.hid (L6n.out.eff HM8.out (fun k hk => ⟨hk, HF.out k hk⟩))
          obtain ⟨fm2, hX9⟩ := HX8.out
          have HX9 := Lib.hid hX9
          clear hX9 HX8
          go_wp2_with fail
          exact ⟨⟨m + 1, fm2, by go_num, by omega, HX9.out, L8.out⟩, by simp [intOf]; omega⟩
    · obtain rfl : m = 4 := by omega
      go_wp2_with fail
      refine (flen_any F f k _ _ wo ⟨mb, A, cap, fmj, ad, cp, HXj.out⟩ (by have := Hgn.out; rw [Hgn2.out]; omega) (fun j => by
        unfold csK
        split
        · exact Nat.le_trans (keepF_len _ _ _) (hc j)
        · exact hc j)).mono ?_
      rintro e w6 ⟨rfl, hb6⟩
      have HX6 := Lib.hid (HXj.out.below hb6 (Nat.le_refl _))
      have L6 := Lib.hid (HLj.out.call hb6 (Nat.le_refl _))
      clear hb6
      go_wp2_with fail
      go_ret
      exact ⟨⟨_, rfl⟩, ⟨mb, A, cap, fmj, ad, cp, HX6.out⟩, L6.out.be⟩
end Go.Proofs.YtcnjipicifkfjaaGreat

/- alloc: Free, Next, Objects. -/
namespace Go.Proofs.YtcnjipicifkfjaaGreat
open Go.RowKit
set_option linter.unusedVariables false
set_option linter.unusedSimpArgs false

def dropS (st : Nat → Bool) (a : Nat) : Nat → Bool := fun i => !decide (i = a) && st i
/-- An object given back to all. -/
def AS.free (S : AS) (a : Nat) : AS := { S with used := dropS S.used a, glob := S.glob ++ [a] }
set_option maxRecDepth 100000 in
set_option maxHeartbeats 2000000 in
theorem afree_any (B : Nat) (b : DB) (m : Nat) (s : DS) (col : Nat → Nat) (ap mp us fr a p d bl i : Nat) (S : AS) (w : World) (h : Dev B w b m s) (hdv : ∀ k, b.has k → col k = 0) (hA : AllocX w col ap b.d mp us fr S) (ho : ObjAt s m a p d) (hd : 1 + p + d ≤ 256) (hp : p ≤ 63) (hk : cof (1 + p + d) = S.k) (hcell : CellAt S.K S.k a bl i) (hh : S.hs.getD bl (0, 0) = (1, S.k))
    (hm : m = S.K * 64) (hK0 : 0 < S.K) (hK : S.K ≤ 150) (hu : S.used a = true) (hno : ¬ HasF S.glob S.cs a) (hg : S.glob.length ≤ 900) (hc : ∀ m, (S.cs m).length ≤ 1000) (ha : a ≤ 1000000) :
    Calls Tryz.prog 203 #[.pointer (some ⟨ap, 0, none⟩), .int .i64 (-1), .int .i64 a] w fun e w' => e = .returned (.int .i64 0) ∧ (∃ col', (∀ k, k < w.heap.size → col' k = col k) ∧ AllocX w' col' ap b.d mp us fr (S.free a)) ∧ Mod w w' (fun k => col k = 2 ∨ col k = 3) := by
  have Hpl := Lib.hid (place_d B b m s col ap mp us fr a p d bl i S w h hA ho hk hcell hh hm hK0 hK)
  have HX : Hid (∀ wr, Below w.heap.size w wr → AllocX wr col ap b.d mp us fr S) := fun wr hb => hA.below hb (Nat.le_refl _)
  have Hsm : Hid (∀ wr, Calls Tryz.prog 51 #[.agg #[.int .i64 p, .int .i64 d]] wr fun e w' => e = .returned (.tuple #[.int .i64 (S.k : Nat), .bool true]) ∧ Below wr.heap.size wr w') := fun wr => by
    have := osmall_any p d wr hp hd
    rw [hk] at this
    exact this
  clear hA h ho hk hcell hh
  go_enter Tryz.func203, Tryz.ntmps203
  go_wp2_with fail
  refine Hpl.out.mono ?_
  rintro e w1 ⟨rfl, hb1⟩
  obtain ⟨n7, Hn7⟩ : ∃ n, Hid (w1.heap.size = n) := ⟨_, rfl⟩
  have L1 := Lib.hid (((Loc.nil Nob w).call hb1 (Nat.le_refl _)).box 51 #[.int .i64 p, .int .i64 d] n7 Hn7.out)
  have z3 := (HX.out _ L1.out.below).b.cell 3
  have Hus := Lib.hid (fun wr hb => bhas_any _ us (8 * S.K) a S.used wr (HX.out wr hb).u (by omega) (by omega))
  rw [hu] at Hus
  clear hb1 Hpl
  go_wp2_with fail
  rw [Hn7.out]
  generalize w1.alloc (.cells #[.int .i64 p, .int .i64 d] 51) = w2 at *
  refine (Hus.out _ L1.out.below).mono ?_
  rintro e w3 ⟨rfl, rfl⟩
  have zr := L1.out.b0
  have y0 := zr.cell 0
  have y1 := zr.cell 1
  clear zr
  go_wp2_with fail
  refine (Hsm.out _).mono ?_
  rintro e w3 ⟨rfl, hb3⟩
  have L3 := Lib.hid (L1.out.call hb3 (Nat.le_refl _))
  have HX3 := Lib.hid (HX.out _ L3.out.below)
  have HM3 : Hid (Mod w w3 (fun k => col k = 2 ∨ col k = 3)) := mod_below L3.out.below
  clear hb3 z3 y0 y1 L1 Hus HX
  have z3 := HX3.out.b.cell 3
  go_wp2_with fail
  refine (bdrop_any _ us (8 * S.K) a S.used w3 HX3.out.u (by omega) (by omega)).mono ?_
  rintro e w4 ⟨rfl, hs4, hM4⟩
  have HX4 := Lib.hid (HX3.out.usedS hM4 hs4)
  have HM4 : Hid (Mod w w4 (fun k => col k = 2 ∨ col k = 3)) := HM3.out.trans hM4 (fun k _ e => .inl e)
  have hsz4 : w.heap.size ≤ w4.heap.size := HM4.out.size
  clear hs4 hM4 z3 HX3 HM3
  have z4 := HX4.out.b.cell 4
  go_wp2_with fail
  refine (fpush_any _ fr S.k a S.glob S.cs w4 HX4.out.f hg hc hno).mono ?_
  rintro e w5 ⟨rfl, hf5, hM5⟩
  have HX5 : Hid (AllocX w5 (colW col w4 3) ap b.d mp us fr (S.free a)) := by
    have hc0 : ∀ k, k < w4.heap.size → colW col w4 3 k = col k := fun k hk => colW_lt _ _ _ _ hk
    exact ((HX4.out.recol hc0).free (w' := w5) (hM5.mono (fun k hk e => by rw [hc0 k hk]; exact e)) (hf5.weak (fun k hk e => by
      by_cases hk4 : k < w4.heap.size
      · rcases e with e | e
        · rw [hc0 k hk4]; exact e
        · omega
      · exact colW_ge _ _ _ _ (by omega))))
  have HM5 : Hid (Mod w w5 (fun k => col k = 2 ∨ col k = 3)) := HM4.out.trans hM5 (fun k _ e => .inr e)
  clear hf5 hM5 z4
  go_wp2_with fail
  go_ret
  exact ⟨rfl, ⟨_, fun k hk => colW_lt _ _ _ _ (Nat.lt_of_lt_of_le hk hsz4), HX5.out⟩, HM5.out⟩
theorem anext_any (col : Nat → Nat) (ap d mp us fr a : Nat) (S : AS) (w : World) (hA : AllocX w col ap d mp us fr S) (hK0 : 0 < S.K) (hK : S.K ≤ 150) (ha : a ≤ 1000000) :
    Calls Tryz.prog 232 #[.pointer (some ⟨ap, 0, none⟩), .int .i64 a] w (NextR S.used a w) := by
  have z3 := hA.b.cell 3
  have Hn := Lib.hid (bnext_any _ us (8 * S.K) a S.used w hA.u (by omega) (by omega) (by omega))
  clear hA
  go_enter Tryz.func232, Tryz.ntmps232
  go_wp2_with fail
  refine Hn.out.mono ?_
  rintro e w1 ⟨⟨x, ok, rfl, hnx⟩, rfl⟩
  have HN := Lib.hid hnx
  clear hnx
  go_wp2_with fail
  go_ret2
  exact ⟨⟨x, ok, rfl, HN.out⟩, rfl⟩
theorem aobjs_any (col : Nat → Nat) (ap d mp us fr : Nat) (S : AS) (w : World) (hA : AllocX w col ap d mp us fr S) (hK0 : 0 < S.K) (hK : S.K ≤ 150) :
    Calls Tryz.prog 57 #[.pointer (some ⟨ap, 0, none⟩)] w fun e w' => ∃ A cap, e = .returned (.slice A (setL S.used (8 * S.K)).length cap) ∧ Below w.heap.size w w' := by
  have z3 := hA.b.cell 3
  have Hn := Lib.hid (blist_any _ us (8 * S.K) S.used w hA.u (by omega) (by omega))
  generalize setL S.used (8 * S.K) = L at *
  clear hA
  go_enter Tryz.func57, Tryz.ntmps57
  go_wp2_with fail
  refine Hn.out.mono ?_
  rintro e w1 ⟨A, cap, rfl, _, hb⟩
  have HB := Lib.hid hb
  clear hb
  go_wp2_with fail
  go_ret
  exact ⟨A, cap, rfl, HB.out⟩
theorem afreecells_any (col : Nat → Nat) (ap d mp us fr : Nat) (S : AS) (w : World) (hA : AllocX w col ap d mp us fr S) (hg : S.glob.length ≤ 900) (hc : ∀ m, (S.cs m).length ≤ 1000) :
    Calls Tryz.prog 106 #[.pointer (some ⟨ap, 0, none⟩), .int .i64 S.k] w fun e w' => (∃ A cap, e = .returned (.slice A (S.glob ++ csN S.cs 4).length cap)) ∧ Below w.heap.size w w' := by
  have z4 := hA.b.cell 4
  have Hn := Lib.hid (flist_any _ fr S.k S.glob S.cs w hA.f hg hc)
  generalize S.glob ++ csN S.cs 4 = L at *
  clear hA
  go_enter Tryz.func106, Tryz.ntmps106
  go_wp2_with fail
  refine Hn.out.mono ?_
  rintro e w1 ⟨⟨A, cap, rfl⟩, hb⟩
  have HB := Lib.hid hb
  clear hb
  go_wp2_with fail
  go_ret
  exact ⟨⟨A, cap, rfl⟩, HB.out⟩
end Go.Proofs.YtcnjipicifkfjaaGreat

/- alloc: Trim. -/
namespace Go.Proofs.YtcnjipicifkfjaaGreat
open Go.RowKit
set_option linter.unusedVariables false
set_option linter.unusedSimpArgs false

/-- A block given back. -/
def AS.trim (S : AS) (bl : Nat) (o' : Option (Nat × Nat)) : AS := { S with hs := S.hs.set bl (0, 0), o := o', glob := keepF (bl * 512) (bl * 512 + 512) S.glob, cs := csK (bl * 512) (bl * 512 + 512) 4 S.cs }
theorem AllocX.bman2 {w w' : World} {col : Nat → Nat} {ap d mp us fr : Nat} {S : AS} {b : DB} (h : AllocX w col ap d mp us fr S) (hdv : ∀ k, b.has k → col k = 0) (m : Mod w w' (fun k => b.has k ∨ col k = 1)) {hs : List (Nat × Nat)} {o : Option (Nat × Nat)} (hf : BmanR w' (fun k => col k = 1) mp d S.K hs o) :
    AllocX w' col ap d mp us fr { S with hs := hs, o := o } := h.bman hdv m hf
/-- Trim, of a block that is none of small objects, or of which an object is in use. -/
theorem atrim_no (col : Nat → Nat) (ap d mp us fr bl : Nat) (S : AS) (w : World) (hA : AllocX w col ap d mp us fr S) (h1 : 1 ≤ bl) (h2 : bl < S.K) (hK : S.K ≤ 150) (hno : (S.hs.getD bl (0, 0)).1 = 0 ∨ ((S.hs.getD bl (0, 0)).1 = 1 ∧ ∃ j, bl * 512 ≤ j ∧ j < bl * 512 + 512 ∧ S.used j = true)) :
    Calls Tryz.prog 204 #[.pointer (some ⟨ap, 0, none⟩), .int .i64 bl] w fun e w' => e = .returned (.tuple #[.bool false, .int .i64 0]) ∧ Below w.heap.size w w' := by
  have HX : Hid (∀ wr, Below w.heap.size w wr → AllocX wr col ap d mp us fr S) := fun wr hb => hA.below hb (Nat.le_refl _)
  obtain ⟨t, x, T, X, hmb, hT, _⟩ := hA.m
  have c0 := hA.b.cell 0
  have m0 := hmb.cell 0
  have Hg := Lib.hid (tget_any T t d S.K bl S.hs w hT h1 h2 (by omega))
  obtain ⟨kd, Hkd⟩ : ∃ k, Hid ((S.hs.getD bl (0, 0)).1 = k) := ⟨_, rfl⟩
  obtain ⟨cl, Hcl⟩ : ∃ k, Hid ((S.hs.getD bl (0, 0)).2 = k) := ⟨_, rfl⟩
  rw [Hkd.out, Hcl.out] at Hg
  rw [Hkd.out] at hno
  clear hA hmb hT
  go_enter Tryz.func204, Tryz.ntmps204
  go_wp2_with fail
  refine Hg.out.mono ?_
  rintro e w1 ⟨rfl, hb1⟩
  obtain ⟨n6, Hn6⟩ : ∃ n, Hid (w1.heap.size = n) := ⟨_, rfl⟩
  have L1 := Lib.hid (((Loc.nil Nob w).call hb1 (Nat.le_refl _)).box 178 #[.int .i64 kd, .int .i64 cl, .int .i64 0] n6 Hn6.out)
  have c2 := (HX.out _ L1.out.below).b.cell 2
  clear hb1 c0 m0 Hg
  go_wp2_with fail
  rw [Hn6.out]
  generalize w1.alloc (.cells #[.int .i64 kd, .int .i64 cl, .int .i64 0] 178) = W at *
  obtain ⟨F, HF⟩ : ∃ F, Hid (bl * 512 = F) := ⟨_, rfl⟩
  have Hgf := Lib.hid (gfirst_any S.K bl W h2 (by omega))
  rw [HF.out] at Hgf
  refine Hgf.out.mono ?_
  rintro e w2 ⟨rfl, hb2⟩
  have L2 := Lib.hid (L1.out.call hb2 (Nat.le_refl _))
  have HX2 := Lib.hid (HX.out _ L2.out.below)
  have z3 := HX2.out.b.cell 3
  have y0 := L2.out.b0.cell 0
  have hF1 : F ≤ 100000 := by rw [← HF.out]; omega
  clear hb2 c2 Hgf L1
  rcases hno with hk0 | ⟨hk1, hex⟩
  · subst hk0
    go_wp2_with fail
    go_ret2
    exact ⟨by simp, L2.out.below⟩
  · subst hk1
    rw [HF.out] at hex
    have Hbt := Lib.hid (bbetween_any _ us (8 * S.K) F (F + 512) S.used w2 HX2.out.u (by omega) (by omega) (by omega) (by omega))
    rw [show ((F + 512 : Nat) : Int) = (F : Int) + 512 by omega] at Hbt
    have Hex := Lib.hid hex
    clear hex
    go_wp2_with fail
    refine Hbt.out.mono ?_
    rintro e w3 ⟨k, rfl, hk, _, hpos, rfl⟩
    have hk0 := hpos Hex.out
    have hd : decide ((k : Int) > 0) = true := decide_eq_true (by omega)
    have hd2 : decide (0 < (k : Int)) = true := decide_eq_true (by omega)
    have hd3 : decide (0 < k) = true := decide_eq_true (by omega)
    clear hpos
    go_wp2_with fail
    go_ret2
    exact ⟨by simp, L2.out.below⟩
set_option maxRecDepth 100000 in
set_option maxHeartbeats 2000000 in
/-- Trim, of a block of small objects of which none is in use. -/
theorem atrim_yes (B : Nat) (b : DB) (m : Nat) (s : DS) (col : Nat → Nat) (ap mp us fr bl : Nat) (S : AS) (o' : Option (Nat × Nat)) (w : World) (h : Dev B w b m s) (hL : s.Live) (hdv : ∀ k, b.has k → col k = 0) (hA : AllocX w col ap b.d mp us fr S) (hn : ∀ k, w.heap.size ≤ k → col k = 9) (h1 : 1 ≤ bl) (h2 : bl < S.K) (hK : S.K ≤ 150) (hm : m = S.K * 64) (hk : S.hs.getD bl (0, 0) = (1, S.k))
    (hno : ∀ j, bl * 512 ≤ j → j < bl * 512 + 512 → S.used j = false) (hG : XGive S.K bl S.o o') (hg : S.glob.length ≤ 900) (hc : ∀ m, (S.cs m).length ≤ 1000) :
    Calls Tryz.prog 204 #[.pointer (some ⟨ap, 0, none⟩), .int .i64 bl] w fun e w' => e = .returned (.tuple #[.bool true, .int .i64 0]) ∧ Dev B w' b m (exec s (putS bl 0 0)).1 ∧ AllocX w' col ap b.d mp us fr (S.trim bl o') ∧ Mod w w' (fun k => b.has k ∨ col k = 1 ∨ col k = 3) := by
  have HX : Hid (∀ wr, Below w.heap.size w wr → AllocX wr col ap b.d mp us fr S) := fun wr hb => hA.below hb (Nat.le_refl _)
  have HD : Hid (∀ wr, Below w.heap.size w wr → Dev B wr b m s) := fun wr hb => h.below hb (Nat.le_refl _)
  obtain ⟨t, x, T, X, hmb, hT, _⟩ := hA.m
  have c0 := hA.b.cell 0
  have m0 := hmb.cell 0
  have Hg := Lib.hid (tget_any T t b.d S.K bl S.hs w hT h1 h2 (by omega))
  obtain ⟨cl, Hcl⟩ : ∃ k, Hid (S.k = k) := ⟨_, rfl⟩
  rw [hk, Hcl.out] at Hg
  clear hA hmb hT h
  go_enter Tryz.func204, Tryz.ntmps204
  go_wp2_with fail
  refine Hg.out.mono ?_
  rintro e w1 ⟨rfl, hb1⟩
  obtain ⟨n6, Hn6⟩ : ∃ n, Hid (w1.heap.size = n) := ⟨_, rfl⟩
  have L1 := Lib.hid (((Loc.nil Nob w).call hb1 (Nat.le_refl _)).box 178 #[.int .i64 1, .int .i64 cl, .int .i64 0] n6 Hn6.out)
  have c2 := (HX.out _ L1.out.below).b.cell 2
  clear hb1 c0 m0 Hg
  go_wp2_with fail
  rw [Hn6.out]
  generalize w1.alloc (.cells #[.int .i64 1, .int .i64 cl, .int .i64 0] 178) = W at *
  obtain ⟨F, HF⟩ : ∃ F, Hid (bl * 512 = F) := ⟨_, rfl⟩
  have Hgf := Lib.hid (gfirst_any S.K bl W h2 (by omega))
  rw [HF.out] at Hgf
  refine Hgf.out.mono ?_
  rintro e w2 ⟨rfl, hb2⟩
  have L2 := Lib.hid (L1.out.call hb2 (Nat.le_refl _))
  have HX2 := Lib.hid (HX.out _ L2.out.below)
  have z3 := HX2.out.b.cell 3
  have y0 := L2.out.b0.cell 0
  have hF1 : F ≤ 100000 := by rw [← HF.out]; omega
  clear hb2 c2 Hgf L1
  rw [HF.out] at hno
  have Hbt := Lib.hid (bbetween_any _ us (8 * S.K) F (F + 512) S.used w2 HX2.out.u (by omega) (by omega) (by omega) (by omega))
  rw [show ((F + 512 : Nat) : Int) = (F : Int) + 512 by omega] at Hbt
  have Hno := Lib.hid hno
  clear hno
  go_wp2_with fail
  refine Hbt.out.mono ?_
  rintro e w3 ⟨k, rfl, _, hz, _, rfl⟩
  obtain rfl := hz Hno.out
  clear hz Hbt
  have z4 : w2.cell? ⟨ap, 4, none⟩ = some (.pointer (some ⟨fr, 0, none⟩)) := HX2.out.b.cell 4
  have y1 : w2.cell? ⟨n6, 1, none⟩ = some (.int .i64 cl) := L2.out.b0.cell 1
  have y0' : w2.cell? ⟨n6, 0, none⟩ = some (.int .i64 1) := L2.out.b0.cell 0
  go_wp2_with fail
  have HX2d : Hid (AllocX w2.drew col ap b.d mp us fr S) := HX.out _ (below_drewN L2.out.below 1)
  have Hrm : Hid (Calls Tryz.prog 236 #[.pointer (some ⟨fr, 0, none⟩), .int .i64 cl, .int .i64 F, .int .i64 ((F : Int) + 512)] w2.drew fun e w' => (∃ v, e = .returned v) ∧ FreeR w' (fun k => col k = 3) fr cl (keepF F (F + 512) S.glob) (csK F (F + 512) 4 S.cs) ∧ Mod w2.drew w' (fun k => col k = 3)) := by
    have hf := HX2d.out.f
    rw [Hcl.out] at hf
    have := fremove_any (fun k => col k = 3) fr cl F (F + 512) S.glob S.cs w2.drew hf (fun k hk => by
      by_cases e : k < w.heap.size
      · exact Nat.lt_of_lt_of_le e L2.out.below.size
      · have := hn k (by omega); omega) hg hc
    rw [show ((F + 512 : Nat) : Int) = (F : Int) + 512 by omega] at this
    exact this
  have HD2d : Hid (Dev B w2.drew b m s) := HD.out _ (below_drewN L2.out.below 1)
  have z4d : w2.drew.cell? ⟨ap, 4, none⟩ = some (.pointer (some ⟨fr, 0, none⟩)) := z4
  have y1d : w2.drew.cell? ⟨n6, 1, none⟩ = some (.int .i64 cl) := y1
  have Hap : Hid (¬ col ap = 3 ∧ ¬ col n6 = 3) := ⟨by rw [HX2.out.c]; omega, by rw [hn n6 L2.out.le0]; omega⟩
  clear y0 z3 y0' z4d y1d
  have z4d : w2.drew.cell? ⟨ap, 4, none⟩ = some (.pointer (some ⟨fr, 0, none⟩)) := z4
  have y1d : w2.drew.cell? ⟨n6, 1, none⟩ = some (.int .i64 cl) := y1
  have hwF : IntKind.i64.wrap ((F : Int) + 512) = (F : Int) + 512 := IntWalk.i64_in _ (by omega)
  go_region_held3 (fun W => W.cell? ⟨ap, 4, none⟩ = some (.pointer (some ⟨fr, 0, none⟩)) ∧ W.cell? ⟨n6, 1, none⟩ = some (.int .i64 cl)) (first | exact ⟨z4, y1⟩ | exact ⟨q4, q1⟩)
    ((go_at_call 236; refine Hrm.out.mono ?_; rintro e w3 ⟨⟨v3, rfl⟩, hf3, hM3⟩; have HF3 := Lib.hid hf3; have HM3 := Lib.hid hM3; have q4 := cell_mod hM3 z4d Hap.out.1; have q1 := cell_mod hM3 y1d Hap.out.2; clear hf3 hM3))
  have HX3 : Hid (AllocX w3 col ap b.d mp us fr { S with glob := keepF F (F + 512) S.glob, cs := csK F (F + 512) 4 S.cs }) := HX2d.out.free HM3.out (by rw [Hcl.out]; exact HF3.out)
  have HD3 : Hid (Dev B w3 b m s) := HD2d.out.mod HM3.out (fun k hk e => by have := hdv k hk; omega)
  have HM3w : Hid (Mod w w3 (fun k => b.has k ∨ col k = 1 ∨ col k = 3)) := ((mod_below L2.out.below : Mod w w2 (fun k => b.has k ∨ col k = 1 ∨ col k = 3)).drewN 1).trans HM3.out (fun k _ e => .inr (.inr e))
  obtain ⟨gs, Hgs⟩ : ∃ g, Hid (keepF F (F + 512) S.glob = g) := ⟨_, rfl⟩
  obtain ⟨cs2, Hcs2⟩ : ∃ g, Hid (csK F (F + 512) 4 S.cs = g) := ⟨_, rfl⟩
  have Hfin : Hid (S.trim bl o' = { S with hs := S.hs.set bl (0, 0), o := o', glob := gs, cs := cs2 }) := by show _ = _; unfold AS.trim; rw [HF.out, Hgs.out, Hcs2.out]
  rw [Hgs.out, Hcs2.out] at HX3
  have c0 := HX3.out.b.cell 0
  have hsz3 := HM3w.out.size
  clear z4 y1 z4d y1d q4 q1 HX2 HX2d HD2d HM3 HF3 L2 Hrm hwF
  go_wp2_with fail
  refine (bmrel_any B b m s (fun k => col k = 1) mp S.K S.k bl S.hs S.o o' w3 HD3.out hL HX3.out.m (fun k hk e => by have := hdv k e; omega) hk h1 h2 hK hm hG).mono ?_
  rintro e w4 ⟨rfl, hd4, hb4, hm4⟩
  have HX4 := Lib.hid (HX3.out.bman2 hdv hm4 hb4)
  have HD4 := Lib.hid hd4
  have HM4 : Hid (Mod w w4 (fun k => b.has k ∨ col k = 1 ∨ col k = 3)) := HM3w.out.trans hm4 (fun k _ e => e.imp id .inl)
  clear hd4 hb4 hm4 c0
  go_wp2_with fail
  go_ret2
  refine ⟨by simp, HD4.out, ?_, HM4.out⟩
  have hf := Hfin.out
  exact hf ▸ HX4.out
end Go.Proofs.YtcnjipicifkfjaaGreat
