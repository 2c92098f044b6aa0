/- free: right, Take. -/
import Derived.Test.YtcnjipicifkfjaaGreatRm08

namespace Go.Proofs.YtcnjipicifkfjaaGreat
open Go.RowKit
set_option linter.unusedVariables false
set_option linter.unusedSimpArgs false

theorem fright_any (m k : Nat) (w : World) (hm : m < 4) (hk : k < 32) : Calls Tryz.prog 210 #[.int .i64 m, .int .i64 k] w fun e w' => e = .returned (.bool true) ∧ w = w' := by
  have Hr := Lib.hid (fun w => cright_yes k w hk)
  have h0 : (m : Int) < 4 := by omega
  go_enter Tryz.func210, Tryz.ntmps210
  go_wp2_with (go_at_call 105; refine (Hr.out _).mono ?_; rintro e w' ⟨rfl, rfl⟩)
  go_ret
  exact ⟨rfl, rfl⟩
def updC {α : Type} (cs : Nat → α) (m : Nat) (l : α) : Nat → α := fun j => if j = m then l else cs j
/-- What Take leaves: the lists for all, the mutator's own; what it answers. -/
def takeN (glob : List Nat) : Nat := min glob.length 4
def takeOwn (glob own : List Nat) : List Nat := if own = [] then glob.drop (glob.length - takeN glob) else own
def takeGlob (glob own : List Nat) : List Nat := if own = [] then glob.take (glob.length - takeN glob) else glob

theorem FreeX.ne_fm {w : World} {F : Nat → Prop} {f k : Nat} {glob : List Nat} {cs : Nat → List Nat} {mb : Nat} {A : Option Addr} {cap : Nat} {fm : Nat × Nat → Option Value} {ad : Nat → Option Addr} {cp : Nat → Nat}
    (h : FreeX w F f k glob cs mb A cap fm ad cp) : f ≠ mb ∧ (∀ a, A = some a → a.block ≠ mb) ∧ ∀ m a, ad m = some a → a.block ≠ mb := by
  have own : ∀ {A : Option Addr} {n c : Nat} {xs : List Value}, Own w 0 3 1 A n c xs → ∀ a, A = some a → a.block ≠ mb := by
    intro A n c xs hO a ha e
    obtain ⟨es, c, hm, _⟩ := h.m
    have h1 := hm.at_
    rcases hO.form with ⟨h0, _⟩ | ⟨g, cur, h0, _, hb, _⟩
    · rw [h0] at ha; cases ha
    · rw [h0] at ha; cases ha
      rw [show g = mb from e] at hb
      unfold Blk at hb
      rw [hb] at h1; cases h1
  refine ⟨?_, fun a ha => own h.g a ha, fun m a ha => ?_⟩
  · rintro e
    obtain ⟨es, c, hm, _⟩ := h.m
    have h1 := hm.at_
    have hb := h.b
    unfold Blk at hb
    rw [e] at hb
    rw [hb] at h1; cases h1
  · rcases h.c m with ⟨_, _, h1, _⟩ | ⟨_, h1⟩
    · rw [h1] at ha; cases ha
    · exact own h1 a ha
/-- A mutator's own cells set anew: a row that is new, or the one that was. -/
theorem FreeX.putC {w w1 w2 : World} {F : Nat → Prop} {f k : Nat} {glob : List Nat} {cs : Nat → List Nat} {mb : Nat} {A : Option Addr} {cap : Nat} {fm : Nat × Nat → Option Value} {ad : Nat → Option Addr} {cp : Nat → Nat}
    (h : FreeX w F f k glob cs mb A cap fm ad cp) (hb : Below w.heap.size w w1) (m : Nat) (l : List Nat) (A' : Option Addr) (c' : Nat) (hO : Own w1 0 3 1 A' l.length c' (ncells l))
    (hat : ∀ a, A' = some a → ad m = some a ∨ w.heap.size ≤ a.block) (hm2 : MapF w2 mb slotK (putF fm (m, k) (.slice A' l.length c'))) (hM : Mod w1 w2 (fun j => j = mb)) :
    FreeX w2 (GrowF F w) f k glob (updC cs m l) mb A cap (putF fm (m, k) (.slice A' l.length c')) (updC ad m A') (updC cp m c') := by
  obtain ⟨l1, l2, l3, l4⟩ := h.lt
  have h1 := h.below hb (Nat.le_refl _)
  obtain ⟨n1, n2, n3⟩ := h1.ne_fm
  have nA' : ∀ a, A' = some a → a.block ≠ mb := by
    intro a ha e
    rcases hat a ha with h2 | h2
    · exact n3 m a h2 e
    · omega
  refine ⟨h.hk, hM.blk h1.b n1, h1.g.mod hM n2, hm2, fun j => ?_, fun j i hi => ?_, ?_, ?_, .inl h.ff, .inl h.fmb, fun a ha => .inl (h.fA a ha), ?_⟩
  · by_cases hj : j = m
    · subst hj
      refine .inr ⟨by simp [putF, updC], ?_⟩
      simp only [updC, if_pos rfl]
      exact hO.mod hM nA'
    · rcases h1.c j with ⟨c1, c2, c3, c4⟩ | ⟨c1, c2⟩
      · exact .inl ⟨by simp [putF, hj, c1], by simp [updC, hj, c2], by simp [updC, hj, c3], by simp [updC, hj, c4]⟩
      · refine .inr ⟨by simp [putF, updC, hj, c1], ?_⟩
        simp only [updC, if_neg hj]
        exact c2.mod hM (n3 j)
  · simp only [putF]
    rw [if_neg (fun e => hi (by cases e; rfl))]
    exact h.no j i hi
  · intro a j b ha hb'
    simp only [updC] at hb'
    split at hb'
    · rename_i hj
      rcases hat b hb' with h2 | h2
      · exact h.d1 a m b ha h2
      · have := l3 a ha; omega
    · exact h.d1 a j b ha hb'
  · intro i j a b hij ha hb'
    simp only [updC] at ha hb'
    split at ha <;> split at hb'
    · omega
    · rename_i hi hj
      rcases hat a ha with h2 | h2
      · exact h.d2 m j a b (fun e => hj e.symm) h2 hb'
      · have := l4 j b hb'; omega
    · rename_i hi hj
      rcases hat b hb' with h2 | h2
      · exact h.d2 i m a b hi ha h2
      · have := l4 i a ha; omega
    · exact h.d2 i j a b hij ha hb'
  · intro j a ha
    simp only [updC] at ha
    split at ha
    · rcases hat a ha with h2 | h2
      · exact .inl (h.fad m a h2)
      · exact .inr h2
    · exact .inl (h.fad j a ha)
set_option maxRecDepth 100000 in
set_option maxHeartbeats 4000000 in
theorem ftake_own (F : Nat → Prop) (f k m : Nat) (glob : List Nat) (cs : Nat → List Nat) (w : World) (h : FreeR w F f k glob cs) (hg : glob.length ≤ 900) (hc : ∀ m, (cs m).length ≤ 1000) (hm : m < 4) (hne : cs m ≠ []) :
    Calls Tryz.prog 159 #[.pointer (some ⟨f, 0, none⟩), .int .i64 m, .int .i64 k] w fun e w' => e = .returned (.tuple #[.int .i64 ((cs m).getLastD 0 : Nat), .int .i64 0]) ∧ FreeR w' (GrowF F w) f k glob (updC cs m (cs m).dropLast) ∧ Mod w w' F := by
  obtain ⟨mb, A, cap, fm, ad, cp, hx⟩ := h
  have hk := hx.hk
  have Hr := Lib.hid (fun w => fright_any m k w hm hk)
  have HX := Lib.hid hx
  have HFmb := Lib.hid hx.fmb
  obtain ⟨n8, Hn8⟩ : ∃ n, Hid (w.heap.size = n) := ⟨_, rfl⟩
  have L1 := Lib.hid ((Loc.nil Nob w).box 249 #[.int .i64 (m : Nat), .int .i64 (k : Nat)] n8 Hn8.out)
  have hn8mb : n8 ≠ mb := by have := hx.lt.2.1; have := Hn8.out; omega
  have Hlen : Hid (0 < (cs m).length) := List.length_pos_iff.2 hne
  have hn2 : (cs m).length ≤ 1000 := hc m
  obtain ⟨r, Hrr⟩ : ∃ r, Hid ((cs m).getLastD 0 = r) := ⟨_, rfl⟩
  rw [Hrr.out]
  clear hx hne hc
  go_enter Tryz.func159, Tryz.ntmps159
  go_wp2_with (go_at_call 210; refine (Hr.out _).mono ?_; rintro e w' ⟨rfl, rfl⟩)
  rw [Hn8.out]
  generalize w.alloc _ = w1 at *
  have HXb := Lib.hid (HX.out.below L1.out.below (Nat.le_refl _))
  have Hn8b := Lib.hid L1.out.b0
  have HMb := Lib.hid ((Mod.of_below L1.out.below).mono (S' := F) (fun k hk h => by omega))
  have Hl : ∀ q, (Instr.lookup 235 (.map (some mb)) (.agg #[.int .i64 (m : Nat), .int .i64 (k : Nat)]) false).run Tryz.prog (w1.drewN q) = .ok (.slice (ad m) (cs m).length (cp m)) (w1.drewN q) := fun q =>
    (HXb.out.mod (S := Nob) ((Mod.refl w1 _).drewN q) (fun _ _ h => h)).look m
  have y2 : w1.cell? ⟨f, 32, none⟩ = some (.map (some mb)) := (HXb.out.b.cell 32).trans (fcells_map k _ mb)
  have z0 : w1.cell? ⟨n8, 0, none⟩ = some (.int .i64 (m : Nat)) := Hn8b.out.cell 0
  have z1 : w1.cell? ⟨n8, 1, none⟩ = some (.int .i64 (k : Nat)) := Hn8b.out.cell 1
  have hlb : (((cs m).length : Int) == 0) = false := by rw [beq_eq_false_iff_ne]; have := Hlen.out; omega
  go_quiet (fail)
  obtain ⟨w2, Hw2⟩ : ∃ w2, Hid (w1.drewN nq = w2) := ⟨_, rfl⟩
  rw [Hw2.out]
  have HBpre : Hid (Below w1.heap.size w1 w2) := by rw [← Hw2.out]; exact below_drewN (Below.refl _ _) nq
  have HX2 := Lib.hid (HXb.out.below HBpre.out (Nat.le_refl _))
  clear Hl y2 z0 z1 Hw2
  have Hl : ∀ q, (Instr.lookup 235 (.map (some mb)) (.agg #[.int .i64 (m : Nat), .int .i64 (k : Nat)]) false).run Tryz.prog (w2.drewN q) = .ok (.slice (ad m) (cs m).length (cp m)) (w2.drewN q) := fun q =>
    (HX2.out.mod (S := Nob) ((Mod.refl w2 _).drewN q) (fun _ _ h => h)).look m
  have y2 : w2.cell? ⟨f, 32, none⟩ = some (.map (some mb)) := (HX2.out.b.cell 32).trans (fcells_map k _ mb)
  have z0 : w2.cell? ⟨n8, 0, none⟩ = some (.int .i64 (m : Nat)) := (Hn8b.out.below HBpre.out Hn8b.out.lt).cell 0
  have z1 : w2.cell? ⟨n8, 1, none⟩ = some (.int .i64 (k : Nat)) := (Hn8b.out.below HBpre.out Hn8b.out.lt).cell 1
  go_wp2_with fail
  go_quiet (fail)
  obtain ⟨w3, Hw3⟩ : ∃ w3, Hid (w2.drewN nq = w3) := ⟨_, rfl⟩
  rw [Hw3.out]
  have HB3 : Hid (Below w1.heap.size w1 w3) := by rw [← Hw3.out]; exact below_drewN HBpre.out nq
  have HX3 := Lib.hid (HXb.out.below HB3.out (Nat.le_refl _))
  clear Hl y2 z0 z1 Hw3
  have hO : Own w3 0 3 1 (ad m) (cs m).length (cp m) (ncells (cs m)) := by
    rcases HX3.out.c m with ⟨_, h1, _⟩ | ⟨_, h1⟩
    · have := Hlen.out; rw [h1] at this; simp at this
    · exact h1
  obtain ⟨g, hadm, _, hgl, hnc, hcm, hx, hfz⟩ := hO.at_ Hlen.out
  have hcut := hO.cut (k := (cs m).length - 1) (by omega)
  have HP : Hid (∃ w5, (Instr.mapUpdate 235 (.map (some mb)) (.agg #[.int .i64 (m : Nat), .int .i64 (k : Nat)]) (.slice (ad m) ((cs m).length - 1) (cp m))).run Tryz.prog w3.drew = .ok () w5 ∧ FreeX w5 (GrowF (F) w1) f k (glob) (updC cs m (cs m).dropLast) mb A cap (putF (fm) (m, k) (.slice (ad m) ((cs m).length - 1) (cp m))) (updC (ad) m (ad m)) (updC (cp) m (cp m)) ∧ Mod w3 w5 (fun j => j = mb)) := by
    have hd : Mod w3 w3.drew Nob := (Mod.refl w3 _).drewN 1
    have h3 := (HX3.out.mod hd (fun _ _ h => h))
    obtain ⟨w5, h5, h6, h7⟩ := h3.m.put slotT Tryz.underlying235 (m, k) (.slice (ad m) ((cs m).length - 1) (cp m))
    refine ⟨w5, h5, ?_, ((Mod.refl w3 (fun j => j = mb)).drewN 1).trans h7 (fun _ _ h => h)⟩
    have hlen2 : (cs m).dropLast.length = (cs m).length - 1 := List.length_dropLast
    have hO2 : Own w3.drew 0 3 1 (ad m) (cs m).dropLast.length (cp m) (ncells (cs m).dropLast) := by
      rw [hlen2]
      have e : ncells (cs m).dropLast = (ncells (cs m)).take (((cs m).length - 1) * 1) := by
        unfold ncells
        rw [Nat.mul_one, List.dropLast_eq_take, List.map_take]
      rw [e]
      exact hcut.drewN 1
    have := HXb.out.putC (w1 := w3.drew) (w2 := w5) (below_drewN HB3.out 1) m (cs m).dropLast (ad m) (cp m) hO2 (fun a ha => .inl ha) (by rw [hlen2]; exact h6) h7
    rw [hlen2] at this
    exact this
  obtain ⟨w5, hput, hX5, hM5⟩ := HP.out
  have HX5 := Lib.hid hX5
  have HM5 := Lib.hid hM5
  have hlast : w3.cell? ⟨g, (cs m).length - 1, none⟩ = some (.int .i64 ((cs m).getLastD 0 : Nat)) := by
    have := hx ((cs m).length - 1) _ (ncells_at (cs m) ((cs m).length - 1) (by have := Hlen.out; omega))
    rw [this]
    congr 2
    rw [List.getLastD_eq_getLast?, List.getLast?_eq_getElem?, List.getD_eq_getElem?_getD]
  have hgmb : g ≠ mb := HX3.out.ne_fm.2.2 m _ hadm
  have hl5 : w5.cell? ⟨g, (cs m).length - 1, none⟩ = some (.int .i64 ((cs m).getLastD 0 : Nat)) := cell_mod hM5 hlast hgmb
  have hsl : ∀ w, (Instr.slice 60 (.slice (ad m) (cs m).length (cp m)) none (some (.int .i64 (((cs m).length : Int) - 1))) none).run Tryz.prog w = .ok (.slice (ad m) ((cs m).length - 1) (cp m)) w := by
    intro w
    have h0 := Hlen.out
    rw [hadm]
    rw [run_slice_h w 60 _ _ (cp m) Tryz.underlying60 .i64 _ (by omega) (by omega)]
    have : (sizeOf (Tryz.prog.elem 60)).run Tryz.prog w = .ok 1 w := by kernel_rfl
    rw [this]
    simp only [Result.andThen, sliced, Option.map_some]
    have hn : (((cs m).length : Int) - 1).toNat = (cs m).length - 1 := by omega
    rw [hn, if_neg (by omega)]
    rfl
  have y2 : w3.drew.cell? ⟨f, 32, none⟩ = some (.map (some mb)) := (HX3.out.b.cell 32).trans (fcells_map k _ mb)
  have z0 : w3.drew.cell? ⟨n8, 0, none⟩ = some (.int .i64 (m : Nat)) := (Hn8b.out.below HB3.out Hn8b.out.lt).cell 0
  have z1 : w3.drew.cell? ⟨n8, 1, none⟩ = some (.int .i64 (k : Nat)) := (Hn8b.out.below HB3.out Hn8b.out.lt).cell 1
  have hfmb : f ≠ mb := HX3.out.ne_fm.1
  have y5 : w5.cell? ⟨f, 32, none⟩ = some (.map (some mb)) := cell_mod hM5 y2 hfmb
  have z05 : w5.cell? ⟨n8, 0, none⟩ = some (.int .i64 (m : Nat)) := cell_mod hM5 z0 hn8mb
  have z15 : w5.cell? ⟨n8, 1, none⟩ = some (.int .i64 (k : Nat)) := cell_mod hM5 z1 hn8mb
  have hn1 : 1 ≤ (cs m).length := Hlen.out
  have HMw : Hid (Mod w w5 F) := (HMb.out.trans ((Mod.of_below HB3.out).mono (S' := F) (fun k hk h => by omega)) (fun _ _ h => h)).trans hM5 (fun _ _ e => by rw [e]; exact HFmb.out)
  rw [hadm] at hsl hput
  rw [hadm]
  clear hO hcut hx hfz hlast hX5 hM5 HP HX3 hnc
  rw [Hrr.out] at hl5
  obtain ⟨n, Hnn⟩ : ∃ n, Hid ((cs m).length = n) := ⟨_, rfl⟩
  rw [Hnn.out] at hsl hput hl5 hn1 hn2 HX5 ⊢
  have hwr : IntKind.i64.wrap ((n : Int) - 1) = (n : Int) - 1 := IntWalk.i64_in _ (by omega)
  have hlb : ((n : Int) == 0) = false := by rw [beq_eq_false_iff_ne]; omega
  go_wp2_with fail
  go_region_held3 (fun w' => w'.cell? ⟨f, 32, none⟩ = some (.map (some mb)) ∧ w'.cell? ⟨n8, 0, none⟩ = some (.int .i64 (m : Nat)) ∧ w'.cell? ⟨n8, 1, none⟩ = some (.int .i64 (k : Nat)))
    (first | exact ⟨y2, z0, z1⟩ | exact ⟨y5, z05, z15⟩) (fail)
  go_wp2_with fail
  go_ret2
  exact ⟨by simp, ⟨mb, A, cap, _, _, _, HX5.out.weak (fun j _ hj => hj.elim .inl (fun h => .inr (by have := L1.out.be.size; omega)))⟩, HMw.out⟩
theorem updC_same {α : Type} (cs : Nat → α) (m : Nat) (a b : α) : updC (updC cs m a) m b = updC cs m b := by
  funext j
  unfold updC
  split <;> rfl
theorem updC_at {α : Type} (cs : Nat → α) (m : Nat) (a : α) : updC cs m a m = a := by unfold updC; rw [if_pos rfl]
set_option maxRecDepth 100000 in
/-- The last cells of all, and a row of them made anew. -/
theorem fill_row {w : World} {A : Option Addr} {cap fr q : Nat} {glob : List Nat} (hO : Own w 0 3 1 A glob.length cap (ncells glob)) (hl : glob.length = fr + q) (hg : glob.length ≤ 900) :
    ∃ A' c', (∀ w, (Instr.slice 60 (.slice A glob.length cap) (some (.int .i64 (fr : Int))) none none).run Tryz.prog w = .ok (.slice A' q c') w) ∧
      (∀ w', Below w.heap.size w w' → Calls Tryz.prog 192 #[.slice A' q c'] w' fun e w'' => ∃ A6 cap6, e = .returned (.slice A6 q cap6) ∧ Own w'' w'.heap.size 3 1 A6 q cap6 (ncells (glob.drop fr)) ∧ Below w'.heap.size w' w'') ∧
      (∀ w, (Instr.slice 60 (.slice A glob.length cap) none (some (.int .i64 (fr : Int))) none).run Tryz.prog w = .ok (.slice A fr cap) w) := by
  have hsz : ∀ w, (sizeOf (Tryz.prog.elem 60)).run Tryz.prog w = .ok 1 w := fun w => by kernel_rfl
  rcases hO.form with ⟨rfl, h2, h3⟩ | ⟨g, cur, rfl, _, hb, hnc, hcm, hcs, hct⟩
  · have hf : fr = 0 := by omega
    have hq : q = 0 := by omega
    subst hf hq h3
    have hgl : glob = [] := List.eq_nil_of_length_eq_zero (by omega)
    subst hgl
    refine ⟨none, 0, fun w => ?_, fun w' _ => ?_, fun w => ?_⟩
    · rw [run_slice_l w 60 _ _ _ Tryz.underlying60 .i64 _ (by omega) (by omega), hsz]
      rfl
    · refine (iclone_nil w').mono ?_
      rintro e w'' ⟨rfl, rfl⟩
      exact ⟨none, 0, rfl, Own.nil _ _ _ _, Below.refl _ _⟩
    · rw [run_slice_h w 60 _ _ _ Tryz.underlying60 .i64 _ (by omega) (by omega), hsz]
      rfl
  · obtain ⟨o2, ho2, hsl⟩ : ∃ o2, (o2 = fr ∨ q = 0) ∧ (if cap = fr then (some ⟨g, 0, none⟩ : Option Addr) else (some ⟨g, 0, none⟩ : Option Addr).map (·.add (fr * 1))) = some ⟨g, o2, none⟩ := by
      by_cases hcf : cap = fr
      · exact ⟨0, .inr (by omega), by rw [if_pos hcf]⟩
      · refine ⟨fr, .inl rfl, ?_⟩
        rw [if_neg hcf, Option.map_some]
        unfold Addr.add
        split <;> simp_all
    refine ⟨some ⟨g, o2, none⟩, cap - fr, fun w => ?_, fun w' hb' => ?_, fun w => ?_⟩
    · rw [run_slice_l w 60 _ _ _ Tryz.underlying60 .i64 _ (by omega) (by omega), hsz]
      simp only [Result.andThen, sliced, Int.toNat_natCast, hsl]
      rw [hl, Nat.add_sub_cancel_left]
    · refine iclone_any ⟨g, o2, none⟩ q (cap - fr) (glob.drop fr) w' (by omega) ⟨by rw [ncells_len, List.length_drop]; omega, fun h0 => ?_⟩
      have ho : o2 = fr := by rcases ho2 with h | h; exact h; omega
      subst ho
      obtain ⟨_, e, _, _, _, _, hx, _⟩ := (hO.below hb' (Nat.le_refl _)).at_ (by omega)
      cases e
      refine ⟨g, o2, rfl, Nat.lt_of_lt_of_le hb.lt hb'.size, fun j u hu => hx _ u ?_⟩
      unfold ncells at hu ⊢
      rw [List.map_drop, List.getElem?_drop] at hu
      exact hu
    · rw [run_slice_h w 60 _ _ _ Tryz.underlying60 .i64 _ (by omega) (by omega), hsz]
      simp only [Result.andThen, sliced, Int.toNat_natCast, Nat.sub_zero]
      by_cases hc0 : cap = 0
      · rw [if_pos hc0]
      · rw [if_neg hc0, Option.map_some, Nat.zero_mul]
        rfl
/-- What the walk reads in a region that fills a mutator's row. -/
def FillS (f k mb n8 m N cap : Nat) (A : Option Addr) (w' : World) : Prop :=
  w'.cell? ⟨f, 32, none⟩ = some (.map (some mb)) ∧ w'.cell? ⟨n8, 0, none⟩ = some (.int .i64 (m : Nat)) ∧ w'.cell? ⟨n8, 1, none⟩ = some (.int .i64 (k : Nat)) ∧ w'.cell? ⟨f, k, none⟩ = some (.slice A N cap)
theorem fill_pack {w w6 : World} {F : Nat → Prop} {f k m N q fr n8 : Nat} {glob : List Nat} {cs : Nat → List Nat} {mb : Nat} {A A6 : Option Addr} {cap cap6 : Nat} {fm : Nat × Nat → Option Value} {ad : Nat → Option Addr} {cp : Nat → Nat}
    (h : FreeX w F f k glob cs mb A cap fm ad cp) (hn8 : Blk w n8 249 #[.int .i64 (m : Nat), .int .i64 (k : Nat)]) (hmb : n8 ≠ mb) (hN : glob.length = N) (hq : (glob.drop fr).length = q) (hO : Own w6 w.heap.size 3 1 A6 q cap6 (ncells (glob.drop fr))) (hb : Below w.heap.size w w6) :
    FillS f k mb n8 m N cap A w6 ∧ ∃ w7, (Instr.mapUpdate 235 (.map (some mb)) (.agg #[.int .i64 (m : Nat), .int .i64 (k : Nat)]) (.slice A6 q cap6)).run Tryz.prog w6 = .ok () w7 ∧ FillS f k mb n8 m N cap A w7 ∧
      FreeX w7 (GrowF F w) f k glob (updC cs m (glob.drop fr)) mb A cap (putF fm (m, k) (.slice A6 q cap6)) (updC ad m A6) (updC cp m cap6) ∧ Blk w7 n8 249 #[.int .i64 (m : Nat), .int .i64 (k : Nat)] ∧ Mod w w7 F := by
  have h6 := h.below hb (Nat.le_refl _)
  have hn6 := hn8.below hb hn8.lt
  have hS6 : FillS f k mb n8 m N cap A w6 := ⟨(h6.b.cell 32).trans (fcells_map k _ mb), hn6.cell 0, hn6.cell 1, (h6.b.cell k).trans (by rw [hN]; exact fcells_at k _ mb h.hk)⟩
  obtain ⟨w7, hput7, hm7, hM7⟩ := h6.m.put slotT Tryz.underlying235 (m, k) (.slice A6 q cap6)
  refine ⟨hS6, w7, hput7, ⟨cell_mod (p := ⟨f, 32, none⟩) hM7 hS6.1 h6.ne_fm.1, cell_mod (p := ⟨n8, 0, none⟩) hM7 hS6.2.1 hmb, cell_mod (p := ⟨n8, 1, none⟩) hM7 hS6.2.2.1 hmb, cell_mod (p := ⟨f, k, none⟩) hM7 hS6.2.2.2 h6.ne_fm.1⟩, ?_, hM7.blk hn6 hmb, ?_⟩
  · have := h.putC hb m (glob.drop fr) A6 cap6 (by rw [hq]; exact hO.base_ (Nat.zero_le _)) (fun a ha => .inr (hO.lt a ha).1) (by rw [hq]; exact hm7) hM7
    rw [hq] at this
    exact this
  · exact ((Mod.of_below hb).mono (S' := F) (fun k hk h => by omega)).trans hM7 (fun _ _ e => by rw [e]; exact h.fmb)
set_option maxRecDepth 100000 in
set_option maxHeartbeats 4000000 in
theorem ftake_fill (F : Nat → Prop) (f k m : Nat) (glob : List Nat) (cs : Nat → List Nat) (w : World) (h : FreeR w F f k glob cs) (hg : glob.length ≤ 900) (hc : ∀ m, (cs m).length ≤ 1000) (hm : m < 4) (hne : cs m = []) (hgn : glob ≠ []) (fr : Nat) (hfr : fr = glob.length - takeN glob) :
    Calls Tryz.prog 159 #[.pointer (some ⟨f, 0, none⟩), .int .i64 m, .int .i64 k] w fun e w' => e = .returned (.tuple #[.int .i64 ((glob.drop fr).getLastD 0 : Nat), .int .i64 0]) ∧ FreeR w' (GrowF F w) f k (glob.take fr) (updC cs m (glob.drop fr).dropLast) ∧ Mod w w' F := by
  obtain ⟨mb, A, cap, fm, ad, cp, hx⟩ := h
  have hk := hx.hk
  have Hr := Lib.hid (fun w => fright_any m k w hm hk)
  have HX := Lib.hid hx
  have HFmb := Lib.hid hx.fmb
  obtain ⟨n8, Hn8⟩ : ∃ n, Hid (w.heap.size = n) := ⟨_, rfl⟩
  have L1 := Lib.hid ((Loc.nil Nob w).box 249 #[.int .i64 (m : Nat), .int .i64 (k : Nat)] n8 Hn8.out)
  have hn8mb : n8 ≠ mb := by have := hx.lt.2.1; have := Hn8.out; omega
  have hn8f : n8 ≠ f := by have := hx.lt.1; have := Hn8.out; omega
  have hl0 : 0 < glob.length := List.length_pos_iff.2 hgn
  have htk : takeN glob = min glob.length 4 := rfl
  obtain ⟨q, Hq⟩ : ∃ q, Hid (takeN glob = q) := ⟨_, rfl⟩
  have hq := Hq.out
  rw [hq] at htk hfr
  have hlfq : glob.length = fr + q := by omega
  have hq0 : 0 < q := by omega
  have hq4 : q ≤ 4 := by omega
  have hmin : (if (4 : Int) < ((glob.length : Nat) : Int) then (4 : Int) else ((glob.length : Nat) : Int)) = (q : Int) := by split <;> omega
  have hsub : ((glob.length : Nat) : Int) - (q : Int) = (fr : Int) := by omega
  obtain ⟨A', c', hsl1, hcl, hsl2⟩ := fill_row hx.g hlfq hg
  have Hcl := Lib.hid hcl
  have Hdl : Hid ((glob.drop fr).length = q) := by show _ = _; rw [List.length_drop]; omega
  have Htl : Hid ((glob.take fr).length = fr) := by show _ = _; rw [List.length_take]; omega
  obtain ⟨r, Hr0⟩ : ∃ r, Hid ((glob.drop fr).getLastD 0 = r) := ⟨_, rfl⟩
  rw [Hr0.out]
  have Hcs0 : Hid ((cs m).length = 0) := by show _ = _; rw [hne]; rfl
  clear hx hne hc hcl hq htk hlfq hgn hfr
  go_enter Tryz.func159, Tryz.ntmps159
  go_wp2_with (go_at_call 210; refine (Hr.out _).mono ?_; rintro e w' ⟨rfl, rfl⟩)
  rw [Hn8.out]
  generalize w.alloc _ = w1 at *
  have HX1 := Lib.hid (HX.out.below L1.out.below (Nat.le_refl _))
  have Hl : ∀ q, (Instr.lookup 235 (.map (some mb)) (.agg #[.int .i64 (m : Nat), .int .i64 (k : Nat)]) false).run Tryz.prog (w1.drewN q) = .ok (.slice (ad m) 0 (cp m)) (w1.drewN q) := fun q => by
    have := (HX1.out.mod (S := Nob) ((Mod.refl w1 _).drewN q) (fun _ _ h => h)).look m
    rw [Hcs0.out] at this
    exact this
  have y2 : w1.cell? ⟨f, 32, none⟩ = some (.map (some mb)) := (HX1.out.b.cell 32).trans (fcells_map k _ mb)
  have z0 : w1.cell? ⟨n8, 0, none⟩ = some (.int .i64 (m : Nat)) := L1.out.b0.cell 0
  have z1 : w1.cell? ⟨n8, 1, none⟩ = some (.int .i64 (k : Nat)) := L1.out.b0.cell 1
  go_quiet (fail)
  obtain ⟨w2, Hw2⟩ : ∃ w2, Hid (w1.drewN nq = w2) := ⟨_, rfl⟩
  rw [Hw2.out]
  have L2 : Hid (Loc Nob w w2 [(n8, 249, #[.int .i64 (m : Nat), .int .i64 (k : Nat)])]) := by rw [← Hw2.out]; exact L1.out.drewN nq
  have HX2 := Lib.hid (HX.out.below L2.out.below (Nat.le_refl _))
  clear Hl y2 z0 z1 Hw2 HX1 L1
  have y0 : w2.cell? ⟨f, k, none⟩ = some (.slice A glob.length cap) := (HX2.out.b.cell k).trans (fcells_at k _ mb hk)
  have y0d : w2.drew.cell? ⟨f, k, none⟩ = some (.slice A glob.length cap) := y0
  have y2 : w2.drew.cell? ⟨f, 32, none⟩ = some (.map (some mb)) := (HX2.out.b.cell 32).trans (fcells_map k _ mb)
  have z0 : w2.drew.cell? ⟨n8, 0, none⟩ = some (.int .i64 (m : Nat)) := L2.out.b0.cell 0
  have z1 : w2.drew.cell? ⟨n8, 1, none⟩ = some (.int .i64 (k : Nat)) := L2.out.b0.cell 1
  have k0 : (0 : Int) ≤ (k : Int) := by omega
  have k1 : (k : Int) < 32 := by omega
  have HB2d : Hid (Below w.heap.size w w2.drew) := below_drewN L2.out.below 1
  obtain ⟨N, HN⟩ : ∃ N, Hid (glob.length = N) := ⟨_, rfl⟩
  rw [HN.out] at y0 y0d hmin hsub hsl1 hsl2 hg hl0
  have hwm : IntKind.i64.wrap ((N : Int) - (q : Int)) = (N : Int) - (q : Int) := IntWalk.i64_in _ (by omega)
  go_wp2_with fail
  have HX2d : Hid (FreeX w2.drew F f k glob cs mb A cap fm ad cp) := HX2.out.mod (S := Nob) ((Mod.refl w2 _).drewN 1) (fun _ _ h => h)
  have hn8b2 : Blk w2.drew n8 249 #[.int .i64 (m : Nat), .int .i64 (k : Nat)] := L2.out.b0
  have Hn8b2 := Lib.hid hn8b2
  clear hn8b2
  go_region_held3 (fun w' => w'.cell? ⟨f, 32, none⟩ = some (.map (some mb)) ∧ w'.cell? ⟨n8, 0, none⟩ = some (.int .i64 (m : Nat)) ∧ w'.cell? ⟨n8, 1, none⟩ = some (.int .i64 (k : Nat)) ∧ w'.cell? ⟨f, k, none⟩ = some (.slice A N cap))
    (first | exact ⟨y2, z0, z1, y0d⟩ | exact HS6.out | exact HS7.out)
    ((go_at_call 192; refine (Hcl.out _ HB2d.out).mono ?_; rintro e w6 ⟨A6, cap6, rfl, hO6, hb6⟩; obtain ⟨hS6, w7, hput7, hS7, hX7, hn7, hm7⟩ := fill_pack HX2d.out Hn8b2.out hn8mb HN.out Hdl.out hO6 hb6; have HS6 := Lib.hid hS6; have HS7 := Lib.hid hS7; have HX7 := Lib.hid hX7; have Hn8b7 := Lib.hid hn7; have HM7 := Lib.hid hm7; clear hO6 hb6 hS6 hS7 hX7 hn7 hm7))
  have HMw7 : Hid (Mod w w7 F) := ((Mod.of_below HB2d.out).mono (S' := F) (fun k hk h => by omega)).trans HM7.out (fun _ _ h => h)
  have u0 : w7.drew.cell? ⟨f, k, none⟩ = some (.slice A N cap) := HS7.out.2.2.2
  have u1 : w7.drew.frozen? ⟨f, k, none⟩ = false := HX7.out.b.frozen k
  have hszw : Hid (w.heap.size ≤ w2.drew.heap.size ∧ w2.drew.heap.size ≤ w7.heap.size) := ⟨HB2d.out.size, HM7.out.size⟩
  clear HS6 HS7 HM7 HX2d y2 z0 z1 y0d y0 hput7 hsl1
  go_wp2_with fail
  go_region_law (fail)
  all_goals
    have hO7 : Own w7 0 3 1 A (glob.take fr).length cap (ncells (glob.take fr)) := by
      have := HX7.out.g.cut (k := fr) (by rw [HN.out]; omega)
      rw [Htl.out]
      have e : ncells (glob.take fr) = (ncells glob).take (fr * 1) := by unfold ncells; rw [Nat.mul_one, List.map_take]
      rw [e]
      exact this
    have hP8 := HX7.out.pushX (w1 := w7) (glob.take fr) hO7 (Mod.refl _ _) (fun a' ha' => .inl ⟨a', ha', rfl⟩)
    rw [Htl.out] at hP8
    obtain ⟨w8, Hw8⟩ : ∃ w8, Hid ((w7.setCell ⟨f, k, none⟩ (.slice A fr cap)).drew = w8) := ⟨_, rfl⟩
    have Hm8 : Hid (Mod w7 w8 (GrowF F w2.drew)) := by rw [← Hw8.out]; exact hP8.2.drewN 1
    have HXb : Hid (FreeX w8 (GrowF F w) f k (glob.take fr) (updC cs m (glob.drop fr)) mb A cap (putF fm (m, k) (.slice A6 q cap6)) (updC ad m A6) (updC cp m cap6)) := by
      have h1 := hP8.1.mod (S := Nob) ((Mod.refl _ _).drewN 1) (fun _ _ h => h)
      rw [← Hw8.out]
      refine h1.weak (fun j _ hj => ?_)
      rcases hj with (hj | hj) | hj
      · exact .inl hj
      · exact .inr (Nat.le_trans hszw.out.1 hj)
      · exact .inr (by have := hszw.out; omega)
    have Hn8b : Hid (Blk w8 n8 249 #[.int .i64 (m : Nat), .int .i64 (k : Nat)]) := by
      rw [← Hw8.out]
      exact (Hn8b7.out.far (p := ⟨f, k, none⟩) hn8f _).drew
    have HMb : Hid (Mod w w8 F) := by
      rw [← Hw8.out]
      exact (Mod.set (p := ⟨f, k, none⟩) HMw7.out (.inr HX.out.ff) _).drewN 1
    rw [Hw8.out]
    have HszW : Hid (w.heap.size ≤ w8.heap.size) := HMb.out.size
    obtain ⟨cs2, Hcs2⟩ : ∃ cs2, Hid (updC cs m (glob.drop fr) = cs2) := ⟨_, rfl⟩
    obtain ⟨ad2, Had2⟩ : ∃ ad2, Hid (updC ad m A6 = ad2) := ⟨_, rfl⟩
    obtain ⟨cp2, Hcp2⟩ : ∃ cp2, Hid (updC cp m cap6 = cp2) := ⟨_, rfl⟩
    obtain ⟨fm2, Hfm2⟩ : ∃ fm2, Hid (putF fm (m, k) (.slice A6 q cap6) = fm2) := ⟨_, rfl⟩
    rw [Hcs2.out, Had2.out, Hcp2.out, Hfm2.out] at HXb
    have Hcm2 : Hid (cs2 m = glob.drop fr) := by show _ = _; rw [← Hcs2.out, updC_at]
    have Hlen : Hid (0 < (cs2 m).length) := by show _ < _; rw [Hcm2.out, Hdl.out]; exact hq0
    have hn2 : (cs2 m).length ≤ 1000 := by rw [Hcm2.out, Hdl.out]; omega
    have Hrr : Hid ((cs2 m).getLastD 0 = r) := by show _ = _; rw [Hcm2.out]; exact Hr0.out
    have HcsE : Hid (updC cs2 m (cs2 m).dropLast = updC cs m (glob.drop fr).dropLast) := by show _ = _; rw [Hcm2.out, ← Hcs2.out, updC_same]
    have HBpre : Hid (Below w8.heap.size w8 w8) := Below.refl _ _
    have Hl : ∀ q, (Instr.lookup 235 (.map (some mb)) (.agg #[.int .i64 (m : Nat), .int .i64 (k : Nat)]) false).run Tryz.prog (w8.drewN q) = .ok (.slice (ad2 m) (cs2 m).length (cp2 m)) (w8.drewN q) := fun q =>
      (HXb.out.mod (S := Nob) ((Mod.refl w8 _).drewN q) (fun _ _ h => h)).look m
    have y2 : w8.cell? ⟨f, 32, none⟩ = some (.map (some mb)) := (HXb.out.b.cell 32).trans (fcells_map k _ mb)
    have z0 : w8.cell? ⟨n8, 0, none⟩ = some (.int .i64 (m : Nat)) := Hn8b.out.cell 0
    have z1 : w8.cell? ⟨n8, 1, none⟩ = some (.int .i64 (k : Nat)) := Hn8b.out.cell 1
    clear u0 u1 hO7 hP8 HX7 Hn8b7 HMw7 Hw8 Hm8 hszw L2 HX2 Hn8b2 HB2d hmin hsub hsl2 hwm HX Hcs0 Hcl Hn8
    go_wp2_with fail
    go_quiet (fail)
    obtain ⟨w3, Hw3⟩ : ∃ w3, Hid (w8.drewN nq = w3) := ⟨_, rfl⟩
    rw [Hw3.out]
    have HB3 : Hid (Below w8.heap.size w8 w3) := by rw [← Hw3.out]; exact below_drewN HBpre.out nq
    have HX3 := Lib.hid (HXb.out.below HB3.out (Nat.le_refl _))
    clear Hl y2 z0 z1 Hw3
    have hO : Own w3 0 3 1 (ad2 m) (cs2 m).length (cp2 m) (ncells (cs2 m)) := by
      rcases HX3.out.c m with ⟨_, h1, _⟩ | ⟨_, h1⟩
      · have := Hlen.out; rw [h1] at this; simp at this
      · exact h1
    obtain ⟨g, hadm, _, hgl, hnc, hcm, hx, hfz⟩ := hO.at_ Hlen.out
    have hcut := hO.cut (k := (cs2 m).length - 1) (by omega)
    have HP : Hid (∃ w5, (Instr.mapUpdate 235 (.map (some mb)) (.agg #[.int .i64 (m : Nat), .int .i64 (k : Nat)]) (.slice (ad2 m) ((cs2 m).length - 1) (cp2 m))).run Tryz.prog w3.drew = .ok () w5 ∧ FreeX w5 (GrowF ((GrowF F w)) w8) f k (glob.take fr) (updC cs2 m (cs2 m).dropLast) mb A cap (putF (fm2) (m, k) (.slice (ad2 m) ((cs2 m).length - 1) (cp2 m))) (updC (ad2) m (ad2 m)) (updC (cp2) m (cp2 m)) ∧ Mod w3 w5 (fun j => j = mb)) := by
      have hd : Mod w3 w3.drew Nob := (Mod.refl w3 _).drewN 1
      have h3 := (HX3.out.mod hd (fun _ _ h => h))
      obtain ⟨w5, h5, h6, h7⟩ := h3.m.put slotT Tryz.underlying235 (m, k) (.slice (ad2 m) ((cs2 m).length - 1) (cp2 m))
      refine ⟨w5, h5, ?_, ((Mod.refl w3 (fun j => j = mb)).drewN 1).trans h7 (fun _ _ h => h)⟩
      have hlen2 : (cs2 m).dropLast.length = (cs2 m).length - 1 := List.length_dropLast
      have hO2 : Own w3.drew 0 3 1 (ad2 m) (cs2 m).dropLast.length (cp2 m) (ncells (cs2 m).dropLast) := by
        rw [hlen2]
        have e : ncells (cs2 m).dropLast = (ncells (cs2 m)).take (((cs2 m).length - 1) * 1) := by
          unfold ncells
          rw [Nat.mul_one, List.dropLast_eq_take, List.map_take]
        rw [e]
        exact hcut.drewN 1
      have := HXb.out.putC (w1 := w3.drew) (w2 := w5) (below_drewN HB3.out 1) m (cs2 m).dropLast (ad2 m) (cp2 m) hO2 (fun a ha => .inl ha) (by rw [hlen2]; exact h6) h7
      rw [hlen2] at this
      exact this
    obtain ⟨w5, hput, hX5, hM5⟩ := HP.out
    have HX5 := Lib.hid hX5
    have HM5 := Lib.hid hM5
    have hlast : w3.cell? ⟨g, (cs2 m).length - 1, none⟩ = some (.int .i64 ((cs2 m).getLastD 0 : Nat)) := by
      have := hx ((cs2 m).length - 1) _ (ncells_at (cs2 m) ((cs2 m).length - 1) (by have := Hlen.out; omega))
      rw [this]
      congr 2
      rw [List.getLastD_eq_getLast?, List.getLast?_eq_getElem?, List.getD_eq_getElem?_getD]
    have hgmb : g ≠ mb := HX3.out.ne_fm.2.2 m _ hadm
    have hl5 : w5.cell? ⟨g, (cs2 m).length - 1, none⟩ = some (.int .i64 ((cs2 m).getLastD 0 : Nat)) := cell_mod hM5 hlast hgmb
    have hsl : ∀ w, (Instr.slice 60 (.slice (ad2 m) (cs2 m).length (cp2 m)) none (some (.int .i64 (((cs2 m).length : Int) - 1))) none).run Tryz.prog w = .ok (.slice (ad2 m) ((cs2 m).length - 1) (cp2 m)) w := by
      intro w
      have h0 := Hlen.out
      rw [hadm]
      rw [run_slice_h w 60 _ _ (cp2 m) Tryz.underlying60 .i64 _ (by omega) (by omega)]
      have : (sizeOf (Tryz.prog.elem 60)).run Tryz.prog w = .ok 1 w := by kernel_rfl
      rw [this]
      simp only [Result.andThen, sliced, Option.map_some]
      have hn : (((cs2 m).length : Int) - 1).toNat = (cs2 m).length - 1 := by omega
      rw [hn, if_neg (by omega)]
      rfl
    have y2 : w3.drew.cell? ⟨f, 32, none⟩ = some (.map (some mb)) := (HX3.out.b.cell 32).trans (fcells_map k _ mb)
    have z0 : w3.drew.cell? ⟨n8, 0, none⟩ = some (.int .i64 (m : Nat)) := (Hn8b.out.below HB3.out Hn8b.out.lt).cell 0
    have z1 : w3.drew.cell? ⟨n8, 1, none⟩ = some (.int .i64 (k : Nat)) := (Hn8b.out.below HB3.out Hn8b.out.lt).cell 1
    have hfmb : f ≠ mb := HX3.out.ne_fm.1
    have y5 : w5.cell? ⟨f, 32, none⟩ = some (.map (some mb)) := cell_mod hM5 y2 hfmb
    have z05 : w5.cell? ⟨n8, 0, none⟩ = some (.int .i64 (m : Nat)) := cell_mod hM5 z0 hn8mb
    have z15 : w5.cell? ⟨n8, 1, none⟩ = some (.int .i64 (k : Nat)) := cell_mod hM5 z1 hn8mb
    have hn1 : 1 ≤ (cs2 m).length := Hlen.out
    have HMw : Hid (Mod w w5 F) := (HMb.out.trans ((Mod.of_below HB3.out).mono (S' := F) (fun k hk h => by omega)) (fun _ _ h => h)).trans hM5 (fun _ _ e => by rw [e]; exact HFmb.out)
    rw [hadm] at hsl hput
    rw [hadm]
    clear hO hcut hx hfz hlast hX5 hM5 HP HX3 hnc
    rw [Hrr.out] at hl5
    obtain ⟨n, Hnn⟩ : ∃ n, Hid ((cs2 m).length = n) := ⟨_, rfl⟩
    rw [Hnn.out] at hsl hput hl5 hn1 hn2 HX5 ⊢
    have hwr : IntKind.i64.wrap ((n : Int) - 1) = (n : Int) - 1 := IntWalk.i64_in _ (by omega)
    have hlb : ((n : Int) == 0) = false := by rw [beq_eq_false_iff_ne]; omega
    go_wp2_with fail
    go_region_held3 (fun w' => w'.cell? ⟨f, 32, none⟩ = some (.map (some mb)) ∧ w'.cell? ⟨n8, 0, none⟩ = some (.int .i64 (m : Nat)) ∧ w'.cell? ⟨n8, 1, none⟩ = some (.int .i64 (k : Nat)))
      (first | exact ⟨y2, z0, z1⟩ | exact ⟨y5, z05, z15⟩) (fail)
    go_wp2_with fail
    go_ret2
    exact ⟨by simp, ⟨mb, A, cap, _, _, _, (HcsE.out ▸ HX5.out).weak (fun j _ hj => hj.elim id (fun h => .inr (Nat.le_trans HszW.out h)))⟩, HMw.out⟩
set_option maxRecDepth 100000 in
set_option maxHeartbeats 4000000 in
theorem ftake_none (F : Nat → Prop) (f k m : Nat) (glob : List Nat) (cs : Nat → List Nat) (w : World) (h : FreeR w F f k glob cs) (hg : glob.length ≤ 900) (hc : ∀ m, (cs m).length ≤ 1000) (hm : m < 4) (hne : cs m = []) (hgn : glob = []) :
    Calls Tryz.prog 159 #[.pointer (some ⟨f, 0, none⟩), .int .i64 m, .int .i64 k] w fun e w' => e = .returned (.tuple #[.int .i64 0, .int .i64 4]) ∧ FreeR w' (GrowF F w) f k glob cs ∧ Mod w w' F := by
  obtain ⟨fr, hfr⟩ : ∃ fr, fr = glob.length - takeN glob := ⟨_, rfl⟩
  obtain ⟨mb, A, cap, fm, ad, cp, hx⟩ := h
  have hk := hx.hk
  have Hr := Lib.hid (fun w => fright_any m k w hm hk)
  have HX := Lib.hid hx
  have HFmb := Lib.hid hx.fmb
  obtain ⟨n8, Hn8⟩ : ∃ n, Hid (w.heap.size = n) := ⟨_, rfl⟩
  have L1 := Lib.hid ((Loc.nil Nob w).box 249 #[.int .i64 (m : Nat), .int .i64 (k : Nat)] n8 Hn8.out)
  have hn8mb : n8 ≠ mb := by have := hx.lt.2.1; have := Hn8.out; omega
  have hn8f : n8 ≠ f := by have := hx.lt.1; have := Hn8.out; omega
  have hl0 : glob.length = 0 := by rw [hgn]; rfl
  have htk : takeN glob = min glob.length 4 := rfl
  obtain ⟨q, Hq⟩ : ∃ q, Hid (takeN glob = q) := ⟨_, rfl⟩
  have hq := Hq.out
  rw [hq] at htk hfr
  have hlfq : glob.length = fr + q := by omega
  have hq0 : q = 0 := by omega
  have hq4 : q ≤ 4 := by omega
  have hmin : (if (4 : Int) < ((glob.length : Nat) : Int) then (4 : Int) else ((glob.length : Nat) : Int)) = (q : Int) := by split <;> omega
  have hsub : ((glob.length : Nat) : Int) - (q : Int) = (fr : Int) := by omega
  obtain ⟨A', c', hsl1, hcl, hsl2⟩ := fill_row hx.g hlfq hg
  have Hcl := Lib.hid hcl
  have Hdl : Hid ((glob.drop fr).length = q) := by show _ = _; rw [List.length_drop]; omega
  have Htl : Hid ((glob.take fr).length = fr) := by show _ = _; rw [List.length_take]; omega
  have Hq0 := Lib.hid hq0
  have HE0 := Lib.hid (And.intro hgn hne)
  have HL0 := Lib.hid hl0
  have Hcs0 : Hid ((cs m).length = 0) := by show _ = _; rw [hne]; rfl
  clear hx hne hc hcl hq htk hlfq hgn hfr hl0 hq0
  go_enter Tryz.func159, Tryz.ntmps159
  go_wp2_with (go_at_call 210; refine (Hr.out _).mono ?_; rintro e w' ⟨rfl, rfl⟩)
  rw [Hn8.out]
  generalize w.alloc _ = w1 at *
  have HX1 := Lib.hid (HX.out.below L1.out.below (Nat.le_refl _))
  have Hl : ∀ q, (Instr.lookup 235 (.map (some mb)) (.agg #[.int .i64 (m : Nat), .int .i64 (k : Nat)]) false).run Tryz.prog (w1.drewN q) = .ok (.slice (ad m) 0 (cp m)) (w1.drewN q) := fun q => by
    have := (HX1.out.mod (S := Nob) ((Mod.refl w1 _).drewN q) (fun _ _ h => h)).look m
    rw [Hcs0.out] at this
    exact this
  have y2 : w1.cell? ⟨f, 32, none⟩ = some (.map (some mb)) := (HX1.out.b.cell 32).trans (fcells_map k _ mb)
  have z0 : w1.cell? ⟨n8, 0, none⟩ = some (.int .i64 (m : Nat)) := L1.out.b0.cell 0
  have z1 : w1.cell? ⟨n8, 1, none⟩ = some (.int .i64 (k : Nat)) := L1.out.b0.cell 1
  go_quiet (fail)
  obtain ⟨w2, Hw2⟩ : ∃ w2, Hid (w1.drewN nq = w2) := ⟨_, rfl⟩
  rw [Hw2.out]
  have L2 : Hid (Loc Nob w w2 [(n8, 249, #[.int .i64 (m : Nat), .int .i64 (k : Nat)])]) := by rw [← Hw2.out]; exact L1.out.drewN nq
  have HX2 := Lib.hid (HX.out.below L2.out.below (Nat.le_refl _))
  clear Hl y2 z0 z1 Hw2 HX1 L1
  have y0 : w2.cell? ⟨f, k, none⟩ = some (.slice A glob.length cap) := (HX2.out.b.cell k).trans (fcells_at k _ mb hk)
  have y0d : w2.drew.cell? ⟨f, k, none⟩ = some (.slice A glob.length cap) := y0
  have y2 : w2.drew.cell? ⟨f, 32, none⟩ = some (.map (some mb)) := (HX2.out.b.cell 32).trans (fcells_map k _ mb)
  have z0 : w2.drew.cell? ⟨n8, 0, none⟩ = some (.int .i64 (m : Nat)) := L2.out.b0.cell 0
  have z1 : w2.drew.cell? ⟨n8, 1, none⟩ = some (.int .i64 (k : Nat)) := L2.out.b0.cell 1
  have k0 : (0 : Int) ≤ (k : Int) := by omega
  have k1 : (k : Int) < 32 := by omega
  have HB2d : Hid (Below w.heap.size w w2.drew) := below_drewN L2.out.below 1
  obtain ⟨N, HN⟩ : ∃ N, Hid (glob.length = N) := ⟨_, rfl⟩
  rw [HN.out] at y0 y0d hmin hsub hsl1 hsl2 hg
  have hwm : IntKind.i64.wrap ((N : Int) - (q : Int)) = (N : Int) - (q : Int) := IntWalk.i64_in _ (by omega)
  go_wp2_with fail
  have HX2d : Hid (FreeX w2.drew F f k glob cs mb A cap fm ad cp) := HX2.out.mod (S := Nob) ((Mod.refl w2 _).drewN 1) (fun _ _ h => h)
  have hn8b2 : Blk w2.drew n8 249 #[.int .i64 (m : Nat), .int .i64 (k : Nat)] := L2.out.b0
  have Hn8b2 := Lib.hid hn8b2
  clear hn8b2
  go_region_held3 (fun w' => w'.cell? ⟨f, 32, none⟩ = some (.map (some mb)) ∧ w'.cell? ⟨n8, 0, none⟩ = some (.int .i64 (m : Nat)) ∧ w'.cell? ⟨n8, 1, none⟩ = some (.int .i64 (k : Nat)) ∧ w'.cell? ⟨f, k, none⟩ = some (.slice A N cap))
    (first | exact ⟨y2, z0, z1, y0d⟩ | exact HS6.out | exact HS7.out)
    ((go_at_call 192; refine (Hcl.out _ HB2d.out).mono ?_; rintro e w6 ⟨A6, cap6, rfl, hO6, hb6⟩; obtain ⟨hS6, w7, hput7, hS7, hX7, hn7, hm7⟩ := fill_pack HX2d.out Hn8b2.out hn8mb HN.out Hdl.out hO6 hb6; have HS6 := Lib.hid hS6; have HS7 := Lib.hid hS7; have HX7 := Lib.hid hX7; have Hn8b7 := Lib.hid hn7; have HM7 := Lib.hid hm7; clear hO6 hb6 hS6 hS7 hX7 hn7 hm7))
  have HMw7 : Hid (Mod w w7 F) := ((Mod.of_below HB2d.out).mono (S' := F) (fun k hk h => by omega)).trans HM7.out (fun _ _ h => h)
  have u0 : w7.drew.cell? ⟨f, k, none⟩ = some (.slice A N cap) := HS7.out.2.2.2
  have u1 : w7.drew.frozen? ⟨f, k, none⟩ = false := HX7.out.b.frozen k
  have hszw : Hid (w.heap.size ≤ w2.drew.heap.size ∧ w2.drew.heap.size ≤ w7.heap.size) := ⟨HB2d.out.size, HM7.out.size⟩
  clear HS6 HS7 HM7 HX2d y2 z0 z1 y0d y0 hput7 hsl1
  go_wp2_with fail
  go_region_law (fail)
  all_goals
    have hO7 : Own w7 0 3 1 A (glob.take fr).length cap (ncells (glob.take fr)) := by
      have := HX7.out.g.cut (k := fr) (by rw [HN.out]; omega)
      rw [Htl.out]
      have e : ncells (glob.take fr) = (ncells glob).take (fr * 1) := by unfold ncells; rw [Nat.mul_one, List.map_take]
      rw [e]
      exact this
    have hP8 := HX7.out.pushX (w1 := w7) (glob.take fr) hO7 (Mod.refl _ _) (fun a' ha' => .inl ⟨a', ha', rfl⟩)
    rw [Htl.out] at hP8
    obtain ⟨w8, Hw8⟩ : ∃ w8, Hid ((w7.setCell ⟨f, k, none⟩ (.slice A fr cap)).drew = w8) := ⟨_, rfl⟩
    have Hm8 : Hid (Mod w7 w8 (GrowF F w2.drew)) := by rw [← Hw8.out]; exact hP8.2.drewN 1
    have HXb : Hid (FreeX w8 (GrowF F w) f k (glob.take fr) (updC cs m (glob.drop fr)) mb A cap (putF fm (m, k) (.slice A6 q cap6)) (updC ad m A6) (updC cp m cap6)) := by
      have h1 := hP8.1.mod (S := Nob) ((Mod.refl _ _).drewN 1) (fun _ _ h => h)
      rw [← Hw8.out]
      refine h1.weak (fun j _ hj => ?_)
      rcases hj with (hj | hj) | hj
      · exact .inl hj
      · exact .inr (Nat.le_trans hszw.out.1 hj)
      · exact .inr (by have := hszw.out; omega)
    have Hn8b : Hid (Blk w8 n8 249 #[.int .i64 (m : Nat), .int .i64 (k : Nat)]) := by
      rw [← Hw8.out]
      exact (Hn8b7.out.far (p := ⟨f, k, none⟩) hn8f _).drew
    have HMb : Hid (Mod w w8 F) := by
      rw [← Hw8.out]
      exact (Mod.set (p := ⟨f, k, none⟩) HMw7.out (.inr HX.out.ff) _).drewN 1
    rw [Hw8.out]
    have HszW : Hid (w.heap.size ≤ w8.heap.size) := HMb.out.size
    obtain ⟨cs2, Hcs2⟩ : ∃ cs2, Hid (updC cs m (glob.drop fr) = cs2) := ⟨_, rfl⟩
    obtain ⟨ad2, Had2⟩ : ∃ ad2, Hid (updC ad m A6 = ad2) := ⟨_, rfl⟩
    obtain ⟨cp2, Hcp2⟩ : ∃ cp2, Hid (updC cp m cap6 = cp2) := ⟨_, rfl⟩
    obtain ⟨fm2, Hfm2⟩ : ∃ fm2, Hid (putF fm (m, k) (.slice A6 q cap6) = fm2) := ⟨_, rfl⟩
    rw [Hcs2.out, Had2.out, Hcp2.out, Hfm2.out] at HXb
    have Hcm2 : Hid (cs2 m = glob.drop fr) := by show _ = _; rw [← Hcs2.out, updC_at]
    have HC0 : Hid ((cs2 m).length = 0) := by show _ = _; rw [Hcm2.out, Hdl.out, Hq0.out]
    have HcsE : Hid (cs2 = cs) := by
      show cs2 = cs
      rw [← Hcs2.out, HE0.out.1]
      funext j
      unfold updC
      split
      · rename_i hj; rw [hj, HE0.out.2]; simp
      · rfl
    have HgE : Hid (glob.take fr = glob) := by show _ = _; rw [HE0.out.1]; simp
    have HBpre : Hid (Below w8.heap.size w8 w8) := Below.refl _ _
    have Hl : ∀ q, (Instr.lookup 235 (.map (some mb)) (.agg #[.int .i64 (m : Nat), .int .i64 (k : Nat)]) false).run Tryz.prog (w8.drewN q) = .ok (.slice (ad2 m) 0 (cp2 m)) (w8.drewN q) := fun q => by
      have := (HXb.out.mod (S := Nob) ((Mod.refl w8 _).drewN q) (fun _ _ h => h)).look m
      rw [HC0.out] at this
      exact this
    have y2 : w8.cell? ⟨f, 32, none⟩ = some (.map (some mb)) := (HXb.out.b.cell 32).trans (fcells_map k _ mb)
    have z0 : w8.cell? ⟨n8, 0, none⟩ = some (.int .i64 (m : Nat)) := Hn8b.out.cell 0
    have z1 : w8.cell? ⟨n8, 1, none⟩ = some (.int .i64 (k : Nat)) := Hn8b.out.cell 1
    clear u0 u1 hO7 hP8 HX7 Hn8b7 HMw7 Hw8 Hm8 hszw L2 HX2 Hn8b2 HB2d hmin hsub hsl2 hwm HX Hcs0 Hcl Hn8
    go_wp2_with fail
    go_quiet (fail)
    obtain ⟨w9, Hw9⟩ : ∃ w9, Hid (w8.drewN nq = w9) := ⟨_, rfl⟩
    rw [Hw9.out]
    have HX9 : Hid (FreeX w9 (GrowF F w) f k (glob.take fr) cs2 mb A cap fm2 ad2 cp2) := by rw [← Hw9.out]; exact HXb.out.mod (S := Nob) ((Mod.refl w8 _).drewN nq) (fun _ _ h => h)
    have HM9 : Hid (Mod w w9 F) := by rw [← Hw9.out]; exact HMb.out.drewN nq
    clear Hl y2 z0 z1
    go_wp2_with fail
    go_ret2
    have hX9 := HX9.out
    rw [HcsE.out, HgE.out] at hX9
    exact ⟨by simp, ⟨mb, A, cap, _, _, _, hX9⟩, HM9.out⟩
end Go.Proofs.YtcnjipicifkfjaaGreat
