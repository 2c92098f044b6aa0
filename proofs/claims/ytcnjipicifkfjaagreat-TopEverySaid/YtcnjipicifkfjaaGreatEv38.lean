/- explore.States. -/
import Derived.Test.YtcnjipicifkfjaaGreatEv09
import Derived.Test.YtcnjipicifkfjaaGreatEv37
import Derived.Test.YtcnjipicifkfjaaGreatEv08

namespace Go.Proofs.YtcnjipicifkfjaaGreat
open Go.RowKit
set_option linter.unusedVariables false
set_option linter.unusedSimpArgs false

theorem Dev.apart {B : Nat} {w : World} {b : DB} {m : Nat} {s : DS} (h : Dev B w b m s) {B2 n cap : Nat} {A : Option Addr} {xs : List Value} (ho : Own w B2 37 1 A n cap xs) : ∀ k, b.has k → ¬ ∃ a, A = some a ∧ a.block = k := by
  have ap : ∀ {e : TypeId} {n' c g : Nat} {xs' : List Value}, Own w B e 1 (some ⟨g, 0, none⟩) n' c xs' → e ≠ 37 → ∀ a, A = some a → a.block ≠ g := by
    intro e n' c g xs' h1 hne a ha
    rcases h1.form with ⟨h3, _⟩ | ⟨g2, cur, h0, _, h4, _⟩
    · cases h3
    · cases h0
      exact ho.ne h4 (Ne.symm hne) a ha
  rintro k (rfl | rfl | rfl | rfl | rfl | rfl) ⟨a, ha, e⟩
  · exact ho.ne h.o (by decide) a ha e
  · exact ap h.l (by decide) a ha e
  · exact ap h.c (by decide) a ha e
  · exact ap h.f (by decide) a ha e
  · exact ap h.d (by decide) a ha e
  · exact ap h.p (by decide) a ha e
/-- The pointers to devices. -/
def pcells (bs : List DB) : List Value := bs.map fun b => .pointer (some ⟨b.d, 0, none⟩)
/-- Devices after a crash of one device. -/
structure StatesR (w : World) (B m : Nat) (s : DS) (bs : List DB) : Prop where
  dev : ∀ x ∈ bs, ∃ cs, cs.length = (dirtyL s.D m).length ∧ (∀ c ∈ cs, c = 0 ∨ c = 2) ∧ Dev B w x m (fresh (crashTo s (dirtyL s.D m) cs (dirtyL s.D m).length) m)
  ne : bs.Pairwise fun x y => ∀ k, x.has k → ¬ y.has k
theorem StatesR.mod {w w' : World} {B m : Nat} {s : DS} {bs : List DB} {T : Nat → Prop} (h : StatesR w B m s bs) (hM : Mod w w' T) (hT : ∀ x ∈ bs, ∀ k, x.has k → ¬ T k) : StatesR w' B m s bs :=
  ⟨fun x hx => by obtain ⟨cs, h1, h2, h3⟩ := h.dev x hx; exact ⟨cs, h1, h2, h3.mod hM (hT x hx)⟩, h.ne⟩
theorem StatesR.lt {w : World} {B m : Nat} {s : DS} {bs : List DB} (h : StatesR w B m s bs) : ∀ x ∈ bs, ∀ k, x.has k → B ≤ k ∧ k < w.heap.size := fun x hx k hk => by
  obtain ⟨cs, h1, h2, h3⟩ := h.dev x hx
  exact h3.lt k hk
theorem StatesR.below {w w' : World} {B m : Nat} {s : DS} {bs : List DB} (h : StatesR w B m s bs) (hb : Below w.heap.size w w') : StatesR w' B m s bs :=
  h.mod (Mod.of_below hb) (fun x hx k hk e => by have := (h.lt x hx k hk).2; omega)
theorem StatesR.snoc {w : World} {B m : Nat} {s : DS} {bs : List DB} {x : DB} {N : Nat} (h : StatesR w B m s bs) (hx : ∃ cs, cs.length = (dirtyL s.D m).length ∧ (∀ c ∈ cs, c = 0 ∨ c = 2) ∧ Dev B w x m (fresh (crashTo s (dirtyL s.D m) cs (dirtyL s.D m).length) m)) (hlo : ∀ y ∈ bs, ∀ k, y.has k → k < N) (hhi : ∀ k, x.has k → N ≤ k) : StatesR w B m s (bs ++ [x]) := by
  refine ⟨fun y hy => ?_, ?_⟩
  · rcases List.mem_append.1 hy with h1 | h1
    · exact h.dev y h1
    · rw [List.mem_singleton] at h1; rw [h1]; exact hx
  · rw [List.pairwise_append]
    refine ⟨h.ne, List.pairwise_singleton _ _, fun y hy z hz k h1 h2 => ?_⟩
    rw [List.mem_singleton] at hz
    subst hz
    have := hlo y hy k h1
    have := hhi k h2
    omega
theorem Dev.base_ {B B' : Nat} {w : World} {b : DB} {m : Nat} {s : DS} (h : Dev B w b m s) (hB : B' ≤ B) : Dev B' w b m s :=
  ⟨h.o, h.l.base_ hB, h.c.base_ hB, h.f.base_ hB, h.d.base_ hB, h.p.base_ hB, h.ne, Nat.le_trans hB h.hB⟩
theorem info37 : (Tryz.prog.info? 37).map (fun i => (i.zero, i.size, i.bytes)) = some (some (.pointer none), 1, 8) := by kernel_rfl
set_option maxRecDepth 100000 in
set_option maxHeartbeats 4000000 in
theorem states_any (B : Nat) (b : DB) (m most : Nat) (s : DS) (w : World) (h : Dev B w b m s) (hm : m ≤ 1000) (hm0 : 0 < m) (hmost : most ≤ 255) :
    Calls Tryz.prog 12 #[.pointer (some ⟨b.d, 0, none⟩), .int .i64 most] w fun e w' => ∃ A cap bs, e = .returned (.slice A bs.length cap) ∧ bs.length ≤ 256 ∧ Own w' w.heap.size 37 1 A bs.length cap (pcells bs) ∧ StatesR w' w.heap.size m s bs ∧ Below w.heap.size w w' := by
  obtain ⟨i0, hi0, hzz, hz1, hz2⟩ := info_parts info37
  have HDb : Hid (∀ wr, Below w.heap.size w wr → Dev B wr b m s) := fun wr hb => h.below hb (Nat.le_refl _)
  obtain ⟨n, hn⟩ : ∃ n, (dirtyL s.D m).length = n := ⟨_, rfl⟩
  have hnm : n ≤ 1000 := by rw [← hn]; exact Nat.le_trans (dirtyL_le _ _) hm
  have Hdi : Hid (∀ wr, Below w.heap.size w wr → Calls Tryz.prog 37 #[.pointer (some ⟨b.d, 0, none⟩)] wr fun e w' => (∃ A cap, e = .returned (.slice A n cap)) ∧ Below w.heap.size w w') := fun wr hb => by
    have := dirty_any B b m s wr (h.below hb (Nat.le_refl _)) hm
    rw [hn] at this
    refine this.mono ?_
    rintro e w' ⟨A, cap, rfl, _, hb2⟩
    exact ⟨⟨A, cap, rfl⟩, hb.trans (hb2.mono hb.size)⟩
  have Hdi2 : Hid (∀ wr, Below w.heap.size w wr → Calls Tryz.prog 37 #[.pointer (some ⟨b.d, 0, none⟩)] wr fun e w' => (∃ A cap, e = .returned (.slice A n cap)) ∧ Below wr.heap.size wr w') := fun wr hb => by
    have := dirty_any B b m s wr (h.below hb (Nat.le_refl _)) hm
    rw [hn] at this
    refine this.mono ?_
    rintro e w' ⟨A, cap, rfl, _, hb2⟩
    exact ⟨⟨A, cap, rfl⟩, hb2⟩
  clear h
  go_enter Tryz.func12, Tryz.ntmps12
  go_wp2_with omega
  refine (Hdi.out _ (Below.refl _ _)).mono ?_
  rintro e w1 ⟨⟨A1, cap1, rfl⟩, hb1⟩
  have HB1 := Lib.hid hb1
  clear hb1
  go_wp2_with omega
  refine (ways_any n w1 hnm).mono ?_
  rintro e w2 ⟨⟨r, rfl, hr⟩, rfl⟩
  have e1 : ¬ ((most : Int) < 0) := by omega
  rcases Nat.lt_or_ge most r with hmr | hmr
  · obtain ⟨N, rfl⟩ : ∃ N, N = most := ⟨most, rfl⟩
    have hN2 : N ≤ 256 := by omega
    have em : (if (N : Int) < (r : Int) then (N : Int) else (r : Int)) = (N : Int) := by split <;> omega
    go_wp2_with omega
    clear em e1
    go_loopw [6, 18] (fun v6 v18 wr => ∃ (k : Nat) (A : Option Addr) (cap : Nat) (bs : List DB), v18 = .int .i64 k ∧ k ≤ N ∧ v6 = .slice A k cap ∧ bs.length = k ∧ Own wr w.heap.size 37 1 A k cap (pcells bs) ∧ StatesR wr w.heap.size m s bs ∧ Below w.heap.size w wr) (fun _ v18 _ => (N - (intOf v18).toNat))
    case atStart => exact ⟨0, none, 0, [], rfl, by omega, rfl, rfl, Own.nil _ _ _ _, ⟨by intro x hx; simp at hx, List.Pairwise.nil⟩, HB1.out⟩
    case round =>
      clear HB1
      obtain ⟨k, A, cap, bs, rfl, hk, rfl, hbl, hO, hS, hB⟩ := hrel
      have HO := Lib.hid hO
      have HS := Lib.hid hS
      have HB := Lib.hid hB
      have Hbl := Lib.hid hbl
      clear hO hS hB hbl
      obtain ⟨wo, rfl⟩ : ∃ wo, wo = wr := ⟨wr, rfl⟩
      by_cases hkn : k < N
      · go_wp2_with omega
        refine (Hdi2.out wo HB.out).mono ?_
        rintro e w3 ⟨⟨A3, cap3, rfl⟩, hb3⟩
        have HB3 := Lib.hid hb3
        clear hb3
        go_wp2_with omega
        refine (choice_any n k w3 hnm (by omega)).mono ?_
        rintro e w4 ⟨A4, cap4, cs, rfl, hcl, hc1, hO4, hb4⟩
        have HB4 : Hid (Below wo.heap.size wo w4) := HB3.out.trans (hb4.mono HB3.out.size)
        have HO4 : Hid (Own w4 wo.heap.size 5 1 A4 n cap4 (bcells cs)) := hO4.base_ HB3.out.size
        have Hc1 : Hid (cs.length = n ∧ ∀ j, j < n → cs.getD j 0 ≤ 1) := ⟨hcl, fun j hj => hc1 _ (by rw [List.getD_eq_getElem?_getD, List.getElem?_eq_getElem (by omega), Option.getD_some]; exact List.getElem_mem _)⟩
        clear hO4 hb4 hcl hc1 HB3
        go_wp2_with omega
        go_loopw [28] (fun v28 wq => ∃ (i : Nat) (cs : List Nat), v28 = .int .i64 i ∧ i ≤ n ∧ cs.length = n ∧ (∀ j, j < i → cs.getD j 0 = 0 ∨ cs.getD j 0 = 2) ∧ (∀ j, i ≤ j → j < n → cs.getD j 0 ≤ 1) ∧ Own wq wo.heap.size 5 1 A4 n cap4 (bcells cs) ∧ Below wo.heap.size wo wq) (fun v28 _ => (n - (intOf v28).toNat))
        case atStart => exact ⟨0, cs, rfl, by omega, Hc1.out.1, by intro j hj; omega, fun j _ hj => Hc1.out.2 j hj, HO4.out, HB4.out⟩
        case round =>
          clear HO4 HB4 Hc1
          obtain ⟨i, cs, rfl, hi, hcl, h2, h1, hOc, hBc⟩ := hrel
          have HOc := Lib.hid hOc
          have HBc := Lib.hid hBc
          have Hcl := Lib.hid hcl
          have H2 := Lib.hid h2
          have H1 := Lib.hid h1
          clear hOc hBc hcl h2 h1
          by_cases hin : i < n
          · obtain ⟨g4, rfl, hlo4, _, _, _, hz, hfz⟩ := HOc.out.at_ (by omega)
            have z0 : wr.cell? ⟨g4, i, none⟩ = some (.int .u8 (cs.getD i 0 : Nat)) := hz i _ (by simp [bcells, List.getD_eq_getElem?_getD, Hcl.out, hin])
            have z1 := hfz i
            clear hz hfz
            have hx := H1.out i (by omega) hin
            obtain ⟨x, hxe⟩ : ∃ x, cs.getD i 0 = x := ⟨_, rfl⟩
            rw [hxe] at z0 hx
            clear hxe
            have HN2 : ∀ c : Nat, (c = 0 ∨ c = 2) → Hid ((∀ j, j < i + 1 → (cs.set i c).getD j 0 = 0 ∨ (cs.set i c).getD j 0 = 2) ∧ (∀ j, i + 1 ≤ j → j < n → (cs.set i c).getD j 0 ≤ 1) ∧ (cs.set i c).length = n) := fun c hc => by
              have hl := Hcl.out
              refine ⟨fun j hj => ?_, fun j hj hjn => ?_, by rw [List.length_set]; exact hl⟩
              · rcases Nat.lt_or_ge j i with h3 | h3
                · rw [List.getD_eq_getElem?_getD, List.getElem?_set_ne (by omega), ← List.getD_eq_getElem?_getD]; exact H2.out j h3
                · obtain rfl : j = i := by omega
                  rw [List.getD_eq_getElem?_getD, List.getElem?_set_self (by omega), Option.getD_some]; exact hc
              · rw [List.getD_eq_getElem?_getD, List.getElem?_set_ne (by omega), ← List.getD_eq_getElem?_getD]; exact H1.out j (by omega) hjn
            rcases (show x = 0 ∨ x = 1 by omega) with rfl | rfl
            · go_wp2_with omega
              exact ⟨⟨i + 1, cs.set i 0, by go_num, by omega, (HN2 0 (.inl rfl)).out.2.2, (HN2 0 (.inl rfl)).out.1, (HN2 0 (.inl rfl)).out.2.1, HOc.out.setU i 0 hin, HBc.out.setCell (p := ⟨g4, i, none⟩) hlo4 _⟩, by simp [intOf]; omega⟩
            · go_wp2_with omega
              exact ⟨⟨i + 1, cs.set i 2, by go_num, by omega, (HN2 2 (.inr rfl)).out.2.2, (HN2 2 (.inr rfl)).out.1, (HN2 2 (.inr rfl)).out.2.1, HOc.out.setU i 2 hin, HBc.out.setCell (p := ⟨g4, i, none⟩) hlo4 _⟩, by simp [intOf]; omega⟩
          · obtain rfl : i = n := by omega
            have Hcr : Hid (Calls Tryz.prog 39 #[.pointer (some ⟨b.d, 0, none⟩), .slice A4 i cap4] wr fun e w' => ∃ b2 : DB, e = .returned (.pointer (some ⟨b2.d, 0, none⟩)) ∧ Dev wr.heap.size w' b2 m (fresh (crashTo s (dirtyL s.D m) cs i) m) ∧ (∀ k, b2.has k → wr.heap.size ≤ k) ∧ Below wr.heap.size wr w') :=
              crash_any B b m s A4 i cap4 cs wr (HDb.out wr (HB.out.trans (HBc.out.mono HB.out.size))) HOc.out.rd (fun x hx => by
                obtain ⟨j, hj, rfl⟩ := List.getElem_of_mem hx
                have := H2.out j (by rw [← Hcl.out]; exact hj)
                rwa [List.getD_eq_getElem?_getD, List.getElem?_eq_getElem hj, Option.getD_some] at this) hn.symm Hcl.out hm hm0
            go_wp2_with omega
            refine Hcr.out.mono ?_
            rintro e w5 ⟨b2, rfl, hd5, hh5, hb5⟩
            have hz0 : w.heap.size ≤ wr.heap.size := Nat.le_trans HB.out.size HBc.out.size
            have HB5 : Hid (Below wo.heap.size wo w5) := HBc.out.trans (hb5.mono HBc.out.size)
            have HO5 : Hid (Own w5 w.heap.size 37 1 A k cap (pcells bs)) := HO.out.below HB5.out (Nat.le_refl _)
            have HS5 : Hid (StatesR w5 w.heap.size m s (bs ++ [b2])) := (HS.out.below HB5.out).snoc ⟨cs, by rw [hn]; exact Hcl.out, fun x hx => by
                obtain ⟨j, hj, rfl⟩ := List.getElem_of_mem hx
                have := H2.out j (by rw [← Hcl.out]; exact hj)
                rwa [List.getD_eq_getElem?_getD, List.getElem?_eq_getElem hj, Option.getD_some] at this, by rw [hn]; exact hd5.base_ hz0⟩ (N := wr.heap.size) (fun y hy k hk => Nat.lt_of_lt_of_le (HS.out.lt y hy k hk).2 HBc.out.size) hh5
            have HW5 : Hid (Below w.heap.size w w5) := HB.out.trans (HB5.out.mono HB.out.size)
            have hsz5 : w.heap.size ≤ w5.heap.size := HW5.out.size
            clear hd5 hh5 hb5 Hcr
            go_wp2_with (at_builtin; (refine append_elem rfl (.tmp 38) (.tmp 42) 40 rfl w.heap.size 37 i0 _ 1 8 Tryz.underlying40 hi0 hzz hz1 hz2 rfl (by omega) A k cap _ rfl HO5.out [.pointer (some ⟨b2.d, 0, none⟩)] rfl rfl (by simp [Value.oneCell']) (by unfold maxLen; omega) (by omega) hsz5 ?_))
            intro A6 cap6 w6 hO6 hM6 hat6
            have HO6 : Hid (Own w6 w.heap.size 37 1 A6 (k + 1) cap6 (pcells (bs ++ [b2]))) := by
              have e : pcells (bs ++ [b2]) = pcells bs ++ [.pointer (some ⟨b2.d, 0, none⟩)] := by simp [pcells]
              rw [e]; exact hO6
            have HS6 : Hid (StatesR w6 w.heap.size m s (bs ++ [b2])) := HS5.out.mod hM6 (fun x hx => by
              obtain ⟨cs, _, _, h3⟩ := HS5.out.dev x hx
              exact h3.apart HO5.out)
            have HW6 : Hid (Below w.heap.size w w6) := Below.mod HW5.out hM6 hsz5 (fun k _ ⟨a, ha, e⟩ => by rw [← e]; exact (HO5.out.lt a ha).1)
            clear hO6 hM6 hat6
            go_wp2_with omega
            exact ⟨⟨k + 1, A6, cap6, bs ++ [b2], by go_num, by omega, rfl, by rw [List.length_append, Hbl.out]; rfl, HO6.out, HS6.out, HW6.out⟩, by simp [intOf]; omega⟩
      · obtain rfl : k = N := by omega
        go_wp2_with omega
        go_ret
        have hbl := Hbl.out
        subst hbl
        exact ⟨A, cap, bs, rfl, hN2, HO.out, HS.out, HB.out⟩
  · obtain ⟨N, rfl⟩ : ∃ N, N = r := ⟨r, rfl⟩
    have hN2 : N ≤ 256 := by omega
    go_wp2_with omega
    clear e1
    go_loopw [6, 18] (fun v6 v18 wr => ∃ (k : Nat) (A : Option Addr) (cap : Nat) (bs : List DB), v18 = .int .i64 k ∧ k ≤ N ∧ v6 = .slice A k cap ∧ bs.length = k ∧ Own wr w.heap.size 37 1 A k cap (pcells bs) ∧ StatesR wr w.heap.size m s bs ∧ Below w.heap.size w wr) (fun _ v18 _ => (N - (intOf v18).toNat))
    case atStart => exact ⟨0, none, 0, [], rfl, by omega, rfl, rfl, Own.nil _ _ _ _, ⟨by intro x hx; simp at hx, List.Pairwise.nil⟩, HB1.out⟩
    case round =>
      clear HB1
      obtain ⟨k, A, cap, bs, rfl, hk, rfl, hbl, hO, hS, hB⟩ := hrel
      have HO := Lib.hid hO
      have HS := Lib.hid hS
      have HB := Lib.hid hB
      have Hbl := Lib.hid hbl
      clear hO hS hB hbl
      obtain ⟨wo, rfl⟩ : ∃ wo, wo = wr := ⟨wr, rfl⟩
      by_cases hkn : k < N
      · go_wp2_with omega
        refine (Hdi2.out wo HB.out).mono ?_
        rintro e w3 ⟨⟨A3, cap3, rfl⟩, hb3⟩
        have HB3 := Lib.hid hb3
        clear hb3
        go_wp2_with omega
        refine (choice_any n k w3 hnm (by omega)).mono ?_
        rintro e w4 ⟨A4, cap4, cs, rfl, hcl, hc1, hO4, hb4⟩
        have HB4 : Hid (Below wo.heap.size wo w4) := HB3.out.trans (hb4.mono HB3.out.size)
        have HO4 : Hid (Own w4 wo.heap.size 5 1 A4 n cap4 (bcells cs)) := hO4.base_ HB3.out.size
        have Hc1 : Hid (cs.length = n ∧ ∀ j, j < n → cs.getD j 0 ≤ 1) := ⟨hcl, fun j hj => hc1 _ (by rw [List.getD_eq_getElem?_getD, List.getElem?_eq_getElem (by omega), Option.getD_some]; exact List.getElem_mem _)⟩
        clear hO4 hb4 hcl hc1 HB3
        go_wp2_with omega
        go_loopw [28] (fun v28 wq => ∃ (i : Nat) (cs : List Nat), v28 = .int .i64 i ∧ i ≤ n ∧ cs.length = n ∧ (∀ j, j < i → cs.getD j 0 = 0 ∨ cs.getD j 0 = 2) ∧ (∀ j, i ≤ j → j < n → cs.getD j 0 ≤ 1) ∧ Own wq wo.heap.size 5 1 A4 n cap4 (bcells cs) ∧ Below wo.heap.size wo wq) (fun v28 _ => (n - (intOf v28).toNat))
        case atStart => exact ⟨0, cs, rfl, by omega, Hc1.out.1, by intro j hj; omega, fun j _ hj => Hc1.out.2 j hj, HO4.out, HB4.out⟩
        case round =>
          clear HO4 HB4 Hc1
          obtain ⟨i, cs, rfl, hi, hcl, h2, h1, hOc, hBc⟩ := hrel
          have HOc := Lib.hid hOc
          have HBc := Lib.hid hBc
          have Hcl := Lib.hid hcl
          have H2 := Lib.hid h2
          have H1 := Lib.hid h1
          clear hOc hBc hcl h2 h1
          by_cases hin : i < n
          · obtain ⟨g4, rfl, hlo4, _, _, _, hz, hfz⟩ := HOc.out.at_ (by omega)
            have z0 : wr.cell? ⟨g4, i, none⟩ = some (.int .u8 (cs.getD i 0 : Nat)) := hz i _ (by simp [bcells, List.getD_eq_getElem?_getD, Hcl.out, hin])
            have z1 := hfz i
            clear hz hfz
            have hx := H1.out i (by omega) hin
            obtain ⟨x, hxe⟩ : ∃ x, cs.getD i 0 = x := ⟨_, rfl⟩
            rw [hxe] at z0 hx
            clear hxe
            have HN2 : ∀ c : Nat, (c = 0 ∨ c = 2) → Hid ((∀ j, j < i + 1 → (cs.set i c).getD j 0 = 0 ∨ (cs.set i c).getD j 0 = 2) ∧ (∀ j, i + 1 ≤ j → j < n → (cs.set i c).getD j 0 ≤ 1) ∧ (cs.set i c).length = n) := fun c hc => by
              have hl := Hcl.out
              refine ⟨fun j hj => ?_, fun j hj hjn => ?_, by rw [List.length_set]; exact hl⟩
              · rcases Nat.lt_or_ge j i with h3 | h3
                · rw [List.getD_eq_getElem?_getD, List.getElem?_set_ne (by omega), ← List.getD_eq_getElem?_getD]; exact H2.out j h3
                · obtain rfl : j = i := by omega
                  rw [List.getD_eq_getElem?_getD, List.getElem?_set_self (by omega), Option.getD_some]; exact hc
              · rw [List.getD_eq_getElem?_getD, List.getElem?_set_ne (by omega), ← List.getD_eq_getElem?_getD]; exact H1.out j (by omega) hjn
            rcases (show x = 0 ∨ x = 1 by omega) with rfl | rfl
            · go_wp2_with omega
              exact ⟨⟨i + 1, cs.set i 0, by go_num, by omega, (HN2 0 (.inl rfl)).out.2.2, (HN2 0 (.inl rfl)).out.1, (HN2 0 (.inl rfl)).out.2.1, HOc.out.setU i 0 hin, HBc.out.setCell (p := ⟨g4, i, none⟩) hlo4 _⟩, by simp [intOf]; omega⟩
            · go_wp2_with omega
              exact ⟨⟨i + 1, cs.set i 2, by go_num, by omega, (HN2 2 (.inr rfl)).out.2.2, (HN2 2 (.inr rfl)).out.1, (HN2 2 (.inr rfl)).out.2.1, HOc.out.setU i 2 hin, HBc.out.setCell (p := ⟨g4, i, none⟩) hlo4 _⟩, by simp [intOf]; omega⟩
          · obtain rfl : i = n := by omega
            have Hcr : Hid (Calls Tryz.prog 39 #[.pointer (some ⟨b.d, 0, none⟩), .slice A4 i cap4] wr fun e w' => ∃ b2 : DB, e = .returned (.pointer (some ⟨b2.d, 0, none⟩)) ∧ Dev wr.heap.size w' b2 m (fresh (crashTo s (dirtyL s.D m) cs i) m) ∧ (∀ k, b2.has k → wr.heap.size ≤ k) ∧ Below wr.heap.size wr w') :=
              crash_any B b m s A4 i cap4 cs wr (HDb.out wr (HB.out.trans (HBc.out.mono HB.out.size))) HOc.out.rd (fun x hx => by
                obtain ⟨j, hj, rfl⟩ := List.getElem_of_mem hx
                have := H2.out j (by rw [← Hcl.out]; exact hj)
                rwa [List.getD_eq_getElem?_getD, List.getElem?_eq_getElem hj, Option.getD_some] at this) hn.symm Hcl.out hm hm0
            go_wp2_with omega
            refine Hcr.out.mono ?_
            rintro e w5 ⟨b2, rfl, hd5, hh5, hb5⟩
            have hz0 : w.heap.size ≤ wr.heap.size := Nat.le_trans HB.out.size HBc.out.size
            have HB5 : Hid (Below wo.heap.size wo w5) := HBc.out.trans (hb5.mono HBc.out.size)
            have HO5 : Hid (Own w5 w.heap.size 37 1 A k cap (pcells bs)) := HO.out.below HB5.out (Nat.le_refl _)
            have HS5 : Hid (StatesR w5 w.heap.size m s (bs ++ [b2])) := (HS.out.below HB5.out).snoc ⟨cs, by rw [hn]; exact Hcl.out, fun x hx => by
                obtain ⟨j, hj, rfl⟩ := List.getElem_of_mem hx
                have := H2.out j (by rw [← Hcl.out]; exact hj)
                rwa [List.getD_eq_getElem?_getD, List.getElem?_eq_getElem hj, Option.getD_some] at this, by rw [hn]; exact hd5.base_ hz0⟩ (N := wr.heap.size) (fun y hy k hk => Nat.lt_of_lt_of_le (HS.out.lt y hy k hk).2 HBc.out.size) hh5
            have HW5 : Hid (Below w.heap.size w w5) := HB.out.trans (HB5.out.mono HB.out.size)
            have hsz5 : w.heap.size ≤ w5.heap.size := HW5.out.size
            clear hd5 hh5 hb5 Hcr
            go_wp2_with (at_builtin; (refine append_elem rfl (.tmp 38) (.tmp 42) 40 rfl w.heap.size 37 i0 _ 1 8 Tryz.underlying40 hi0 hzz hz1 hz2 rfl (by omega) A k cap _ rfl HO5.out [.pointer (some ⟨b2.d, 0, none⟩)] rfl rfl (by simp [Value.oneCell']) (by unfold maxLen; omega) (by omega) hsz5 ?_))
            intro A6 cap6 w6 hO6 hM6 hat6
            have HO6 : Hid (Own w6 w.heap.size 37 1 A6 (k + 1) cap6 (pcells (bs ++ [b2]))) := by
              have e : pcells (bs ++ [b2]) = pcells bs ++ [.pointer (some ⟨b2.d, 0, none⟩)] := by simp [pcells]
              rw [e]; exact hO6
            have HS6 : Hid (StatesR w6 w.heap.size m s (bs ++ [b2])) := HS5.out.mod hM6 (fun x hx => by
              obtain ⟨cs, _, _, h3⟩ := HS5.out.dev x hx
              exact h3.apart HO5.out)
            have HW6 : Hid (Below w.heap.size w w6) := Below.mod HW5.out hM6 hsz5 (fun k _ ⟨a, ha, e⟩ => by rw [← e]; exact (HO5.out.lt a ha).1)
            clear hO6 hM6 hat6
            go_wp2_with omega
            exact ⟨⟨k + 1, A6, cap6, bs ++ [b2], by go_num, by omega, rfl, by rw [List.length_append, Hbl.out]; rfl, HO6.out, HS6.out, HW6.out⟩, by simp [intOf]; omega⟩
      · obtain rfl : k = N := by omega
        go_wp2_with omega
        go_ret
        have hbl := Hbl.out
        subst hbl
        exact ⟨A, cap, bs, rfl, hN2, HO.out, HS.out, HB.out⟩
end Go.Proofs.YtcnjipicifkfjaaGreat

/- TopEvery: a pile, from call to call. -/
namespace Go.Proofs.YtcnjipicifkfjaaGreat
open Go.RowKit
set_option linter.unusedVariables false
set_option linter.unusedSimpArgs false

/-- A pile of vs on a heap of four blocks; is its device never to stop? -/
def PileS (N0 M : Nat) (w : World) (hp pp d : Nat) (vs : List Nat) (lv : Bool) : Prop :=
  ∃ B b s col al mp us fr rt hl ca sh S, HeapX w B b (4 * 64) s col hp al mp us fr rt hl ca sh S ∧ (∀ k, w.heap.size ≤ k → col k = 9) ∧ Blk w pp 68 #[.pointer (some ⟨hp, 0, none⟩), .int .i64 (0 : Nat)] ∧ ¬ hcol (col pp) ∧
    PSt S s 4 1 vs.length vs ∧ (lv = true → s.Live) ∧ (∀ k, hcol (col k) → N0 ≤ k ∧ k < M) ∧ b.d = d
theorem not_hcol9 : ¬ hcol 9 := by unfold hcol; omega
theorem PileS.lo {N0 M : Nat} {w : World} {hp pp d : Nat} {vs : List Nat} {lv : Bool} (h : PileS N0 M w hp pp d vs lv) : N0 ≤ w.heap.size := by
  obtain ⟨B, b, s, col, al, mp, us, fr, rt, hl, ca, sh, S, hX, _, _, _, _, _, h7, _⟩ := h
  have := h7 hp (by rw [hX.chp]; exact .inl (by omega))
  have := hX.blk.lt
  omega
theorem PileS.below {N0 M : Nat} {w w' : World} {hp pp d : Nat} {vs : List Nat} {lv : Bool} (h : PileS N0 M w hp pp d vs lv) (hb : Below w.heap.size w w') : PileS N0 M w' hp pp d vs lv := by
  obtain ⟨B, b, s, col, al, mp, us, fr, rt, hl, ca, sh, S, h1, h2, h3, h4, h5, h6, h7, h8⟩ := h
  exact ⟨B, b, s, col, al, mp, us, fr, rt, hl, ca, sh, S, h1.below hb, fun k hk => h2 k (Nat.le_trans hb.size hk), h3.below hb h3.lt, h4, h5, h6, h7, h8⟩
theorem PileS.size {N0 M : Nat} {w : World} {hp pp d : Nat} {vs : List Nat} {lv : Bool} (h : PileS N0 M w hp pp d vs lv) : PileS N0 w.heap.size w hp pp d vs lv := by
  obtain ⟨B, b, s, col, al, mp, us, fr, rt, hl, ca, sh, S, h1, h2, h3, h4, h5, h6, h7, h8⟩ := h
  refine ⟨B, b, s, col, al, mp, us, fr, rt, hl, ca, sh, S, h1, h2, h3, h4, h5, h6, fun k hc => ⟨(h7 k hc).1, ?_⟩, h8⟩
  by_cases hkw : k < w.heap.size
  · exact hkw
  · exact absurd (by rw [h2 k (by omega)] at hc; exact hc) not_hcol9
theorem pile_start {N0 B : Nat} {w w' : World} {b : DB} {hp pp : Nat} (h : HeapR w (fun k => N0 ≤ k) B b (4 * 64) (fmt 4 1) hp (hsO 4 1 0 1 0 3 1 (fmt 4 1) (List.replicate 4 (0, 0)))) (hb : Below w.heap.size w w') (hpp : w.heap.size ≤ pp)
    (hP : Blk w' pp 68 #[.pointer (some ⟨hp, 0, none⟩), .int .i64 (0 : Nat)]) : PileS N0 w'.heap.size w' hp pp b.d [] true := by
  obtain ⟨col0, al, mp, us, fr, rt, hl, ca, sh, hX0, hG⟩ := h
  obtain ⟨hR, hC, hL⟩ := fmt_C 4 1 (by omega) (by omega)
  have hX := hX0.recol (colW_lt col0 w 9)
  refine ⟨B, b, _, _, al, mp, us, fr, rt, hl, ca, sh, _, hX.below hb, fun k hk => colW_ge _ _ _ _ (Nat.le_trans hb.size hk), hP, ?_, ⟨hR, fmt_PW 4 1 (by omega) (by omega), asO_AN 4, rfl, rfl, rfl, rfl, rfl⟩, fun _ => hL, fun k hc => ?_, rfl⟩
  · rw [colW_ge _ _ _ _ hpp]; exact not_hcol9
  · by_cases hkw : k < w.heap.size
    · rw [colW_lt _ _ _ _ hkw] at hc
      exact ⟨hG k hkw hc, Nat.lt_of_lt_of_le hkw hb.size⟩
    · rw [colW_ge _ _ _ _ (by omega)] at hc
      exact absurd hc not_hcol9
theorem pile_push (N0 M : Nat) (w : World) (hp pp d v : Nat) (vs : List Nat) (h : PileS N0 M w hp pp d vs true) (hv : vs.length < 100) :
    Calls Tryz.prog 8 #[.pointer (some ⟨pp, 0, none⟩), .int .u64 v] w fun e w' => e = .returned (.int .i64 0) ∧ PileS N0 w'.heap.size w' hp pp d (vs ++ [v]) true ∧ Below N0 w w' := by
  have hlo := h.lo
  obtain ⟨B, b, s, col, al, mp, us, fr, rt, hl, ca, sh, S, h1, h2, h3, h4, h5, h6, h7, h8⟩ := h
  obtain ⟨l1, l2⟩ := exec_live (h6 rfl) (pushS vs.length v)
  refine (push_st B b s col hp al mp us fr rt hl ca sh pp v 4 1 vs.length vs S w h1 h2 h3 h4 h5 hv (by omega) (by omega)).mono ?_
  rintro e w' ⟨rfl, hO, hM⟩
  refine ⟨by rw [l1]; rfl, ?_, hM.mono (S' := fun k => N0 ≤ k) (fun k hk hc => (h7 k hc).1) |>.below hlo (fun k hk => hk)⟩
  rcases hO with ⟨_, col', S', k1, k2, k3, k4⟩ | ⟨hf, _⟩
  · refine ⟨B, b, _, col', al, mp, us, fr, rt, hl, ca, sh, S', k3, k2, hM.blk h3 h4, by rw [k1 _ h3.lt]; exact h4, by rw [List.length_append]; exact k4, fun _ => l2, fun k hc => ?_, h8⟩
    by_cases hkw : k < w.heap.size
    · rw [k1 k hkw] at hc
      exact ⟨(h7 k hc).1, Nat.lt_of_lt_of_le hkw hM.size⟩
    · refine ⟨by omega, ?_⟩
      by_cases hk2 : k < w'.heap.size
      · exact hk2
      · exact absurd (by rw [k2 k (by omega)] at hc; exact hc) not_hcol9
  · rw [l1] at hf; cases hf
theorem chain_of {S : HS} {s : DS} {vs : List Nat} (h : PSt S s 4 1 vs.length vs) (hv : vs.length ≤ 170) : ChainIn s (4 * 64) S.A.used (S.ws.getD 0 0) vs.reverse := by
  have ho : ObjsIn s.C vs.length vs := h.w.obj
  have := ho.chain hv (by omega : 3 ≤ 4) rfl h.an.u vs.length (Nat.le_refl _)
  rw [List.take_of_length_le (Nat.le_refl _)] at this
  rw [h.ws]
  exact this
theorem pile_list (N0 M : Nat) (w : World) (hp pp d : Nat) (vs : List Nat) (lv : Bool) (h : PileS N0 M w hp pp d vs lv) (hv : vs.length ≤ 100) :
    Calls Tryz.prog 9 #[.pointer (some ⟨pp, 0, none⟩)] w fun e w' => ∃ A cap, e = .returned (.tuple #[.slice A vs.length cap, .bool true]) ∧ Own w' w.heap.size 28 1 A vs.length cap (wcells vs.reverse) ∧ Below w.heap.size w w' := by
  obtain ⟨B, b, s, col, al, mp, us, fr, rt, hl, ca, sh, S, h1, h2, h3, h4, h5, h6, h7, h8⟩ := h
  have := plist_any B b (4 * 64) s col hp al mp us fr rt hl ca sh pp _ vs.reverse S w h1 (by rw [h5.ws]; rfl) h3 rfl (chain_of h5 (by omega)) (by rw [List.length_reverse]; omega)
  rw [List.length_reverse] at this
  exact this
theorem PileS.dev {N0 M : Nat} {w : World} {hp pp d : Nat} {vs : List Nat} {lv : Bool} (h : PileS N0 M w hp pp d vs lv) : w.cell? ⟨hp, 0, none⟩ = some (.pointer (some ⟨d, 0, none⟩)) := by
  obtain ⟨B, b, s, col, al, mp, us, fr, rt, hl, ca, sh, S, h1, h2, h3, h4, h5, h6, h7, h8⟩ := h
  rw [← h8]
  exact h1.c0
theorem pile_arm (N0 M : Nat) (w : World) (hp pp d n : Nat) (vs : List Nat) (lv : Bool) (h : PileS N0 M w hp pp d vs lv) (hn : n < 1000) :
    Calls Tryz.prog 11 #[.pointer (some ⟨d, 0, none⟩), .int .i64 n] w fun e w' => (∃ v, e = .returned v) ∧ PileS N0 M w' hp pp d vs false ∧ Mod w w' (fun k => N0 ≤ k ∧ k < M) := by
  obtain ⟨B, b, s, col, al, mp, us, fr, rt, hl, ca, sh, S, h1, h2, h3, h4, h5, h6, h7, rfl⟩ := h
  have hd0 : col b.d = 0 := h1.hdv _ (.inl rfl)
  refine (arm_any B b (4 * 64) s n w h1.dev hn).mono ?_
  rintro e w' ⟨he, hD, hM⟩
  refine ⟨he, ?_, hM.mono (fun k hk e => by rw [e]; exact h7 _ (by rw [hd0]; exact .inl (by omega)))⟩
  have hsz := hM.size
  have hpd : pp ≠ b.d := fun e => h4 (by rw [e, hd0]; exact .inl (by omega))
  exact ⟨B, b, s.arm n, col, al, mp, us, fr, rt, hl, ca, sh, S, h1.devS (hM.mono (fun k _ e => .inl e)) hD, fun k hk => h2 k (Nat.le_trans hsz hk), hM.blk h3 (fun e => hpd e), h4, ⟨⟨⟨h5.r.f.l, h5.r.f.c, h5.r.f.f, h5.r.f.d, h5.r.f.p⟩, h5.r.e, h5.r.d, h5.r.p⟩, h5.w, h5.an, h5.ep, h5.wh, h5.ws, h5.ph, h5.l⟩, fun e => (by cases e), h7, rfl⟩
/-- Behind the last push: a device, stopped or not, each of whose images leads to either pile. -/
def Stopped (w : World) (hp d : Nat) (vs : List Nat) (v : Nat) : Prop :=
  ∃ B b s, Dev B w b (4 * 64) s ∧ b.d = d ∧ w.cell? ⟨hp, 0, none⟩ = some (.pointer (some ⟨d, 0, none⟩)) ∧ hp < w.heap.size ∧ ∀ cs, Either (crashTo s (dirtyL s.D (4 * 64)) cs (dirtyL s.D (4 * 64)).length) 4 1 vs.length vs v
theorem Stopped.below {w w' : World} {hp d v : Nat} {vs : List Nat} (h : Stopped w hp d vs v) (hb : Below w.heap.size w w') : Stopped w' hp d vs v := by
  obtain ⟨B, b, s, h1, h2, h3, h4, h5⟩ := h
  refine ⟨B, b, s, h1.below hb (Nat.le_refl _), h2, ?_, Nat.lt_of_lt_of_le h4 hb.size, h5⟩
  rw [cell_mod (Mod.of_below hb) h3 (by show ¬ w.heap.size ≤ hp; omega)]
theorem pile_last (N0 M : Nat) (w : World) (hp pp d v : Nat) (vs : List Nat) (lv : Bool) (h : PileS N0 M w hp pp d vs lv) (hv : vs.length < 100) :
    Calls Tryz.prog 8 #[.pointer (some ⟨pp, 0, none⟩), .int .u64 v] w fun e w' => (∃ v, e = .returned v) ∧ Stopped w' hp d vs v ∧ Mod w w' (fun k => N0 ≤ k ∧ k < M) := by
  obtain ⟨B, b, s, col, al, mp, us, fr, rt, hl, ca, sh, S, h1, h2, h3, h4, h5, h6, h7, rfl⟩ := h
  have hE := (push_fin h5.r h5.w h5.l hv (by omega) (by omega) (v := v)).2
  refine (push_st B b s col hp al mp us fr rt hl ca sh pp v 4 1 vs.length vs S w h1 h2 h3 h4 h5 hv (by omega) (by omega)).mono ?_
  rintro e w' ⟨rfl, hO, hM⟩
  refine ⟨⟨_, rfl⟩, ?_, hM.mono (fun k hk hc => h7 k hc)⟩
  rcases hO with ⟨_, col', S', k1, k2, k3, k4⟩ | ⟨_, al', rt', rg', hl', ca', sh', q1, q2, q3, q4⟩
  · exact ⟨B, b, _, k3.dev, rfl, k3.c0, k3.blk.lt, hE⟩
  · exact ⟨B, b, _, q3, rfl, q2.cell 0, q2.lt, hE⟩
/-- The devices that the states are. -/
def ImgsR (w : World) (B : Nat) (vs : List Nat) (v : Nat) (bs : List DB) : Prop :=
  (∀ x ∈ bs, ∃ I, Dev B w x (4 * 64) (fresh I (4 * 64)) ∧ Either I 4 1 vs.length vs v) ∧ bs.Pairwise fun x y => ∀ k, x.has k → ¬ y.has k
theorem ImgsR.mod {w w' : World} {B v : Nat} {vs : List Nat} {bs : List DB} {T : Nat → Prop} (h : ImgsR w B vs v bs) (hM : Mod w w' T) (hT : ∀ x ∈ bs, ∀ k, x.has k → k < w.heap.size → ¬ T k) : ImgsR w' B vs v bs :=
  ⟨fun x hx => by
    obtain ⟨I, h1, h2⟩ := h.1 x hx
    exact ⟨I, h1.mod (hM.mono (S' := fun k => T k ∧ k < w.heap.size) (fun k hk h => ⟨h, hk⟩)) (fun k hk ht => hT x hx k hk ht.2 ht.1), h2⟩, h.2⟩
theorem ImgsR.below {w w' : World} {B v : Nat} {vs : List Nat} {bs : List DB} (h : ImgsR w B vs v bs) (hb : Below w.heap.size w w') : ImgsR w' B vs v bs :=
  h.mod (Mod.of_below hb) (fun _ _ k _ h1 h2 => by omega)
theorem stop_states (w : World) (hp d v most : Nat) (vs : List Nat) (h : Stopped w hp d vs v) (hm : most ≤ 255) :
    Calls Tryz.prog 12 #[.pointer (some ⟨d, 0, none⟩), .int .i64 most] w fun e w' => ∃ A cap bs, e = .returned (.slice A bs.length cap) ∧ bs.length ≤ 256 ∧ Own w' w.heap.size 37 1 A bs.length cap (pcells bs) ∧ ImgsR w' w.heap.size vs v bs ∧ Below w.heap.size w w' := by
  obtain ⟨B, b, s, h1, rfl, h3, h4, h5⟩ := h
  refine (states_any B b (4 * 64) most s w h1 (by omega) (by omega) hm).mono ?_
  rintro e w' ⟨A, cap, bs, rfl, k1, k2, k3, k4⟩
  refine ⟨A, cap, bs, rfl, k1, k2, ⟨fun x hx => ?_, k3.ne⟩, k4⟩
  obtain ⟨cs, _, _, h⟩ := k3.dev x hx
  exact ⟨_, h, h5 cs⟩
/-- A heap that was opened, with a pile. -/
def Opened (w : World) (hp : Nat) (l : List Nat) : Prop :=
  ∃ G B b m s S, HeapR w G B b m s hp S ∧ S.ws.length = 8 ∧ ChainIn s m S.A.used (S.ws.getD 0 0) l
theorem Opened.below {w w' : World} {hp : Nat} {l : List Nat} (h : Opened w hp l) (hb : Below w.heap.size w w') : Opened w' hp l := by
  obtain ⟨G, B, b, m, s, S, h1, h2, h3⟩ := h
  exact ⟨G, B, b, m, s, S, h1.below hb, h2, h3⟩
theorem img_open (w : World) (B v : Nat) (vs : List Nat) (x : DB) (bs : List DB) (h : ImgsR w B vs v (x :: bs)) (hB : B ≤ w.heap.size) :
    Calls Tryz.prog 13 #[.pointer (some ⟨x.d, 0, none⟩), .int .i64 3] w fun e w' => ∃ hp l, e = .returned (.tuple #[.pointer (some ⟨hp, 0, none⟩), .int .i64 0]) ∧ Opened w' hp l ∧ (l = vs.reverse ∨ l = v :: vs.reverse) ∧
      ImgsR w' B vs v bs ∧ Below B w w' ∧ (∀ k, x.has k → k < w.heap.size) ∧ Mod w w' x.has := by
  obtain ⟨I, h1, h2⟩ := h.1 x List.mem_cons_self
  have hne := List.pairwise_cons.1 h.2
  refine (open_either B x 4 1 vs.length v I vs w h1 h2 rfl (by omega) (by omega) (by omega)).mono ?_
  rintro e w' ⟨hp, s', S, l, rfl, k1, k2, k3, k4, k5⟩
  have hr : ImgsR w B vs v bs := ⟨fun y hy => h.1 y (List.mem_cons_of_mem _ hy), hne.2⟩
  exact ⟨hp, l, rfl, ⟨_, _, _, _, _, _, k1, k2, k4⟩, k3, hr.mod k5 (fun y hy k hk _ hx => hne.1 y hy k hx hk), k5.below hB (fun k hk => (h1.lt k hk).1), fun k hk => (h1.lt k hk).2, k5⟩
theorem opened_list (w : World) (hp pp : Nat) (l : List Nat) (h : Opened w hp l) (hl : l.length ≤ 200) (hP : Blk w pp 68 #[.pointer (some ⟨hp, 0, none⟩), .int .i64 (0 : Nat)]) :
    Calls Tryz.prog 9 #[.pointer (some ⟨pp, 0, none⟩)] w fun e w' => ∃ A cap, e = .returned (.tuple #[.slice A l.length cap, .bool true]) ∧ Own w' w.heap.size 28 1 A l.length cap (wcells l) ∧ Below w.heap.size w w' := by
  obtain ⟨G, B, b, m, s, S, ⟨col, al, mp, us, fr, rt, hl2, ca, sh, hX, _⟩, h2, h3⟩ := h
  exact plist_any B b m s col hp al mp us fr rt hl2 ca sh pp _ l S w hX h2 hP rfl h3 hl
theorem imgs_apart {w : World} {B v : Nat} {vs : List Nat} {x : DB} {bs : List DB} (h : ImgsR w B vs v (x :: bs)) {B2 n cap : Nat} {A : Option Addr} {xs : List Value} (ho : Own w B2 37 1 A n cap xs) : ∀ a, A = some a → ¬ x.has a.block := by
  obtain ⟨I, h1, _⟩ := h.1 x List.mem_cons_self
  exact fun a ha hk => h1.apart ho a.block hk ⟨a, ha, rfl⟩
end Go.Proofs.YtcnjipicifkfjaaGreat

/- taproottop: awake answers true. -/
namespace Go.Proofs.YtcnjipicifkfjaaGreat
open Go.RowKit
set_option linter.unusedVariables false
set_option linter.unusedSimpArgs false

set_option maxRecDepth 100000 in
set_option maxHeartbeats 2000000 in
theorem awake_any (w : World) : Calls Tryz.prog 5 #[] w fun e w' => e = .returned (.bool true) ∧ Below w.heap.size w w' := by
  have Hnw : Hid (∀ w, Calls Tryz.prog 6 #[.agg #[.int .i64 4, .int .u64 1, .int .i64 3]] w fun e w' => ∃ hp, e = .returned (.tuple #[.pointer (some ⟨hp, 0, none⟩), .int .i64 0]) ∧
      (∀ W, Below w'.heap.size w' W → Calls Tryz.prog 20 #[.pointer (some ⟨hp, 0, none⟩), .agg #[.int .i64 0, .int .i64 0], .int .i64 1, .int .i64 1] W fun e W' => e = .returned (.int .i64 0) ∧ Woke W' hp ∧ Mod W W' (fun k => w.heap.size ≤ k)) ∧ Below w.heap.size w w') := fun w =>
    (hnewh_any 4 1 3 1 1 w (fmt_open 4 1 1 (by omega) (by omega) (by omega)) AN.ob0 (by omega) (by omega) (by omega)).mono (by
      rintro e w' ⟨b, hp, rfl, h1, h2⟩
      exact ⟨hp, rfl, fun W hW => woke_alloc _ _ b hp W (h1.below hW), h2⟩)
  go_enter Tryz.func5, Tryz.ntmps5
  go_wp2_with fail
  refine (Hnw.out w).mono ?_
  rintro e w1 ⟨hp, rfl, hAl, hb⟩
  have HAl := Lib.hid hAl
  have HB := Lib.hid hb
  clear hAl hb Hnw
  go_wp2_with fail
  refine (HAl.out w1 (Below.refl _ _)).mono ?_
  rintro e w2 ⟨rfl, ⟨al, hs, hl⟩, hM⟩
  have Hs := Lib.hid (hs 0)
  have Hl := Lib.hid (hl 0)
  have HB2 : Hid (Below w.heap.size w w2) := Below.mod HB.out hM HB.out.size (fun k _ h => h)
  clear hs hl hM HAl HB
  go_wp2_with fail
  refine (Hs.out).mono ?_
  rintro e w3 ⟨rfl, rfl⟩
  clear Hs
  go_wp2_with fail
  refine (Hl.out).mono ?_
  rintro e w3 ⟨⟨A, cap, rfl⟩, hb3⟩
  have HB3 : Hid (Below w.heap.size w w3) := HB2.out.trans (hb3.mono HB2.out.size)
  clear hb3 Hl HB2
  go_wp2_with fail
  go_ret
  exact ⟨rfl, HB3.out⟩
end Go.Proofs.YtcnjipicifkfjaaGreat
