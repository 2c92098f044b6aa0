/- The walk of shows. -/
import Derived.Test.YtpflhgidcjlcjaaP3
import Derived.Deep.RegionHeld3
namespace Go.Proofs.Ytpflhgidcjlcjaa
open Go.RowKit
set_option linter.unusedVariables false
set_option linter.unusedSimpArgs false

/-- What shows leaves as it is. -/
structure SHK (w0 W : World) (b gl gw : Nat) (A B : Option Addr) (cap capb : Nat) (s : Lv) : Prop where
  be : Below b w0 W
  lat : LAt W gl gw s
  lo : Blk W b 40 (rcells A B (s.N + 1) cap (s.N + 1) capb s.K s.W s.M)
  at_ : Rd W 1 A (s.N + 1) (ivals (ats s))
  wo : Rd W 1 B (s.N + 1) (icells s.worn)
theorem SHK.below {w0 w w' : World} {b gl gw B0 : Nat} {A B : Option Addr} {cap capb : Nat} {s : Lv} (h : SHK w0 w b gl gw A B cap capb s) (hb : Below B0 w w') (hB : w.heap.size ≤ B0) : SHK w0 w' b gl gw A B cap capb s :=
  ⟨h.be.trans (hb.mono (by have := h.lo.lt; omega)), h.lat.below hb hB, h.lo.below hb (Nat.lt_of_lt_of_le h.lo.lt hB), h.at_.below hb hB, h.wo.below hb hB⟩
theorem SHK.drewN {w0 w : World} {b gl gw : Nat} {A B : Option Addr} {cap capb : Nat} {s : Lv} (h : SHK w0 w b gl gw A B cap capb s) (q : Nat) : SHK w0 (w.drewN q) b gl gw A B cap capb s :=
  ⟨below_drewN h.be q, h.lat.drewN q, h.lo.drewN q, h.at_.drewN q, h.wo.drewN q⟩
theorem SHK.cells {w0 w : World} {b gl gw : Nat} {A B : Option Addr} {cap capb : Nat} {s : Lv} (h : SHK w0 w b gl gw A B cap capb s) :
    SHK w0 w b gl gw A B cap capb s ∧ w.cell? ⟨b, 0, none⟩ = some (.slice A (s.N + 1) cap) ∧ w.cell? ⟨b, 1, none⟩ = some (.slice B (s.N + 1) capb) ∧ w.cell? ⟨b, 2, none⟩ = some (.int .i64 s.K) ∧ w.cell? ⟨b, 3, none⟩ = some (.int .i64 s.W) ∧ w.cell? ⟨b, 4, none⟩ = some (.int .i64 s.M) :=
  ⟨h, h.lo.cell 0, h.lo.cell 1, h.lo.cell 2, h.lo.cell 3, h.lo.cell 4⟩

def SHead (s : Lv) (w : World) (v5 v6 v7 : Value) (wr : World) : Prop :=
  ∃ i k : Nat, v7 = .int .i64 i ∧ i ≤ s.N + 1 ∧ v5 = .int .i64 (leastTo s.worn (s.worn.getD 0 0) i : Nat) ∧ v6 = .int .i64 (mostTo s.worn 0 i : Nat) ∧ wr = w.drewN k

set_option maxRecDepth 100000 in
set_option maxHeartbeats 2000000 in
theorem shows_any (gl gw : Nat) (A B : Option Addr) (cap capb : Nat) (s : Lv) (w : World) (hs : Fine s) (hl : LAt w gl gw s)
    (hA : Rd w 1 A (s.N + 1) (ivals (ats s))) (hB : Rd w 1 B (s.N + 1) (icells s.worn)) :
    Calls Try.prog 19 #[.pointer (some ⟨gl, 0, none⟩), .agg (rcells A B (s.N + 1) cap (s.N + 1) capb s.K s.W s.M)] w fun e w' => e = .returned (.bool true) ∧ Below w.heap.size w w' := by
  have Hs := Lib.hid hs
  have n1 := hs.n1
  have n2 := hs.n2
  have gp := hs.gp
  have hlen := hs.len
  have Hlen := Lib.hid hlen
  obtain ⟨b, Hb0⟩ : ∃ b, Hid (w.heap.size = b) := ⟨_, rfl⟩
  obtain ⟨w1, Hw1⟩ : ∃ w1, Hid (w.alloc (.cells (rcells A B (s.N + 1) cap (s.N + 1) capb s.K s.W s.M) 40) = w1) := ⟨_, rfl⟩
  have HK : Hid (SHK w w1 b gl gw A B cap capb s) := by
    rw [← Hw1.out, ← Hb0.out]
    have hb := (Below.refl w.heap.size w).alloc (Nat.le_refl _) (.cells (rcells A B (s.N + 1) cap (s.N + 1) capb s.K s.W s.M) 40)
    exact ⟨hb, hl.below hb (Nat.le_refl _), Blk.new _ _ _, hA.alloc _, hB.alloc _⟩
  clear hs hl hA hB hlen
  unfold rcells at Hw1 ⊢
  have k0 := HK.out.cells
  obtain ⟨_, c0, c1, c2, c3, c4⟩ := k0
  obtain ⟨gB, offB, hBe, hgB, hxB⟩ := HK.out.wo.2 (by omega)
  obtain ⟨gA, offA, hAe, hgA, hxA⟩ := HK.out.at_.2 (by omega)
  have HxB : Hid (∀ j, j < s.N + 1 → w1.cell? ⟨gB, offB + j, none⟩ = some (.int .i64 (s.worn.getD j 0 : Nat))) := fun j hj => hxB j _ (icells_at _ _ (by rw [Hlen.out]; exact hj))
  have HxA : Hid (∀ j, j < s.N + 1 → w1.cell? ⟨gA, offA + j, none⟩ = some (.int .i64 (line s j))) := fun j hj => by
    have := hxA j _ (ivals_at _ _ (by rw [ats_len]; exact hj))
    rwa [ats_getD s j (by omega)] at this
  clear hxA hxB
  subst hBe
  subst hAe
  have z0 := HxB.out 0 (by omega)
  rw [Nat.add_zero] at z0
  go_enter Try.func19, Try.ntmps19
  refine wp_seq_k fun K1 hK1 => ?_
  have HC := Lib.hid hK1
  clear hK1
  go_wp2_with fail
  rw [Hw1.out, Hb0.out]
  refine HC.out _ _ ?_
  clear HC Hw1
  go_wp2_with fail
  go_loopw [5, 6, 7] (fun v5 v6 v7 wr => SHead s w1 v5 v6 v7 wr) (fun _ _ v7 _ => s.N + 1 - (intOf v7).toNat)
  case atStart => exact ⟨0, 0, rfl, Nat.zero_le _, rfl, rfl, rfl⟩
  case round =>
    clear z0
    obtain ⟨i, k, rfl, hi, rfl, rfl, hwr⟩ := hrel
    have HKr : Hid (SHK w wr b gl gw (some ⟨gA, offA, none⟩) (some ⟨gB, offB, none⟩) cap capb s) := by rw [hwr]; exact HK.out.drewN k
    have Hwr := Lib.hid hwr
    clear hwr
    obtain ⟨_, c0, c1, c2, c3, c4⟩ := HKr.out.cells
    by_cases hlt : i < s.N + 1
    · have x0 : wr.cell? ⟨gB, offB + i, none⟩ = some (.int .i64 (s.worn.getD i 0 : Nat)) := by rw [Hwr.out]; exact HxB.out i hlt
      have y0 : wr.cell? ⟨gA, offA + i, none⟩ = some (.int .i64 (line s i)) := by rw [Hwr.out]; exact HxA.out i hlt
      have HS1 : Hid (leastTo s.worn (s.worn.getD 0 0) (i + 1) = min (leastTo s.worn (s.worn.getD 0 0) i) (s.worn.getD i 0)) := rfl
      have HS2 : Hid (mostTo s.worn 0 (i + 1) = max (mostTo s.worn 0 i) (s.worn.getD i 0)) := rfl
      obtain ⟨y, Hy⟩ : ∃ y, Hid (leastTo s.worn (s.worn.getD 0 0) i = y) := ⟨_, rfl⟩
      obtain ⟨u, Hu⟩ : ∃ u, Hid (mostTo s.worn 0 i = u) := ⟨_, rfl⟩
      obtain ⟨x, Hx⟩ : ∃ x, Hid (s.worn.getD i 0 = x) := ⟨_, rfl⟩
      rw [Hy.out, Hx.out] at HS1
      rw [Hu.out, Hx.out] at HS2
      rw [Hx.out] at x0
      rw [Hy.out, Hu.out]
      have hl1 : y ≤ x ∧ leastTo s.worn (s.worn.getD 0 0) (i + 1) = y ∨ (¬ y ≤ x ∧ x < y) ∧ leastTo s.worn (s.worn.getD 0 0) (i + 1) = x := by
        rw [HS1.out]
        by_cases h : y ≤ x
        · exact .inl ⟨h, Nat.min_eq_left h⟩
        · exact .inr ⟨⟨h, by omega⟩, Nat.min_eq_right (by omega)⟩
      have hl2 : x ≤ u ∧ mostTo s.worn 0 (i + 1) = u ∨ (¬ x ≤ u ∧ u < x) ∧ mostTo s.worn 0 (i + 1) = x := by
        rw [HS2.out]
        by_cases h : x ≤ u
        · exact .inl ⟨h, Nat.max_eq_left h⟩
        · exact .inr ⟨⟨h, by omega⟩, Nat.max_eq_right (by omega)⟩
      clear HS1 HS2 Hy Hu Hx
      rcases hl1 with ⟨h1, e1⟩ | ⟨⟨h1, h1'⟩, e1⟩ <;> rcases hl2 with ⟨h2, e2⟩ | ⟨⟨h2, h2'⟩, e2⟩
      all_goals
        have He := Lib.hid (And.intro e1 e2)
        clear e1 e2
        go_wp2_with fail
        go_quiet (fail)
        have HK2 := Lib.hid (HKr.out.drewN nq)
        have y1 : (wr.drewN nq).cell? ⟨gA, offA + i, none⟩ = some (.int .i64 (line s i)) := y0
        have Hw2 : Hid (∃ q, wr.drewN nq = w1.drewN q) := ⟨k + nq, by rw [Hwr.out]; exact World.drewN_drewN _ _ _⟩
        generalize World.drewN wr nq = w2 at *
        clear HKr c0 c1 c2 c3 c4 x0 y0 h1 h2
        obtain ⟨_, c0, c1, c2, c3, c4⟩ := HK2.out.cells
        by_cases hg : i = s.G
        · have hln : line s i = -1 := by rw [hg]; exact line_gap s
          rw [hln] at y1
          have HcL : Hid (∀ m, Calls Try.prog 20 #[.pointer (some ⟨gl, 0, none⟩), .int .i64 i] (w2.drewN m) fun e w' => e = .returned (.int .i64 (-1)) ∧ ∃ q, w' = (w2.drewN m).drewN q) := by
            intro m
            have := line_yes gl gw i s (w2.drewN m) Hs.out (by omega) (HK2.out.lat.drewN m)
            rwa [hln] at this
          clear hln hg
          go_wp2_with fail
          go_quiet (first | (go_at_call 20; exact quiet_more (HcL.out _)))
          go_wp2_with fail
          obtain ⟨q, hq⟩ := Hw2.out
          exact ⟨⟨i + 1, _, by go_num, by omega, by rw [He.out.1], by rw [He.out.2], by rw [hq]; exact World.drewN_drewN _ _ _⟩, by simp [intOf]; omega⟩
        · have hp := line_pos s i hg
          have hlt2 := line_lt s i Hs.out
          obtain ⟨X, hX⟩ : ∃ X : Nat, line s i = X := ⟨(line s i).toNat, by omega⟩
          have hpl := place_line s Hs.out i X (by omega) hX
          rw [hX] at y1 hlt2
          have HcL : Hid (∀ m, Calls Try.prog 20 #[.pointer (some ⟨gl, 0, none⟩), .int .i64 i] (w2.drewN m) fun e w' => e = .returned (.int .i64 (X : Nat)) ∧ ∃ q, w' = (w2.drewN m).drewN q) := by
            intro m
            have := line_yes gl gw i s (w2.drewN m) Hs.out (by omega) (HK2.out.lat.drewN m)
            rwa [hX] at this
          have HcP : Hid (∀ w', LAt w' gl gw s → Calls Try.prog 14 #[.pointer (some ⟨gl, 0, none⟩), .int .i64 X] w' fun e w'' => e = .returned (.int .i64 (i : Nat)) ∧ ∃ q, w'' = w'.drewN q) := by
            intro w' hl
            have := place_yesq gl gw X s w' Hs.out (by omega) hl
            rwa [hpl] at this
          clear hp hX hpl
          have hd0 : decide ((0 : Int) ≤ (X : Int)) = true := by simp
          go_wp2_with fail
          go_quiet (first | (go_at_call 20; exact quiet_more (HcL.out _)))
          go_wp2_with fail
          refine (HcP.out _ (HK2.out.lat.drewN _)).mono ?_
          rintro e w4 ⟨rfl, q4, hq4⟩
          have Hq4 := Lib.hid hq4
          clear hq4
          go_wp2_with fail
          obtain ⟨q, hq⟩ := Hw2.out
          exact ⟨⟨i + 1, _, by go_num, by omega, by rw [He.out.1], by rw [He.out.2], by rw [Hq4.out, hq, World.drewN_drewN, World.drewN_drewN]⟩, by simp [intOf]; omega⟩
    · obtain rfl : i = s.N + 1 := by omega
      have HcW : Hid (∀ w', SHK w w' b gl gw (some ⟨gA, offA, none⟩) (some ⟨gB, offB, none⟩) cap capb s → Calls Try.prog 9 #[.pointer (some ⟨gl, 0, none⟩)] w' fun e w'' => ∃ A5 cap5, e = .returned (.slice A5 (s.N + 1) cap5) ∧ Rd w'' 1 A5 (s.N + 1) (icells s.worn) ∧ SHK w w'' b gl gw (some ⟨gA, offA, none⟩) (some ⟨gB, offB, none⟩) cap capb s) := by
        intro w' h
        refine (worn_any gl gw s w' Hs.out h.lat).mono ?_
        rintro e w'' ⟨A5, cap5, rfl, hO, hb⟩
        exact ⟨A5, cap5, rfl, hO.rd, h.below hb (Nat.le_refl _)⟩
      have HcI : Hid (∀ w' A5 cap5, Rd w' 1 A5 (s.N + 1) (icells s.worn) → SHK w w' b gl gw (some ⟨gA, offA, none⟩) (some ⟨gB, offB, none⟩) cap capb s → Calls Try.prog 16 #[.slice A5 (s.N + 1) cap5, .slice (some ⟨gB, offB, none⟩) (s.N + 1) capb] w' fun e w'' => e = .returned (.bool true) ∧ SHK w w'' b gl gw (some ⟨gA, offA, none⟩) (some ⟨gB, offB, none⟩) cap capb s) := by
        intro w' A5 cap5 hr h
        refine (ints_any A5 _ (s.N + 1) cap5 capb s.worn w' (by omega) hr h.wo).mono ?_
        rintro e w'' ⟨rfl, hb⟩
        exact ⟨rfl, h.below hb (Nat.le_refl _)⟩
      have HcF : Hid (∀ w', SHK w w' b gl gw (some ⟨gA, offA, none⟩) (some ⟨gB, offB, none⟩) cap capb s → Calls Try.prog 22 #[.agg #[.slice (some ⟨gA, offA, none⟩) (s.N + 1) cap, .slice (some ⟨gB, offB, none⟩) (s.N + 1) capb, .int .i64 s.K, .int .i64 s.W, .int .i64 s.M], .int .i64 (-1)] w' fun e w'' => e = .returned (.int .i64 (s.G : Nat)) ∧ SHK w w'' b gl gw (some ⟨gA, offA, none⟩) (some ⟨gB, offB, none⟩) cap capb s) := by
        intro w' h
        refine (find_any (ats s) _ _ (s.N + 1) cap (s.N + 1) capb s.K s.W s.M (-1) s.G w' (by omega) h.at_ (by omega) (by rw [ats_getD s _ gp, line_gap]) (fun j hj he => by
          rw [ats_getD s j (by omega)] at he
          have := line_pos s j (by omega)
          omega)).mono ?_
        rintro e w'' ⟨rfl, hb⟩
        exact ⟨rfl, h.below hb (Nat.le_refl _)⟩
      have HcM : Hid (∀ w', SHK w w' b gl gw (some ⟨gA, offA, none⟩) (some ⟨gB, offB, none⟩) cap capb s → Calls Try.prog 23 #[.pointer (some ⟨gl, 0, none⟩)] w' fun e w'' => e = .returned (.int .i64 (mostTo s.worn 0 (s.N + 1) : Nat)) ∧ w' = w'') := fun w' h => most_any gl gw s w' Hs.out h.lat
      have HcL : Hid (∀ w', SHK w w' b gl gw (some ⟨gA, offA, none⟩) (some ⟨gB, offB, none⟩) cap capb s → Calls Try.prog 10 #[.pointer (some ⟨gl, 0, none⟩)] w' fun e w'' => e = .returned (.int .i64 (leastTo s.worn (s.worn.getD 0 0) (s.N + 1) : Nat)) ∧ w' = w'') := fun w' h => least_any gl gw s w' Hs.out h.lat
      have HcWr : Hid (∀ w', SHK w w' b gl gw (some ⟨gA, offA, none⟩) (some ⟨gB, offB, none⟩) cap capb s → Calls Try.prog 11 #[.pointer (some ⟨gl, 0, none⟩)] w' fun e w'' => e = .returned (.int .i64 (s.W : Nat)) ∧ w' = w'') := fun w' h => writes_any gl gw s w' h.lat
      have HcMv : Hid (∀ w', SHK w w' b gl gw (some ⟨gA, offA, none⟩) (some ⟨gB, offB, none⟩) cap capb s → Calls Try.prog 12 #[.pointer (some ⟨gl, 0, none⟩)] w' fun e w'' => e = .returned (.int .i64 (s.M : Nat)) ∧ w' = w'') := fun w' h => moves_any gl gw s w' h.lat
      have HcG : Hid (∀ w', SHK w w' b gl gw (some ⟨gA, offA, none⟩) (some ⟨gB, offB, none⟩) cap capb s → Calls Try.prog 13 #[.pointer (some ⟨gl, 0, none⟩)] w' fun e w'' => e = .returned (.int .i64 (s.G : Nat)) ∧ w' = w'') := fun w' h => gap_any gl gw s w' h.lat
      generalize leastTo s.worn (s.worn.getD 0 0) (s.N + 1) = lst at *
      generalize mostTo s.worn 0 (s.N + 1) = mst at *
      clear Hlen HK HxA HxB
      have hi1 : ((s.N + 1 : Nat) : Int) = (s.N : Int) + 1 := by omega
      go_wp2_with fail
      have hk0 := HKr.out.drewN 1
      clear c0 c1 c2 c3 c4
      go_region_held3 (fun w' => SHK w w' b gl gw (some ⟨gA, offA, none⟩) (some ⟨gB, offB, none⟩) cap capb s ∧ w'.cell? ⟨b, 0, none⟩ = some (.slice (some ⟨gA, offA, none⟩) (s.N + 1) cap) ∧ w'.cell? ⟨b, 1, none⟩ = some (.slice (some ⟨gB, offB, none⟩) (s.N + 1) capb) ∧ w'.cell? ⟨b, 2, none⟩ = some (.int .i64 s.K) ∧ w'.cell? ⟨b, 3, none⟩ = some (.int .i64 s.W) ∧ w'.cell? ⟨b, 4, none⟩ = some (.int .i64 s.M))
        (exact SHK.cells (by assumption))
        (first
          | (go_at_call 9; refine (HcW.out _ (And.left (by assumption))).mono ?_; rintro e w5 ⟨A5, cap5, rfl, hr5, hk5⟩)
          | (go_at_call 16; refine (HcI.out _ _ _ (by assumption) (by assumption)).mono ?_; rintro e w6 ⟨rfl, hk6⟩)
          | (go_at_call 23; refine (HcM.out _ (by assumption)).mono ?_; rintro e w7 ⟨rfl, rfl⟩)
          | (go_at_call 10; refine (HcL.out _ (by assumption)).mono ?_; rintro e w7 ⟨rfl, rfl⟩)
          | (go_at_call 11; refine (HcWr.out _ (by assumption)).mono ?_; rintro e w7 ⟨rfl, rfl⟩)
          | (go_at_call 12; refine (HcMv.out _ (by assumption)).mono ?_; rintro e w7 ⟨rfl, rfl⟩)
          | (go_at_call 13; refine (HcG.out _ (by assumption)).mono ?_; rintro e w7 ⟨rfl, rfl⟩)
          | (go_at_call 22; refine (HcF.out _ (by assumption)).mono ?_; rintro e w8 ⟨rfl, hk8⟩))
      go_wp2_with fail
      go_ret
      rw [Hb0.out]
      exact ⟨rfl, SHK.be (by assumption)⟩
end Go.Proofs.Ytpflhgidcjlcjaa
