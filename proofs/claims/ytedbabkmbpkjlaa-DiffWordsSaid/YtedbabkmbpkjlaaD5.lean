/- The walk of DiffWords. -/
import Derived.Test.YtedbabkmbpkjlaaA1
import Derived.Test.YtedbabkmbpkjlaaD2
import Derived.Test.YtedbabkmbpkjlaaD3
import Derived.Test.YtedbabkmbpkjlaaD4
namespace Go.Proofs.Ytedbabkmbpkjlaa
open Go.RowKit
set_option linter.unusedVariables false
set_option linter.unusedSimpArgs false

set_option maxRecDepth 100000 in
set_option maxHeartbeats 2000000 in
theorem dw_skip (A1 A2 : Option Addr) (m1 m2 cap1 cap2 : Nat) (gap : Int) (w : World) (h1 : m1 ≤ 9223372036854775807) (h2 : m2 ≤ 9223372036854775807) (h : 300 < m1 ∨ 300 < m2) :
    Calls Try.prog 4 #[.slice A1 m1 cap1, .slice A2 m2 cap2, .int .i64 gap] w fun e w' => e = .returned (.bool true) ∧ Below w.heap.size w w' := by
  have hc : (300 < m1) ∨ (m1 ≤ 300 ∧ 300 < m2) := by omega
  clear h
  rcases hc with h | ⟨h, h'⟩
  all_goals
    go_enter Try.func4, Try.ntmps4
    go_wp2_with fail
    refine (awake_any _).mono ?_
    rintro e w1 ⟨rfl, hb1⟩
    have Hb1 := Lib.hid hb1
    clear hb1
    go_wp2_with fail
    go_ret
    exact ⟨rfl, Hb1.out⟩

set_option maxRecDepth 100000 in
set_option maxHeartbeats 2000000 in
theorem dw_ne (A1 A2 : Option Addr) (m1 m2 cap1 cap2 : Nat) (gap : Int) (w : World) (h1 : m1 ≤ 300) (h2 : m2 ≤ 300) (h : m1 ≠ m2) :
    Calls Try.prog 4 #[.slice A1 m1 cap1, .slice A2 m2 cap2, .int .i64 gap] w fun e w' => e = .returned (.bool true) ∧ Below w.heap.size w w' := by
  have Hn := Lib.hid h
  clear h
  go_enter Try.func4, Try.ntmps4
  go_wp2_with fail
  refine (awake_any _).mono ?_
  rintro e w1 ⟨rfl, hb1⟩
  have Hb1 := Lib.hid hb1
  clear hb1
  go_wp2_with fail
  refine (words_ne A1 A2 m1 m2 cap1 cap2 gap _ Hn.out).mono ?_
  rintro e w2 ⟨rfl, rfl⟩
  go_wp2_with fail
  refine (refwords_ne A1 A2 m1 m2 cap1 cap2 gap _ Hn.out).mono ?_
  rintro e w2 ⟨rfl, rfl⟩
  go_wp2_with fail
  go_ret
  exact ⟨rfl, Hb1.out⟩

def partsOf (l : List Int) (ss : List (Nat × Nat)) : Nat → List Int := fun j => sub l (seg ss j).1 (seg ss j).2
structure DC (w0 W : World) (A : Option Addr) (L : Nat) (ps : Nat → Int) (hd : Nat → Hd) (ws ns : Nat → List Int) : Prop where
  be : Below w0.heap.size w0 W
  row : ChRow W A L ps hd
  vals : ChVals W L hd ws ns
theorem DC.below {w0 w w' : World} {A : Option Addr} {L B : Nat} {ps : Nat → Int} {hd : Nat → Hd} {ws ns : Nat → List Int} (h : DC w0 w A L ps hd ws ns) (hb : Below B w w') (hB : w.heap.size ≤ B) : DC w0 w' A L ps hd ws ns :=
  ⟨h.be.trans (hb.mono (Nat.le_trans h.be.size hB)), h.row.below hb hB, h.vals.below hb hB⟩

set_option maxRecDepth 100000 in
set_option maxHeartbeats 2000000 in
theorem dw_in (A1 A2 : Option Addr) (m cap1 cap2 : Nat) (was now : List Int) (gap : Int) (w : World) (hm : m ≤ 300) (hg0 : -9223372036854775808 ≤ gap) (hg1 : gap ≤ 9223372036854775807) (hc1 : m ≤ cap1) (hc2 : m ≤ cap2)
    (hw : Rd w 1 A1 m (ucells was)) (hw2 : Rd w 1 A2 m (ucells now)) :
    Calls Try.prog 4 #[.slice A1 m cap1, .slice A2 m cap2, .int .i64 gap] w fun e w' => e = .returned (.bool true) ∧ Below w.heap.size w w' := by
  have Hw := Lib.hid hw
  have Hw2 := Lib.hid hw2
  have Hl1 : Hid (was.length = m) := hw.ulen
  have Hl2 : Hid (now.length = m) := hw2.ulen
  clear hw hw2
  obtain ⟨ss, Hss⟩ : ∃ ss, Hid (segs was now gap m = ss) := ⟨_, rfl⟩
  obtain ⟨L, HL⟩ : ∃ L, Hid (ss.length = L) := ⟨_, rfl⟩
  have hn : L ≤ 300 := by have := segs_le was now gap m; rw [← HL.out, ← Hss.out]; omega
  have Hf : Hid (apl was (posOf ss) (partsOf was ss) (partsOf now ss) L = (0, now)) := by
    rw [← HL.out, ← Hss.out]
    exact apl_forth was now gap m Hl1.out Hl2.out
  have Hb : Hid (apl now (fun j => posOf ss (L - 1 - j)) (fun j => partsOf now ss (L - 1 - j)) (fun j => partsOf was ss (L - 1 - j)) L = (0, was)) := by
    have h := apl_back was now gap m L Hl1.out Hl2.out (by rw [Hss.out, HL.out])
    rw [Hss.out] at h
    exact h
  have Hc : Hid (cnts (partsOf was ss) (partsOf now ss) L = cnt was now 0 m) := by
    rw [← HL.out, ← Hss.out]
    exact segs_cnts was now gap m Hl1.out Hl2.out m (Nat.le_refl _)
  have Hlen : Hid (∀ j, j < L → (partsOf was ss j).length ≤ 100000 ∧ (partsOf now ss j).length = (partsOf was ss j).length) := by
    intro j hj
    have h1 : (seg ss j).2 ≤ m := by
      have := (segs_rise was now gap m).le j (by rw [Hss.out, HL.out]; exact hj)
      rw [Hss.out] at this
      exact this
    unfold partsOf
    rw [sub_len _ _ _ (by rw [Hl1.out]; exact h1), sub_len _ _ _ (by rw [Hl2.out]; exact h1)]
    omega
  have Hlen2 : Hid (∀ j, j < L → (partsOf was ss j).length ≤ 100000 ∧ (partsOf now ss j).length ≤ 100000) := fun j hj => ⟨(Hlen.out j hj).1, by rw [(Hlen.out j hj).2]; exact (Hlen.out j hj).1⟩
  go_enter Try.func4, Try.ntmps4
  go_wp2_with fail
  refine (awake_any _).mono ?_
  rintro e w1 ⟨rfl, hb1⟩
  have Hb1 := Lib.hid hb1
  clear hb1
  go_wp2_with fail
  refine (words_any A1 A2 m cap1 cap2 was now gap _ (by omega) hg0 hg1 hc1 hc2 (Hw.out.below Hb1.out (Nat.le_refl _)) (Hw2.out.below Hb1.out (Nat.le_refl _))).mono ?_
  rintro e w2 ⟨A, cap, bl, rfl, hC⟩
  rw [Hss.out, HL.out] at hC ⊢
  obtain ⟨hd, Hhd⟩ : ∃ hd, Hid (hdOf ss ss bl = hd) := ⟨_, rfl⟩
  have HD2 : Hid (DC w w2 A L (posOf ss) hd (partsOf was ss) (partsOf now ss)) :=
    ⟨Hb1.out.trans (hC.b.mono Hb1.out.size), by rw [← Hhd.out]; exact hC.out.chrow, fun j hj => by rw [← Hhd.out]; exact ⟨(hC.va j hj).rd, (hC.vb j hj).rd⟩⟩
  have hncap : L ≤ cap := by
    rcases hC.out.form with ⟨_, h, h'⟩ | ⟨_, _, _, _, _, h, _⟩ <;> omega
  clear hC Hb1
  go_wp2_with fail
  refine (refwords_any A1 A2 m cap1 cap2 was now gap _ (by omega) hg0 hg1 hc1 hc2 (Hw.out.below HD2.out.be (Nat.le_refl _)) (Hw2.out.below HD2.out.be (Nat.le_refl _))).mono ?_
  rintro e w3 ⟨A3, cap3, hd3, rfl, hr3, hv3, hb3⟩
  rw [Hss.out, HL.out] at hr3 hv3 ⊢
  have HD3 := Lib.hid (HD2.out.below hb3 (Nat.le_refl _))
  have HE3 : Hid (DC w w3 A3 L (posOf ss) hd3 (partsOf was ss) (partsOf now ss)) := ⟨HD3.out.be, hr3, hv3⟩
  clear hr3 hv3 hb3 HD2
  go_wp2_with fail
  refine (lsame_any A A3 L cap cap3 (posOf ss) hd hd3 (partsOf was ss) (partsOf now ss) w3 (by omega) Hlen2.out HD3.out.row HE3.out.row HD3.out.vals HE3.out.vals).mono ?_
  rintro e w4 ⟨rfl, hb4⟩
  have HD4 := Lib.hid (HD3.out.below hb4 (Nat.le_refl _))
  clear hb4 HD3 HE3
  go_wp2_with fail
  refine (apply_any A1 m cap1 was A L cap (posOf ss) hd (partsOf was ss) (partsOf now ss) w4 (by omega) (by omega) (Hw.out.below HD4.out.be (Nat.le_refl _)) HD4.out.row HD4.out.vals).mono ?_
  rintro e w5 ⟨v5, rfl, hA5, hb5⟩
  rw [Hf.out] at hA5 ⊢
  have HD5 := Lib.hid (HD4.out.below hb5 (Nat.le_refl _))
  clear hb5
  obtain ⟨A5, k5, rfl, hO5⟩ : ∃ A k, v5 = .slice A m k ∧ Own w5 w4.heap.size 46 1 A m k (ucells now) := by
    rcases hA5 with ⟨_, h⟩ | ⟨h, _⟩
    · exact h
    · exact absurd rfl h
  have HR5 := Lib.hid hO5.rd
  clear hO5 HD4
  simp only [show acode 0 = 0 from rfl]
  go_wp2_with fail
  refine (back_any A L cap (posOf ss) hd (partsOf was ss) (partsOf now ss) w5 (by omega) Hlen.out HD5.out.row HD5.out.vals).mono ?_
  rintro e w6 ⟨A6, cap6, hd6, rfl, hr6, hv6, hb6⟩
  have HD6 := Lib.hid (HD5.out.below hb6 (Nat.le_refl _))
  have HE6 : Hid (DC w w6 A6 L (fun j => posOf ss (L - 1 - j)) hd6 (fun j => partsOf now ss (L - 1 - j)) (fun j => partsOf was ss (L - 1 - j))) := ⟨HD6.out.be, hr6, hv6⟩
  have HR6 := Lib.hid (HR5.out.below hb6 (Nat.le_refl _))
  clear hr6 hv6 hb6 HD5 HR5
  go_wp2_with fail
  refine (apply_any A2 m cap2 now A6 L cap6 _ hd6 _ _ w6 (by omega) (by omega) (Hw2.out.below HE6.out.be (Nat.le_refl _)) HE6.out.row HE6.out.vals).mono ?_
  rintro e w7 ⟨v7, rfl, hA7, hb7⟩
  rw [Hb.out] at hA7 ⊢
  have HD7 := Lib.hid (HD6.out.below hb7 (Nat.le_refl _))
  have HR7 := Lib.hid (HR6.out.below hb7 (Nat.le_refl _))
  clear hb7
  obtain ⟨A7, k7, rfl, hO7⟩ : ∃ A k, v7 = .slice A m k ∧ Own w7 w6.heap.size 46 1 A m k (ucells was) := by
    rcases hA7 with ⟨_, h⟩ | ⟨h, _⟩
    · exact h
    · exact absurd rfl h
  have HS7 := Lib.hid hO7.rd
  clear hO7 HD6 HE6 HR6
  simp only [show acode 0 = 0 from rfl]
  go_wp2_with fail
  have Hw7 := Lib.hid (Hw.out.below HD7.out.be (Nat.le_refl _))
  have Hw8 := Lib.hid (Hw2.out.below HD7.out.be (Nat.le_refl _))
  go_loopw [15, 16] (fun v15 v16 wr => ∃ i q : Nat, v16 = .int .i64 i ∧ i ≤ m ∧ v15 = .int .i64 (cnt was now 0 i : Nat) ∧ wr = w7.drewN q) (fun _ v16 _ => m - (intOf v16).toNat)
  case atStart => exact ⟨0, 0, rfl, Nat.zero_le _, rfl, rfl⟩
  case round =>
    obtain ⟨i, q, rfl, hi, rfl, hwr⟩ := hrel
    have Hwr := Lib.hid hwr
    clear hwr
    have hci := cnt_le was now 0 i
    by_cases hlt : i < m
    · obtain ⟨g1, o1, rfl, hg1', hx1⟩ := Hw7.out.word (by omega)
      obtain ⟨g2, o2, rfl, hg2', hx2⟩ := Hw8.out.word (by omega)
      have y1 : wr.cell? ⟨g1, o1 + i, none⟩ = some (.int .u64 (was.getD i 0)) := by rw [Hwr.out]; exact hx1 i hlt
      have y2 : wr.cell? ⟨g2, o2 + i, none⟩ = some (.int .u64 (now.getD i 0)) := by rw [Hwr.out]; exact hx2 i hlt
      have HT : Hid (cnt was now 0 (i + 1) = cnt was now 0 i + if was.getD i 0 = now.getD i 0 then 0 else 1) := by show _ = _; simp only [cnt]; rw [Nat.zero_add]
      clear hx1 hx2
      generalize cnt was now 0 i = ck at *
      by_cases hy : was.getD i 0 = now.getD i 0
      · have HT2 : Hid (cnt was now 0 (i + 1) = ck) := by show _ = _; rw [HT.out, if_pos hy]; rfl
        rw [← hy] at y2
        clear hy HT
        generalize was.getD i 0 = y at *
        go_wp2_with fail
        go_quiet (fail)
        go_wp2_with fail
        exact ⟨⟨i + 1, q + nq, by go_num, by omega, by rw [HT2.out], by rw [Hwr.out]; exact World.drewN_drewN _ _ _⟩, by simp [intOf]; omega⟩
      · have HT2 : Hid (cnt was now 0 (i + 1) = ck + 1) := by show _ = _; rw [HT.out, if_neg hy]
        have hyb : (was.getD i 0 == now.getD i 0) = false := by rw [beq_eq_false_iff_ne]; exact hy
        clear hy HT
        generalize was.getD i 0 = y at *
        generalize now.getD i 0 = z at *
        go_wp2_with fail
        go_quiet (fail)
        go_wp2_with fail
        exact ⟨⟨i + 1, q + nq, by go_num, by omega, by rw [HT2.out]; go_num, by rw [Hwr.out]; exact World.drewN_drewN _ _ _⟩, by simp [intOf]; omega⟩
    · obtain rfl : i = m := by omega
      have HDr : Hid (DC w wr A L (posOf ss) hd (partsOf was ss) (partsOf now ss)) := by rw [Hwr.out]; exact ⟨below_drewN HD7.out.be q, HD7.out.row, HD7.out.vals⟩
      have HR8 : Hid (Rd wr 1 A5 i (ucells now)) := by rw [Hwr.out]; exact HR7.out
      have HS8 : Hid (Rd wr 1 A7 i (ucells was)) := by rw [Hwr.out]; exact HS7.out
      have Hwa : Hid (Rd wr 1 A1 i (ucells was)) := by rw [Hwr.out]; exact Hw7.out
      have Hwb : Hid (Rd wr 1 A2 i (ucells now)) := by rw [Hwr.out]; exact Hw8.out
      clear HD7 HR7 HS7 Hw7 Hw8
      go_wp2_with fail
      refine (same_any A5 i k5 A2 cap2 now wr (by omega) HR8.out Hwb.out).mono ?_
      rintro e w9 ⟨rfl, hb9⟩
      have HD9 := Lib.hid (HDr.out.below hb9 (Nat.le_refl _))
      have HS9 := Lib.hid (HS8.out.below hb9 (Nat.le_refl _))
      have Hwa9 := Lib.hid (Hwa.out.below hb9 (Nat.le_refl _))
      clear hb9 HDr HS8 Hwa Hwb HR8
      go_wp2_with fail
      refine (same_any A7 i k7 A1 cap1 was w9 (by omega) HS9.out Hwa9.out).mono ?_
      rintro e w10 ⟨rfl, hb10⟩
      have HD10 := Lib.hid (HD9.out.below hb10 (Nat.le_refl _))
      clear hb10 HD9 HS9 Hwa9
      go_wp2_with fail
      refine (count_any A L cap (posOf ss) hd (partsOf was ss) (partsOf now ss) w10 (by omega) Hlen.out HD10.out.row HD10.out.vals).mono ?_
      rintro e w11 ⟨rfl, hb11⟩
      rw [Hc.out]
      have HD11 := Lib.hid (HD10.out.below hb11 (Nat.le_refl _))
      clear hb11 HD10
      go_wp2_with fail
      go_ret
      exact ⟨rfl, HD11.out.be⟩
theorem dw_any (A1 A2 : Option Addr) (m1 m2 cap1 cap2 : Nat) (was now : List Int) (gap : Int) (w : World) (hg0 : -9223372036854775808 ≤ gap) (hg1 : gap ≤ 9223372036854775807) (hc1 : m1 ≤ cap1) (hc2 : m2 ≤ cap2) (hx1 : cap1 ≤ maxLen) (hx2 : cap2 ≤ maxLen)
    (hw : Rd w 1 A1 m1 (ucells was)) (hw2 : Rd w 1 A2 m2 (ucells now)) :
    Calls Try.prog 4 #[.slice A1 m1 cap1, .slice A2 m2 cap2, .int .i64 gap] w fun e w' => e = .returned (.bool true) ∧ Below w.heap.size w w' := by
  unfold maxLen at hx1 hx2
  by_cases h : 300 < m1 ∨ 300 < m2
  · exact dw_skip A1 A2 m1 m2 cap1 cap2 gap w (by omega) (by omega) h
  · by_cases h2 : m1 = m2
    · subst h2
      exact dw_in A1 A2 m1 cap1 cap2 was now gap w (by omega) hg0 hg1 hc1 hc2 hw hw2
    · exact dw_ne A1 A2 m1 m2 cap1 cap2 gap w (by omega) (by omega) h2
end Go.Proofs.Ytedbabkmbpkjlaa
