/- Words at rows of unlike lengths; the reference's Words whole; the law's same; Count. -/
import Derived.Test.YtedbabkmbpkjlaaD1
namespace Go.Proofs.Ytedbabkmbpkjlaa
open Go.RowKit
set_option linter.unusedVariables false
set_option linter.unusedSimpArgs false

theorem words_ne (A1 A2 : Option Addr) (m1 m2 cap1 cap2 : Nat) (gap : Int) (w : World) (h : m1 ≠ m2) :
    Calls Try.prog 13 #[.slice A1 m1 cap1, .slice A2 m2 cap2, .int .i64 gap] w fun e w' => e = .returned (.tuple #[.slice none 0 0, .int .i64 5]) ∧ w = w' := by
  have hb : ((m1 : Int) == (m2 : Int)) = false := by rw [beq_eq_false_iff_ne]; omega
  have hb2 : (m1 == m2) = false := by rw [beq_eq_false_iff_ne]; omega
  clear h
  go_enter Try.func13, Try.ntmps13
  go_wp2_with fail
  go_ret2
  trivial
theorem refwords_ne (A1 A2 : Option Addr) (m1 m2 cap1 cap2 : Nat) (gap : Int) (w : World) (h : m1 ≠ m2) :
    Calls Try.prog 14 #[.slice A1 m1 cap1, .slice A2 m2 cap2, .int .i64 gap] w fun e w' => e = .returned (.tuple #[.slice none 0 0, .bool false]) ∧ w = w' := by
  have hb : ((m1 : Int) == (m2 : Int)) = false := by rw [beq_eq_false_iff_ne]; omega
  have hb2 : (m1 == m2) = false := by rw [beq_eq_false_iff_ne]; omega
  clear h
  go_enter Try.func14, Try.ntmps14
  go_wp2_with fail
  go_ret2
  trivial

theorem refwords_zero (A1 A2 : Option Addr) (cap1 cap2 : Nat) (gap : Int) (w : World) :
    Calls Try.prog 14 #[.slice A1 0 cap1, .slice A2 0 cap2, .int .i64 gap] w fun e w' => e = .returned (.tuple #[.slice none 0 0, .bool true]) ∧ w = w' := by
  go_enter Try.func14, Try.ntmps14
  go_wp2_with fail
  go_loopw [8, 9, 10] (fun v5 v6 v7 wr => v5 = .slice none 0 0 ∧ v7 = .int .i64 0 ∧ w = wr) (fun _ _ v7 _ => 0)
  case atStart => exact ⟨rfl, rfl, rfl⟩
  case round =>
    obtain ⟨rfl, rfl, rfl⟩ := hrel
    go_wp2_with fail
    go_ret2
    trivial

theorem refwords_any (A1 A2 : Option Addr) (m cap1 cap2 : Nat) (was now : List Int) (gap : Int) (w : World) (hm : m ≤ 1000) (hg0 : -9223372036854775808 ≤ gap) (hg1 : gap ≤ 9223372036854775807) (hc1 : m ≤ cap1) (hc2 : m ≤ cap2)
    (hw : Rd w 1 A1 m (ucells was)) (hw2 : Rd w 1 A2 m (ucells now)) :
    Calls Try.prog 14 #[.slice A1 m cap1, .slice A2 m cap2, .int .i64 gap] w fun e w' => ∃ A cap hd, e = .returned (.tuple #[.slice A (segs was now gap m).length cap, .bool true]) ∧
      ChRow w' A (segs was now gap m).length (posOf (segs was now gap m)) hd ∧ ChVals w' (segs was now gap m).length hd (fun j => sub was (seg (segs was now gap m) j).1 (seg (segs was now gap m) j).2) (fun j => sub now (seg (segs was now gap m) j).1 (seg (segs was now gap m) j).2) ∧ Below w.heap.size w w' := by
  by_cases hm0 : m = 0
  · subst hm0
    refine (refwords_zero A1 A2 cap1 cap2 gap w).mono ?_
    rintro e w' ⟨rfl, rfl⟩
    exact ⟨none, 0, fun _ => ⟨none, 0, 0, none, 0, 0⟩, rfl, fun h => absurd h (Nat.not_lt_zero _), fun j hj => absurd hj (Nat.not_lt_zero _), Below.refl _ _⟩
  · obtain ⟨g1, o1, rfl, _, _⟩ := hw.word (by omega)
    obtain ⟨g2, o2, rfl, _, _⟩ := hw2.word (by omega)
    refine (refwords_pos g1 o1 g2 o2 m cap1 cap2 was now gap w (by omega) hm hg0 hg1 hc1 hc2 hw hw2).mono ?_
    rintro e w' ⟨A, cap, rfl, hO, hb⟩
    have hr := segs_rise was now gap m
    exact ⟨A, cap, _, rfl, hO.chrow, fun j hj => ⟨(hw.below hb (Nat.le_refl _)).sub (Nat.le_of_lt (hr.one j hj)) (hr.le j hj), (hw2.below hb (Nat.le_refl _)).sub (Nat.le_of_lt (hr.one j hj)) (hr.le j hj)⟩, hb⟩

set_option maxHeartbeats 1000000 in
theorem lsame_any (A A2 : Option Addr) (n cap cap2 : Nat) (pos : Nat → Int) (hd hd2 : Nat → Hd) (was now : Nat → List Int) (w : World) (hn : n ≤ 100000) (hl : ∀ j, j < n → (was j).length ≤ 100000 ∧ (now j).length ≤ 100000)
    (hr : ChRow w A n pos hd) (hr2 : ChRow w A2 n pos hd2) (hv : ChVals w n hd was now) (hv2 : ChVals w n hd2 was now) :
    Calls Try.prog 15 #[.slice A n cap, .slice A2 n cap2] w fun e w' => e = .returned (.bool true) ∧ Below w.heap.size w w' := by
  have Hr := Lib.hid hr
  have Hr2 := Lib.hid hr2
  have Hv := Lib.hid hv
  have Hv2 := Lib.hid hv2
  have Hl := Lib.hid hl
  clear hr hr2 hv hv2 hl
  go_enter Try.func15, Try.ntmps15
  go_wp2_with fail
  go_loopw [5] (fun v5 wr => ∃ i : Nat, v5 = .int .i64 i ∧ i ≤ n ∧ Below w.heap.size w wr) (fun v5 _ => n - (intOf v5).toNat)
  case atStart => exact ⟨0, rfl, Nat.zero_le _, Below.refl _ _⟩
  case round =>
    obtain ⟨i, rfl, hi, hb⟩ := hrel
    have Hb := Lib.hid hb
    clear hb
    by_cases hlt : i < n
    · obtain ⟨g, off, rfl, hg, hc⟩ := Hr.out (by omega)
      obtain ⟨g2, off2, rfl, hg2, hc2⟩ := Hr2.out (by omega)
      obtain ⟨c0, c1, c2⟩ := hc i hlt
      obtain ⟨d0, d1, d2⟩ := hc2 i hlt
      obtain ⟨hv1, hv2⟩ := Hv.out i hlt
      obtain ⟨hv3, hv4⟩ := Hv2.out i hlt
      obtain ⟨hl1, hl2⟩ := Hl.out i hlt
      clear hc hc2
      generalize pos i = p at *
      generalize hd i = hh at *
      generalize hd2 i = hh2 at *
      generalize was i = ws at *
      generalize now i = ns at *
      obtain ⟨B1, n1, k1, B2, n2, k2⟩ := hh
      obtain ⟨C1, m1, j1, C2, m2, j2⟩ := hh2
      simp only at c1 c2 d1 d2 hv1 hv2 hv3 hv4
      have e1 := hv1.ulen
      have e2 := hv2.ulen
      obtain rfl : n1 = m1 := by have := hv3.ulen; omega
      obtain rfl : n2 = m2 := by have := hv4.ulen; omega
      have hn1 : n1 ≤ 100000 := by omega
      have hn2 : n2 ≤ 100000 := by omega
      have HS : Hid (∀ w', Below w.heap.size w w' → (Below w.heap.size w w' ∧ w'.cell? ⟨g, off + i * 3, none⟩ = some (.int .i64 p) ∧ w'.cell? ⟨g, off + i * 3 + 1, none⟩ = some (.slice B1 n1 k1) ∧ w'.cell? ⟨g, off + i * 3 + 2, none⟩ = some (.slice B2 n2 k2) ∧
          w'.cell? ⟨g2, off2 + i * 3, none⟩ = some (.int .i64 p) ∧ w'.cell? ⟨g2, off2 + i * 3 + 1, none⟩ = some (.slice C1 n1 j1) ∧ w'.cell? ⟨g2, off2 + i * 3 + 2, none⟩ = some (.slice C2 n2 j2))) := fun w' h =>
        ⟨h, (h.cell (p := ⟨g, off + i * 3, none⟩) hg).trans c0, (h.cell (p := ⟨g, off + i * 3 + 1, none⟩) hg).trans c1, (h.cell (p := ⟨g, off + i * 3 + 2, none⟩) hg).trans c2, (h.cell (p := ⟨g2, off2 + i * 3, none⟩) hg2).trans d0, (h.cell (p := ⟨g2, off2 + i * 3 + 1, none⟩) hg2).trans d1, (h.cell (p := ⟨g2, off2 + i * 3 + 2, none⟩) hg2).trans d2⟩
      have HcG : Hid (∀ (w' : World) (B : Option Addr) (n k : Nat) (C : Option Addr) (j : Nat), Below w.heap.size w w' → (∃ l, n ≤ 100000 ∧ Rd w 1 B n (ucells l) ∧ Rd w 1 C n (ucells l)) → Calls Try.prog 12 #[.slice B n k, .slice C n j] w' fun e w'' => e = .returned (.bool true) ∧ Below w.heap.size w w'') := fun w' B n k C j h ⟨l, hn, h1, h2⟩ =>
        (same_any B n k C j l w' hn (h1.below h (Nat.le_refl _)) (h2.below h (Nat.le_refl _))).mono fun e w'' ⟨he, hb⟩ => ⟨he, h.trans (hb.mono h.size)⟩
      have HR1 : Hid (∃ l, n1 ≤ 100000 ∧ Rd w 1 B1 n1 (ucells l) ∧ Rd w 1 C1 n1 (ucells l)) := ⟨ws, hn1, hv1, hv3⟩
      have HR2 : Hid (∃ l, n2 ≤ 100000 ∧ Rd w 1 B2 n2 (ucells l) ∧ Rd w 1 C2 n2 (ucells l)) := ⟨ns, hn2, hv2, hv4⟩
      clear c0 c1 c2 d0 d1 d2 hv1 hv2 hv3 hv4 e1 e2
      go_wp2_with fail
      have hbd := below_drewN Hb.out 1
      go_region_held3 (fun w' => Below w.heap.size w w' ∧ w'.cell? ⟨g, off + i * 3, none⟩ = some (.int .i64 p) ∧ w'.cell? ⟨g, off + i * 3 + 1, none⟩ = some (.slice B1 n1 k1) ∧ w'.cell? ⟨g, off + i * 3 + 2, none⟩ = some (.slice B2 n2 k2) ∧
          w'.cell? ⟨g2, off2 + i * 3, none⟩ = some (.int .i64 p) ∧ w'.cell? ⟨g2, off2 + i * 3 + 1, none⟩ = some (.slice C1 n1 j1) ∧ w'.cell? ⟨g2, off2 + i * 3 + 2, none⟩ = some (.slice C2 n2 j2))
        (first | exact HS.out _ hbd | exact HS.out _ (by assumption))
        ((go_at_call 12; refine (HcG.out _ _ _ _ _ _ (And.left (by assumption)) (by first | exact HR1.out | exact HR2.out)).mono ?_; rintro e w5 ⟨rfl, hb5⟩))
      have Hb9 := Lib.hid hb5
      go_wp2_with fail
      exact ⟨⟨i + 1, by go_num, by omega, Hb9.out⟩, by simp [intOf]; omega⟩
    · go_wp2_with fail
      go_ret
      exact ⟨rfl, Hb.out⟩
end Go.Proofs.Ytedbabkmbpkjlaa
