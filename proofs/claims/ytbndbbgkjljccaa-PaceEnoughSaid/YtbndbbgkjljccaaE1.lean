/- The walk of PaceEnough: it answers true at every input. -/
import Derived.Test.YtbndbbgkjljccaaW3
import Derived.Test.YtbndbbgkjljccaaW4
namespace Go.Proofs.Ytbndbbgkjljccaa
open Go.RowKit

theorem pe_no (s n x y : Int) (w : World) (h : s < 1 ∨ 1048576 < s ∨ n < 1 ∨ 1048576 < n) :
    Calls Try.prog 4 #[.int .i64 s, .int .i64 n, .agg #[.int .i64 x, .int .i64 y]] w fun e w' => e = .returned (.bool true) ∧ Below w.heap.size w w' := by
  have Hr := Lib.hid (fun w => right_no s n w h)
  have Hn := Lib.hid (fun w => new_no s n w h)
  have Ht := Lib.hid (fun w => rate_no s n y w (by omega))
  clear h
  go_enter Try.func4, Try.ntmps4
  go_wp2_with fail
  refine (awake_any _).mono ?_
  rintro e w1 ⟨rfl, hb1⟩
  have c0 : w1.cell? ⟨w.heap.size, 0, none⟩ = some (.int .i64 x) := (hb1.cell (p := ⟨w.heap.size, 0, none⟩) (by simp)).trans ((Blk.new w 37 _).cell 0)
  have c1 : w1.cell? ⟨w.heap.size, 1, none⟩ = some (.int .i64 y) := (hb1.cell (p := ⟨w.heap.size, 1, none⟩) (by simp)).trans ((Blk.new w 37 _).cell 1)
  have Hb1 := Lib.hid (((Below.refl _ w).alloc (Nat.le_refl _) _).trans (hb1.mono (by simp)))
  clear hb1
  go_wp2_with fail
  go_quiet (fail)
  go_wp2_with fail
  refine (Ht.out _).mono ?_
  rintro e w2 ⟨rfl, rfl⟩
  go_wp2_with fail
  refine (Hr.out _).mono ?_
  rintro e w2 ⟨rfl, rfl⟩
  go_wp2_with fail
  refine (Hn.out _).mono ?_
  rintro e w2 ⟨rfl, rfl⟩
  go_wp2_with fail
  refine (Hr.out _).mono ?_
  rintro e w2 ⟨rfl, rfl⟩
  go_wp2_with fail
  go_ret
  exact ⟨rfl, below_drewN Hb1.out _⟩

set_option maxHeartbeats 1000000 in
theorem pe_low (s n x y : Int) (w : World) (h1 : 1 ≤ s) (h2 : s ≤ 1048576) (h3 : 1 ≤ n) (h4 : n ≤ 1048576) (h : y < 1) :
    Calls Try.prog 4 #[.int .i64 s, .int .i64 n, .agg #[.int .i64 x, .int .i64 y]] w fun e w' => e = .returned (.bool true) ∧ Below w.heap.size w w' := by
  have Hr := Lib.hid (fun w => right_yes s n w h1 h2 h3 h4)
  have Hn := Lib.hid (fun w => new_ok s n w h1 h2 h3 h4)
  have Ht := Lib.hid (fun w => rate_no s n y w (by omega))
  go_enter Try.func4, Try.ntmps4
  go_wp2_with fail
  refine (awake_any _).mono ?_
  rintro e w1 ⟨rfl, hb1⟩
  have c0 : w1.cell? ⟨w.heap.size, 0, none⟩ = some (.int .i64 x) := (hb1.cell (p := ⟨w.heap.size, 0, none⟩) (by simp)).trans ((Blk.new w 37 _).cell 0)
  have c1 : w1.cell? ⟨w.heap.size, 1, none⟩ = some (.int .i64 y) := (hb1.cell (p := ⟨w.heap.size, 1, none⟩) (by simp)).trans ((Blk.new w 37 _).cell 1)
  have Hb1 := Lib.hid (((Below.refl _ w).alloc (Nat.le_refl _) _).trans (hb1.mono (by simp)))
  have Hs1 : Hid (w.heap.size ≤ w1.heap.size) := Hb1.out.size
  clear hb1
  go_wp2_with fail
  go_quiet (fail)
  go_wp2_with fail
  refine (Ht.out _).mono ?_
  rintro e w2 ⟨rfl, rfl⟩
  go_wp2_with fail
  refine (Hr.out _).mono ?_
  rintro e w2 ⟨rfl, rfl⟩
  go_wp2_with fail
  refine (Hn.out _).mono ?_
  rintro e w2 ⟨rfl, hw2⟩
  have HB := Lib.hid (show Blk w2 w1.heap.size 46 #[.int .i64 s, .int .i64 n, .int .i64 0, .int .i64 0, .int .i64 0, .int .i64 0] by rw [← hw2]; exact Blk.new _ _ _)
  have Hb2 := Lib.hid (show Below w.heap.size w w2 by rw [← hw2]; exact (below_drewN Hb1.out _).alloc Hs1.out _)
  clear hw2
  go_wp2_with fail
  refine (Hr.out _).mono ?_
  rintro e w3 ⟨rfl, rfl⟩
  go_wp2_with fail
  refine (enough_any _ s n _ _ _ _ x _ HB.out h1 h2 h3 h4).mono ?_
  rintro e w3 ⟨rfl, q, rfl⟩
  go_wp2_with fail
  refine (refEnough_any s n _ _ _ _ x _ h1 h2 h3 h4).mono ?_
  rintro e w3 ⟨rfl, hb3⟩
  have Hb3 := Lib.hid ((below_drewN Hb2.out q).trans (hb3.mono Hb2.out.size))
  clear hb3
  go_wp2_with fail
  go_ret
  exact ⟨by simp, Hb3.out⟩

set_option maxHeartbeats 1000000 in
theorem pe_high (s n x y : Int) (w : World) (h1 : 1 ≤ s) (h2 : s ≤ 1048576) (h3 : 1 ≤ n) (h4 : n ≤ 1048576) (h : 1048576 < y) :
    Calls Try.prog 4 #[.int .i64 s, .int .i64 n, .agg #[.int .i64 x, .int .i64 y]] w fun e w' => e = .returned (.bool true) ∧ Below w.heap.size w w' := by
  have Hr := Lib.hid (fun w => right_yes s n w h1 h2 h3 h4)
  have Hn := Lib.hid (fun w => new_ok s n w h1 h2 h3 h4)
  have Ht := Lib.hid (fun w => rate_no s n y w (by omega))
  have hd : decide (1048576 < y) = true := by simp; omega
  go_enter Try.func4, Try.ntmps4
  go_wp2_with fail
  refine (awake_any _).mono ?_
  rintro e w1 ⟨rfl, hb1⟩
  have c0 : w1.cell? ⟨w.heap.size, 0, none⟩ = some (.int .i64 x) := (hb1.cell (p := ⟨w.heap.size, 0, none⟩) (by simp)).trans ((Blk.new w 37 _).cell 0)
  have c1 : w1.cell? ⟨w.heap.size, 1, none⟩ = some (.int .i64 y) := (hb1.cell (p := ⟨w.heap.size, 1, none⟩) (by simp)).trans ((Blk.new w 37 _).cell 1)
  have Hb1 := Lib.hid (((Below.refl _ w).alloc (Nat.le_refl _) _).trans (hb1.mono (by simp)))
  have Hs1 : Hid (w.heap.size ≤ w1.heap.size) := Hb1.out.size
  clear hb1
  go_wp2_with fail
  go_quiet (fail)
  go_wp2_with fail
  refine (Ht.out _).mono ?_
  rintro e w2 ⟨rfl, rfl⟩
  go_wp2_with fail
  refine (Hr.out _).mono ?_
  rintro e w2 ⟨rfl, rfl⟩
  go_wp2_with fail
  refine (Hn.out _).mono ?_
  rintro e w2 ⟨rfl, hw2⟩
  have HB := Lib.hid (show Blk w2 w1.heap.size 46 #[.int .i64 s, .int .i64 n, .int .i64 0, .int .i64 0, .int .i64 0, .int .i64 0] by rw [← hw2]; exact Blk.new _ _ _)
  have Hb2 := Lib.hid (show Below w.heap.size w w2 by rw [← hw2]; exact (below_drewN Hb1.out _).alloc Hs1.out _)
  clear hw2
  go_wp2_with fail
  refine (Hr.out _).mono ?_
  rintro e w3 ⟨rfl, rfl⟩
  go_wp2_with fail
  refine (enough_any _ s n _ _ _ _ x _ HB.out h1 h2 h3 h4).mono ?_
  rintro e w3 ⟨rfl, q, rfl⟩
  go_wp2_with fail
  refine (refEnough_any s n _ _ _ _ x _ h1 h2 h3 h4).mono ?_
  rintro e w3 ⟨rfl, hb3⟩
  have Hb3 := Lib.hid ((below_drewN Hb2.out q).trans (hb3.mono Hb2.out.size))
  clear hb3
  go_wp2_with fail
  go_ret
  exact ⟨by simp, Hb3.out⟩

set_option maxHeartbeats 1000000 in
theorem pe_yes (s n x y : Int) (w : World) (h1 : 1 ≤ s) (h2 : s ≤ 1048576) (h3 : 1 ≤ n) (h4 : n ≤ 1048576) (h5 : 1 ≤ y) (h6 : y ≤ 1048576) :
    Calls Try.prog 4 #[.int .i64 s, .int .i64 n, .agg #[.int .i64 x, .int .i64 y]] w fun e w' => e = .returned (.bool true) ∧ Below w.heap.size w w' := by
  have Hr := Lib.hid (fun w => right_yes s n w h1 h2 h3 h4)
  have Hn := Lib.hid (fun w => new_ok s n w h1 h2 h3 h4)
  have Ht := Lib.hid (fun w => rate_yes s n y w h1 h2 h3 h4 h5 h6)
  have k0 := least_le y n s (least y n s) (by omega)
  have k1 := k0.1 (Int.le_refl _)
  have k2 := least_le y n s (least y n s - 1) (by omega)
  have k3 : ¬ s * n ≤ (least y n s - 1) * y := fun hh => by have := k2.2 hh; omega
  obtain ⟨l1, l2⟩ := least_bd y n s h5 h6 h3 h4 h1 h2
  clear k0 k2
  generalize least y n s = z at *
  obtain ⟨b1, b2⟩ := mul_bd (A := 1048576) (B := 1048576) (by omega : 0 ≤ s) h2 (by omega : 0 ≤ n) h4
  obtain ⟨b3, b4⟩ := mul_bd (by omega : 0 ≤ z) l2 (by omega : 0 ≤ y) h6
  obtain ⟨b5, b6⟩ := mul_bd (by omega : 0 ≤ z - 1) (by omega : z - 1 ≤ 1099512676352) (by omega : 0 ≤ y) h6
  have k4 : (z - 1) * y < s * n := by omega
  clear k3
  go_enter Try.func4, Try.ntmps4
  go_wp2_with fail
  refine (awake_any _).mono ?_
  rintro e w1 ⟨rfl, hb1⟩
  have c0 : w1.cell? ⟨w.heap.size, 0, none⟩ = some (.int .i64 x) := (hb1.cell (p := ⟨w.heap.size, 0, none⟩) (by simp)).trans ((Blk.new w 37 _).cell 0)
  have c1 : w1.cell? ⟨w.heap.size, 1, none⟩ = some (.int .i64 y) := (hb1.cell (p := ⟨w.heap.size, 1, none⟩) (by simp)).trans ((Blk.new w 37 _).cell 1)
  have Hb1 := Lib.hid (((Below.refl _ w).alloc (Nat.le_refl _) _).trans (hb1.mono (by simp)))
  have Hs1 : Hid (w.heap.size ≤ w1.heap.size) := Hb1.out.size
  clear hb1
  go_wp2_with fail
  go_quiet (fail)
  go_wp2_with fail
  refine (Ht.out _).mono ?_
  rintro e w2 ⟨rfl, rfl⟩
  go_wp2_with fail
  refine (Hr.out _).mono ?_
  rintro e w2 ⟨rfl, rfl⟩
  go_wp2_with fail
  refine (Hn.out _).mono ?_
  rintro e w2 ⟨rfl, hw2⟩
  have HB := Lib.hid (show Blk w2 w1.heap.size 46 #[.int .i64 s, .int .i64 n, .int .i64 0, .int .i64 0, .int .i64 0, .int .i64 0] by rw [← hw2]; exact Blk.new _ _ _)
  have Hb2 := Lib.hid (show Below w.heap.size w w2 by rw [← hw2]; exact (below_drewN Hb1.out _).alloc Hs1.out _)
  clear hw2
  go_wp2_with fail
  refine (Hr.out _).mono ?_
  rintro e w3 ⟨rfl, rfl⟩
  go_wp2_with fail
  refine (enough_any _ s n _ _ _ _ x _ HB.out h1 h2 h3 h4).mono ?_
  rintro e w3 ⟨rfl, q, rfl⟩
  go_wp2_with fail
  refine (refEnough_any s n _ _ _ _ x _ h1 h2 h3 h4).mono ?_
  rintro e w3 ⟨rfl, hb3⟩
  have Hb3 := Lib.hid ((below_drewN Hb2.out q).trans (hb3.mono Hb2.out.size))
  clear hb3
  go_wp2_with fail
  go_ret
  exact ⟨by simp, Hb3.out⟩

theorem pe_any (s n x y : Int) (w : World) :
    Calls Try.prog 4 #[.int .i64 s, .int .i64 n, .agg #[.int .i64 x, .int .i64 y]] w fun e w' => e = .returned (.bool true) ∧ Below w.heap.size w w' := by
  by_cases h1 : s < 1
  · exact pe_no s n x y w (.inl h1)
  by_cases h2 : 1048576 < s
  · exact pe_no s n x y w (.inr (.inl h2))
  by_cases h3 : n < 1
  · exact pe_no s n x y w (.inr (.inr (.inl h3)))
  by_cases h4 : 1048576 < n
  · exact pe_no s n x y w (.inr (.inr (.inr h4)))
  by_cases h5 : y < 1
  · exact pe_low s n x y w (by omega) (by omega) (by omega) (by omega) h5
  by_cases h6 : 1048576 < y
  · exact pe_high s n x y w (by omega) (by omega) (by omega) (by omega) h6
  exact pe_yes s n x y w (by omega) (by omega) (by omega) (by omega) (by omega) (by omega)
end Go.Proofs.Ytbndbbgkjljccaa
