/- The walks of the page's example and of the reference's two steps. -/
import Derived.Test.YtbndbbgkjljccaaW2
namespace Go.Proofs.Ytbndbbgkjljccaa
open Go.RowKit

theorem awake_any (w : World) : Calls Try.prog 6 #[] w fun e w' => e = .returned (.bool true) ∧ Below w.heap.size w w' := by
  go_enter Try.func6, Try.ntmps6
  go_wp2_with fail
  refine (new_ok 3 2 w (by omega) (by omega) (by omega) (by omega)).mono ?_
  rintro e w1 ⟨rfl, hw⟩
  have hB : Blk w1 w.heap.size 46 #[.int .i64 3, .int .i64 2, .int .i64 0, .int .i64 0, .int .i64 0, .int .i64 0] := by rw [← hw]; exact Blk.new _ _ _
  have hb : Below w.heap.size w w1 := by rw [← hw]; exact (Below.refl _ _).alloc (Nat.le_refl _) _
  clear hw
  have HB := Lib.hid hB
  have Hb := Lib.hid hb
  clear hB hb
  go_wp2_with fail
  refine (took_core _ 3 2 0 0 0 0 1 1 1 w1 HB.out (by omega) (by omega) (by omega) (by omega) (by omega) (by omega) (by omega) (by omega) (by omega) (by omega) rfl rfl).mono ?_
  rintro e w2 ⟨rfl, hB2, hg2⟩
  have Hb2 := Lib.hid (below_only Hb.out hg2 Hb.out.size (Nat.le_refl _))
  have HB2 := Lib.hid hB2
  clear hB2 hg2 HB Hb
  go_wp2_with fail
  refine (took_core _ 3 2 1 1 1 0 1 1 1 w2 HB2.out (by omega) (by omega) (by omega) (by omega) (by omega) (by omega) (by omega) (by omega) (by omega) (by omega) rfl rfl).mono ?_
  rintro e w3 ⟨rfl, hB3, hg3⟩
  have Hb3 := Lib.hid (below_only Hb2.out hg3 Hb2.out.size (Nat.le_refl _))
  clear hB3 hg3
  go_wp2_with fail
  go_ret
  exact ⟨rfl, Hb3.out⟩

theorem refTook_core (s n t c d k m x y : Int) (w : World)
    (h1 : 1 ≤ s) (h2 : s ≤ 1048576) (h3 : 1 ≤ n) (h4 : n ≤ 1048576) (h7 : 0 ≤ d) (h8 : d ≤ 1000000000000000) (h9 : 0 ≤ t) (h10 : t ≤ 1000000000) (h11 : 0 ≤ c) (h12 : c ≤ 1100000000000000)
    (hx : (if m < 0 then 0 else m) = x) (hy : (if 1048576 < x then 1048576 else x) = y) :
    Calls Try.prog 10 #[.agg #[.int .i64 s, .int .i64 n, .int .i64 t, .int .i64 c, .int .i64 d, .int .i64 k], .int .i64 m] w fun e w' =>
      e = .returned (.agg #[.int .i64 s, .int .i64 n, .int .i64 (t + y), .int .i64 (came s n (t + y)), .int .i64 (d + came s n (t + y) - c), .int .i64 k]) ∧ Below w.heap.size w w' := by
  have hy0 : 0 ≤ y := by split at hx <;> split at hy <;> omega
  have hy1 : y ≤ 1048576 := by split at hy <;> omega
  obtain ⟨m1, m2⟩ := div_bd (a := t + y) (b := n) (by omega) h3
  obtain ⟨m3, m4⟩ := mod_bd (a := t + y) h3
  obtain ⟨m5, m6⟩ := mul_bd m1 (Int.le_trans m2 (by omega : t + y ≤ 1001048576)) (by omega : 0 ≤ s) h2
  obtain ⟨m7, m8⟩ := mul_bd m3 (by omega : (t + y) % n ≤ 1048576) (by omega : 0 ≤ s) h2
  obtain ⟨m9, m10⟩ := div_bd m7 h3
  unfold came
  go_enter Try.func10, Try.ntmps10
  go_wp2
  go_quiet (fail)
  go_wp2
  go_quiet (fail)
  go_wp2
  go_returns
  refine ⟨rfl, ?_⟩
  go_grown
  exact below_drewN (((Below.refl _ _).alloc (Nat.le_refl _) _).alloc (by simp) _) _

theorem refDid_core (s n t c d k m y z : Int) (w : World)
    (h7 : 0 ≤ d) (h8 : d ≤ 1000000000000000) (h9 : 0 ≤ k) (h10 : k ≤ 1000000000000000) (hm : m ≤ 1099511627776)
    (hy : (if m < 0 then 0 else m) = y) (hz : (if d - y < 0 then 0 else d - y) = z) :
    Calls Try.prog 12 #[.agg #[.int .i64 s, .int .i64 n, .int .i64 t, .int .i64 c, .int .i64 d, .int .i64 k], .int .i64 m] w fun e w' =>
      e = .returned (.agg #[.int .i64 s, .int .i64 n, .int .i64 t, .int .i64 c, .int .i64 z, .int .i64 (k + y)]) ∧ Below w.heap.size w w' := by
  have hy0 : 0 ≤ y := by split at hy <;> omega
  have hy1 : y ≤ 1099511627776 := by split at hy <;> omega
  go_enter Try.func12, Try.ntmps12
  go_wp2
  go_returns
  refine ⟨rfl, ?_⟩
  go_grown
end Go.Proofs.Ytbndbbgkjljccaa
