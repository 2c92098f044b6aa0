/- The walks of pace's functions and of the reference's: each function once. -/
import Derived.Test.YtbndbbgkjljccaaW1
import Derived.Test.YtbndbbgkjljccaaBase
import Derived.Test.YtbndbbgkjljccaaMath
import Derived.WalkLawsBesides
import Derived.WalkSpells
namespace Go.Proofs.Ytbndbbgkjljccaa
open Go.RowKit

theorem right_yes (s n : Int) (w : World) (h1 : 1 ≤ s) (h2 : s ≤ 1048576) (h3 : 1 ≤ n) (h4 : n ≤ 1048576) :
    Calls Try.prog 8 #[.int .i64 s, .int .i64 n] w fun e w' => e = .returned (.bool true) ∧ w = w' := by
  go_enter Try.func8, Try.ntmps8
  go_wp2
  go_ret
  exact ⟨rfl, rfl⟩

theorem right_no (s n : Int) (w : World) (h : s < 1 ∨ 1048576 < s ∨ n < 1 ∨ 1048576 < n) :
    Calls Try.prog 8 #[.int .i64 s, .int .i64 n] w fun e w' => e = .returned (.bool false) ∧ w = w' := by
  by_cases h1 : s < 1
  · go_enter Try.func8, Try.ntmps8
    go_wp2
    go_ret
    exact ⟨rfl, rfl⟩
  · by_cases h2 : 1048576 < s
    · go_enter Try.func8, Try.ntmps8
      go_wp2
      go_ret
      exact ⟨rfl, rfl⟩
    · by_cases h3 : n < 1
      · go_enter Try.func8, Try.ntmps8
        go_wp2
        go_ret
        exact ⟨rfl, rfl⟩
      · have h4 : 1048576 < n := by omega
        have hd : decide (n ≤ 1048576) = false := by simp; omega
        go_enter Try.func8, Try.ntmps8
        go_wp2
        go_ret
        exact ⟨rfl, rfl⟩

theorem rate_no (s n r : Int) (w : World) (h : s < 1 ∨ 1048576 < s ∨ n < 1 ∨ 1048576 < n ∨ r < 1 ∨ 1048576 < r) :
    Calls Try.prog 16 #[.int .i64 s, .int .i64 n, .int .i64 r] w fun e w' => e = .returned (.int .i64 0) ∧ w = w' := by
  by_cases h1 : s < 1
  · go_enter Try.func16, Try.ntmps16
    go_wp2
    go_ret
    exact ⟨rfl, rfl⟩
  · by_cases h3 : n < 1
    · go_enter Try.func16, Try.ntmps16
      go_wp2
      go_ret
      exact ⟨rfl, rfl⟩
    · by_cases h5 : r < 1
      · go_enter Try.func16, Try.ntmps16
        go_wp2
        go_ret
        exact ⟨rfl, rfl⟩
      · by_cases h2 : 1048576 < s
        · go_enter Try.func16, Try.ntmps16
          go_wp2
          go_ret
          exact ⟨rfl, rfl⟩
        · by_cases h4 : 1048576 < n
          · go_enter Try.func16, Try.ntmps16
            go_wp2
            go_ret
            exact ⟨rfl, rfl⟩
          · have h6 : 1048576 < r := by omega
            go_enter Try.func16, Try.ntmps16
            go_wp2
            go_ret
            exact ⟨rfl, rfl⟩

theorem rate_yes (s n r : Int) (w : World) (h1 : 1 ≤ s) (h2 : s ≤ 1048576) (h3 : 1 ≤ n) (h4 : n ≤ 1048576) (h5 : 1 ≤ r) (h6 : r ≤ 1048576) :
    Calls Try.prog 16 #[.int .i64 s, .int .i64 n, .int .i64 r] w fun e w' => e = .returned (.int .i64 (least r n s)) ∧ w = w' := by
  have hb := mul_bd (A := 1048576) (B := 1048576) (by omega : 0 ≤ s) h2 (by omega : 0 ≤ n) h4
  obtain ⟨hb1, hb2⟩ := hb
  unfold least
  go_enter Try.func16, Try.ntmps16
  go_wp2
  go_ret
  exact ⟨rfl, rfl⟩

theorem took_core (b : Nat) (s n r d t k m x c : Int) (w : World) (hB : Blk w b 46 #[.int .i64 s, .int .i64 n, .int .i64 r, .int .i64 d, .int .i64 t, .int .i64 k])
    (h1 : 1 ≤ s) (h2 : s ≤ 1048576) (h3 : 1 ≤ n) (h4 : n ≤ 1048576) (h5 : 0 ≤ r) (h6 : r < n) (h7 : 0 ≤ d) (h8 : d ≤ 1000000000000000) (h9 : 0 ≤ t) (h10 : t ≤ 1000000000000000)
    (hx : (if 1048576 < m then 1048576 else m) = x) (hc : (if 0 < x then x else 0) = c) :
    Calls Try.prog 9 #[.pointer (some ⟨b, 0, none⟩), .int .i64 m] w fun e w' => e = .returned (.int .i64 (d + (r + c * s) / n)) ∧
      Blk w' b 46 #[.int .i64 s, .int .i64 n, .int .i64 ((r + c * s) % n), .int .i64 (d + (r + c * s) / n), .int .i64 (t + c), .int .i64 k] ∧ w.grownBy w' (some b) := by
  have c0 := hB.cell 0
  have c1 := hB.cell 1
  have c2 := hB.cell 2
  have c3 := hB.cell 3
  have c4 := hB.cell 4
  have f2 := hB.frozen 2
  have f3 := hB.frozen 3
  have f4 := hB.frozen 4
  simp only [List.getElem?_toArray, List.getElem?_cons_zero, List.getElem?_cons_succ] at c0 c1 c2 c3 c4
  have hm0 : 0 ≤ c := by split at hc <;> omega
  have hm1 : c ≤ 1048576 := by split at hx <;> split at hc <;> omega
  obtain ⟨e1, e2⟩ := mul_bd hm0 hm1 (by omega : 0 ≤ s) h2
  obtain ⟨e3, e4⟩ := div_bd (by omega : 0 ≤ r + c * s) h3
  obtain ⟨e5, e6⟩ := mod_bd (a := r + c * s) h3
  have HB := Lib.hid hB
  clear hB
  go_enter Try.func9, Try.ntmps9
  go_wp2
  go_quiet (fail)
  go_wp2
  go_region
  go_wp2
  go_ret
  refine ⟨rfl, ?_, ?_⟩
  · refine Blk.conv (Blk.set_ (Blk.set_ (Blk.drewN (Blk.set_ HB.out 4 _) _) 3 _) 2 _) ?_
    simp
  · repeat (first | with_reducible exact only_refl _ _ | with_reducible refine only_drewN ?_ _ | with_reducible refine only_set ?_ (.inl rfl) _)

theorem did_core (b : Nat) (s n r d t k m c z : Int) (w : World) (hB : Blk w b 46 #[.int .i64 s, .int .i64 n, .int .i64 r, .int .i64 d, .int .i64 t, .int .i64 k])
    (h7 : 0 ≤ d) (h8 : d ≤ 1000000000000000) (h9 : 0 ≤ k) (h10 : k ≤ 1000000000000000) (hm : m ≤ 1099511627776)
    (hc : (if 0 < m then m else 0) = c) (hz : (if c < d then d - c else 0) = z) :
    Calls Try.prog 11 #[.pointer (some ⟨b, 0, none⟩), .int .i64 m] w fun e w' => e = .returned (.int .i64 z) ∧
      Blk w' b 46 #[.int .i64 s, .int .i64 n, .int .i64 r, .int .i64 z, .int .i64 t, .int .i64 (k + c)] ∧ w.grownBy w' (some b) := by
  have c3 := hB.cell 3
  have c5 := hB.cell 5
  have f3 := hB.frozen 3
  have f5 := hB.frozen 5
  simp only [List.getElem?_toArray, List.getElem?_cons_zero, List.getElem?_cons_succ] at c3 c5
  have hm0 : 0 ≤ c := by split at hc <;> omega
  have hm1 : c ≤ 1099511627776 := by split at hc <;> omega
  have hz0 : 0 ≤ z := by split at hz <;> omega
  have hz1 : z ≤ d := by split at hz <;> omega
  have HB := Lib.hid hB
  clear hB
  go_enter Try.func11, Try.ntmps11
  go_wp2
  go_ret
  refine ⟨rfl, ?_, ?_⟩
  · refine Blk.conv (Blk.set_ (Blk.set_ HB.out 5 _) 3 _) ?_
    simp
  · repeat (first | with_reducible exact only_refl _ _ | with_reducible refine only_drewN ?_ _ | with_reducible refine only_set ?_ (.inl rfl) _)

theorem due_any (b : Nat) (s n r d t k : Int) (w : World) (hB : Blk w b 46 #[.int .i64 s, .int .i64 n, .int .i64 r, .int .i64 d, .int .i64 t, .int .i64 k]) :
    Calls Try.prog 13 #[.pointer (some ⟨b, 0, none⟩)] w fun e w' => e = .returned (.int .i64 d) ∧ w = w' := by
  have c3 := hB.cell 3
  simp only [List.getElem?_toArray, List.getElem?_cons_zero, List.getElem?_cons_succ] at c3
  clear hB
  go_enter Try.func13, Try.ntmps13
  go_wp2
  go_ret
  exact ⟨rfl, rfl⟩

theorem taken_any (b : Nat) (s n r d t k : Int) (w : World) (hB : Blk w b 46 #[.int .i64 s, .int .i64 n, .int .i64 r, .int .i64 d, .int .i64 t, .int .i64 k]) :
    Calls Try.prog 14 #[.pointer (some ⟨b, 0, none⟩)] w fun e w' => e = .returned (.int .i64 t) ∧ w = w' := by
  have c4 := hB.cell 4
  simp only [List.getElem?_toArray, List.getElem?_cons_zero, List.getElem?_cons_succ] at c4
  clear hB
  go_enter Try.func14, Try.ntmps14
  go_wp2
  go_ret
  exact ⟨rfl, rfl⟩

theorem done_any (b : Nat) (s n r d t k : Int) (w : World) (hB : Blk w b 46 #[.int .i64 s, .int .i64 n, .int .i64 r, .int .i64 d, .int .i64 t, .int .i64 k]) :
    Calls Try.prog 15 #[.pointer (some ⟨b, 0, none⟩)] w fun e w' => e = .returned (.int .i64 k) ∧ w = w' := by
  have c5 := hB.cell 5
  simp only [List.getElem?_toArray, List.getElem?_cons_zero, List.getElem?_cons_succ] at c5
  clear hB
  go_enter Try.func15, Try.ntmps15
  go_wp2
  go_ret
  exact ⟨rfl, rfl⟩

/-- What 'Enough' gives. -/
def enough (s n m : Int) : Int := if m < 1 then 0 else least s n (if 1048576 < m then 1048576 else m)

theorem enough_any (b : Nat) (s n r d t k m : Int) (w : World) (hB : Blk w b 46 #[.int .i64 s, .int .i64 n, .int .i64 r, .int .i64 d, .int .i64 t, .int .i64 k])
    (h1 : 1 ≤ s) (h2 : s ≤ 1048576) (h3 : 1 ≤ n) (h4 : n ≤ 1048576) :
    Calls Try.prog 17 #[.pointer (some ⟨b, 0, none⟩), .int .i64 m] w fun e w' => e = .returned (.int .i64 (enough s n m)) ∧ ∃ q, w' = w.drewN q := by
  unfold enough
  by_cases hm : m < 1
  · rw [if_pos hm]
    go_enter Try.func17, Try.ntmps17
    go_wp2
    go_ret
    exact ⟨rfl, 0, rfl⟩
  · rw [if_neg hm]
    have c0 := hB.cell 0
    have c1 := hB.cell 1
    simp only [List.getElem?_toArray, List.getElem?_cons_zero, List.getElem?_cons_succ] at c0 c1
    clear hB
    generalize hx : (if 1048576 < m then 1048576 else m) = x
    have hx0 : 1 ≤ x := by split at hx <;> omega
    have hx1 : x ≤ 1048576 := by split at hx <;> omega
    obtain ⟨e1, e2⟩ := mul_bd (by omega : 0 ≤ x) hx1 (by omega : 0 ≤ n) h4
    unfold least
    go_enter Try.func17, Try.ntmps17
    go_wp2
    go_quiet (fail)
    go_wp2
    go_ret
    exact ⟨rfl, _, rfl⟩

end Go.Proofs.Ytbndbbgkjljccaa
