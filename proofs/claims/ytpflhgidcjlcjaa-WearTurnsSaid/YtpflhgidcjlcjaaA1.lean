/- The walk of WearTurns. -/
import Derived.Test.YtpflhgidcjlcjaaTurn
namespace Go.Proofs.Ytpflhgidcjlcjaa
open Go.RowKit
set_option linter.unusedVariables false
set_option linter.unusedSimpArgs false

/-- The sum of the first j. -/
def sumTo (l : List Nat) : Nat → Nat
  | 0 => 0
  | j + 1 => sumTo l j + l.getD j 0
theorem sumTo_eq (l : List Nat) (j : Nat) : sumTo l j = (l.take j).sum := by
  induction j with
  | zero => simp [sumTo]
  | succ j ih =>
    rw [sumTo, ih, List.take_add_one]
    by_cases h : j < l.length
    · rw [List.getElem?_eq_getElem h, List.getD_eq_getElem?_getD, List.getElem?_eq_getElem h, List.sum_append]
      rfl
    · rw [List.getElem?_eq_none (by omega), List.getD_eq_getElem?_getD, List.getElem?_eq_none (by omega)]
      simp
theorem sumTo_all (l : List Nat) (n : Nat) (h : l.length = n) : sumTo l n = l.sum := by
  rw [sumTo_eq, List.take_of_length_le (by omega)]
theorem sumTo_le (l : List Nat) (j : Nat) : sumTo l j ≤ l.sum := by
  rw [sumTo_eq]
  have : l.sum = (l.take j).sum + (l.drop j).sum := by rw [← List.sum_append, List.take_append_drop]
  omega

set_option maxRecDepth 100000 in
set_option maxHeartbeats 2000000 in
theorem wt_any (a b c : Int) (w : World) (ha : 0 ≤ a ∧ a ≤ 255) (hb : 0 ≤ b ∧ b ≤ 255) (hc : 0 ≤ c ∧ c ≤ 255) :
    Calls Try.prog 3 #[.int .u8 a, .int .u8 b, .int .u8 c] w fun e w' => e = .returned (.bool true) ∧ Below w.heap.size w w' := by
  obtain ⟨n, Hn⟩ : ∃ n : Nat, Hid (1 + a % 12 = (n : Int)) := ⟨(1 + a % 12).toNat, by show _ = _; omega⟩
  obtain ⟨k, Hk⟩ : ∃ k : Nat, Hid (1 + b % 4 = (k : Int)) := ⟨(1 + b % 4).toNat, by show _ = _; omega⟩
  have hn1 : 1 ≤ n := by have := Hn.out; omega
  have hn2 : n ≤ 12 := by have := Hn.out; omega
  have hk1 : 1 ≤ k := by have := Hk.out; omega
  have hk2 : k ≤ 4 := by have := Hk.out; omega
  go_enter Try.func3, Try.ntmps3
  go_wp2_with fail
  refine (awake_any _).mono ?_
  rintro e w1 ⟨rfl, hb1⟩
  have Hb1 := Lib.hid hb1
  clear hb1
  go_wp2_with fail
  rw [Hn.out, Hk.out]
  obtain ⟨many, Hmany⟩ : ∃ m, Hid (k * n * (n + 1) = m) := ⟨_, rfl⟩
  have hml : many ≤ 10000 := by
    rw [← Hmany.out]
    have h1 : k * n ≤ 4 * 12 := Nat.mul_le_mul hk2 hn2
    have h2 : k * n * (n + 1) ≤ 4 * 12 * (12 + 1) := Nat.mul_le_mul h1 (by omega)
    omega
  have hmi : (k : Int) * (n : Int) * ((n : Int) + 1) = (many : Int) := by rw [← Hmany.out]; simp
  obtain ⟨x, Hx⟩ : ∃ x : Nat, Hid (c % (n : Int) = (x : Int)) := ⟨(c % (n : Int)).toNat, by show _ = _; rw [Int.toNat_of_nonneg]; exact Int.emod_nonneg _ (by omega)⟩
  have hxn : x < n := by
    have h1 := Int.emod_lt_of_pos c (show (0 : Int) < n by omega)
    rw [Hx.out] at h1
    omega
  have hxi : c % (n : Int) = (x : Int) := Hx.out
  refine (new_ok n k _ hn1 (by omega) hk1 (by omega)).mono ?_
  rintro e w2 ⟨gl, gw, rfl, hl, hgl, hgw, hb⟩
  have HL := Lib.hid hl
  have Hb2 := Lib.hid (Hb1.out.trans (hb.mono Hb1.out.size))
  have hgl0 : w.heap.size ≤ gl := Nat.le_trans Hb1.out.size hgl
  have hgw0 : w.heap.size ≤ gw := Nat.le_trans Hb1.out.size hgw
  clear hl hb hgl hgw
  have hmw : wrap64 (wrap64 ((k : Int) * (n : Int)) * ((n : Int) + 1)) = (many : Int) := by
    have h1 : k * n ≤ 4 * 12 := Nat.mul_le_mul hk2 hn2
    have e1 : (k : Int) * (n : Int) = ((k * n : Nat) : Int) := by simp
    have e2 : wrap64 ((k : Int) * (n : Int)) = (k : Int) * (n : Int) := by rw [e1]; unfold wrap64; omega
    rw [e2, hmi]
    unfold wrap64
    omega
  clear hmi
  go_wp2_with fail
  rw [hmw]
  clear hmw
  go_loopw [12] (fun v12 wr => ∃ i : Nat, v12 = .int .i64 i ∧ i ≤ many ∧ LAt wr gl gw (wrs x (new n k) i) ∧ Below w.heap.size w wr) (fun v12 _ => many - (intOf v12).toNat)
  case atStart => exact ⟨0, rfl, Nat.zero_le _, HL.out, Hb2.out⟩
  case round =>
    obtain ⟨i, rfl, hi, hl, hb⟩ := hrel
    have HL3 := Lib.hid hl
    have Hb3 := Lib.hid hb
    clear hl hb HL Hb2
    by_cases hlt : i < many
    · have HF := Lib.hid (wrs_fine (x := x) (new_fine n k hn1 (by omega) hk1 (by omega)) i)
      have HW := Lib.hid (wrs_W x n k i)
      have HNN := Lib.hid (wrs_N x n k i)
      go_wp2_with fail
      refine (write_yes gl gw x _ _ HF.out (by rw [HW.out]; omega) (by rw [HNN.out]; exact hxn) HL3.out).mono ?_
      rintro e w4 ⟨rfl, hl4, hm4⟩
      have Hb4 := Lib.hid (Below.mod Hb3.out hm4 Hb3.out.size (fun k _ h => by rcases h with h | h <;> (rw [h]; assumption)))
      have HL4 := Lib.hid hl4
      clear hl4 hm4 HL3 Hb3
      obtain ⟨f, t, mv, Hsd⟩ : ∃ (f t : Int) (mv : Bool), Hid (said (wrs x (new n k) i) = .tuple #[.agg #[.int .i64 f, .int .i64 t], .bool mv, .bool true]) := by
        by_cases h : mvd (wrs x (new n k) i)
        · exact ⟨_, _, true, by show said _ = _; unfold said; rw [if_pos h]⟩
        · exact ⟨_, _, false, by show said _ = _; unfold said; rw [if_neg h]⟩
      rw [Hsd.out]
      go_wp2_with fail
      have HL5 := Lib.hid (HL4.out.below ((Below.refl w4.heap.size w4).alloc (Nat.le_refl _) (.cells #[.int .i64 f, .int .i64 t] 28)) (Nat.le_refl _))
      exact ⟨⟨i + 1, by go_num, by omega, HL5.out, Hb4.out.alloc Hb4.out.size _⟩, by simp [intOf]; omega⟩
    · have hie : i = many := by omega
      subst hie
      have HF := Lib.hid (wrs_fine (x := x) (new_fine n k hn1 (by omega) hk1 (by omega)) i)
      have HW := Lib.hid (wrs_W x n k i)
      have HNN := Lib.hid (wrs_N x n k i)
      have HE := Lib.hid (turns_end (x := x) hn1 (by omega) hk1 (by omega) Hmany.out.symm)
      obtain ⟨s, Hs⟩ : ∃ s, Hid (wrs x (new n k) i = s) := ⟨_, rfl⟩
      rw [Hs.out] at HF HW HNN HE HL3
      go_wp2_with fail
      refine (worn_any gl gw s _ HF.out HL3.out).mono ?_
      rintro e w4 ⟨A, cap, rfl, hO, hb4⟩
      rw [HNN.out]
      have hO' := hO
      rw [HNN.out] at hO'
      have HR := Lib.hid hO'.rd
      have HL4 := Lib.hid (HL3.out.below hb4 (Nat.le_refl _))
      have Hb4 := Lib.hid (Hb3.out.trans (hb4.mono Hb3.out.size))
      clear hO hO' hb4 HL3 Hb3
      go_wp2_with fail
      go_loopw [16, 18] (fun v16 v18 wr => BHead (sumTo s.worn) (n + 1) w4 v16 v18 wr) (fun _ v18 _ => n + 1 - (intOf v18).toNat)
      case atStart => exact ⟨0, rfl, Nat.zero_le _, rfl, rfl⟩
      case round =>
        obtain ⟨j, rfl, hj, rfl, rfl⟩ := hrel
        have hsl := sumTo_le s.worn j
        have hsl2 := sumTo_le s.worn (j + 1)
        have hik : i / k ≤ i := Nat.div_le_self _ _
        rw [HE.out.2.2.2.1] at hsl hsl2
        by_cases hltj : j < n + 1
        · obtain ⟨g, off, hA, hg, hc⟩ := HR.out.2 (by omega)
          subst hA
          have c0 := hc j _ (icells_at s.worn j (by rw [HF.out.len, HNN.out]; exact hltj))
          have HS : Hid (sumTo s.worn (j + 1) = sumTo s.worn j + s.worn.getD j 0) := rfl
          rw [HS.out] at hsl2
          clear hc
          generalize sumTo s.worn j = y at *
          generalize s.worn.getD j 0 = z at *
          go_wp2_with fail
          exact ⟨⟨j + 1, by go_num, by omega, by rw [HS.out]; go_num, rfl⟩, by simp [intOf]; omega⟩
        · have hjn : j = n + 1 := by omega
          have HSum : Hid (sumTo s.worn j = i + i / k) := by
            show sumTo _ _ = _
            rw [hjn, sumTo_all _ _ (by rw [HF.out.len, HNN.out]), HE.out.2.2.2.1]
          rw [HSum.out] at hsl ⊢
          clear hsl2 HSum
          have HcL : Hid (∀ m, Calls Try.prog 10 #[.pointer (some ⟨gl, 0, none⟩)] (w4.drewN m) fun e w' => e = .returned (.int .i64 (leastTo s.worn (s.worn.getD 0 0) (n + 1) : Nat)) ∧ w4.drewN m = w') := by
            intro m
            have := least_any gl gw s (w4.drewN m) HF.out (HL4.out.drewN m)
            rw [HNN.out] at this
            exact this
          have HcW : Hid (∀ m, Calls Try.prog 11 #[.pointer (some ⟨gl, 0, none⟩)] (w4.drewN m) fun e w' => e = .returned (.int .i64 (i : Nat)) ∧ w4.drewN m = w') := by
            intro m
            have := writes_any gl gw s (w4.drewN m) (HL4.out.drewN m)
            rw [HW.out] at this
            exact this
          have HcM : Hid (∀ m, Calls Try.prog 12 #[.pointer (some ⟨gl, 0, none⟩)] (w4.drewN m) fun e w' => e = .returned (.int .i64 ((i / k : Nat) : Int)) ∧ w4.drewN m = w') := by
            intro m
            have := moves_any gl gw s (w4.drewN m) (HL4.out.drewN m)
            rw [HE.out.1] at this
            exact this
          have HcG : Hid (∀ m, Calls Try.prog 13 #[.pointer (some ⟨gl, 0, none⟩)] (w4.drewN m) fun e w' => e = .returned (.int .i64 (n : Nat)) ∧ w4.drewN m = w') := by
            intro m
            have := gap_any gl gw s (w4.drewN m) (HL4.out.drewN m)
            rw [HE.out.2.1] at this
            exact this
          have HcP : Hid (∀ m, Calls Try.prog 14 #[.pointer (some ⟨gl, 0, none⟩), .int .i64 0] (w4.drewN m) fun e w' => e = .returned (.int .i64 0) ∧ ∃ q, w' = (w4.drewN m).drewN q) := by
            intro m
            have := place_yesq gl gw 0 s (w4.drewN m) HF.out (by rw [HNN.out]; omega) (HL4.out.drewN m)
            have e : place s 0 = 0 := by
              unfold place
              rw [HE.out.2.2.1, HE.out.2.1]
              simp
              omega
            rw [e] at this
            exact this
          have hleast0 := HE.out.2.2.2.2
          generalize leastTo s.worn (s.worn.getD 0 0) (n + 1) = lst at HcL hleast0
          have hdi : ((i / k : Nat) : Int) = (i : Int) / (k : Int) := by simp
          obtain ⟨d, Hd⟩ : ∃ d, Hid (i / k = d) := ⟨_, rfl⟩
          rw [Hd.out] at HcM hdi hik
          rw [Hd.out]
          have hleast : decide ((1 : Int) ≤ (lst : Int)) = true := by rw [decide_eq_true_eq]; omega
          rw [show ((i + d : Nat) : Int) = (i : Int) + (d : Int) by omega]
          have hw1 : IntKind.i64.wrap ((i : Int) + (d : Int)) = (i : Int) + (d : Int) := by rw [IntKind.wrap_i64]; omega
          have hdi2 : (i : Int) / (k : Int) = (d : Int) := hdi.symm
          have hdi3 : (i : Int).tdiv (k : Int) = (d : Int) := by rw [Int.tdiv_eq_ediv_of_nonneg (by omega)]; exact hdi2
          have hw2 : IntKind.i64.wrap (d : Int) = (d : Int) := by rw [IntKind.wrap_i64]; omega
          have hk0 : ¬ k = 0 := by omega
          clear hdi hleast0
          go_wp2_with fail
          go_quiet (first
            | (go_at_call 10; exact quiet_left (HcL.out _))
            | (go_at_call 11; exact quiet_left (HcW.out _))
            | (go_at_call 12; exact quiet_left (HcM.out _))
            | (go_at_call 13; exact quiet_left (HcG.out _))
            | (go_at_call 14; exact quiet_more (HcP.out _)))
          go_wp2_with fail
          go_ret
          exact ⟨rfl, below_drewN Hb4.out _⟩
end Go.Proofs.Ytpflhgidcjlcjaa
