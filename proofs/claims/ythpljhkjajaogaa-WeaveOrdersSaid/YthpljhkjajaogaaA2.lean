/- The walk of WeaveOrders. -/
import Derived.Test.YthpljhkjajaogaaW9
namespace Go.Proofs.Ythpljhkjajaogaa
open Go.RowKit
set_option linter.unusedVariables false
set_option linter.unusedSimpArgs false

theorem total_le (ls : List Int) (h : ∀ j, j < ls.length → ls.getD j 0 ≤ 60) : total ls ≤ 60 * ls.length := by
  induction ls with
  | nil => simp [total]
  | cons a l ih =>
    have h0 := h 0 (by simp)
    have := ih (fun j hj => by simpa using h (j + 1) (by simpa using hj))
    rw [total_cons, List.length_cons]
    simp at h0
    unfold nn
    omega

set_option maxRecDepth 100000 in
set_option maxHeartbeats 2000000 in
theorem wo_any (A : Option Addr) (len cap : Nat) (ls : List Int) (A2 : Option Addr) (len2 cap2 : Nat) (ps : List Int) (w : World) (hl : ls.length = len) (hlen : len ≤ cap) (hcap : cap ≤ maxLen)
    (hk : ∀ i, (Lit.int .i64 (ls.getD i 0)).wf = true) (hrow : Row w A len 1 (fun i => [.int .i64 (ls.getD i 0)]))
    (hl2 : ps.length = len2) (hlen2 : len2 ≤ cap2) (hcap2 : cap2 ≤ maxLen) (hk2 : ∀ i, (Lit.int .u8 (ps.getD i 0)).wf = true) (hrow2 : Row w A2 len2 1 (fun i => [.int .u8 (ps.getD i 0)])) :
    Calls Try.prog 4 #[.slice A len cap, .slice A2 len2 cap2] w fun e w' => e = .returned (.bool true) ∧ Below w.heap.size w w' := by
  have Hl := Lib.hid hl
  have Hl2 := Lib.hid hl2
  have Hk : Hid (∀ i, i < len → -9223372036854775808 ≤ ls.getD i 0 ∧ ls.getD i 0 ≤ 9223372036854775807) := fun i _ => bounds_i64 (hk i)
  have Hk2 : Hid (∀ i, i < len2 → 0 ≤ ps.getD i 0 ∧ ps.getD i 0 ≤ 255) := fun i _ => bounds_u8 (hk2 i)
  have Hrow := Lib.hid hrow
  have Hrow2 := Lib.hid hrow2
  have Hcap := Lib.hid hcap
  have hcap' := hcap
  have hcap2' := hcap2
  unfold maxLen at hcap' hcap2'
  clear hl hl2 hk hk2 hrow hrow2 hcap hcap2
  go_enter Try.func4, Try.ntmps4
  go_wp2_with fail
  refine (awake_any _).mono ?_
  rintro e w1 ⟨rfl, hb1⟩
  have Hb1 := Lib.hid hb1
  clear hb1
  go_wp2_with fail
  refine (few_any A len cap ls _ hlen Hcap.out (Hrow.out.mono Hb1.out (Nat.le_refl _))).mono ?_
  rintro e w2 ⟨⟨b, rfl, hfew⟩, rfl⟩
  cases b with
  | false =>
    clear hfew
    go_wp2_with fail
    go_ret
    exact ⟨rfl, Hb1.out⟩
  | true =>
    obtain ⟨h30, h60⟩ := hfew rfl
    have htot := total_le ls (fun j hj => h60 j (by rw [← Hl.out]; exact hj))
    rw [Hl.out] at htot
    clear h60 hfew
    by_cases h3000 : 3000 < len2
    · have hd : decide ((3000 : Int) < (len2 : Int)) = true := by simp; omega
      go_wp2_with fail
      go_ret
      exact ⟨rfl, Hb1.out⟩
    · have hd : decide ((3000 : Int) < (len2 : Int)) = false := by simp; omega
      go_wp2_with fail
      refine (order_any A len cap ls A2 len2 cap2 ps _ Hl.out (by omega) (by omega) (Hrow.out.mono Hb1.out (Nat.le_refl _)) (Hrow2.out.mono Hb1.out (Nat.le_refl _)) Hl2.out (by omega) Hk2.out).mono ?_
      rintro e w3 ⟨k, A3, cap3, rfl, hE, hO, hb3⟩
      have HE := Lib.hid hE
      have hkb := Nat.le_trans (st_fine ls ps k hE.2).bound htot
      have Hr := Lib.hid hO.rd
      have Hb3 := Lib.hid (Hb1.out.trans (hb3.mono Hb1.out.size))
      clear hE hO hb3
      go_wp2_with fail
      obtain ⟨ts, Hts⟩ : ∃ ts, Hid ((st ls ps k).1 = ts) := ⟨_, rfl⟩
      rw [Hts.out] at Hr
      have Hln : Hid (ts.length = k) := by show ts.length = k; rw [← Hts.out, st_len]
      go_loopw [6, 7] (fun v6 v7 wr => THead ts k w3.heap.size w3 v6 v7 wr) (fun _ v7 _ => k + 1 - (intOf v7).toNat)
      case atStart => exact ⟨1, rfl, Nat.le_refl _, .inr rfl, rfl, Below.refl _ _⟩
      case round =>
        obtain ⟨i, rfl, hi, hin, rfl, hb⟩ := hrel
        have Hb := Lib.hid hb
        clear hb
        have hle := turnsTo_le ts (i - 1)
        by_cases hlt : i < k
        · obtain ⟨_, g, off, rfl, hg, hc⟩ := Rd.things (Hr.out.below Hb.out (Nat.le_refl _)) (by omega)
          have c0 := (hc i hlt).1
          have c1 := (hc (i - 1) (by omega)).1
          clear hc hin
          by_cases he : (ts.getD i (0, 0)).1 = (ts.getD (i - 1) (0, 0)).1
          · have HE := Lib.hid (turnsTo_same hi he)
            rw [← he] at c1
            clear he
            generalize (ts.getD i (0, 0)).1 = x at *
            generalize turnsTo ts (i - 1) = q at *
            go_wp2_with fail
            go_quiet (fail)
            go_wp2_with fail
            exact ⟨⟨i + 1, by go_num, by omega, .inl (by omega), by rw [HE.out], below_drewN Hb.out _⟩, by simp [intOf]; omega⟩
          · have HE := Lib.hid (turnsTo_turn hi he)
            have hne : ((((ts.getD i (0, 0)).1 : Nat) : Int) == (((ts.getD (i - 1) (0, 0)).1 : Nat) : Int)) = false := by rw [beq_eq_false_iff_ne]; omega
            clear he
            generalize (ts.getD i (0, 0)).1 = x at *
            generalize (ts.getD (i - 1) (0, 0)).1 = y at *
            generalize turnsTo ts (i - 1) = q at *
            go_wp2_with fail
            go_quiet (fail)
            go_wp2_with fail
            exact ⟨⟨i + 1, by go_num, by omega, .inl (by omega), by rw [HE.out]; go_num, below_drewN Hb.out _⟩, by simp [intOf]; omega⟩
        · have HT : Hid (turnsTo ts (i - 1) = turnsTo ts (k - 1)) := by
            show turnsTo ts (i - 1) = _
            rw [show i - 1 = k - 1 by omega]
          rw [HT.out]
          rw [HT.out] at hle
          have Hb4 := Lib.hid (Hb3.out.trans (Hb.out.mono Hb3.out.size))
          have Hr4 := Lib.hid (Hr.out.below Hb.out (Nat.le_refl _))
          clear Hb Hr Hb3 hin
          go_wp2_with fail
          refine (refs_any A3 k cap3 ts _ (by omega) Hln.out Hr4.out).mono ?_
          rintro e w5 ⟨A5, cap5, rfl, hO5, hb5⟩
          have Hb5 := Lib.hid (Hb4.out.trans (hb5.mono Hb4.out.size))
          have Hr5 := Lib.hid (Hr4.out.below hb5 (Nat.le_refl _))
          have Hs5 := Lib.hid hO5.rd
          clear hO5 hb5 Hb4 Hr4
          go_wp2_with fail
          refine (reforder_any A len cap ls A2 len2 cap2 ps _ Hl.out (by omega) (by omega) (Hrow.out.mono Hb5.out (Nat.le_refl _)) (Hrow2.out.mono Hb5.out (Nat.le_refl _)) Hl2.out (by omega) Hk2.out).mono ?_
          rintro e w6 ⟨k', A6, cap6, rfl, hE6, hO6, hb6⟩
          obtain rfl := hE6.eq HE.out
          have Hb6 := Lib.hid (Hb5.out.trans (hb6.mono Hb5.out.size))
          have Hr6 := Lib.hid (Hr5.out.below hb6 (Nat.le_refl _))
          have Hs6 := Lib.hid (Hs5.out.below hb6 (Nat.le_refl _))
          rw [Hts.out] at hO6
          have Ht6 := Lib.hid hO6.rd
          clear hO6 hb6 Hb5 Hr5 Hs5 hE6
          go_wp2_with fail
          refine (same_any A5 k' cap5 A6 cap6 ts _ (by omega) Hs6.out Ht6.out).mono ?_
          rintro e w7 ⟨rfl, hb7⟩
          have Hb7 := Lib.hid (Hb6.out.trans (hb7.mono Hb6.out.size))
          have Hr7 := Lib.hid (Hr6.out.below hb7 (Nat.le_refl _))
          clear hb7 Hb6 Hr6 Hs6 Ht6
          go_wp2_with fail
          refine (Go.Proofs.Ythpljhkjajaogaa.right_any A len cap ls ps A3 k' cap3 _ Hl.out (by omega) (by omega) (Hrow.out.mono Hb7.out (Nat.le_refl _)) Hk.out HE.out (by rw [Hts.out]; exact Hr7.out)).mono ?_
          rintro e w8 ⟨rfl, hb8⟩
          have Hb8 := Lib.hid (Hb7.out.trans (hb8.mono Hb7.out.size))
          have Hr8 := Lib.hid (Hr7.out.below hb8 (Nat.le_refl _))
          clear hb8 Hb7 Hr7
          go_wp2_with fail
          refine (turns_any A3 k' cap3 ts _ (by omega) Hr8.out).mono ?_
          rintro e w9 ⟨rfl, hb9⟩
          have Hb9 := Lib.hid (Hb8.out.trans (hb9.mono Hb8.out.size))
          clear hb9 Hb8 Hr8
          go_wp2_with fail
          go_ret
          exact ⟨rfl, Hb9.out⟩
end Go.Proofs.Ythpljhkjajaogaa
