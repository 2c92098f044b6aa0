/- The walk of the reference's Count. -/
import Derived.Test.YthpljhkjajaogaaW3
namespace Go.Proofs.Ythpljhkjajaogaa
open Go.RowKit
set_option linter.unusedVariables false
set_option linter.unusedSimpArgs false

theorem choose_at (N K : Int) (n k : Nat) (w : World) (hN : N = n) (hK : K = k) (hn : n ≤ 1024) (hk : k ≤ n) :
    Calls Try.prog 20 #[.int .i64 N, .int .i64 K] w fun e w' => e = .returned (.int .i64 (cell n k : Nat)) ∧ Below w.heap.size w w' := by
  subst hN hK
  exact choose_any n k w hn hk
theorem cell_pos (n k : Nat) (h : k ≤ n) : 1 ≤ cell n k := by
  have := ch_pos n k h
  unfold cell top
  omega

set_option maxRecDepth 100000 in
set_option maxHeartbeats 1000000 in
theorem refcount_any (A : Option Addr) (len cap : Nat) (ks : List Int) (w : World) (hl : ks.length = len) (hlen : len ≤ cap) (hcap : cap ≤ maxLen)
    (hk : ∀ z ∈ ks, (Lit.int .i64 z).wf = true) (hrow : Row w A len 1 (fun i => [.int .i64 (ks.getD i 0)])) :
    Calls Try.prog 8 #[.slice A len cap] w fun e w' => e = .returned (.int .i64 (counted ks)) ∧ Below w.heap.size w w' := by
  unfold maxLen at hcap
  have Hrow := Lib.hid hrow
  have Hl := Lib.hid hl
  have Hk : Hid (∀ j, j < len → -9223372036854775808 ≤ ks.getD j 0 ∧ ks.getD j 0 ≤ 9223372036854775807) := by
    intro j hj
    refine bounds_i64 (hk _ ?_)
    rw [List.getD_eq_getElem?_getD, List.getElem?_eq_getElem (by omega), Option.getD_some]
    exact List.getElem_mem _
  have Hcell : Hid (∀ wr : World, Below w.heap.size w wr → ∀ j, j < len → ∃ b off, A = some ⟨b, off, none⟩ ∧ wr.cell? ⟨b, off + j, none⟩ = some (.int .i64 (ks.getD j 0))) := by
    intro wr hb j hj
    obtain ⟨b, off, rfl, _, hcell⟩ := (hrow.mono hb (Nat.le_refl _)) (by omega)
    refine ⟨b, off, rfl, ?_⟩
    simpa using hcell j hj 0 _ rfl
  clear hrow hl hk Hrow
  go_enter Try.func8, Try.ntmps8
  go_wp2_with fail
  go_loopw [3, 4] (fun v3 v4 wr => ∃ j : Nat, v4 = .int .i64 j ∧ j ≤ len ∧ v3 = .int .i64 (total (ks.take j)) ∧ total (ks.take j) ≤ 1024 ∧ w = wr) (fun _ v4 _ => len - (intOf v4).toNat)
  case atStart => exact ⟨0, rfl, Nat.zero_le _, rfl, by simp [total], rfl⟩
  case round =>
    obtain ⟨j, rfl, hj, rfl, hall, rfl⟩ := hrel
    obtain ⟨T, HT⟩ : ∃ T, Hid (total (ks.take j) = T) := ⟨_, rfl⟩
    by_cases hlt : j < len
    · have HT1 : Hid (total (ks.take (j + 1)) = T + nn (ks.getD j 0)) := by
        show total _ = _
        rw [take_succ' ks j (by rw [Hl.out]; exact hlt), total_snoc, HT.out]
      obtain ⟨b, off, rfl, hcell⟩ := Hcell.out w (Below.refl _ _) j hlt
      obtain ⟨hx0, hx1⟩ := Hk.out j hlt
      have Htt := Lib.hid (total_take ks (j + 1))
      rw [HT.out] at hall ⊢
      obtain ⟨kk, Hkk⟩ : ∃ kk, Hid (nn (ks.getD j 0) = kk) := ⟨_, rfl⟩
      rw [Hkk.out] at HT1
      have hc : (ks.getD j 0 < 0 ∧ kk = 0) ∨ (0 ≤ ks.getD j 0 ∧ ks.getD j 0 = kk) := by have := Hkk.out; unfold nn at this; omega
      clear Hkk
      generalize ks.getD j 0 = x at *
      by_cases hbig : 1024 < T + kk
      · have HC : Hid ((counted ks : Nat) = 0) := by
          unfold counted
          refine if_pos ?_
          have := Htt.out
          rw [HT1.out] at this
          omega
        have hx2 : 0 ≤ x := by omega
        by_cases hbig2 : 1024 < x
        · clear hc
          go_wp2_with fail
          go_ret
          rw [HC.out]
          exact ⟨rfl, Below.refl _ _⟩
        · have hb3 : 1024 < (T : Int) + x := by omega
          clear hc
          go_wp2_with fail
          go_ret
          rw [HC.out]
          exact ⟨rfl, Below.refl _ _⟩
      · rcases hc with ⟨hx2, rfl⟩ | ⟨hx2, rfl⟩
        · clear Htt
          go_wp2_with fail
          exact ⟨⟨j + 1, by go_num, by omega, by rw [HT1.out]; go_num, by rw [HT1.out]; omega, by trivial⟩, by simp [intOf]; omega⟩
        · clear Htt
          go_wp2_with fail
          exact ⟨⟨j + 1, by go_num, by omega, by rw [HT1.out]; go_num, by rw [HT1.out]; omega, by trivial⟩, by simp [intOf]; omega⟩
    · have hje : len = j := by omega
      subst hje
      have htk : ks.take len = ks := List.take_of_length_le (by rw [Hl.out]; omega)
      have Hall : Hid (total ks ≤ 1024) := by rw [htk] at hall; exact hall
      clear htk
      go_wp2_with fail
      go_loopw [6, 7, 8] (fun v6 v7 v8 wr => ∃ (j n : Nat), v8 = .int .i64 j ∧ j ≤ len ∧ v7 = .int .i64 (total (ks.take j)) ∧ v6 = .int .i64 n ∧ n = min (mult 0 (ks.take j)) top ∧ Below w.heap.size w wr) (fun _ _ v8 _ => len - (intOf v8).toNat)
      case atStart => exact ⟨0, 1, rfl, Nat.zero_le _, rfl, rfl, rfl, Below.refl _ _⟩
      case round =>
        obtain ⟨j, n, rfl, hj, rfl, rfl, hn, hbel⟩ := hrel
        have Hn := Lib.hid hn
        have Hb := Lib.hid hbel
        clear hn hbel
        obtain ⟨T, HT⟩ : ∃ T, Hid (total (ks.take j) = T) := ⟨_, rfl⟩
        obtain ⟨M, HM⟩ : ∃ M, Hid (mult 0 (ks.take j) = M) := ⟨_, rfl⟩
        by_cases hlt : j < len
        · have HT1 : Hid (total (ks.take (j + 1)) = T + nn (ks.getD j 0)) := by
            show total _ = _
            rw [take_succ' ks j (by rw [Hl.out]; exact hlt), total_snoc, HT.out]
          have HM1 : Hid (mult 0 (ks.take (j + 1)) = M * ch (T + nn (ks.getD j 0)) (nn (ks.getD j 0))) := by
            show mult 0 _ = _
            rw [take_succ' ks j (by rw [Hl.out]; exact hlt), mult_snoc, HT.out, HM.out]
          obtain ⟨b, off, rfl, hcell⟩ := Hcell.out wr Hb.out j hlt
          obtain ⟨hx0, hx1⟩ := Hk.out j hlt
          have hT : T + nn (ks.getD j 0) ≤ 1024 := by
            rw [← HT1.out]
            exact Nat.le_trans (total_take _ _) Hall.out
          have hM := mult_pos 0 (ks.take j)
          rw [HM.out] at hM
          rw [HT.out]
          rw [HM.out] at Hn
          obtain ⟨kk, Hkk⟩ : ∃ kk, Hid (nn (ks.getD j 0) = kk) := ⟨_, rfl⟩
          rw [Hkk.out] at HT1 HM1 hT
          have hc : (ks.getD j 0 < 0 ∧ kk = 0) ∨ (0 ≤ ks.getD j 0 ∧ ks.getD j 0 = kk) := by have := Hkk.out; unfold nn at this; omega
          clear Hkk
          generalize ks.getD j 0 = x at *
          have hn1 : n ≤ 1099511627776 := by rw [Hn.out]; exact Nat.min_le_right _ _
          obtain ⟨c, Hc⟩ : ∃ c, Hid (min (M * ch (T + kk) kk) top = c) := ⟨_, rfl⟩
          have hp := cell_pos _ _ (Nat.le_add_left kk T)
          have hp1 := cell_le (T + kk) kk
          unfold top at hp1
          have HT2 : Hid ((if 1099511627776 / cell (T + kk) kk < n then 1099511627776 else n * cell (T + kk) kk) = c) := by
            show _ = c
            rw [← Hc.out]
            exact times_min n (cell (T + kk) kk) M _ (ch_pos _ _ (Nat.le_add_left _ _)) hM Hn.out rfl
          have HM1 : Hid (c = min (mult 0 (ks.take (j + 1))) top) := by
            show c = _
            rw [HM1.out, Hc.out]
          rcases hc with ⟨hx2, hkk⟩ | ⟨hx2, rfl⟩
          all_goals
            go_wp2_with fail
            refine (choose_at _ _ (T + kk) kk _ (by omega) (by omega) hT (Nat.le_add_left _ _)).mono ?_
            rintro e w2 ⟨rfl, hb2⟩
            have Hb2 := Lib.hid (Hb.out.trans (hb2.mono Hb.out.size))
            clear hb2 hcell
            generalize cell (T + kk) kk = y at *
            go_wp2_with fail
            refine (times_any n y c _ hn1 hp hp1 HT2.out).mono ?_
            rintro e w3 ⟨rfl, rfl⟩
            go_wp2_with fail
            exact ⟨⟨j + 1, c, by go_num, by omega, by rw [HT1.out]; go_num, rfl, HM1.out, Hb2.out⟩, by simp [intOf]; omega⟩
        · have hje : j = len := by omega
          have htk : ks.take j = ks := List.take_of_length_le (by rw [Hl.out]; omega)
          have HC : Hid (n = counted ks) := by
            show n = _
            unfold counted
            rw [if_neg (by have := Hall.out; omega), Hn.out, htk]
          clear htk
          go_wp2_with fail
          go_ret
          rw [← HC.out]
          exact ⟨rfl, Hb.out⟩
end Go.Proofs.Ythpljhkjajaogaa
