/- The walk of weave's Count. -/
import Derived.Test.YthpljhkjajaogaaW1
import Derived.Test.YthpljhkjajaogaaOpen
namespace Go.Proofs.Ythpljhkjajaogaa
open Go.RowKit
set_option linter.unusedVariables false
set_option linter.unusedSimpArgs false

/-- What Count answers. -/
def counted (ks : List Int) : Nat := if 1024 < total ks then 0 else min (mult 0 ks) top

theorem take_succ' (ks : List Int) (j : Nat) (h : j < ks.length) : ks.take (j + 1) = ks.take j ++ [ks.getD j 0] := by
  rw [List.take_add_one, List.getElem?_eq_getElem h, List.getD_eq_getElem?_getD, List.getElem?_eq_getElem h]
  rfl
theorem total_take (ks : List Int) (j : Nat) : total (ks.take j) ≤ total ks := by
  have : total ks = total (ks.take j) + total (ks.drop j) := by
    unfold total
    rw [← List.sum_append, ← List.map_append, List.take_append_drop]
  omega

/-- What holds at the outer loop's head. -/
def CHead (ks : List Int) (j : Nat) (v3 v4 : Value) : Prop :=
  ∃ n : Nat, v3 = .int .i64 n ∧ v4 = .int .i64 (total (ks.take j)) ∧ total (ks.take j) ≤ 1024 ∧ n ≤ 1125899906842624 ∧ Stands n (mult 0 (ks.take j))
/-- What holds at the inner loop's head. -/
def IHead (P b i : Nat) (v3 v4 : Value) : Prop :=
  ∃ n : Nat, v3 = .int .i64 n ∧ v4 = .int .i64 ((b + i : Nat)) ∧ b + i ≤ 1024 ∧ n ≤ 1125899906842624 ∧ Stands n (P * ch (b + i) i)

theorem IHead.next {P b i n : Nat} (h : Stands n (P * ch (b + i) i)) (hb : b + i + 1 ≤ 1024) (hn : n ≤ 1099511627776) :
    IHead P b (i + 1) (.int .i64 ((n * (b + i + 1) / (i + 1) : Nat))) (.int .i64 ((b + (i + 1) : Nat))) := by
  refine ⟨_, rfl, rfl, by omega, ?_, h.step (by unfold top; omega)⟩
  have h1 : n * (b + i + 1) ≤ 1099511627776 * 1024 := Nat.mul_le_mul hn hb
  have h2 := Nat.div_le_self (n * (b + i + 1)) (i + 1)
  omega
theorem IHead.stay {P b i n : Nat} (h : Stands n (P * ch (b + i) i)) (hb : b + i + 1 ≤ 1024) (hn : 1099511627776 < n) (hn2 : n ≤ 1125899906842624) :
    IHead P b (i + 1) (.int .i64 (n : Nat)) (.int .i64 ((b + (i + 1) : Nat))) :=
  ⟨n, rfl, rfl, by omega, hn2, h.stay (by unfold top; omega)⟩

set_option maxRecDepth 100000 in
set_option maxHeartbeats 1000000 in
theorem count_any (A : Option Addr) (len cap : Nat) (ks : List Int) (w : World) (hl : ks.length = len) (hlen : len ≤ cap) (hcap : cap ≤ maxLen)
    (hk : ∀ z ∈ ks, (Lit.int .i64 z).wf = true) (hrow : Row w A len 1 (fun i => [.int .i64 (ks.getD i 0)])) :
    Calls Try.prog 7 #[.slice A len cap] w fun e w' => e = .returned (.int .i64 (counted ks)) ∧ w = w' := by
  unfold maxLen at hcap
  have Hrow := Lib.hid hrow
  have Hl := Lib.hid hl
  have Hk := Lib.hid hk
  clear hrow hl hk
  go_enter Try.func7, Try.ntmps7
  go_wp2_with fail
  go_loopw [3, 4, 10] (fun v3 v4 v10 wr => ∃ j : Nat, v10 = .int .i64 j ∧ j ≤ len ∧ CHead ks j v3 v4 ∧ w = wr) (fun _ _ v10 _ => len - (intOf v10).toNat)
  case atStart => exact ⟨0, rfl, Nat.zero_le _, ⟨1, rfl, rfl, by simp [total], by omega, .inl rfl⟩, rfl⟩
  case round =>
    obtain ⟨j, rfl, hj, hhead, rfl⟩ := hrel
    obtain ⟨n, rfl, rfl, hall, hn, hst⟩ := hhead
    have Hst := Lib.hid hst
    clear hst
    by_cases hlt : j < len
    · obtain ⟨b, off, rfl, hb, hcell⟩ := Hrow.out (by omega)
      have c0 : w.cell? ⟨b, off + j, none⟩ = some (.int .i64 (ks.getD j 0)) := by
        have := hcell j hlt 0 _ rfl
        simpa using this
      have hwf : (Lit.int .i64 (ks.getD j 0)).wf = true := by
        refine Hk.out _ ?_
        rw [List.getD_eq_getElem?_getD, List.getElem?_eq_getElem (by rw [Hl.out]; exact hlt), Option.getD_some]
        exact List.getElem_mem _
      obtain ⟨hk1, hk2⟩ := bounds_i64 hwf
      have Ht := Lib.hid (take_succ' ks j (by rw [Hl.out]; exact hlt))
      have Htt := Lib.hid (total_take ks (j + 1))
      clear hcell hwf
      generalize ks.getD j 0 = k at *
      obtain ⟨T, HT⟩ : ∃ T, Hid (total (ks.take j) = T) := ⟨_, rfl⟩
      rw [HT.out] at hall ⊢
      have HI : Hid (IHead (mult 0 (ks.take j)) T 0 (.int .i64 n) (.int .i64 T)) := by
        refine ⟨n, rfl, rfl, hall, hn, ?_⟩
        rw [ch_zero, Nat.mul_one]
        exact Hst.out
      clear Hst
      go_wp2_with fail
      go_loopw [3, 4, 7] (fun v3 v4 v7 wr => ∃ i : Nat, v7 = .int .i64 ((i : Int) + 1) ∧ i ≤ nn k ∧ IHead (mult 0 (ks.take j)) T i v3 v4 ∧ w = wr) (fun _ v4 _ _ => 1025 - (intOf v4).toNat)
      case atStart => exact ⟨0, rfl, Nat.zero_le _, HI.out, rfl⟩
      case round =>
        clear HI
        obtain ⟨i, rfl, hi, hhead, rfl⟩ := hrel
        obtain ⟨m, rfl, rfl, hbi, hm, hst⟩ := hhead
        have Hst := Lib.hid hst
        clear hst
        have hnn : (0 ≤ k ∧ ((nn k : Nat) : Int) = k) ∨ (k < 0 ∧ nn k = 0) := by unfold nn; omega
        have HT1 : Hid (total (ks.take (j + 1)) = T + nn k) := by
          show total _ = _
          rw [Ht.out, total_snoc, HT.out]
        obtain ⟨a, Ha⟩ : ∃ a, Hid (T + i = a) := ⟨_, rfl⟩
        rw [Ha.out] at hbi ⊢
        have hi3 : i ≤ 1024 := by have := Ha.out; omega
        by_cases hik : (i : Int) + 1 ≤ k
        · by_cases hbig : 1024 < a + 1
          · have HC : Hid ((counted ks : Nat) = 0) := by
              unfold counted
              refine if_pos ?_
              have := Htt.out
              rw [HT1.out] at this
              have := Ha.out
              omega
            clear hnn
            go_wp2_with fail
            go_ret
            rw [HC.out]
            exact ⟨rfl, rfl⟩
          · have Hi2 : Hid (i + 1 ≤ nn k) := by show _ ≤ _; omega
            have Ha2 : Hid (T + (i + 1) = a + 1) := by show _ = _; have := Ha.out; omega
            have Hab : Hid (T + i + 1 ≤ 1024) := by show _ ≤ _; have := Ha.out; omega
            by_cases hm2 : m ≤ 1099511627776
            · have HI2 := Lib.hid (IHead.next Hst.out Hab.out hm2)
              rw [Ha2.out, Ha.out] at HI2
              have hp0 : (0 : Int) ≤ (m : Int) * ((a : Int) + 1) := Int.mul_nonneg (by omega) (by omega)
              have hp1 : (m : Int) * ((a : Int) + 1) ≤ 1125899906842624 := by
                have : m * (a + 1) ≤ 1099511627776 * 1024 := Nat.mul_le_mul hm2 (by omega)
                have e : ((m * (a + 1) : Nat) : Int) = (m : Int) * ((a : Int) + 1) := by simp
                omega
              have hq0 : (0 : Int) ≤ (m : Int) * ((a : Int) + 1) / ((i : Int) + 1) := Int.ediv_nonneg hp0 (by omega)
              have hq1 : (m : Int) * ((a : Int) + 1) / ((i : Int) + 1) ≤ (m : Int) * ((a : Int) + 1) := Int.ediv_le_self _ hp0
              have He : Hid (((m * (a + 1) / (i + 1) : Nat) : Int) = (m : Int) * ((a : Int) + 1) / ((i : Int) + 1)) := by
                show ((_ : Nat) : Int) = _
                rw [Int.natCast_ediv]
                simp
              rw [He.out] at HI2
              clear hnn Hab
              go_wp2_with fail
              exact ⟨⟨i + 1, by go_num, Hi2.out, HI2.out, by trivial⟩, by simp [intOf]; omega⟩
            · have hm3 : 1099511627776 < m := by omega
              have HI2 := Lib.hid (IHead.stay Hst.out Hab.out hm3 hm)
              rw [Ha2.out] at HI2
              clear hnn Hab
              go_wp2_with fail
              exact ⟨⟨i + 1, by go_num, Hi2.out, HI2.out, by trivial⟩, by simp [intOf]; omega⟩
        · have hie : i = nn k := by omega
          have HC : Hid (CHead ks (j + 1) (.int .i64 (m : Nat)) (.int .i64 (a : Nat))) := by
            refine ⟨m, rfl, ?_, ?_, hm, ?_⟩
            · rw [HT1.out, ← hie, Ha.out]
            · rw [HT1.out, ← hie, Ha.out]; omega
            · rw [Ht.out, mult_snoc, HT.out, ← hie]; exact Hst.out
          clear hnn hie
          go_wp2_with fail
          exact ⟨⟨j + 1, by go_num, by omega, HC.out, by trivial⟩, by simp [intOf]; omega⟩
    · have hjl : j = len := by omega
      have htk : ks.take j = ks := List.take_of_length_le (by rw [Hl.out]; omega)
      have hC : counted ks = if n ≤ 1099511627776 then n else 1099511627776 := by
        have h1 := Hst.out
        rw [htk] at h1 hall
        unfold counted
        rw [if_neg (by omega), ← h1.min, Nat.min_def]
        rfl
      by_cases hbig : n ≤ 1099511627776
      · rw [if_pos hbig] at hC
        have HC := Lib.hid hC
        clear Hst hC htk hjl
        go_wp2_with fail
        go_ret
        rw [HC.out]
        exact ⟨rfl, rfl⟩
      · rw [if_neg hbig] at hC
        have HC := Lib.hid hC
        clear Hst hC htk hjl
        go_wp2_with fail
        go_ret
        rw [HC.out]
        exact ⟨rfl, rfl⟩
end Go.Proofs.Ythpljhkjajaogaa
