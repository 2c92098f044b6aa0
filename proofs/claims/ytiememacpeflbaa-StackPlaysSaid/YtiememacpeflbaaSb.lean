/- The walk of StackBack. -/
import Derived.Test.YtiememacpeflbaaWs
import Derived.Test.YtiememacpeflbaaWi
import Derived.Test.YtiememacpeflbaaOpen
namespace Go.Proofs.Ytiememacpeflbaa
open Go.RowKit
set_option linter.unusedVariables false
set_option linter.unusedSimpArgs false

theorem awake_any (w : World) : Calls Try.prog 5 #[] w fun e w' => e = .returned (.bool true) ∧ Below w.heap.size w w' := by
  go_enter Try.func5, Try.ntmps5
  go_wp2_with fail
  refine (new_int 1 1 w rfl).mono ?_
  rintro e w1 ⟨rfl, hw⟩
  have HB := Lib.hid (show Blk w1 w.heap.size 62 #[.slice none 0 0, .int .i64 1, .int .i64 0] by rw [← hw]; exact Blk.new _ _ _)
  have Hb := Lib.hid (show Below w.heap.size w w1 by rw [← hw]; exact (Below.refl _ _).alloc (Nat.le_refl _) _)
  clear hw
  go_wp2_with fail
  refine (push_yes_int w.heap.size _ none 0 0 1 0 4 [] w1 HB.out (Own.nil _ _ _ _) (by omega) (by omega) Hb.out.size).mono ?_
  rintro e w2 ⟨A2, cap2, rfl, hB2, hO2, hM2, hat2⟩
  have HB2 := Lib.hid hB2
  have HO2 := Lib.hid hO2
  have Hb2 := Lib.hid (Below.mod Hb.out hM2 Hb.out.size (fun k _ hk => by rcases hk with rfl | ⟨a, ha, _⟩; exact Nat.le_refl _; cases ha))
  clear hB2 hO2 hM2 hat2 HB Hb
  go_wp2_with fail
  refine (push_no_int _ A2 1 cap2 1 0 5 w2 HB2.out (by omega) (by omega) (by omega) (by omega)).mono ?_
  rintro e w3 ⟨rfl, hB3, hM3⟩
  have HO3 := Lib.hid (HO2.out.mod hM3 (fun a ha h => HO2.out.ne HB2.out (by decide) a ha h))
  have Hb3 := Lib.hid (Below.mod Hb2.out hM3 Hb2.out.size (fun k _ hk => by rw [hk]; exact Nat.le_refl _))
  have HB3 := Lib.hid hB3
  clear hB3 hM3 HB2 HO2 Hb2
  go_wp2_with fail
  refine (pop_yes_int w.heap.size _ A2 0 cap2 1 1 4 [] w3 HB3.out HO3.out (by omega)).mono ?_
  rintro e w4 ⟨rfl, hB4, hO4, hM4⟩
  have Hb4 := Lib.hid (Below.mod Hb3.out hM4 Hb3.out.size (fun k _ hk => by rw [hk]; exact Nat.le_refl _))
  clear hB4 hO4 hM4
  go_wp2_with fail
  go_ret
  exact ⟨rfl, Hb4.out⟩

theorem missed_string (gs : Nat) (v : Value) (m ms : Int) (w : World) (hB : Blk w gs 57 #[v, .int .i64 m, .int .i64 ms]) :
    Calls Try.prog 8 #[.pointer (some ⟨gs, 0, none⟩)] w fun e w' => e = .returned (.int .i64 ms) ∧ Blk w' gs 57 #[v, .int .i64 m, .int .i64 0] ∧ Mod w w' (fun k => k = gs) := by
  have c2 := hB.cell 2
  have f2 := hB.frozen 2
  simp only [List.getElem?_toArray, List.getElem?_cons_zero, List.getElem?_cons_succ] at c2
  have HB := Lib.hid hB
  clear hB
  go_enter Try.func8, Try.ntmps8
  go_wp2
  go_ret
  refine ⟨rfl, ?_, ?_⟩
  · refine Blk.conv (Blk.set_ HB.out 2 _) ?_
    simp
  · exact Mod.set (S := fun k => k = gs) (Mod.refl w _) (.inr rfl) _

/-- The strings as values. -/
def strs (zs : List ByteArray) : List Value := zs.map Value.string
theorem strs_take (zs : List ByteArray) (i : Nat) (h : i < zs.length) : (strs zs).take (i + 1) = (strs zs).take i ++ [.string (zs.getD i ⟨#[]⟩)] := by
  unfold strs
  rw [List.take_succ_eq_append_getElem (by simpa using h)]
  simp [List.getD, h]

/-- What holds at a push's head. -/
def PHead (zs : List ByteArray) (gs B len : Nat) (M : Int) (w0 : World) (v6 : Value) (wr : World) : Prop :=
  ∃ (i k : Nat) (A : Option Addr) (cap : Nat), v6 = .int .i64 i ∧ i ≤ len ∧ k ≤ i ∧ (k : Int) ≤ M ∧ (k = i ∨ (k : Int) = M) ∧ Below B w0 wr ∧
    Blk wr gs 57 #[.slice A k cap, .int .i64 M, .int .i64 (i - k)] ∧ Own wr B 9 1 A k cap ((strs zs).take k)

/-- What holds at a pop's head. -/
def OHead (zs : List ByteArray) (gs B : Nat) (M : Int) (w0 : World) (v8 : Value) (wr : World) : Prop :=
  ∃ (k : Nat) (A : Option Addr) (cap : Nat), v8 = .int .i64 ((k : Int) - 1) ∧ k ≤ zs.length ∧ k ≤ 300 ∧ Below B w0 wr ∧
    Blk wr gs 57 #[.slice A k cap, .int .i64 M, .int .i64 0] ∧ Own wr B 9 1 A k cap ((strs zs).take k)

set_option maxRecDepth 100000 in
set_option maxHeartbeats 2000000 in
theorem sb_any (M : Int) (A : Option Addr) (len cap : Nat) (zs : List ByteArray) (w : World) (hM : 0 ≤ M) (hM1 : M ≤ 255)
    (hlen : len ≤ cap) (hcap : cap ≤ maxLen) (hz : zs.length = len) (hrow : Row w A len 1 (fun i => [.string (zs.getD i ⟨#[]⟩)])) :
    Calls Try.prog 3 #[.int .u8 M, .slice A len cap] w fun e w' => e = .returned (.bool true) ∧ Below w.heap.size w w' := by
  unfold maxLen at hcap
  have Hrow := Lib.hid hrow
  have Hz := Lib.hid hz
  clear hrow hz
  by_cases h300 : 300 < len
  · go_enter Try.func3, Try.ntmps3
    go_wp2_with fail
    refine (awake_any _).mono ?_
    rintro e w1 ⟨rfl, hb1⟩
    have Hb1 := Lib.hid hb1
    clear hb1
    go_wp2_with fail
    go_ret
    exact ⟨rfl, Hb1.out⟩
  go_enter Try.func3, Try.ntmps3
  go_wp2_with fail
  refine (awake_any _).mono ?_
  rintro e w1 ⟨rfl, hb1⟩
  have Hb1 := Lib.hid hb1
  clear hb1
  go_wp2_with fail
  refine (new_string M M w1 (by rw [if_neg (by omega)])).mono ?_
  rintro e w2 ⟨rfl, hw2⟩
  obtain ⟨gs, Hgs⟩ : ∃ g, Hid (w1.heap.size = g) := ⟨_, rfl⟩
  have hgs : w.heap.size ≤ gs := by rw [← Hgs.out]; exact Hb1.out.size
  have HB2 := Lib.hid (show Blk w2 gs 57 #[.slice none 0 0, .int .i64 M, .int .i64 0] by rw [← hw2, ← Hgs.out]; exact Blk.new _ _ _)
  have Hb2 := Lib.hid (show Below w.heap.size w w2 by rw [← hw2]; exact Hb1.out.alloc Hb1.out.size _)
  rw [Hgs.out]
  clear hw2 Hgs Hb1
  have HP : Hid (PHead zs gs w.heap.size len M w (.int .i64 0) w2) := ⟨0, 0, none, 0, rfl, Nat.zero_le _, Nat.le_refl _, by omega, .inl rfl, Hb2.out, HB2.out, Own.nil _ _ _ _⟩
  clear HB2 Hb2
  go_wp2_with fail
  go_loopw [6] (fun v6 wr => PHead zs gs w.heap.size len M w v6 wr) (fun v6 _ => (len - (intOf v6).toNat))
  case atStart => exact HP.out
  case round =>
    clear HP
    obtain ⟨i, k, A', cap', rfl, hi1, hk1, hk2, hk3, hbel, hB, hO⟩ := hrel
    have Hbel := Lib.hid hbel
    have HB := Lib.hid hB
    have HO := Lib.hid hO
    have Hk3 := Lib.hid hk3
    clear hbel hB hO hk3
    by_cases hlt : i < len
    · obtain ⟨b, off, hA, hb, hcell⟩ := Hrow.out (by omega)
      subst hA
      have x0 : wr.cell? ⟨b, off + i, none⟩ = some (.string (zs.getD i ⟨#[]⟩)) := by
        have h := (Hbel.out.cell (p := ⟨b, off + i * 1 + 0, none⟩) hb).trans (hcell i hlt 0 _ rfl)
        simpa using h
      have Hts := Lib.hid (strs_take zs i (by rw [Hz.out]; exact hlt))
      clear hcell
      generalize zs.getD i ⟨#[]⟩ = x at *
      by_cases hm : (i : Int) < M
      · obtain rfl : k = i := by have := Hk3.out; omega
        go_wp2_with fail
        refine (push_yes_string w.heap.size gs A' k cap' M _ x _ wr HB.out HO.out hm (by omega) Hbel.out.size).mono ?_
        rintro e w4 ⟨A4, cap4, rfl, hB4, hO4, hM4, hat4⟩
        rw [← Hts.out] at hO4
        have HB4 := Lib.hid hB4
        have HO4 := Lib.hid hO4
        have Hb4 := Lib.hid (Below.mod Hbel.out hM4 Hbel.out.size (fun j _ hj => by rcases hj with rfl | ⟨a, ha, rfl⟩; exact hgs; exact (HO.out.lt a ha).1))
        clear hB4 hO4 hM4 hat4
        go_wp2_with fail
        refine ⟨⟨k + 1, k + 1, A4, cap4, by go_num, by omega, by omega, by omega, .inl rfl, Hb4.out, ?_, HO4.out⟩, by simp [intOf]; omega⟩
        exact HB4.out.conv (by rw [show ((k : Int) - k) = ((k + 1 : Nat) : Int) - (k + 1 : Nat) by omega])
      · go_wp2_with fail
        refine (push_no_string gs A' k cap' M _ x wr HB.out (by have := Hk3.out; omega) (by omega) (by omega) (by omega)).mono ?_
        rintro e w4 ⟨rfl, hB4, hM4⟩
        have HB4 := Lib.hid hB4
        have HO4 := Lib.hid (HO.out.mod hM4 (fun a ha h => HO.out.ne HB.out (by decide) a ha h))
        have Hb4 := Lib.hid (Below.mod Hbel.out hM4 Hbel.out.size (fun j _ hj => by rw [hj]; exact hgs))
        clear hB4 hM4
        go_wp2_with fail
        refine ⟨⟨i + 1, k, A', cap', by go_num, by omega, by omega, by omega, .inr (by have := Hk3.out; omega), Hb4.out, ?_, HO4.out⟩, by simp [intOf]; omega⟩
        exact HB4.out.conv (by rw [show ((i : Int) - k + 1) = ((i + 1 : Nat) : Int) - k by omega])
    · obtain rfl : i = len := by omega
      have hmin : (if M < (i : Int) then M else (i : Int)) = (k : Int) := by have := Hk3.out; split <;> omega
      go_wp2_with fail
      refine (missed_string gs _ M _ wr HB.out).mono ?_
      rintro e w4 ⟨rfl, hB4, hM4⟩
      have HB4 := Lib.hid hB4
      have HO4 := Lib.hid (HO.out.mod hM4 (fun a ha h => HO.out.ne HB.out (by decide) a ha h))
      have Hb4 := Lib.hid (Below.mod Hbel.out hM4 Hbel.out.size (fun j _ hj => by rw [hj]; exact hgs))
      clear hB4 hM4 HB HO Hbel
      go_wp2_with fail
      refine (missed_string gs _ M _ w4 HB4.out).mono ?_
      rintro e w5 ⟨rfl, hB5, hM5⟩
      have HB5 := Lib.hid hB5
      have HO5 := Lib.hid (HO4.out.mod hM5 (fun a ha h => HO4.out.ne HB4.out (by decide) a ha h))
      have Hb5 := Lib.hid (Below.mod Hb4.out hM5 Hb4.out.size (fun j _ hj => by rw [hj]; exact hgs))
      clear hB5 hM5 HB4 HO4 Hb4
      go_wp2_with fail
      have HP : Hid (OHead zs gs w.heap.size M w (.int .i64 ((k : Int) - 1)) w5) := ⟨k, A', cap', rfl, by rw [Hz.out]; exact hk1, by omega, Hb5.out, HB5.out, HO5.out⟩
      clear HB5 HO5 Hb5 hmin Hk3
      go_loopw [8] (fun v8 wr => OHead zs gs w.heap.size M w v8 wr) (fun v8 _ => (intOf v8 + 1).toNat)
      case atStart => exact HP.out
      case round =>
        clear HP
        obtain ⟨j, A6, cap6, rfl, hj1, hj2, hbel, hB, hO⟩ := hrel
        have Hbel := Lib.hid hbel
        have HB := Lib.hid hB
        have HO := Lib.hid hO
        have Hj1 := Lib.hid hj1
        clear hbel hB hO hj1
        rcases Nat.eq_zero_or_pos j with h0 | h0
        · subst h0
          go_wp2_with fail
          refine (pop_no_string gs A6 cap6 M 0 wr HB.out).mono ?_
          rintro e w6 ⟨rfl, rfl⟩
          go_wp2_with fail
          go_ret
          exact ⟨rfl, Hbel.out⟩
        · obtain ⟨m, rfl⟩ : ∃ m, j = m + 1 := ⟨j - 1, by omega⟩
          rw [show (((m + 1 : Nat) : Int) - 1) = (m : Int) by omega]
          obtain ⟨b, off, hA, hb, hcell⟩ := Hrow.out (by have := Hj1.out; have := Hz.out; omega)
          subst hA
          have hmi : m < i := by have := Hj1.out; have := Hz.out; omega
          have x0 : wr.cell? ⟨b, off + m, none⟩ = some (.string (zs.getD m ⟨#[]⟩)) := by
            have h := (Hbel.out.cell (p := ⟨b, off + m * 1 + 0, none⟩) hb).trans (hcell m hmi 0 _ rfl)
            simpa using h
          have Hts := Lib.hid (strs_take zs m (by rw [Hz.out]; exact hmi))
          clear hcell
          generalize zs.getD m ⟨#[]⟩ = x at *
          go_wp2_with fail
          refine (pop_yes_string w.heap.size gs A6 m cap6 M 0 x _ wr HB.out (by rw [← Hts.out]; exact HO.out) (by omega)).mono ?_
          rintro e w6 ⟨rfl, hB6, hO6, hM6⟩
          have HB6 := Lib.hid hB6
          have HO6 := Lib.hid hO6
          have Hb6 := Lib.hid (Below.mod Hbel.out hM6 Hbel.out.size (fun j _ hj => by rw [hj]; exact hgs))
          have x1 : w6.cell? ⟨b, off + m, none⟩ = some (.string x) := (Hb6.out.cell (p := ⟨b, off + m, none⟩) hb).trans ((Hbel.out.cell (p := ⟨b, off + m, none⟩) hb).symm.trans x0)
          clear hB6 hO6 hM6 x0
          go_wp2_with fail
          exact ⟨⟨m, A6, cap6, rfl, by have := Hj1.out; omega, by omega, Hb6.out, HB6.out, HO6.out⟩, by simp [intOf]⟩
end Go.Proofs.Ytiememacpeflbaa
