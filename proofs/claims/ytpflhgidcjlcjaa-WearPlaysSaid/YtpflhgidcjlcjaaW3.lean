/- The walks of awake, Worn, Least, Most, Writes, Moves, Gap, Ints. -/
import Derived.Test.YtpflhgidcjlcjaaW2
namespace Go.Proofs.Ytpflhgidcjlcjaa
open Go.RowKit
set_option linter.unusedVariables false
set_option linter.unusedSimpArgs false

theorem icells_one {l : List Nat} : ∀ u ∈ icells l, u.oneCell' = true := by
  intro u hu
  simp only [icells, List.mem_map] at hu
  obtain ⟨_, _, rfl⟩ := hu
  rfl
theorem said_awake : said (new 3 1) = .tuple #[.agg #[.int .i64 2, .int .i64 3], .bool true, .bool true] := by
  unfold said
  rw [if_pos (by decide)]
  rfl

theorem awake_any (w : World) : Calls Try.prog 6 #[] w fun e w' => e = .returned (.bool true) ∧ Below w.heap.size w w' := by
  go_enter Try.func6, Try.ntmps6
  go_wp2_with fail
  refine (new_ok 3 1 _ (by omega) (by omega) (by omega) (by omega)).mono ?_
  rintro e w1 ⟨gl, gw, rfl, hl, hgl, hgw, hb⟩
  have HL := Lib.hid hl
  have Hb := Lib.hid hb
  clear hl hb
  go_wp2_with fail
  refine (write_yes gl gw 0 (new 3 1) _ (new_fine 3 1 (by omega) (by omega) (by omega) (by omega)) (by simp [new]) (by simp [new]) HL.out).mono ?_
  rintro e w2 ⟨rfl, hl2, hm2⟩
  rw [said_awake]
  have Hb2 := Lib.hid (Below.mod Hb.out hm2 Hb.out.size (fun k _ h => by rcases h with h | h <;> (rw [h]; assumption)))
  clear hl2 hm2 HL
  go_wp2_with fail
  go_ret
  exact ⟨rfl, Hb2.out.alloc Hb2.out.size _⟩

theorem writes_any (gl gw : Nat) (s : Lv) (w : World) (hl : LAt w gl gw s) :
    Calls Try.prog 11 #[.pointer (some ⟨gl, 0, none⟩)] w fun e w' => e = .returned (.int .i64 (s.W : Nat)) ∧ w = w' := by
  have a4 := hl.l.cell 4
  unfold lcells at a4
  simp only [List.getElem?_toArray, List.getElem?_cons_zero, List.getElem?_cons_succ] at a4
  go_enter Try.func11, Try.ntmps11
  go_wp2_with fail
  go_ret
  exact ⟨rfl, rfl⟩
theorem moves_any (gl gw : Nat) (s : Lv) (w : World) (hl : LAt w gl gw s) :
    Calls Try.prog 12 #[.pointer (some ⟨gl, 0, none⟩)] w fun e w' => e = .returned (.int .i64 (s.M : Nat)) ∧ w = w' := by
  have a5 := hl.l.cell 5
  unfold lcells at a5
  simp only [List.getElem?_toArray, List.getElem?_cons_zero, List.getElem?_cons_succ] at a5
  go_enter Try.func12, Try.ntmps12
  go_wp2_with fail
  go_ret
  exact ⟨rfl, rfl⟩
theorem gap_any (gl gw : Nat) (s : Lv) (w : World) (hl : LAt w gl gw s) :
    Calls Try.prog 13 #[.pointer (some ⟨gl, 0, none⟩)] w fun e w' => e = .returned (.int .i64 (s.G : Nat)) ∧ w = w' := by
  have a3 := hl.l.cell 3
  unfold lcells at a3
  simp only [List.getElem?_toArray, List.getElem?_cons_zero, List.getElem?_cons_succ] at a3
  go_enter Try.func13, Try.ntmps13
  go_wp2_with fail
  go_ret
  exact ⟨rfl, rfl⟩

theorem worn_any (gl gw : Nat) (s : Lv) (w : World) (hs : Fine s) (hl : LAt w gl gw s) :
    Calls Try.prog 9 #[.pointer (some ⟨gl, 0, none⟩)] w fun e w' => ∃ A cap, e = .returned (.slice A (s.N + 1) cap) ∧ Own w' w.heap.size 3 1 A (s.N + 1) cap (icells s.worn) ∧ Below w.heap.size w w' := by
  have a6 := hl.l.cell 6
  unfold lcells at a6
  simp only [List.getElem?_toArray, List.getElem?_cons_zero, List.getElem?_cons_succ] at a6
  have Hr : Hid (Rd w 1 (some ⟨gw, 0, none⟩) (s.N + 1) (icells s.worn)) :=
    ⟨by rw [icells_len, hs.len]; omega, fun _ => ⟨gw, 0, rfl, hl.w.lt, fun j u hu => by rw [Nat.zero_add, hl.w.cell j]; simpa using hu⟩⟩
  have n2 := hs.n2
  obtain ⟨i0, hi0, hz0, hz1, hz2⟩ := info3s
  generalize s.N = N at *
  have hgl := hl.l.lt
  clear hl hs
  have hnew := World.new_ne w ⟨gl, 6, none⟩ a6
  go_enter Try.func9, Try.ntmps9
  go_wp2_with (at_builtin; (refine append_rd rfl (.tmp 3) (.tmp 7) 31 rfl w.heap.size 3 i0 _ 1 8 Try.underlying31 hi0 hz0 hz1 hz2 rfl (by omega) (some ⟨w.heap.size, 0, none⟩) 0 0 [] rfl (Own.empty w w.heap.size 3 1 w.heap.size rfl (Nat.le_refl _)) (some ⟨gw, 0, none⟩) (N + 1) (N + 1) (icells s.worn) rfl (Hr.out.alloc _) icells_one (N + 1) (by omega) (icells s.worn) rfl (by unfold maxLen; omega) (by omega) (by simp) ?_))
  intro A5 cap5 w5 hO5 hM5 hat5
  have HO5 := Lib.hid hO5
  have Hb5 := Lib.hid (Below.mod ((Below.refl _ w).alloc (Nat.le_refl _) (.cells #[] 3)) hM5 (by simp) (fun k _ h => by first | omega | (obtain ⟨a, ha, e⟩ := h; cases ha; omega)))
  clear hO5 hM5 hat5
  go_wp2_with fail
  go_ret
  exact ⟨A5, cap5, rfl, HO5.out, Hb5.out⟩

/-- The least and the most of the first i, behind n. -/
def leastTo (l : List Nat) (n : Nat) : Nat → Nat
  | 0 => n
  | i + 1 => min (leastTo l n i) (l.getD i 0)
def mostTo (l : List Nat) (n : Nat) : Nat → Nat
  | 0 => n
  | i + 1 => max (mostTo l n i) (l.getD i 0)
def BHead (f : Nat → Nat) (m : Nat) (w : World) (v2 v : Value) (wr : World) : Prop :=
  ∃ i : Nat, v = .int .i64 i ∧ i ≤ m ∧ v2 = .int .i64 (f i : Nat) ∧ w = wr

theorem least_any (gl gw : Nat) (s : Lv) (w : World) (hs : Fine s) (hl : LAt w gl gw s) :
    Calls Try.prog 10 #[.pointer (some ⟨gl, 0, none⟩)] w fun e w' => e = .returned (.int .i64 (leastTo s.worn (s.worn.getD 0 0) (s.N + 1) : Nat)) ∧ w = w' := by
  have a6 := hl.l.cell 6
  unfold lcells at a6
  simp only [List.getElem?_toArray, List.getElem?_cons_zero, List.getElem?_cons_succ] at a6
  have Hc : Hid (∀ j, j < s.N + 1 → w.cell? ⟨gw, j, none⟩ = some (.int .i64 (s.worn.getD j 0 : Nat))) := by
    intro j hj
    rw [hl.w.cell j, List.getElem?_toArray]
    exact icells_at _ _ (by rw [hs.len]; exact hj)
  have n2 := hs.n2
  generalize s.N = N at *
  generalize s.worn = wn at *
  clear hl hs
  have c0 := Hc.out 0 (by omega)
  obtain ⟨z, Hz⟩ : ∃ z, Hid (wn.getD 0 0 = z) := ⟨_, rfl⟩
  rw [Hz.out] at c0 ⊢
  go_enter Try.func10, Try.ntmps10
  go_wp2_with fail
  clear c0
  go_loopw [3, 17] (fun v3 v17 wr => BHead (leastTo wn z) (N + 1) w v3 v17 wr) (fun _ v17 _ => N + 1 - (intOf v17).toNat)
  case atStart => exact ⟨0, rfl, Nat.zero_le _, rfl, rfl⟩
  case round =>
    obtain ⟨i, rfl, hi, rfl, rfl⟩ := hrel
    by_cases hlt : i < N + 1
    · have c0 := Hc.out i hlt
      have HS : Hid (leastTo wn z (i + 1) = min (leastTo wn z i) (wn.getD i 0)) := rfl
      generalize leastTo wn z i = y at *
      generalize wn.getD i 0 = x at *
      by_cases hxy : y ≤ x
      · have HS2 : Hid (leastTo wn z (i + 1) = y) := by show _ = y; rw [HS.out, Nat.min_eq_left hxy]
        go_wp2_with fail
        exact ⟨⟨i + 1, by go_num, by omega, by rw [HS2.out], rfl⟩, by simp [intOf]; omega⟩
      · have HS2 : Hid (leastTo wn z (i + 1) = x) := by show _ = x; rw [HS.out, Nat.min_eq_right (by omega)]
        go_wp2_with fail
        exact ⟨⟨i + 1, by go_num, by omega, by rw [HS2.out], rfl⟩, by simp [intOf]; omega⟩
    · have hie : i = N + 1 := by omega
      subst hie
      go_wp2_with fail
      go_ret
      exact ⟨rfl, rfl⟩

theorem most_any (gl gw : Nat) (s : Lv) (w : World) (hs : Fine s) (hl : LAt w gl gw s) :
    Calls Try.prog 23 #[.pointer (some ⟨gl, 0, none⟩)] w fun e w' => e = .returned (.int .i64 (mostTo s.worn 0 (s.N + 1) : Nat)) ∧ w = w' := by
  have a6 := hl.l.cell 6
  unfold lcells at a6
  simp only [List.getElem?_toArray, List.getElem?_cons_zero, List.getElem?_cons_succ] at a6
  have Hc : Hid (∀ j, j < s.N + 1 → w.cell? ⟨gw, j, none⟩ = some (.int .i64 (s.worn.getD j 0 : Nat))) := by
    intro j hj
    rw [hl.w.cell j, List.getElem?_toArray]
    exact icells_at _ _ (by rw [hs.len]; exact hj)
  have n2 := hs.n2
  generalize s.N = N at *
  generalize s.worn = wn at *
  clear hl hs
  go_enter Try.func23, Try.ntmps23
  go_wp2_with fail
  go_loopw [3, 11] (fun v3 v17 wr => BHead (mostTo wn 0) (N + 1) w v3 v17 wr) (fun _ v17 _ => N + 1 - (intOf v17).toNat)
  case atStart => exact ⟨0, rfl, Nat.zero_le _, rfl, rfl⟩
  case round =>
    obtain ⟨i, rfl, hi, rfl, rfl⟩ := hrel
    by_cases hlt : i < N + 1
    · have c0 := Hc.out i hlt
      have HS : Hid (mostTo wn 0 (i + 1) = max (mostTo wn 0 i) (wn.getD i 0)) := rfl
      generalize mostTo wn 0 i = y at *
      generalize wn.getD i 0 = x at *
      by_cases hxy : x ≤ y
      · have HS2 : Hid (mostTo wn 0 (i + 1) = y) := by show _ = y; rw [HS.out, Nat.max_eq_left hxy]
        go_wp2_with fail
        exact ⟨⟨i + 1, by go_num, by omega, by rw [HS2.out], rfl⟩, by simp [intOf]; omega⟩
      · have HS2 : Hid (mostTo wn 0 (i + 1) = x) := by show _ = x; rw [HS.out, Nat.max_eq_right (by omega)]
        go_wp2_with fail
        exact ⟨⟨i + 1, by go_num, by omega, by rw [HS2.out], rfl⟩, by simp [intOf]; omega⟩
    · have hie : i = N + 1 := by omega
      subst hie
      go_wp2_with fail
      go_ret
      exact ⟨rfl, rfl⟩

theorem ints_any (A A2 : Option Addr) (n cap cap2 : Nat) (l : List Nat) (w : World) (hn : n ≤ 100000) (hr : Rd w 1 A n (icells l)) (hr2 : Rd w 1 A2 n (icells l)) :
    Calls Try.prog 16 #[.slice A n cap, .slice A2 n cap2] w fun e w' => e = .returned (.bool true) ∧ Below w.heap.size w w' := by
  have Hr := Lib.hid hr
  have Hr2 := Lib.hid hr2
  have hl : l.length = n := by have := hr.1; simpa [icells] using this
  have Hl := Lib.hid hl
  clear hr hr2 hl
  go_enter Try.func16, Try.ntmps16
  go_wp2_with fail
  go_loopw [5] (fun v3 wr => ∃ i : Nat, v3 = .int .i64 i ∧ i ≤ n ∧ Below w.heap.size w wr) (fun v3 _ => n - (intOf v3).toNat)
  case atStart => exact ⟨0, rfl, Nat.zero_le _, Below.refl _ _⟩
  case round =>
    obtain ⟨i, rfl, hi, hb⟩ := hrel
    have Hb := Lib.hid hb
    clear hb
    by_cases hlt : i < n
    · obtain ⟨g, off, rfl, hg, hc⟩ := (Hr.out.below Hb.out (Nat.le_refl _)).2 (by omega)
      obtain ⟨g2, off2, rfl, hg2, hc2⟩ := (Hr2.out.below Hb.out (Nat.le_refl _)).2 (by omega)
      have c0 := hc i _ (icells_at l i (by rw [Hl.out]; exact hlt))
      have d0 := hc2 i _ (icells_at l i (by rw [Hl.out]; exact hlt))
      clear hc hc2
      generalize l.getD i 0 = x at *
      go_wp2_with fail
      go_quiet (fail)
      go_wp2_with fail
      exact ⟨⟨i + 1, by go_num, by omega, below_drewN Hb.out _⟩, by simp [intOf]; omega⟩
    · go_wp2_with fail
      go_ret
      exact ⟨rfl, Hb.out⟩
end Go.Proofs.Ytpflhgidcjlcjaa
