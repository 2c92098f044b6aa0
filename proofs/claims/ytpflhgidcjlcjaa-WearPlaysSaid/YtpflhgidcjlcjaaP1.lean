/- Which line is at each place: plain; the walks of Line and Find. -/
import Derived.Test.YtpflhgidcjlcjaaW3
namespace Go.Proofs.Ytpflhgidcjlcjaa
open Go.RowKit
set_option linter.unusedVariables false
set_option linter.unusedSimpArgs false

theorem mod2 (a N : Nat) (h : a < 2 * N) : a % N = if a < N then a else a - N := by
  split
  · exact Nat.mod_eq_of_lt (by omega)
  · rw [Nat.mod_eq_sub_mod (by omega), Nat.mod_eq_of_lt (by omega)]

/-- The place without the gap. -/
def squeeze (s : Lv) (p : Nat) : Nat := if s.G < p then p - 1 else p
/-- Which line is at a place; -1: the gap. -/
def line (s : Lv) (p : Nat) : Int := if p = s.G then -1 else ((squeeze s p + s.N - s.S) % s.N : Nat)
def ats (s : Lv) : List Int := (List.range (s.N + 1)).map (line s)
theorem ats_len (s : Lv) : (ats s).length = s.N + 1 := by simp [ats]
theorem ats_getD (s : Lv) (p : Nat) (h : p ≤ s.N) : (ats s).getD p 0 = line s p := by
  simp [ats, List.getD_eq_getElem?_getD, show p < s.N + 1 by omega]
theorem line_gap (s : Lv) : line s s.G = -1 := if_pos rfl
theorem line_pos (s : Lv) (p : Nat) (h : p ≠ s.G) : 0 ≤ line s p := by
  unfold line
  rw [if_neg h]
  omega
theorem line_lt (s : Lv) (p : Nat) (hs : Fine s) : line s p < s.N := by
  unfold line
  have := hs.n1
  split
  · omega
  · have := Nat.mod_lt (squeeze s p + s.N - s.S) (show 0 < s.N by omega)
    omega
theorem line_place (s : Lv) (hs : Fine s) (x : Nat) (hx : x < s.N) : line s (place s x) = x := by
  have n1 := hs.n1
  have st := hs.st
  have gp := hs.gp
  unfold line place squeeze
  have e1 := mod2 (x + s.S) s.N (by omega)
  have hq := Nat.mod_lt (x + s.S) (show 0 < s.N by omega)
  generalize (x + s.S) % s.N = q at *
  by_cases h : s.G ≤ q
  · rw [if_pos h, if_neg (by omega), if_pos (by omega)]
    rw [mod2 (q + 1 - 1 + s.N - s.S) s.N (by omega)]
    split at e1 <;> split <;> omega
  · rw [if_neg h, if_neg (by omega), if_neg (by omega)]
    rw [mod2 (q + s.N - s.S) s.N (by omega)]
    split at e1 <;> split <;> omega
theorem place_line (s : Lv) (hs : Fine s) (p x : Nat) (hp : p ≤ s.N) (h : line s p = x) : place s x = p := by
  have n1 := hs.n1
  have st := hs.st
  have gp := hs.gp
  have hg : p ≠ s.G := by
    intro h2
    rw [h2, line_gap] at h
    omega
  unfold line at h
  rw [if_neg hg] at h
  have h : (squeeze s p + s.N - s.S) % s.N = x := by omega
  have hr : squeeze s p < s.N := by unfold squeeze; split <;> omega
  rw [mod2 _ _ (by omega)] at h
  unfold place
  rw [mod2 _ _ (by split at h <;> omega)]
  unfold squeeze at h hr
  repeat' split at h
  all_goals repeat' split
  all_goals omega
theorem line_move (s : Lv) (hs : Fine s) (p : Nat) (hp : p ≤ s.N) : line (move s) p = if p = frm s then -1 else if p = s.G then line s (frm s) else line s p := by
  obtain ⟨N, K, S, G, W, M, wn⟩ := s
  have n1 := hs.n1
  have st := hs.st
  have gp := hs.gp
  simp only at *
  by_cases hg : G = 0
  · subst hg
    have e1 : frm ⟨N, K, S, 0, W, M, wn⟩ = N := rfl
    have e2 : move ⟨N, K, S, 0, W, M, wn⟩ = ⟨N, K, (S + 1) % N, N, W, M + 1, bump wn 0⟩ := rfl
    rw [e1, e2]
    unfold line squeeze
    simp only
    have e3 : (S + 1) % N = if S + 1 < N then S + 1 else 0 := by
      split
      · exact Nat.mod_eq_of_lt (by omega)
      · rw [show S + 1 = N by omega, Nat.mod_self]
    rw [e3]
    by_cases hpN : p = N
    · rw [if_pos hpN, if_pos hpN]
    · rw [if_neg hpN, if_neg hpN, if_neg (show ¬ N < p by omega)]
      rw [if_neg (show ¬ N = 0 by omega), if_pos (show 0 < N by omega)]
      by_cases hp0 : p = 0
      · rw [if_pos hp0]
        subst hp0
        by_cases hS : S + 1 < N
        · rw [if_pos hS, mod2 _ _ (by omega), mod2 _ _ (by omega), if_pos (by omega), if_neg (by omega)]
          omega
        · rw [if_neg hS, show 0 + N - 0 = N by omega, show N - 1 + N - S = N by omega]
      · rw [if_neg hp0, if_neg hp0, if_pos (show 0 < p by omega)]
        by_cases hS : S + 1 < N
        · rw [if_pos hS, show p + N - (S + 1) = p - 1 + N - S by omega]
        · rw [if_neg hS, show p + N - 0 = p + N by omega, show p - 1 + N - S = p by omega, Nat.add_mod_right]
  · have e1 : frm ⟨N, K, S, G, W, M, wn⟩ = G - 1 := if_neg hg
    have e2 : move ⟨N, K, S, G, W, M, wn⟩ = ⟨N, K, S, G - 1, W, M + 1, bump wn G⟩ := if_neg hg
    rw [e1, e2]
    unfold line squeeze
    simp only
    by_cases h1 : p = G - 1
    · rw [if_pos h1, if_pos h1]
    · rw [if_neg h1, if_neg h1]
      by_cases h2 : p = G
      · rw [if_pos h2, if_neg (show ¬ G - 1 = G by omega), if_pos (show G - 1 < p by omega), if_neg (show ¬ G < G - 1 by omega), h2]
      · rw [if_neg h2, if_neg h2]
        by_cases h3 : G < p
        · rw [if_pos h3, if_pos (by omega)]
        · rw [if_neg h3, if_neg (by omega)]
theorem frm_le (s : Lv) (hs : Fine s) : frm s ≤ s.N := by
  have := hs.gp
  unfold frm
  split <;> omega
theorem frm_ne (s : Lv) (hs : Fine s) : frm s ≠ s.G := by
  have := hs.n1
  unfold frm
  split <;> omega
theorem move_N (s : Lv) : (move s).N = s.N := by unfold move; split <;> rfl
theorem ats_move (s : Lv) (hs : Fine s) : ats (move s) = ((ats s).set s.G (line s (frm s))).set (frm s) (-1) := by
  apply List.ext_getElem
  · simp [ats_len, move_N]
  · intro p h1 h2
    have hp : p ≤ s.N := by rw [ats_len, move_N] at h1; omega
    have a := ats_getD (move s) p (by rw [move_N]; exact hp)
    rw [List.getD_eq_getElem?_getD, List.getElem?_eq_getElem h1, Option.getD_some] at a
    rw [a, line_move s hs p hp, List.getElem_set, List.getElem_set]
    have b := ats_getD s p hp
    rw [List.getD_eq_getElem?_getD, List.getElem?_eq_getElem (by rw [ats_len]; omega), Option.getD_some] at b
    by_cases h3 : p = frm s
    · rw [if_pos h3, if_pos (show frm s = p from h3.symm)]
    · rw [if_neg h3, if_neg (show ¬ frm s = p from fun h => h3 h.symm)]
      by_cases h4 : p = s.G
      · rw [if_pos h4, if_pos (show s.G = p from h4.symm)]
      · rw [if_neg h4, if_neg (show ¬ s.G = p from fun h => h4 h.symm), b]
theorem ats_wr0 (s : Lv) (x : Nat) : ats (wr0 s x) = ats s := rfl
theorem ats_new (N K : Nat) (h : 1 ≤ N) : ats (new N K) = (List.range N).map (fun i : Nat => (i : Int)) ++ [-1] := by
  unfold ats
  have e : (new N K).N = N := rfl
  rw [e, List.range_succ, List.map_append]
  congr 1
  · apply List.map_congr_left
    intro i hi
    rw [List.mem_range] at hi
    unfold line squeeze new
    simp only
    rw [if_neg (by omega), if_neg (by omega), show i + N - 0 = i + N by omega, Nat.add_mod_right, Nat.mod_eq_of_lt hi]
  · simp [line, new]

set_option maxHeartbeats 1000000 in
theorem line_yes (gl gw p : Nat) (s : Lv) (w : World) (hs : Fine s) (hp : p ≤ s.N) (hl : LAt w gl gw s) :
    Calls Try.prog 20 #[.pointer (some ⟨gl, 0, none⟩), .int .i64 p] w fun e w' => e = .returned (.int .i64 (line s p)) ∧ ∃ m, w' = w.drewN m := by
  have a0 := hl.l.cell 0
  have a2 := hl.l.cell 2
  have a3 := hl.l.cell 3
  unfold lcells at a0 a2 a3
  simp only [List.getElem?_toArray, List.getElem?_cons_zero, List.getElem?_cons_succ] at a0 a2 a3
  have n1 := hs.n1
  have n2 := hs.n2
  have st := hs.st
  have gp := hs.gp
  have HLn : Hid (p ≠ s.G → line s p = ((squeeze s p + s.N - s.S) % s.N : Nat)) := fun h => if_neg h
  have HL0 : Hid (p = s.G → line s p = -1) := fun h => if_pos h
  have Hsq : Hid (s.G < p → squeeze s p = p - 1) := fun h => if_pos h
  have Hsq2 : Hid (¬ s.G < p → squeeze s p = p) := fun h => if_neg h
  generalize line s p = ln at *
  generalize squeeze s p = sq at *
  generalize s.N = N at *
  generalize s.S = S at *
  generalize s.G = G at *
  clear hl hs
  by_cases hg : p = G
  · have e := HL0.out hg
    subst hg
    subst e
    go_enter Try.func20, Try.ntmps20
    go_wp2_with fail
    go_ret
    exact ⟨rfl, 0, rfl⟩
  · have e := HLn.out hg
    have hb : (p == G) = false := by simpa using hg
    have hb2 : ((p : Int) == (G : Int)) = false := by simp; omega
    by_cases h2 : G < p
    · have e2 := Hsq.out h2
      obtain ⟨q, hq⟩ : ∃ q, p = q + 1 := ⟨p - 1, by omega⟩
      subst hq
      have e3 : sq = q := by omega
      rw [e3] at e
      subst e
      have hm1 : ((q : Int) - (S : Int) + (N : Int)).tmod (N : Int) = ((q + N - S) % N : Nat) := by
        rw [show (q : Int) - (S : Int) + (N : Int) = ((q + N - S : Nat) : Int) by omega]
        rfl
      have hm2 : ((q : Int) - (S : Int) + (N : Int)) % (N : Int) = ((q + N - S) % N : Nat) := by
        rw [show (q : Int) - (S : Int) + (N : Int) = ((q + N - S : Nat) : Int) by omega]
        rfl
      generalize (q + N - S) % N = z at *
      have hb3 : ((q : Int) + 1 == (G : Int)) = false := by simp; omega
      go_enter Try.func20, Try.ntmps20
      go_wp2_with fail
      go_quiet (fail)
      go_wp2_with fail
      go_ret
      exact ⟨rfl, _, rfl⟩
    · have e2 := Hsq2.out h2
      rw [e2] at e
      subst e
      have hm1 : ((p : Int) - (S : Int) + (N : Int)).tmod (N : Int) = ((p + N - S) % N : Nat) := by
        rw [show (p : Int) - (S : Int) + (N : Int) = ((p + N - S : Nat) : Int) by omega]
        rfl
      have hm2 : ((p : Int) - (S : Int) + (N : Int)) % (N : Int) = ((p + N - S) % N : Nat) := by
        rw [show (p : Int) - (S : Int) + (N : Int) = ((p + N - S : Nat) : Int) by omega]
        rfl
      generalize (p + N - S) % N = z at *
      go_enter Try.func20, Try.ntmps20
      go_wp2_with fail
      go_quiet (fail)
      go_wp2_with fail
      go_ret
      exact ⟨rfl, _, rfl⟩

theorem line_no (gl gw : Nat) (x : Int) (s : Lv) (w : World) (hs : Fine s) (hx : x < 0 ∨ s.N < x) (hl : LAt w gl gw s) :
    Calls Try.prog 20 #[.pointer (some ⟨gl, 0, none⟩), .int .i64 x] w fun e w' => e = .returned (.int .i64 (-1)) ∧ ∃ m, w' = w.drewN m := by
  have a0 := hl.l.cell 0
  unfold lcells at a0
  simp only [List.getElem?_toArray, List.getElem?_cons_zero, List.getElem?_cons_succ] at a0
  generalize s.N = N at *
  clear hl hs
  by_cases h0 : x < 0
  · clear hx
    go_enter Try.func20, Try.ntmps20
    go_wp2_with fail
    go_ret
    exact ⟨rfl, 0, rfl⟩
  · have hd : decide ((N : Int) < x) = true := by rw [decide_eq_true_eq]; omega
    clear hx
    go_enter Try.func20, Try.ntmps20
    go_wp2_with fail
    go_ret
    exact ⟨rfl, 0, rfl⟩

/-- The cells of integers. -/
def ivals (l : List Int) : List Value := l.map (Value.int .i64)
theorem ivals_at (l : List Int) (j : Nat) (h : j < l.length) : (ivals l)[j]? = some (.int .i64 (l.getD j 0)) := by
  simp [ivals, List.getD, h]
theorem ivals_len (l : List Int) : (ivals l).length = l.length := by simp [ivals]

def FHead (n : Nat) (B : Nat) (w : World) (p : Nat) (v : Value) (wr : World) : Prop := ∃ i : Nat, v = .int .i64 i ∧ i ≤ p ∧ w = wr
theorem find_any (zs : List Int) (A B : Option Addr) (n cap nb capb : Nat) (K W M x : Int) (p : Nat) (w : World) (hn : n ≤ 100000) (hA : Rd w 1 A n (ivals zs)) (hp : p < n) (hx : zs.getD p 0 = x) (hf : ∀ j, j < p → zs.getD j 0 ≠ x) :
    Calls Try.prog 22 #[.agg #[.slice A n cap, .slice B nb capb, .int .i64 K, .int .i64 W, .int .i64 M], .int .i64 x] w fun e w' => e = .returned (.int .i64 p) ∧ Below w.heap.size w w' := by
  have HA := Lib.hid hA
  have Hf := Lib.hid hf
  have Hx := Lib.hid hx
  have hl : zs.length = n := by have := hA.1; rw [ivals_len] at this; omega
  have Hl := Lib.hid hl
  clear hA hf hx hl
  go_enter Try.func22, Try.ntmps22
  go_wp2_with fail
  have HB : Hid (Blk (w.alloc (.cells #[.slice A n cap, .slice B nb capb, .int .i64 K, .int .i64 W, .int .i64 M] 40)) w.heap.size 40 #[.slice A n cap, .slice B nb capb, .int .i64 K, .int .i64 W, .int .i64 M]) := Blk.new _ _ _
  have Hb : Hid (Below w.heap.size w (w.alloc (.cells #[.slice A n cap, .slice B nb capb, .int .i64 K, .int .i64 W, .int .i64 M] 40))) := (Below.refl _ w).alloc (Nat.le_refl _) _
  obtain ⟨w1, Hw1⟩ : ∃ w1, Hid (w.alloc (.cells #[.slice A n cap, .slice B nb capb, .int .i64 K, .int .i64 W, .int .i64 M] 40) = w1) := ⟨_, rfl⟩
  rw [Hw1.out] at HB Hb
  rw [Hw1.out]
  obtain ⟨g, Hg⟩ : ∃ g, Hid (w.heap.size = g) := ⟨_, rfl⟩
  rw [Hg.out] at HB
  rw [Hg.out]
  have b0 := HB.out.cell 0
  simp only [List.getElem?_toArray, List.getElem?_cons_zero, List.getElem?_cons_succ] at b0
  go_loopw [5] (fun v5 wr => ∃ i : Nat, v5 = .int .i64 i ∧ i ≤ p ∧ w1 = wr) (fun v5 _ => p + 1 - (intOf v5).toNat)
  case atStart => exact ⟨0, rfl, Nat.zero_le _, rfl⟩
  case round =>
    obtain ⟨i, rfl, hi, rfl⟩ := hrel
    obtain ⟨gA, off, hA, hg, hc⟩ := HA.out.2 (by omega)
    subst hA
    have c0 : w1.cell? ⟨gA, off + i, none⟩ = some (.int .i64 (zs.getD i 0)) := (Hb.out.cell (p := ⟨gA, off + i, none⟩) hg).trans (hc i _ (ivals_at zs i (by rw [Hl.out]; omega)))
    clear hc
    by_cases hip : i = p
    · subst hip
      rw [Hx.out] at c0
      go_wp2_with fail
      go_ret
      exact ⟨rfl, Hb.out⟩
    · have hne := Hf.out i (by omega)
      generalize zs.getD i 0 = y at *
      have hb0 : (y == x) = false := by simpa using hne
      clear hne
      go_wp2_with fail
      exact ⟨⟨i + 1, by go_num, by omega, by first | rfl | trivial⟩, by simp [intOf]; omega⟩
end Go.Proofs.Ytpflhgidcjlcjaa
