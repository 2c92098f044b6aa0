/- All wear alike, in plain words: one line alone, written again and again. -/
import Derived.Test.YtpflhgidcjlcjaaW3
namespace Go.Proofs.Ytpflhgidcjlcjaa

/-- i writes of line x. -/
def wrs (x : Nat) (s : Lv) : Nat → Lv
  | 0 => s
  | i + 1 => wr (wrs x s i) x

/-- What holds behind W writes. -/
structure Turn (n k : Nat) (s : Lv) : Prop where
  N : s.N = n
  K : s.K = k
  M : s.M = s.W / k
  G : s.G = n - s.M % (n + 1)
  S : s.S = s.M / (n + 1) % n
  sum : s.worn.sum = s.W + s.M
  hit : ∀ p, p ≤ n → n - p < s.M → 1 ≤ s.worn.getD p 0

theorem div_succ_yes {a k : Nat} (hk : 1 ≤ k) (h : (a + 1) % k = 0) : (a + 1) / k = a / k + 1 := by
  obtain ⟨q, hq⟩ := Nat.dvd_of_mod_eq_zero h
  have h1 : (a + 1) / k = q := by rw [hq]; exact Nat.mul_div_cancel_left _ (by omega)
  have hq1 : 1 ≤ q := by
    rcases Nat.eq_zero_or_pos q with h0 | h0
    · subst h0; omega
    · exact h0
  obtain ⟨r, rfl⟩ : ∃ r, q = r + 1 := ⟨q - 1, by omega⟩
  have h2 : a / k = r := by
    have e : k * (r + 1) = k * r + k := Nat.mul_succ k r
    have e2 : r * k = k * r := Nat.mul_comm r k
    have e3 : (r + 1) * k = k * r + k := by rw [Nat.mul_comm]; exact e
    exact Nat.div_eq_of_lt_le (by omega) (by omega)
  rw [h1, h2]
theorem div_succ_no {a k : Nat} (hk : 1 ≤ k) (h : (a + 1) % k ≠ 0) : (a + 1) / k = a / k := by
  have h1 := Nat.div_add_mod (a + 1) k
  have h2 := Nat.mod_lt (a + 1) (show 0 < k by omega)
  have e2 : (a + 1) / k * k = k * ((a + 1) / k) := Nat.mul_comm _ _
  have e3 : ((a + 1) / k + 1) * k = k * ((a + 1) / k) + k := by rw [Nat.mul_comm]; exact Nat.mul_succ _ _
  exact (Nat.div_eq_of_lt_le (by omega) (by omega)).symm

theorem Turn.write {n k x : Nat} {s : Lv} (h : Turn n k s) (hf : Fine s) (hn : 1 ≤ n) (hk : 1 ≤ k) : Turn n k (wr s x) := by
  obtain ⟨N, K, S, G, W, M, wn⟩ := s
  obtain ⟨rfl, rfl, hM, hG, hS, hsum, hhit⟩ := h
  simp only at hM hG hS hsum hhit hn hk
  have hlen : wn.length = N + 1 := hf.len
  have hpl : place ⟨N, K, S, G, W, M, wn⟩ x ≤ N := place_le hf x
  generalize hp : place ⟨N, K, S, G, W, M, wn⟩ x = p at hpl
  have hs1 : (bump wn p).sum = W + M + 1 := by rw [sum_bump wn p (by omega), hsum]
  have hl1 : (bump wn p).length = N + 1 := by rw [bump_len, hlen]
  have hg1 : ∀ q, wn.getD q 0 ≤ (bump wn p).getD q 0 := fun q => bump_ge wn p q
  have e0 : wr0 ⟨N, K, S, G, W, M, wn⟩ x = ⟨N, K, S, G, W + 1, M, bump wn p⟩ := by unfold wr0; rw [hp]
  by_cases hm : (W + 1) % K = 0
  · have e1 : wr ⟨N, K, S, G, W, M, wn⟩ x = move ⟨N, K, S, G, W + 1, M, bump wn p⟩ := by rw [wr_yes (s := ⟨N, K, S, G, W, M, wn⟩) (show mvd _ from hm), e0]
    rw [e1]
    have hM1 : M + 1 = (W + 1) / K := by rw [div_succ_yes hk hm, hM]
    unfold move
    by_cases h0 : G = 0
    · simp only [if_pos h0]
      have hr := Nat.mod_lt M (show 0 < N + 1 by omega)
      have hr2 : M % (N + 1) = N := by omega
      have hz : (M + 1) % (N + 1) = 0 := by
        rw [Nat.add_mod, hr2]
        rcases Nat.eq_zero_or_pos N with hN | hN
        · omega
        · rw [Nat.mod_eq_of_lt (show 1 < N + 1 by omega)]; exact Nat.mod_self _
      have hd := div_succ_yes (show 1 ≤ N + 1 by omega) hz
      refine ⟨rfl, rfl, hM1, by simp only [hz]; omega, ?_, ?_, fun q hq hqm => ?_⟩
      · simp only
        rw [hS, hd, Nat.mod_add_mod]
      · simp only
        rw [sum_bump _ _ (by omega), hs1]
        omega
      · simp only at hqm ⊢
        have hge := bump_ge (bump wn p) 0 q
        by_cases h1 : N - q < M
        · have := hhit q hq h1
          have := hg1 q
          omega
        · have hMN : M ≤ N := by omega
          have hMN2 : M = N := by
            rw [Nat.mod_eq_of_lt (by omega)] at hr2
            exact hr2
          have hq0 : q = 0 := by omega
          subst hq0
          rw [bump_getD, if_pos ⟨rfl, by omega⟩]
          omega
    · simp only [if_neg h0]
      have hr := Nat.mod_lt M (show 0 < N + 1 by omega)
      have hne : (M + 1) % (N + 1) ≠ 0 := by
        have h1 : (M + 1) % (N + 1) = M % (N + 1) + 1 := by
          rw [Nat.add_mod, Nat.mod_eq_of_lt (show 1 < N + 1 by omega)]
          exact Nat.mod_eq_of_lt (by omega)
        omega
      have hmm : (M + 1) % (N + 1) = M % (N + 1) + 1 := by
        rw [Nat.add_mod, Nat.mod_eq_of_lt (show 1 < N + 1 by omega)]
        exact Nat.mod_eq_of_lt (by omega)
      have hd := div_succ_no (show 1 ≤ N + 1 by omega) hne
      refine ⟨rfl, rfl, hM1, by simp only [hmm]; omega, by simp only [hd]; exact hS, ?_, fun q hq hqm => ?_⟩
      · simp only
        rw [sum_bump _ _ (by omega), hs1]
        omega
      · simp only at hqm ⊢
        have hge := bump_ge (bump wn p) G q
        by_cases h1 : N - q < M
        · have := hhit q hq h1
          have := hg1 q
          omega
        · have hMN : M ≤ N := by omega
          rw [Nat.mod_eq_of_lt (show M < N + 1 by omega)] at hG
          have hqG : q = G := by omega
          subst hqG
          rw [bump_getD, if_pos ⟨rfl, by omega⟩]
          omega
  · have e1 : wr ⟨N, K, S, G, W, M, wn⟩ x = ⟨N, K, S, G, W + 1, M, bump wn p⟩ := by rw [wr_no (s := ⟨N, K, S, G, W, M, wn⟩) (show ¬ mvd _ from hm), e0]
    rw [e1]
    refine ⟨rfl, rfl, ?_, hG, hS, ?_, fun q hq hqm => ?_⟩
    · simp only
      rw [div_succ_no hk hm, hM]
    · simp only
      omega
    · have := hhit q hq hqm
      have := hg1 q
      simp only
      omega
theorem turn_new (n k : Nat) : Turn n k (new n k) := by
  refine ⟨rfl, rfl, by simp [new], by simp [new], by simp [new], ?_, fun p hp h => by simp [new] at h⟩
  simp [new]
theorem wrs_fine {x : Nat} {s : Lv} (h : Fine s) (i : Nat) : Fine (wrs x s i) := by
  induction i with
  | zero => exact h
  | succ i ih => exact ih.wr x
theorem wrs_turn {n k x : Nat} (h1 : 1 ≤ n) (h2 : n ≤ 65536) (h3 : 1 ≤ k) (h4 : k ≤ 65536) (i : Nat) : Turn n k (wrs x (new n k) i) := by
  induction i with
  | zero => exact turn_new n k
  | succ i ih => exact ih.write (wrs_fine (new_fine n k h1 h2 h3 h4) i) h1 h3
theorem wrs_W (x : Nat) (n k i : Nat) : (wrs x (new n k) i).W = i := by
  induction i with
  | zero => rfl
  | succ i ih => simp only [wrs]; rw [wr_W, ih]
theorem wrs_N (x : Nat) (n k i : Nat) : (wrs x (new n k) i).N = n := by
  induction i with
  | zero => rfl
  | succ i ih => simp only [wrs]; rw [wr_N, ih]
theorem leastTo_pos (l : List Nat) (z : Nat) (hz : 1 ≤ z) (i : Nat) (h : ∀ j, j < i → 1 ≤ l.getD j 0) : 1 ≤ leastTo l z i := by
  induction i with
  | zero => exact hz
  | succ i ih =>
    have h1 := ih (fun j hj => h j (by omega))
    have h2 := h i (by omega)
    simp only [leastTo]
    omega
/-- Behind all writes. -/
theorem turns_end {n k x many : Nat} (h1 : 1 ≤ n) (h2 : n ≤ 65536) (h3 : 1 ≤ k) (h4 : k ≤ 65536) (hm : many = k * n * (n + 1)) :
    (wrs x (new n k) many).M = many / k ∧ (wrs x (new n k) many).G = n ∧ (wrs x (new n k) many).S = 0 ∧ (wrs x (new n k) many).worn.sum = many + many / k ∧
      1 ≤ leastTo (wrs x (new n k) many).worn ((wrs x (new n k) many).worn.getD 0 0) (n + 1) := by
  have ht := wrs_turn (x := x) h1 h2 h3 h4 many
  have hW := wrs_W x n k many
  have hM := ht.M
  rw [hW] at hM
  have hd : many / k = n * (n + 1) := by rw [hm, Nat.mul_assoc]; exact Nat.mul_div_cancel_left _ (by omega)
  have hM2 := hM
  rw [hd] at hM2
  have hz : n * (n + 1) % (n + 1) = 0 := Nat.mul_mod_left _ _
  have hq : n * (n + 1) / (n + 1) = n := Nat.mul_div_cancel _ (by omega)
  have hge : n + 1 ≤ n * (n + 1) := Nat.le_mul_of_pos_left _ (by omega)
  have hall : ∀ j, j < n + 1 → 1 ≤ (wrs x (new n k) many).worn.getD j 0 := fun j hj => ht.hit j (by omega) (by rw [hM2]; omega)
  refine ⟨hM, ?_, ?_, ?_, ?_⟩
  · rw [ht.G, hM2, hz]; omega
  · rw [ht.S, hM2, hq]; exact Nat.mod_self n
  · rw [ht.sum, hW, hM]
  · exact leastTo_pos _ _ (hall 0 (by omega)) _ hall
end Go.Proofs.Ytpflhgidcjlcjaa
