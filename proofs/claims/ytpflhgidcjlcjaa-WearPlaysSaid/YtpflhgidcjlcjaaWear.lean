/- A leveller in plain words. -/
import Derived.RowKit
namespace Go.Proofs.Ytpflhgidcjlcjaa

/-- Lines, every, start, gap, writes, moves, and how often each place was written. -/
structure Lv where
  N : Nat
  K : Nat
  S : Nat
  G : Nat
  W : Nat
  M : Nat
  worn : List Nat
def bump (l : List Nat) (i : Nat) : List Nat := l.set i (l.getD i 0 + 1)
/-- Where a line is. -/
def place (s : Lv) (x : Nat) : Nat := if s.G ≤ (x + s.S) % s.N then (x + s.S) % s.N + 1 else (x + s.S) % s.N
def frm (s : Lv) : Nat := if s.G = 0 then s.N else s.G - 1
def move (s : Lv) : Lv :=
  if s.G = 0 then ⟨s.N, s.K, (s.S + 1) % s.N, s.N, s.W, s.M + 1, bump s.worn 0⟩
  else ⟨s.N, s.K, s.S, s.G - 1, s.W, s.M + 1, bump s.worn s.G⟩
/-- A line is written; nothing moves yet. -/
def wr0 (s : Lv) (x : Nat) : Lv := ⟨s.N, s.K, s.S, s.G, s.W + 1, s.M, bump s.worn (place s x)⟩
def wr (s : Lv) (x : Nat) : Lv := if (s.W + 1) % s.K = 0 then move (wr0 s x) else wr0 s x
def new (N K : Nat) : Lv := ⟨N, K, 0, N, 0, 0, List.replicate (N + 1) 0⟩

structure Fine (s : Lv) : Prop where
  n1 : 1 ≤ s.N
  n2 : s.N ≤ 65536
  k1 : 1 ≤ s.K
  k2 : s.K ≤ 65536
  st : s.S < s.N
  gp : s.G ≤ s.N
  len : s.worn.length = s.N + 1
  wb : ∀ i, s.worn.getD i 0 ≤ s.W + s.M
  mb : s.M ≤ s.W

theorem bump_len (l : List Nat) (i : Nat) : (bump l i).length = l.length := by simp [bump]
theorem bump_getD (l : List Nat) (i j : Nat) : (bump l i).getD j 0 = if i = j ∧ i < l.length then l.getD i 0 + 1 else l.getD j 0 := by
  unfold bump
  simp only [List.getD_eq_getElem?_getD, List.getElem?_set]
  by_cases h : i = j
  · subst h
    by_cases h2 : i < l.length
    · simp [h2]
    · simp [h2]
  · simp [h]
theorem bump_le (l : List Nat) (i j : Nat) : (bump l i).getD j 0 ≤ l.getD j 0 + 1 := by
  rw [bump_getD]
  split
  · rename_i h; rw [h.1]; exact Nat.le_refl _
  · omega
theorem bump_ge (l : List Nat) (i j : Nat) : l.getD j 0 ≤ (bump l i).getD j 0 := by
  rw [bump_getD]
  split
  · rename_i h; rw [h.1]; exact Nat.le_succ _
  · omega
theorem sum_bump (l : List Nat) (i : Nat) (h : i < l.length) : (bump l i).sum = l.sum + 1 := by
  unfold bump
  induction l generalizing i with
  | nil => simp at h
  | cons a l ih =>
    cases i with
    | zero => simp; omega
    | succ i =>
      have := ih i (by simpa using h)
      simp only [List.set_cons_succ, List.sum_cons, List.getD_cons_succ]
      omega

theorem place_le {s : Lv} (h : Fine s) (x : Nat) : place s x ≤ s.N := by
  have := Nat.mod_lt (x + s.S) (Nat.lt_of_lt_of_le Nat.zero_lt_one h.n1)
  unfold place
  split <;> omega
theorem Fine.wr0 {s : Lv} (h : Fine s) (x : Nat) : Fine (wr0 s x) := by
  refine ⟨h.n1, h.n2, h.k1, h.k2, h.st, h.gp, ?_, fun i => ?_, ?_⟩
  · simp only [Go.Proofs.Ytpflhgidcjlcjaa.wr0]; rw [bump_len]; exact h.len
  · have h1 := bump_le s.worn (place s x) i
    have h2 := h.wb i
    simp only [Go.Proofs.Ytpflhgidcjlcjaa.wr0]
    omega
  · have := h.mb
    simp only [Go.Proofs.Ytpflhgidcjlcjaa.wr0]
    omega
theorem Fine.move {s : Lv} (h : Fine s) (hm : s.M < s.W) : Fine (move s) := by
  unfold Go.Proofs.Ytpflhgidcjlcjaa.move
  have hn := h.n1
  split
  · refine ⟨h.n1, h.n2, h.k1, h.k2, Nat.mod_lt _ (by omega), Nat.le_refl _, ?_, fun i => ?_, ?_⟩
    · simp only; rw [bump_len]; exact h.len
    · have h1 := bump_le s.worn 0 i
      have h2 := h.wb i
      simp only
      omega
    · simp only; omega
  · refine ⟨h.n1, h.n2, h.k1, h.k2, h.st, by have := h.gp; simp only; omega, ?_, fun i => ?_, ?_⟩
    · simp only; rw [bump_len]; exact h.len
    · have h1 := bump_le s.worn s.G i
      have h2 := h.wb i
      simp only
      omega
    · simp only; omega
theorem Fine.wr {s : Lv} (h : Fine s) (x : Nat) : Fine (wr s x) := by
  unfold Go.Proofs.Ytpflhgidcjlcjaa.wr
  have h0 := h.wr0 x
  split
  · exact h0.move (by have := h.mb; simp only [Go.Proofs.Ytpflhgidcjlcjaa.wr0]; omega)
  · exact h0
theorem new_fine (N K : Nat) (h1 : 1 ≤ N) (h2 : N ≤ 65536) (h3 : 1 ≤ K) (h4 : K ≤ 65536) : Fine (new N K) := by
  refine ⟨h1, h2, h3, h4, h1, Nat.le_refl _, by simp [new], fun i => ?_, Nat.le_refl _⟩
  simp only [new, List.getD_eq_getElem?_getD, List.getElem?_replicate]
  split <;> simp
theorem wr_N (s : Lv) (x : Nat) : (wr s x).N = s.N := by
  unfold wr move wr0
  split
  · split <;> rfl
  · rfl
theorem wr_K (s : Lv) (x : Nat) : (wr s x).K = s.K := by
  unfold wr move wr0
  split
  · split <;> rfl
  · rfl
theorem wr_W (s : Lv) (x : Nat) : (wr s x).W = s.W + 1 := by
  unfold wr move wr0
  split
  · split <;> rfl
  · rfl
end Go.Proofs.Ytpflhgidcjlcjaa
