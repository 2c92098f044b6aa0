/- Plain law of the cycle. -/
import Derived.Test.YtcnjipicifkfjaaGreatRm30
import Derived.Test.YtcnjipicifkfjaaGreatRm27

namespace Go.Proofs.YtcnjipicifkfjaaGreat
open Go.RowKit
set_option linter.unusedVariables false
set_option linter.unusedSimpArgs false

/-- What shading leaves, from an empty marker. -/
structure ShI (used : Nat → Bool) (l : List Nat) (C : CS) : Prop where
  mq : ∀ x, C.mkd x = (used x && decide (x ∈ l))
  sc : ∀ x, C.sc x = false
  nd : C.stk.Nodup
  st : ∀ x ∈ C.stk, C.mkd x = true
  cov : C.again = false → ∀ x, C.mkd x = true → x ∈ C.stk
theorem ShI.step {used : Nat → Bool} {l : List Nat} {C : CS} (h : ShI used l C) (a : Nat) : ShI used (l ++ [a]) (shadeC used C a) := by
  unfold shadeC
  by_cases hc : (used a && !C.mkd a) = true
  · rw [if_pos hc]
    rw [Bool.and_eq_true, Bool.not_eq_true'] at hc
    have hna : a ∉ C.stk := fun h1 => by rw [h.st a h1] at hc; cases hc.2
    refine ⟨fun x => ?_, h.sc, ?_, fun x hx => ?_, fun hg x hx => ?_⟩
    · show addS C.mkd a x = _
      unfold addS
      rw [h.mq x]
      by_cases e : x = a
      · subst e; rw [hc.1]; simp
      · simp [e]
    · show (if C.stk.length < C.most then C.stk ++ [a] else C.stk).Nodup
      split
      · exact List.nodup_append.2 ⟨h.nd, by simp, fun x hx y hy e => by rw [List.mem_singleton.1 hy] at e; exact hna (e ▸ hx)⟩
      · exact h.nd
    · have hx : x ∈ (if C.stk.length < C.most then C.stk ++ [a] else C.stk) := hx
      show addS C.mkd a x = true
      unfold addS
      have h2 : x ∈ C.stk ∨ x = a := by
        split at hx
        · rcases List.mem_append.1 hx with h1 | h1
          · exact .inl h1
          · exact .inr (List.mem_singleton.1 h1)
        · exact .inl hx
      rcases h2 with h2 | h2
      · rw [h.st x h2]; rfl
      · rw [decide_eq_true h2]; simp
    · have hg : (if C.stk.length < C.most then C.again else true) = false := hg
      have hx : addS C.mkd a x = true := hx
      show x ∈ (if C.stk.length < C.most then C.stk ++ [a] else C.stk)
      split at hg
      · rename_i hl
        rw [if_pos hl]
        unfold addS at hx
        rcases Bool.or_eq_true_iff.1 hx with h1 | h1
        · exact List.mem_append_left _ (h.cov hg x h1)
        · exact List.mem_append_right _ (List.mem_singleton.2 (of_decide_eq_true h1))
      · cases hg
  · rw [if_neg hc]
    refine ⟨fun x => ?_, h.sc, h.nd, h.st, h.cov⟩
    rw [h.mq x]
    by_cases e : x = a
    · subst e
      cases hu : used x with
      | false => rfl
      | true =>
        rw [hu] at hc
        have : C.mkd x = true := by
          cases hm : C.mkd x with
          | true => rfl
          | false => rw [hm] at hc; exact absurd rfl hc
        rw [h.mq x, hu] at this
        have h3 : x ∈ l := by simpa using this
        simp [h3]
    · simp [e]
theorem shI_any {used : Nat → Bool} {C : CS} (h : ShI used [] C) (l : List Nat) : ∀ j, j ≤ l.length → ShI used (l.take j) (shN used C l j).1 := by
  intro j
  induction j with
  | zero => exact fun _ => h
  | succ j ih =>
    intro hj
    show ShI used (l.take (j + 1)) (shadeC used (shN used C l j).1 (l.getD j 0))
    rw [take_snoc_ l j (by omega)]
    exact (ih (by omega)).step _
/-- How many objects are grey. -/
def gr (C : CS) (N : Nat) : Nat := (setTo (fun x => C.mkd x && !C.sc x) N).length
theorem gr_add {C : CS} {N x : Nat} (h1 : C.mkd x = true) (h2 : C.sc x = false) (hx : x < N) (C' : CS) (hm : C'.mkd = C.mkd) (hs : C'.sc = addS C.sc x) : gr C' N + 1 ≤ gr C N := by
  unfold gr
  have hn : (x :: setTo (fun x => C'.mkd x && !C'.sc x) N).Nodup := List.nodup_cons.2 ⟨fun h => by
    have := (setTo_mem.1 h).2
    rw [hs] at this
    simp [addS] at this, setTo_nodup _ _⟩
  have := nodup_le _ (setTo (fun x => C.mkd x && !C.sc x) N) hn (fun y hy => by
    rcases List.mem_cons.1 hy with rfl | hy
    · exact setTo_mem.2 ⟨hx, by rw [h1, h2]; rfl⟩
    · obtain ⟨g1, g2⟩ := setTo_mem.1 hy
      rw [hm, hs] at g2
      refine setTo_mem.2 ⟨g1, ?_⟩
      simp only [addS, Bool.and_eq_true, Bool.not_eq_true', Bool.or_eq_false_iff] at g2 ⊢
      exact ⟨g2.1, g2.2.1⟩)
  rw [List.length_cons] at this
  exact this
theorem gr_same {C C' : CS} (h1 : C'.mkd = C.mkd) (h2 : C'.sc = C.sc) {N : Nat} : gr C' N = gr C N := by unfold gr; rw [h1, h2]
def b2n (b : Bool) : Nat := if b then 1 else 0
/-- The marking phase: n steps are enough from here to the end. -/
structure CI1 (S0 : HS) (C : CS) (n M : Nat) : Prop where
  ph : C.phase = 1
  cy : C.cycles = S0.C.cycles
  mo : C.most = S0.C.most
  mi : C.missed ≤ 100
  mq : ∀ x, C.mkd x = (S0.A.used x && decide (x ∈ rootsS S0))
  sm : ∀ x, C.sc x = true → C.mkd x = true
  st : ∀ x ∈ C.stk, C.mkd x = true ∧ C.sc x = false
  nd : C.stk.Nodup
  cov : C.again = false → ∀ x, C.mkd x = true → C.sc x = false → x ∈ C.stk ∨ C.cur ≤ x
  cu : C.cur ≤ 1536
  le : gr C 1536 + b2n C.again + 3 ≤ n
  ns : C.steps + n ≤ M
/-- The sweeping phase. -/
structure CI2 (S0 : HS) (m d : Nat) (S : HS) (s : DS) (n M : Nat) : Prop where
  e : S = { S0 with A := S.A, C := S.C }
  ph : S.C.phase = 2
  cy : S.C.cycles = S0.C.cycles
  mo : S.C.most = S0.C.most
  st : S.C.stk = []
  mq : ∀ x, S.C.mkd x = (S0.A.used x && decide (x ∈ rootsS S0))
  sm : ∀ x, S.C.sc x = true → S.C.mkd x = true
  b1 : 1 ≤ S.C.blk
  b2 : S.C.blk < 3
  ai : AI s m d S.A
  l : s.Live
  us : ∀ x, S.A.used x = (S0.A.used x && (decide (x ∈ rootsS S0) || decide (S.C.blk * 512 ≤ x)))
  go : S.C.gone.length ≤ 600 * S.C.blk
  le : 3 ≤ n + S.C.blk
  ns : S.C.steps + n ≤ M
/-- The cycle's end. -/
structure CFin (S0 : HS) (m d : Nat) (S : HS) (s : DS) : Prop where
  e : S = { S0 with A := S.A, C := S.C }
  ph : S.C.phase = 0
  cy : S.C.cycles = S0.C.cycles + 1
  mo : S.C.most = S0.C.most
  st : S.C.stk = []
  ai : AI s m d S.A
  l : s.Live
  us : ∀ x, S.A.used x = (S0.A.used x && decide (x ∈ rootsS S0))
/-- Before a cycle. -/
structure CI0 (S0 : HS) (m d : Nat) (s0 : DS) : Prop where
  ph : S0.C.phase = 0
  st : S0.C.stk = []
  mo : S0.C.most ≤ 10000
  cy : S0.C.cycles ≤ 1000000
  ws : S0.ws.length = 8
  rl : (rootsS S0).length ≤ 100
  rx : ∀ x ∈ rootsS S0, x ≤ 1000000
  ai : AI s0 m d S0.A
  l : s0.Live
theorem AI.lt {s : DS} {m d x : Nat} {S : AS} (h : AI s m d S) (hx : S.used x = true) : 512 ≤ x ∧ x < 1536 := by
  obtain ⟨_, bl, i, h1, _⟩ := h.us x hx
  have := h1.fit
  have := h1.b
  have := h1.b0
  have := h1.e
  omega
theorem ci_begin {S0 : HS} {m d : Nat} {s0 : DS} (h : CI0 S0 m d s0) (n : Nat) (hn : (setTo S0.A.used 1536).length + 5 ≤ n + 1) :
    CI1 S0 { (shN S0.A.used (S0.C.clr S0.A.K) (rootsS S0) (rootsS S0).length).1 with phase := 1, steps := 1 } n (n + 1) := by
  have h0 : ShI S0.A.used [] (S0.C.clr S0.A.K) := ⟨fun x => by simp [CS.clr], fun _ => rfl, List.nodup_nil, fun x hx => by simp [CS.clr] at hx, fun _ x hx => by simp [CS.clr] at hx⟩
  have h1 := shI_any h0 (rootsS S0) (rootsS S0).length (Nat.le_refl _)
  obtain ⟨b1, b2, b3, b4, b5, b6, b7, b8, b9, b10⟩ := shN_bd S0.A.used (S0.C.clr S0.A.K) (rootsS S0) (rootsS S0).length
  rw [List.take_of_length_le (Nat.le_refl _)] at h1
  generalize (shN S0.A.used (S0.C.clr S0.A.K) (rootsS S0) (rootsS S0).length).1 = C at *
  have hK := h.ai.kk
  have hrl := h.rl
  have hgr : gr { C with phase := 1, steps := 1 } 1536 ≤ (setTo S0.A.used 1536).length := by
    refine nodup_le _ _ (setTo_nodup _ _) (fun x hx => ?_)
    obtain ⟨g1, g2⟩ := setTo_mem.1 hx
    have g2 : (C.mkd x && !C.sc x) = true := g2
    rw [h1.mq x] at g2
    simp only [Bool.and_eq_true] at g2
    exact setTo_mem.2 ⟨g1, g2.1.1⟩
  have hb : b2n C.again ≤ 1 := by unfold b2n; split <;> omega
  refine ⟨rfl, b5, b3, ?_, h1.mq, fun x hx => (by have hx : C.sc x = true := hx; rw [h1.sc x] at hx; cases hx), fun x hx => ⟨h1.st x hx, h1.sc x⟩, h1.nd, fun hg x hx _ => .inl (h1.cov hg x hx), ?_, ?_, ?_⟩
  · show C.missed ≤ 100
    have : (S0.C.clr S0.A.K).missed = 0 := rfl
    omega
  · show C.cur ≤ 1536
    have : (S0.C.clr S0.A.K).cur = 512 * S0.A.K := rfl
    omega
  · show gr { C with phase := 1, steps := 1 } 1536 + b2n C.again + 3 ≤ n
    omega
  · show 1 + n ≤ n + 1
    omega
theorem sm_add {C : CS} {x : Nat} (hx : C.mkd x = true) (h : ∀ x, C.sc x = true → C.mkd x = true) (y : Nat) (hy : addS C.sc x y = true) : C.mkd y = true := by
  unfold addS at hy
  rcases Bool.or_eq_true_iff.1 hy with h1 | h1
  · exact h y h1
  · rw [of_decide_eq_true h1]; exact hx
theorem ci_mark {S0 : HS} {m d n M : Nat} {s0 : DS} {C C' : CS} (h0 : CI0 S0 m d s0) (h : CI1 S0 C n M) (hs : Step1 C C') : ∃ n', n' + 1 = n ∧ (CI1 S0 C' n' M ∨ CI2 S0 m d { S0 with C := C' } s0 n' M) := by
  have hle := h.le
  have hns := h.ns
  have hlt : ∀ x, C.mkd x = true → x < 1536 := fun x hx => by
    rw [h.mq x, Bool.and_eq_true] at hx
    exact (h0.ai.lt hx.1).2
  obtain ⟨n', rfl⟩ : ∃ n', n = n' + 1 := ⟨n - 1, by omega⟩
  refine ⟨n', rfl, ?_⟩
  obtain ⟨r, C2, hR, rfl⟩ := hs
  cases r with
  | false =>
    right
    obtain ⟨g1, g2, g3, rfl⟩ := hR.no
    have g1 : C.stk = [] := g1
    refine ⟨rfl, rfl, h.cy, h.mo, g1, h.mq, h.sm, Nat.le_refl _, by show 1 < 3; omega, h0.ai, h0.l, fun x => ?_, by show 0 ≤ _; omega, by show 3 ≤ n' + 1; omega, by show (C.steps + 1) + n' ≤ M; omega⟩
    show S0.A.used x = (S0.A.used x && (decide (x ∈ rootsS S0) || decide (1 * 512 ≤ x)))
    cases hu : S0.A.used x with
    | false => rfl
    | true =>
      have := h0.ai.lt hu
      rw [decide_eq_true (by omega : 1 * 512 ≤ x)]
      simp
  | true =>
    left
    rcases hR with ⟨l, x, g1, g2, g3, _, rfl⟩ | ⟨g1, x, g2, _, rfl⟩ | ⟨g1, g2, g3, _, rfl⟩ | ⟨_, _, _, g, _⟩
    · have g1 : C.stk = l ++ [x] := g1
      have g2 : C.mkd x = true := g2
      have g3 : C.sc x = false := g3
      have hnd := h.nd
      rw [g1] at hnd
      have hnd := List.nodup_append.1 hnd
      have hgr := gr_add (N := 1536) g2 g3 (hlt x g2) { C with steps := C.steps + 1, stk := l, sc := addS C.sc x } rfl rfl
      refine ⟨h.ph, h.cy, h.mo, h.mi, h.mq, fun y hy => (sm_add g2 h.sm y hy), fun y hy => ?_, hnd.1, fun hg y hy hsy => ?_, h.cu, ?_, ?_⟩
      · have hy2 : y ∈ C.stk := by rw [g1]; exact List.mem_append_left _ hy
        have := h.st y hy2
        refine ⟨this.1, ?_⟩
        show addS C.sc x y = false
        unfold addS
        rw [this.2, decide_eq_false (fun e => hnd.2.2 y hy x (List.mem_singleton.2 rfl) e)]
        rfl
      · have hsy : addS C.sc x y = false := hsy
        unfold addS at hsy
        rw [Bool.or_eq_false_iff, decide_eq_false_iff_not] at hsy
        rcases h.cov hg y hy hsy.1 with h1 | h1
        · rw [g1] at h1
          rcases List.mem_append.1 h1 with h1 | h1
          · exact .inl h1
          · exact absurd (List.mem_singleton.1 h1) hsy.2
        · exact .inr h1
      · show gr { C with steps := C.steps + 1, stk := l, sc := addS C.sc x } 1536 + b2n C.again + 3 ≤ n'
        omega
      · show (C.steps + 1) + n' ≤ M
        omega
    · have g1 : C.stk = [] := g1
      obtain ⟨q1, q2, q3, q4⟩ := g2
      have q1 : C.cur ≤ x := q1
      have q2 : C.mkd x = true := q2
      have q3 : C.sc x = false := q3
      have q4 : ∀ j, C.cur ≤ j → j < x → C.mkd j = true → C.sc j = true := q4
      have hx := hlt x q2
      have hgr := gr_add (N := 1536) q2 q3 hx { C with steps := C.steps + 1, cur := x + 1, sc := addS C.sc x } rfl rfl
      refine ⟨h.ph, h.cy, h.mo, h.mi, h.mq, fun y hy => (sm_add q2 h.sm y hy), fun y hy => ?_, h.nd, fun hg y hy hsy => ?_, ?_, ?_, ?_⟩
      · have hy : y ∈ C.stk := hy
        rw [g1] at hy; simp at hy
      · have hsy : addS C.sc x y = false := hsy
        unfold addS at hsy
        rw [Bool.or_eq_false_iff, decide_eq_false_iff_not] at hsy
        right
        show x + 1 ≤ y
        rcases h.cov hg y hy hsy.1 with h1 | h1
        · rw [g1] at h1; simp at h1
        · by_cases e : y < x
          · rw [q4 y h1 e hy] at hsy; cases hsy.1
          · omega
      · show x + 1 ≤ 1536
        omega
      · show gr { C with steps := C.steps + 1, cur := x + 1, sc := addS C.sc x } 1536 + b2n C.again + 3 ≤ n'
        omega
      · show (C.steps + 1) + n' ≤ M
        omega
    · have g1 : C.stk = [] := g1
      have g3 : C.again = true := g3
      rw [g3] at hle
      have : b2n true = 1 := rfl
      refine ⟨h.ph, h.cy, h.mo, h.mi, h.mq, h.sm, h.st, h.nd, fun hg y hy hsy => .inr (Nat.zero_le _), Nat.zero_le _, ?_, ?_⟩
      · have e : ∀ C2 : CS, C2.mkd = C.mkd → C2.sc = C.sc → C2.again = false → gr C2 1536 + b2n C2.again + 3 ≤ n' := fun C2 e1 e2 e3 => by
          rw [gr_same e1 e2, e3]
          have : b2n false = 0 := rfl
          omega
        exact e _ rfl rfl rfl
      · show (C.steps + 1) + n' ≤ M
        omega
    · cases g
theorem whL_len (used : Nat → Bool) (C : CS) (bl : Nat) (h : ∀ x, used x = true → x < 1536) : (whL used C bl).length ≤ 512 := by
  have := nodup_le (whL used C bl) ((List.range 512).map (bl * 512 + ·)) (setTo_nodup _ _) (fun x hx => by
    obtain ⟨_, h1, h2, _⟩ := whL_used hx
    exact List.mem_map.2 ⟨x - bl * 512, List.mem_range.2 (by omega), by omega⟩)
  rwa [List.length_map, List.length_range] at this
theorem whL_mem {used : Nat → Bool} {C : CS} {blk x : Nat} (hsm : C.sc x = true → C.mkd x = true) : x ∈ whL used C blk ↔ used x = true ∧ blk * 512 ≤ x ∧ x < blk * 512 + 512 ∧ C.mkd x = false := by
  refine ⟨whL_used, fun ⟨h1, h2, h3, h4⟩ => ?_⟩
  unfold whL
  refine setTo_mem.2 ⟨h3, ?_⟩
  unfold whS
  have h5 : C.sc x = false := by
    cases e : C.sc x with
    | false => rfl
    | true => rw [hsm e] at h4; cases h4
  rw [h1, h4, h5, decide_eq_true h2]
  rfl
set_option maxRecDepth 10000 in
/-- A step of the sweeping phase. -/
theorem ci_sweep {S0 : HS} {m d n M : Nat} {s0 s : DS} {S : HS} (h0 : CI0 S0 m d s0) (h : CI2 S0 m d S s n M) :
    ∃ A2 s2, TrimR s (freesA S.A (whL S.A.used S.C S.C.blk) (whL S.A.used S.C S.C.blk).length) S.C.blk A2 s2 ∧ A2.K = S.A.K ∧ ∃ n', n' + 1 = n ∧ ((CI2 S0 m d (Step2 S A2) s2 n' M ∧ (Step2 S A2).C.blk = S.C.blk + 1) ∨ CFin S0 m d (Step2 S A2) s2) := by
  have hle := h.le
  have hns := h.ns
  have hb1 := h.b1
  have hb2 := h.b2
  have hK := h.ai.kk
  have hrl := h.go
  obtain ⟨A2, s2, hT, hA, hl, hu⟩ := h.ai.sweep h.l S.C hb1 hb2
  obtain ⟨n', rfl⟩ : ∃ n', n = n' + 1 := ⟨n - 1, by omega⟩
  refine ⟨A2, s2, hT, by rw [hA.kk, hK], n', rfl, ?_⟩
  have hw := whL_len S.A.used S.C S.C.blk (fun x hx => (h.ai.lt hx).2)
  have hu2 : ∀ x, A2.used x = (S0.A.used x && (decide (x ∈ rootsS S0) || decide ((S.C.blk + 1) * 512 ≤ x))) := by
    intro x
    have hm : x ∈ whL S.A.used S.C S.C.blk ↔ _ := whL_mem (h.sm x)
    rw [hu x]
    cases hx : S.A.used x with
    | false =>
      have h1 := h.us x
      rw [hx] at h1
      cases h2 : S0.A.used x with
      | false => rw [Bool.false_and, Bool.false_and]
      | true =>
        rw [h2] at h1
        have h1 : (decide (x ∈ rootsS S0) || decide (S.C.blk * 512 ≤ x)) = false := h1.symm
        rw [Bool.or_eq_false_iff, decide_eq_false_iff_not, decide_eq_false_iff_not] at h1
        rw [decide_eq_false h1.1, decide_eq_false (by omega : ¬ (S.C.blk + 1) * 512 ≤ x)]
        rfl
    | true =>
      have h1 := h.us x
      rw [hx] at h1
      have h1 := h1.symm
      rw [Bool.and_eq_true] at h1
      have hmk := h.mq x
      rw [h1.1] at hmk
      rw [h1.1]
      have h12 := h1.2
      rw [Bool.or_eq_true, decide_eq_true_eq, decide_eq_true_eq] at h12
      by_cases hr : x ∈ rootsS S0
      · have : ¬ x ∈ whL S.A.used S.C S.C.blk := fun e => by
          have := (hm.1 e).2.2.2
          rw [hmk, decide_eq_true hr] at this
          cases this
        rw [decide_eq_false this, decide_eq_true hr]
        rfl
      · have h3 : S.C.blk * 512 ≤ x := h12.resolve_left hr
        by_cases h4 : x < S.C.blk * 512 + 512
        · have : x ∈ whL S.A.used S.C S.C.blk := hm.2 ⟨hx, h3, h4, by rw [hmk, decide_eq_false hr]; rfl⟩
          rw [decide_eq_true this, decide_eq_false hr, decide_eq_false (by omega : ¬ (S.C.blk + 1) * 512 ≤ x)]
          rfl
        · have : ¬ x ∈ whL S.A.used S.C S.C.blk := fun e => h4 (hm.1 e).2.2.1
          rw [decide_eq_false this, decide_eq_false hr, decide_eq_true (by omega : (S.C.blk + 1) * 512 ≤ x)]
          rfl
  have he : Step2 S A2 = { S0 with A := (Step2 S A2).A, C := (Step2 S A2).C } := by
    have := h.e
    unfold Step2
    rw [this]
  have hph : (Step2 S A2).C.phase = if S.A.K ≤ S.C.blk + 1 then 0 else 2 := rfl
  have hcy : (Step2 S A2).C.cycles = if S.A.K ≤ S.C.blk + 1 then S.C.cycles + 1 else S.C.cycles := rfl
  by_cases hlast : S.A.K ≤ S.C.blk + 1
  · right
    rw [if_pos hlast] at hph hcy
    refine ⟨he, hph, by rw [hcy, h.cy], h.mo, h.st, hA, hl, fun x => ?_⟩
    have h1 := hu2 x
    rw [show (Step2 S A2).A = A2 from rfl, h1]
    cases hx : S0.A.used x with
    | false => rfl
    | true =>
      have := h0.ai.lt hx
      rw [decide_eq_false (by omega : ¬ (S.C.blk + 1) * 512 ≤ x), Bool.or_false]
  · left
    rw [if_neg hlast] at hph hcy
    refine ⟨⟨he, hph, by rw [hcy, h.cy], h.mo, h.st, h.mq, h.sm, by show 1 ≤ S.C.blk + 1; omega, by show S.C.blk + 1 < 3; omega, hA, hl, hu2, ?_, ?_, ?_⟩, rfl⟩
    · show (S.C.gone ++ whL S.A.used S.C S.C.blk).length ≤ 600 * (S.C.blk + 1)
      rw [List.length_append]
      omega
    · show 3 ≤ n' + (S.C.blk + 1)
      omega
    · show (S.C.steps + 1) + n' ≤ M
      omega
end Go.Proofs.YtcnjipicifkfjaaGreat

/- cycle: Step along the cycle; Run. -/
namespace Go.Proofs.YtcnjipicifkfjaaGreat
open Go.RowKit
set_option linter.unusedVariables false
set_option linter.unusedSimpArgs false

/-- Within the cycle: n of M steps are enough to the end. -/
def CIs (S0 : HS) (m d : Nat) (s0 : DS) (S : HS) (s : DS) (n M : Nat) : Prop :=
  (S = S0 ∧ s = s0 ∧ (setTo S0.A.used 1536).length + 5 ≤ n ∧ n = M) ∨ (∃ C, S = { S0 with C := C } ∧ s = s0 ∧ CI1 S0 C n M) ∨ CI2 S0 m d S s n M
theorem CIs.pos {S0 : HS} {m d : Nat} {s0 : DS} {S : HS} {s : DS} {n M : Nat} (h : CIs S0 m d s0 S s n M) : 1 ≤ n := by
  rcases h with ⟨_, _, h, _⟩ | ⟨C, _, _, h⟩ | h
  · omega
  · have := h.le; omega
  · have := h.le; have := h.b2; omega
theorem CIs.cy {S0 : HS} {m d : Nat} {s0 : DS} {S : HS} {s : DS} {n M : Nat} (h : CIs S0 m d s0 S s n M) : S.C.cycles = S0.C.cycles := by
  rcases h with ⟨rfl, _, h, _⟩ | ⟨C, rfl, _, h⟩ | h
  · rfl
  · exact h.cy
  · exact h.cy
theorem cyc_step (B : Nat) (b : DB) (m : Nat) (s s0 : DS) (col : Nat → Nat) (hp al mp us fr rt hl ca sh d n M : Nat) (S S0 : HS) (mk sw m1 m2 sk cap gcap : Nat) (A G : Option Addr) (w : World) (h0 : CI0 S0 m d s0) (hd : d ≤ 60) (hM : M ≤ 100000)
    (h : HC w B b m s col hp al mp us fr rt hl ca sh S mk sw m1 m2 sk A cap G gcap) (hn : ∀ k, w.heap.size ≤ k → col k = 9) (hI : CIs S0 m d s0 S s (n + 1) M) :
    Calls Tryz.prog 110 #[.pointer (some ⟨ca, 0, none⟩)] w fun e w' => e = .returned (.int .i64 0) ∧ ∃ S' s' A' cap' G' gcap' col', (∀ k, k < w.heap.size → col' k = col k) ∧ (∀ k, w'.heap.size ≤ k → col' k = 9) ∧
      HC w' B b m s' col' hp al mp us fr rt hl ca sh S' mk sw m1 m2 sk A' cap' G' gcap' ∧ (CIs S0 m d s0 S' s' n M ∨ CFin S0 m d S' s') ∧ Mod w w' (fun k => hcol (col k)) := by
  have hK := h0.ai.kk
  have hcb := h.y.cb
  have hcm := h.y.x.cb
  have hcs := h.y.x.cs
  have hcw := h.y.cw
  have hF : ∀ k, mfp col mk sk k ∨ k = ca ∨ k = sw → hcol (col k) := by
    rintro k (e | rfl | rfl)
    · have := e.cc hcm hcs; unfold hcol; omega
    · unfold hcol; omega
    · unfold hcol; omega
  rcases hI with ⟨rfl, rfl, h1, h2⟩ | ⟨C, rfl, rfl, h1⟩ | h1
  · refine (cstep_0 B b m s col hp al mp us fr rt hl ca sh S mk sw m1 m2 sk cap gcap A G w h hn h0.ph h0.st h0.ws h0.mo h0.rx).mono ?_
    rintro e w' ⟨rfl, A', cap', col', hc, hn', hX, hMd⟩
    refine ⟨rfl, _, s, A', cap', G, gcap, col', hc, hn', hX, .inl (.inr (.inl ⟨_, rfl, rfl, ?_⟩)), hMd.mono (fun k _ e => hF k (e.imp id .inl))⟩
    rw [← h2]
    exact ci_begin h0 n h1
  · have hns := h1.ns
    have hle := h1.le
    have hstk : C.stk.length ≤ 1536 := by
      have := nodup_le C.stk (List.range 1536) h1.nd (fun x hx => by
        have := (h1.st x hx).1
        rw [h1.mq x, Bool.and_eq_true] at this
        exact List.mem_range.2 (h0.ai.lt this.1).2)
      rwa [List.length_range] at this
    have hmo := h0.mo
    refine (cstep_1 B b m s col hp al mp us fr rt hl ca sh d { S0 with C := C } mk sw m1 m2 sk cap gcap A G w h hn h1.ph h0.ws (by show C.most ≤ _; rw [h1.mo]; exact hmo) (by have := h1.mi; show C.missed ≤ _; omega) h0.rx (by show C.steps ≤ _; omega) (fun x hx => ?_) (by have := h1.cu; show C.cur ≤ 512 * S0.A.K; omega) h1.st (by show C.stk.length ≤ _; omega) (fun x hx hu => ?_)).mono ?_
    · have hx : C.mkd x = true := hx
      rw [h1.mq x, Bool.and_eq_true] at hx
      exact (h0.ai.us x hx.1).1
    · have hx : x ∈ rootsS S0 := hx
      have hu : S0.A.used x = true := hu
      show C.mkd x = true
      rw [h1.mq x, hu, decide_eq_true hx]
      rfl
    · rintro e w' ⟨rfl, C', A', cap', G', gcap', col', hs, hc, hn', hX, hMd⟩
      obtain ⟨n', hn1, h3⟩ := ci_mark h0 h1 hs
      obtain rfl : n' = n := by omega
      refine ⟨rfl, { S0 with C := C' }, s, A', cap', G', gcap', col', hc, hn', hX, .inl ?_, hMd.mono (fun k _ e => hF k e)⟩
      rcases h3 with h3 | h3
      · exact .inr (.inl ⟨C', rfl, rfl, h3⟩)
      · exact .inr (.inr h3)
  · obtain ⟨A2, s2, hT, hA2, n', hn1, h3⟩ := ci_sweep h0 h1
    obtain rfl : n' = n := by omega
    have hns := h1.ns
    have hb2 := h1.b2
    have hgo := h1.go
    have hKS := h1.ai.kk
    have hcy := h0.cy
    have hlen := h1.ai.len (l := whL S.A.used S.C S.C.blk) (setTo_nodup _ _) (fun x hx => (whL_used hx).1)
    have hgl := S.A.glob_le
    have hcc := ccells_pos S.A.k (by rw [← h1.ai.k]; exact cof_lt _ (by omega))
    refine (cstep_2 B b m s s2 col hp al mp us fr rt hl ca sh d S A2 mk sw m1 m2 sk cap gcap A G w h hn h1.l h1.ph h1.b1 (by omega) h1.ai.fri hd h1.ai.k (by omega) (fun q => by have := h1.ai.cl q; omega) (by omega) (by omega) (by rw [h1.cy]; omega) hT hA2).mono ?_
    rintro e w' ⟨rfl, G', gcap', col', hc, hn', hX, hMd⟩
    refine ⟨rfl, Step2 S A2, s2, A, cap, G', gcap', col', hc, hn', hX, ?_, hMd⟩
    rcases h3 with h3 | h3
    · exact .inl (.inr (.inr h3.1))
    · exact .inr h3
set_option maxRecDepth 100000 in
set_option maxHeartbeats 4000000 in
theorem crun_any (B : Nat) (b : DB) (m : Nat) (s0 : DS) (col : Nat → Nat) (hp al mp us fr rt hl ca sh d M : Nat) (S0 : HS) (mk sw m1 m2 sk cap gcap : Nat) (A G : Option Addr) (w : World) (h0 : CI0 S0 m d s0) (hd : d ≤ 60) (hM : M ≤ 100000) (hMl : (setTo S0.A.used 1536).length + 5 ≤ M)
    (h : HC w B b m s0 col hp al mp us fr rt hl ca sh S0 mk sw m1 m2 sk A cap G gcap) (hn : ∀ k, w.heap.size ≤ k → col k = 9) :
    Calls Tryz.prog 55 #[.pointer (some ⟨ca, 0, none⟩), .int .i64 M] w fun e w' => e = .returned (.tuple #[.bool true, .int .i64 0]) ∧ ∃ S' s' A' cap' G' gcap' col', (∀ k, k < w.heap.size → col' k = col k) ∧ (∀ k, w'.heap.size ≤ k → col' k = 9) ∧
      HC w' B b m s' col' hp al mp us fr rt hl ca sh S' mk sw m1 m2 sk A' cap' G' gcap' ∧ CFin S0 m d S' s' ∧ Mod w w' (fun k => hcol (col k)) := by
  have Hst := Lib.hid (fun n S s A cap G gcap col w h hn hI => cyc_step B b m s s0 col hp al mp us fr rt hl ca sh d n M S S0 mk sw m1 m2 sk cap gcap A G w h0 hd hM h hn hI)
  have H0 := Lib.hid h0
  have HX := Lib.hid h
  have Hn := Lib.hid hn
  have hcy0 := h0.cy
  obtain ⟨c0, Hc0⟩ : ∃ c0, Hid (S0.C.cycles = c0) := ⟨_, rfl⟩
  rw [Hc0.out] at hcy0
  have hmin : (if (1048576 : Int) < (M : Int) then (1048576 : Int) else (M : Int)) = (M : Int) := if_neg (by omega)
  clear h hn h0
  go_enter Tryz.func55, Tryz.ntmps55
  go_wp2_with omega
  go_loopw [10] (fun v10 wr => ∃ (i : Nat) (S : HS) (s : DS) (A : Option Addr) (cap : Nat) (G : Option Addr) (gcap : Nat) (colj : Nat → Nat), v10 = .int .i64 i ∧ i ≤ M ∧ (∀ k, k < w.heap.size → colj k = col k) ∧ (∀ k, wr.heap.size ≤ k → colj k = 9) ∧
    HC wr B b m s colj hp al mp us fr rt hl ca sh S mk sw m1 m2 sk A cap G gcap ∧ CIs S0 m d s0 S s (M - i) M ∧ Mod w wr (fun k => hcol (col k))) (fun v10 _ => M - (intOf v10).toNat)
  case atStart => exact ⟨0, S0, s0, A, cap, G, gcap, col, rfl, Nat.zero_le _, fun _ _ => rfl, Hn.out, HX.out, .inl ⟨rfl, rfl, hMl, rfl⟩, Mod.refl _ _⟩
  case round =>
    clear HX Hn
    obtain ⟨i, S, s, Aj, capj, Gj, gcapj, colj, rfl, hi, hcj, hnj, hXj, hIj, hMj⟩ := hrel
    have hpos := hIj.pos
    have hlt : i < M := by omega
    obtain ⟨nn, hnn⟩ : ∃ nn, M - i = nn + 1 := ⟨M - i - 1, by omega⟩
    rw [hnn] at hIj
    have hcy := hIj.cy
    rw [Hc0.out] at hcy
    have Hs := Lib.hid (Hst.out nn S s Aj capj Gj gcapj colj wr hXj hnj hIj)
    have Hcj := Lib.hid hcj
    have HMj := Lib.hid hMj
    have z5 : wr.cell? ⟨ca, 5, none⟩ = some (.int .i64 c0) := by have := hXj.y.b.cell 5; rw [hcy] at this; exact this
    obtain ⟨wo, rfl⟩ : ∃ wo, wo = wr := ⟨wr, rfl⟩
    clear hcj hXj hIj hMj hnj
    go_wp2_with fail
    refine Hs.out.mono ?_
    rintro e w2 ⟨rfl, S2, s2, A2, cap2, G2, gcap2, col2, hc2, hn2, hX2, hr2, hM2⟩
    have Hc2 : Hid (∀ k, k < w.heap.size → col2 k = col k) := fun k hk => (hc2 k (Nat.lt_of_lt_of_le hk HMj.out.size)).trans (Hcj.out k hk)
    have Hn2 := Lib.hid hn2
    have HX2 := Lib.hid hX2
    have HM2 : Hid (Mod w w2 (fun k => hcol (col k))) := HMj.out.trans hM2 (fun k hk e => by rw [Hcj.out k hk] at e; exact e)
    clear hc2 hn2 hX2 hM2 Hs Hcj HMj z5
    rcases hr2 with hr2 | hr2
    · have q5 : w2.cell? ⟨ca, 5, none⟩ = some (.int .i64 c0) := by have := HX2.out.y.b.cell 5; rw [hr2.cy, Hc0.out] at this; exact this
      have Hr := Lib.hid hr2
      clear hr2
      go_wp2_with omega
      exact ⟨⟨i + 1, S2, s2, A2, cap2, G2, gcap2, col2, by go_num, by omega, Hc2.out, Hn2.out, HX2.out, by rw [show M - (i + 1) = nn by omega]; exact Hr.out, HM2.out⟩, by simp [intOf]; omega⟩
    · have q5 : w2.cell? ⟨ca, 5, none⟩ = some (.int .i64 (c0 + 1 : Nat)) := by have := HX2.out.y.b.cell 5; rw [hr2.cy, Hc0.out] at this; exact this
      have Hr := Lib.hid hr2
      clear hr2
      go_wp2_with omega
      refine bodyPost_ret (results_tmp2 rfl _ _ _) rfl ?_
      exact ⟨rfl, S2, s2, A2, cap2, G2, gcap2, col2, Hc2.out, Hn2.out, HX2.out, Hr.out, HM2.out⟩
end Go.Proofs.YtcnjipicifkfjaaGreat

/- heap: Cycle, Bound, Collect. -/
namespace Go.Proofs.YtcnjipicifkfjaaGreat
open Go.RowKit
set_option linter.unusedVariables false
set_option linter.unusedSimpArgs false

theorem hcycle_any (hp d al rt hl ca sh : Nat) (rg : List Nat) (w : World) (h : Blk w hp 87 (heapC d al rt rg hl ca sh false)) (hr : rg.length = 32) :
    Calls Tryz.prog 18 #[.pointer (some ⟨hp, 0, none⟩)] w fun e w' => e = .returned (.pointer (some ⟨ca, 0, none⟩)) ∧ w' = w := by
  have c : w.cell? ⟨hp, 36, none⟩ = some (.pointer (some ⟨ca, 0, none⟩)) := (h.cell 36).trans (heapC_tail hr 1)
  clear h
  go_enter Tryz.func18, Tryz.ntmps18
  go_wp2_with fail
  go_ret
  exact ⟨rfl, rfl⟩
set_option maxRecDepth 100000 in
set_option maxHeartbeats 2000000 in
theorem cbound_any (col : Nat → Nat) (ca al d mp us fr : Nat) (S : AS) (ph : Array Value) (w : World) (hA : AllocX w col al d mp us fr S) (hK0 : 0 < S.K) (hK : S.K ≤ 150) (hc : w.cell? ⟨ca, 0, none⟩ = some (.pointer (some ⟨al, 0, none⟩))) (hca : ca < w.heap.size) :
    Calls Tryz.prog 19 #[.pointer (some ⟨ca, 0, none⟩)] w fun e w' => e = .returned (.int .i64 (2 * (4 * (setL S.used (8 * S.K)).length + S.K) + 16 : Nat)) ∧ Below w.heap.size w w' := by
  have a0 : w.cell? ⟨al, 0, none⟩ = some (.pointer (some ⟨mp, 0, none⟩)) := hA.b.cell 0
  have hlen := setL_len S.used (8 * S.K)
  obtain ⟨t, x, T, X, hmb, hT, _⟩ := hA.m
  have b0 : w.cell? ⟨mp, 0, none⟩ = some (.pointer (some ⟨t, 0, none⟩)) := hmb.cell 0
  have hal : al < w.heap.size := hA.b.lt
  have hmp : mp < w.heap.size := hmb.lt
  have HS : Hid (∀ W, Below w.heap.size w W → W.cell? ⟨ca, 0, none⟩ = some (.pointer (some ⟨al, 0, none⟩)) ∧ W.cell? ⟨al, 0, none⟩ = some (.pointer (some ⟨mp, 0, none⟩)) ∧ W.cell? ⟨mp, 0, none⟩ = some (.pointer (some ⟨t, 0, none⟩))) := fun W hb =>
    ⟨cell_mod (Mod.of_below hb) hc (Nat.not_le.2 hca), cell_mod (Mod.of_below hb) a0 (Nat.not_le.2 hal), cell_mod (Mod.of_below hb) b0 (Nat.not_le.2 hmp)⟩
  have HAb : Hid (∀ W, Below w.heap.size w W → Calls Tryz.prog 57 #[.pointer (some ⟨al, 0, none⟩)] W fun e w' => ∃ A cap, e = .returned (.slice A (setL S.used (8 * S.K)).length cap) ∧ Below W.heap.size W w') := fun W hb => aobjs_any col al d mp us fr S W (hA.below hb (Nat.le_refl _)) hK0 hK
  have Hl : Hid (∀ W, Below w.heap.size w W → Calls Tryz.prog 58 #[.pointer (some ⟨t, 0, none⟩)] W fun e w' => e = .returned (.int .i64 S.K) ∧ W = w') := fun W hb => tlen_any T t d S.K S.hs W (hT.below hb (Nat.le_refl _))
  have Hb0 : Hid (Below w.heap.size w w.drew) := below_drewN (Below.refl w.heap.size w) 1
  generalize (setL S.used (8 * S.K)).length = n at *
  generalize S.K = K at *
  clear hmb hT hA
  go_enter Tryz.func19, Tryz.ntmps19
  go_wp2_with fail
  go_region_held3 (fun W => W.cell? ⟨ca, 0, none⟩ = some (.pointer (some ⟨al, 0, none⟩)) ∧ W.cell? ⟨al, 0, none⟩ = some (.pointer (some ⟨mp, 0, none⟩)) ∧ W.cell? ⟨mp, 0, none⟩ = some (.pointer (some ⟨t, 0, none⟩)))
    (first | exact HS.out _ Hb0.out | exact HS.out _ HB1.out)
    (first
      | (go_at_call 57; refine (HAb.out _ Hb0.out).mono ?_; rintro e w1 ⟨A, cap, rfl, hb1⟩; have HB1 : Hid (Below w.heap.size w w1) := Hb0.out.trans hb1; clear hb1)
      | (go_at_call 58; refine (Hl.out _ HB1.out).mono ?_; rintro e w2 ⟨rfl, rfl⟩))
  rw [IntWalk.i64_in (4 * (n : Int)) (by omega), IntWalk.i64_in (4 * (n : Int) + (K : Int)) (by omega), IntWalk.i64_in (2 * (4 * (n : Int) + (K : Int))) (by omega), IntWalk.i64_in (2 * (4 * (n : Int) + (K : Int)) + 16) (by omega)]
  go_wp2_with fail
  go_ret
  exact ⟨by simp, HB1.out⟩
set_option maxRecDepth 100000 in
set_option maxHeartbeats 2000000 in
theorem hcollect_any (B : Nat) (b : DB) (m : Nat) (s0 : DS) (col : Nat → Nat) (hp al mp us fr rt hl ca sh d M : Nat) (S0 : HS) (w : World) (h0 : CI0 S0 m d s0) (hd : d ≤ 60) (hM : M ≤ 100000) (hMl : (setTo S0.A.used 1536).length + 5 ≤ M)
    (h : HeapX w B b m s0 col hp al mp us fr rt hl ca sh S0) (hn : ∀ k, w.heap.size ≤ k → col k = 9) :
    Calls Tryz.prog 17 #[.pointer (some ⟨hp, 0, none⟩), .int .i64 M] w fun e w' => e = .returned (.tuple #[.bool true, .int .i64 0]) ∧ ∃ S' s' col', (∀ k, k < w.heap.size → col' k = col k) ∧ (∀ k, w'.heap.size ≤ k → col' k = 9) ∧
      HeapX w' B b m s' col' hp al mp us fr rt hl ca sh S' ∧ CFin S0 m d S' s' ∧ Mod w w' (fun k => hcol (col k)) := by
  have c1 : w.cell? ⟨hp, 38, none⟩ = some (.bool false) := (h.blk.cell 38).trans (heapC_tail h.rg 3)
  have c2 : w.cell? ⟨hp, 36, none⟩ = some (.pointer (some ⟨ca, 0, none⟩)) := (h.blk.cell 36).trans (heapC_tail h.rg 1)
  obtain ⟨mk, sw, m1, m2, sk, A, cap, G, gcap, hy⟩ := h.c
  have Hr := Lib.hid (crun_any B b m s0 col hp al mp us fr rt hl ca sh d M S0 mk sw m1 m2 sk cap gcap A G w h0 hd hM hMl ⟨h, hy⟩ hn)
  clear h hn h0 hy
  go_enter Tryz.func17, Tryz.ntmps17
  go_wp2_with fail
  refine Hr.out.mono ?_
  rintro e w1 ⟨rfl, S', s', A', cap', G', gcap', col', hc, hn', hX, hF, hMd⟩
  have HX := Lib.hid hX.x
  have Hc := Lib.hid hc
  have Hn := Lib.hid hn'
  have HF := Lib.hid hF
  have HM := Lib.hid hMd
  clear hc hn' hX hF hMd
  go_wp2_with fail
  refine (hdown_ok hp w1).mono ?_
  rintro e w2 ⟨rfl, rfl⟩
  go_wp2_with fail
  refine bodyPost_ret (results_tmp2 rfl _ _ _) rfl ?_
  exact ⟨rfl, S', s', col', Hc.out, Hn.out, HX.out, HF.out, HM.out⟩
end Go.Proofs.YtcnjipicifkfjaaGreat
