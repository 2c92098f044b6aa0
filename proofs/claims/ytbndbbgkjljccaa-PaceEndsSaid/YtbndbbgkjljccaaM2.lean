/- Plain arithmetic of a pacer's states: no program in sight. -/
import Derived.Test.YtbndbbgkjljccaaMath
namespace Go.Proofs.Ytbndbbgkjljccaa

/-- What holds of the two pacers behind i calls: what is left over, due, taken, done; came. -/
structure St (i : Nat) (s n r d t k c : Int) : Prop where
  t0 : 0 ≤ t
  t1 : t ≤ i * 1048576
  hc : c = came s n t
  hr : r = t * s % n
  d0 : 0 ≤ d
  d1 : d ≤ c
  k0 : 0 ≤ k
  k1 : k ≤ i * 1099511627776

theorem St.bd {i : Nat} {s n r d t k c : Int} (h : St i s n r d t k c) (hi : i ≤ 300) (h1 : 1 ≤ s) (h2 : s ≤ 1048576) (h3 : 1 ≤ n) (h4 : n ≤ 1048576) :
    0 ≤ r ∧ r < n ∧ d ≤ 1000000000000000 ∧ t ≤ 1000000000 ∧ 0 ≤ c ∧ c ≤ 1000000000000000 ∧ k ≤ 1000000000000000 := by
  have hk := h.k1
  have ht := h.t1
  have ht0 := h.t0
  obtain ⟨r1, r2⟩ := mod_bd (a := t * s) h3
  obtain ⟨m1, m2⟩ := mul_bd h.t0 (by omega : t ≤ 314572800) (by omega : 0 ≤ s) h2
  obtain ⟨e1, e2⟩ := div_bd m1 h3
  have hc := h.hc
  rw [came_eq s n t (by omega)] at hc
  have hd := h.d1
  rw [← h.hr] at r1 r2
  exact ⟨r1, r2, by omega, by omega, by omega, by omega, by omega⟩

theorem St.zero (s n : Int) : St 0 s n 0 0 0 0 0 := ⟨by omega, by omega, by simp [came], by simp, by omega, by omega, by omega, by omega⟩

theorem came_mono (s n t y : Int) (h1 : 1 ≤ s) (h3 : 1 ≤ n) (hy : 0 ≤ y) : came s n t ≤ came s n (t + y) := by
  rw [came_eq _ _ _ (by omega), came_eq _ _ _ (by omega)]
  refine Int.ediv_le_ediv (by omega) ?_
  rw [Int.add_mul]
  have := Int.mul_nonneg hy (by omega : 0 ≤ s)
  omega

theorem St.took {i : Nat} {s n r d t k c y : Int} (h : St i s n r d t k c) (h1 : 1 ≤ s) (h3 : 1 ≤ n) (hy : 0 ≤ y) (hy1 : y ≤ 1048576) :
    St (i + 1) s n ((r + y * s) % n) (d + (r + y * s) / n) (t + y) k (came s n (t + y)) ∧ d + came s n (t + y) - c = d + (r + y * s) / n := by
  obtain ⟨e1, e2⟩ := step s n t c r y (by omega) h.hr h.hc
  have hm := came_mono s n t y h1 h3 hy
  have a1 := h.t0
  have a2 := h.t1
  have a3 := h.d0
  have a4 := h.d1
  have a5 := h.k1
  have a6 := h.hc
  refine ⟨⟨by omega, by omega, rfl, e2, by omega, by omega, h.k0, by omega⟩, by omega⟩

theorem St.did {i : Nat} {s n r d t k c y z : Int} (h : St i s n r d t k c) (hy : 0 ≤ y) (hy1 : y ≤ 1099511627776) (hz0 : 0 ≤ z) (hz : z ≤ d) :
    St (i + 1) s n r z t (k + y) c := by
  have a1 := h.t0
  have a2 := h.t1
  have a3 := h.d0
  have a4 := h.d1
  have a5 := h.k1
  have a6 := h.k0
  exact ⟨h.t0, by omega, h.hc, h.hr, hz0, by omega, by omega, by omega⟩

theorem St.idle {i : Nat} {s n r d t k c : Int} (h : St i s n r d t k c) : St (i + 1) s n r d t k c := by
  have a2 := h.t1
  have a5 := h.k1
  exact ⟨h.t0, by omega, h.hc, h.hr, h.d0, h.d1, h.k0, by omega⟩

theorem clamp_took (m : Int) : ∃ x y x' : Int, (if 1048576 < m then 1048576 else m) = x ∧ (if 0 < x then x else 0) = y ∧ (if m < 0 then 0 else m) = x' ∧ (if 1048576 < x' then 1048576 else x') = y ∧ 0 ≤ y ∧ y ≤ 1048576 := by
  refine ⟨_, _, _, rfl, rfl, rfl, ?_, ?_, ?_⟩ <;> (repeat split) <;> omega

theorem clamp_did (m d : Int) (hm : m ≤ 1099511627776) (hd : 0 ≤ d) : ∃ y z : Int, (if 0 < m then m else 0) = y ∧ (if y < d then d - y else 0) = z ∧ (if m < 0 then 0 else m) = y ∧ (if d - y < 0 then 0 else d - y) = z ∧
    0 ≤ y ∧ y ≤ 1099511627776 ∧ 0 ≤ z ∧ z ≤ d := by
  refine ⟨_, _, rfl, rfl, ?_, ?_, ?_, ?_, ?_, ?_⟩ <;> (repeat split) <;> omega
end Go.Proofs.Ytbndbbgkjljccaa
