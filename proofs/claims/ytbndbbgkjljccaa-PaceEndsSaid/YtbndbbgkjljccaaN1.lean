/- The walk of PaceEnds. -/
import Derived.Test.YtbndbbgkjljccaaW4
import Derived.Test.YtbndbbgkjljccaaM2
import Derived.Test.YtbndbbgkjljccaaOpen
namespace Go.Proofs.Ytbndbbgkjljccaa
open Go.RowKit
set_option linter.unusedVariables false

/-- All that came due was done. -/
structure Ev (i : Nat) (s n r t k : Int) : Prop where
  t0 : 0 ≤ t
  t1 : t ≤ i * 255
  hk : k = came s n t
  hr : r = t * s % n

theorem Ev.bd {i : Nat} {s n r t k : Int} (h : Ev i s n r t k) (hi : i ≤ 400) (h1 : 1 ≤ s) (h2 : s ≤ 65536) (h3 : 1 ≤ n) (h4 : n ≤ 65536) :
    0 ≤ r ∧ r < n ∧ t ≤ 102000 ∧ 0 ≤ k ∧ k ≤ 6684672000 := by
  have ht := h.t1
  have ht0 := h.t0
  obtain ⟨r1, r2⟩ := mod_bd (a := t * s) h3
  obtain ⟨m1, m2⟩ := mul_bd h.t0 (by omega : t ≤ 102000) (by omega : 0 ≤ s) h2
  obtain ⟨e1, e2⟩ := div_bd m1 h3
  have hk := h.hk
  rw [came_eq s n t (by omega)] at hk
  rw [← h.hr] at r1 r2
  exact ⟨r1, r2, by omega, by omega, by omega⟩

theorem Ev.next {i : Nat} {s n r t k y : Int} (h : Ev i s n r t k) (h1 : 1 ≤ s) (h3 : 1 ≤ n) (hy : 0 ≤ y) (hy1 : y ≤ 255) :
    Ev (i + 1) s n ((r + y * s) % n) (t + y) (k + (r + y * s) / n) := by
  obtain ⟨e1, e2⟩ := step s n t k r y (by omega) h.hr h.hk
  have a1 := h.t0
  have a2 := h.t1
  exact ⟨by omega, by omega, by omega, e2⟩

theorem took_at (b : Nat) (s n r t k y v q : Int) (w : World) (hB : Blk w b 46 #[.int .i64 s, .int .i64 n, .int .i64 r, .int .i64 0, .int .i64 t, .int .i64 k])
    (h1 : 1 ≤ s) (h2 : s ≤ 1048576) (h3 : 1 ≤ n) (h4 : n ≤ 1048576) (h5 : 0 ≤ r) (h6 : r < n) (h9 : 0 ≤ t) (h10 : t ≤ 1000000000000000) (hy : 0 ≤ y) (hy1 : y ≤ 255)
    (hv : (r + y * s) / n = v) (hq : (r + y * s) % n = q) :
    Calls Try.prog 9 #[.pointer (some ⟨b, 0, none⟩), .int .i64 y] w fun e w' => e = .returned (.int .i64 v) ∧
      Blk w' b 46 #[.int .i64 s, .int .i64 n, .int .i64 q, .int .i64 v, .int .i64 (t + y), .int .i64 k] ∧ w.grownBy w' (some b) := by
  refine (took_core b s n r 0 t k y y y w hB h1 h2 h3 h4 h5 h6 (by omega) (by omega) h9 h10 (by rw [if_neg (by omega)]) (by split <;> omega)).mono ?_
  rintro e w' ⟨rfl, hb, hg⟩
  rw [Int.zero_add, hv, hq] at hb
  exact ⟨by rw [Int.zero_add, hv], hb, hg⟩

theorem did_at (b : Nat) (s n r v t k z : Int) (w : World) (hB : Blk w b 46 #[.int .i64 s, .int .i64 n, .int .i64 r, .int .i64 v, .int .i64 t, .int .i64 k])
    (h7 : 0 ≤ v) (h8 : v ≤ 1000000000000) (h9 : 0 ≤ k) (h10 : k ≤ 1000000000000000) (hz : k + v = z) :
    Calls Try.prog 11 #[.pointer (some ⟨b, 0, none⟩), .int .i64 v] w fun e w' => e = .returned (.int .i64 0) ∧
      Blk w' b 46 #[.int .i64 s, .int .i64 n, .int .i64 r, .int .i64 0, .int .i64 t, .int .i64 z] ∧ w.grownBy w' (some b) := by
  refine (did_core b s n r v t k v v 0 w hB (by omega) (by omega) h9 h10 (by omega) (by split <;> omega) (by split <;> omega)).mono ?_
  rintro e w' ⟨rfl, hb, hg⟩
  rw [hz] at hb
  exact ⟨rfl, hb, hg⟩

/-- What holds at a round's head. -/
def EHead (s n : Int) (gp B len : Nat) (w0 : World) (v10 : Value) (wr : World) : Prop :=
  ∃ (i : Nat) (r t k : Int), v10 = .int .i64 i ∧ i ≤ len ∧ i ≤ 400 ∧ Ev i s n r t k ∧ Below B w0 wr ∧
    Blk wr gp 46 #[.int .i64 s, .int .i64 n, .int .i64 r, .int .i64 0, .int .i64 t, .int .i64 k]

set_option maxRecDepth 100000 in
set_option maxHeartbeats 2000000 in
theorem en_any (x y cy : Int) (A : Option Addr) (len cap : Nat) (zs : List Int) (w : World) (hx : 0 ≤ x) (hx1 : x ≤ 65535) (hy : 0 ≤ y) (hy1 : y ≤ 65535) (hcy : 0 ≤ cy) (hcy1 : cy ≤ 65535)
    (hlen : len ≤ cap) (hcap : cap ≤ maxLen) (hrow : Row w A len 1 (fun i => [.int .u8 (zs.getD i 0)])) (hz : ∀ i, 0 ≤ zs.getD i 0 ∧ zs.getD i 0 ≤ 255) :
    Calls Try.prog 5 #[.agg #[.int .u16 x, .int .u16 y], .int .u16 cy, .slice A len cap] w fun e w' => e = .returned (.bool true) ∧ Below w.heap.size w w' := by
  unfold maxLen at hcap
  have Hrow := Lib.hid hrow
  have Hz := Lib.hid hz
  clear hrow hz
  obtain ⟨s, hs⟩ : ∃ s, 1 + x = s := ⟨_, rfl⟩
  obtain ⟨n, hn⟩ : ∃ n, 1 + y = n := ⟨_, rfl⟩
  have h1 : 1 ≤ s := by omega
  have h2 : s ≤ 65536 := by omega
  have h3 : 1 ≤ n := by omega
  have h4 : n ≤ 65536 := by omega
  go_enter Try.func5, Try.ntmps5
  go_wp2_with fail
  refine (awake_any _).mono ?_
  rintro e w1 ⟨rfl, hb1⟩
  have c0 : w1.cell? ⟨w.heap.size, 0, none⟩ = some (.int .u16 x) := (hb1.cell (p := ⟨w.heap.size, 0, none⟩) (by simp)).trans ((Blk.new w 42 _).cell 0)
  have c1 : w1.cell? ⟨w.heap.size, 1, none⟩ = some (.int .u16 y) := (hb1.cell (p := ⟨w.heap.size, 1, none⟩) (by simp)).trans ((Blk.new w 42 _).cell 1)
  have Hb1 := Lib.hid (((Below.refl _ w).alloc (Nat.le_refl _) _).trans (hb1.mono (by simp)))
  clear hb1
  go_wp2_with fail
  clear c0 c1
  refine (new_ok s n w1 h1 (by omega) h3 (by omega)).mono ?_
  rintro e w2 ⟨rfl, hw2⟩
  obtain ⟨gp, Hgp⟩ : ∃ g, Hid (w1.heap.size = g) := ⟨_, rfl⟩
  have hgp : w.heap.size ≤ gp := by rw [← Hgp.out]; exact Hb1.out.size
  have HB2 := Lib.hid (show Blk w2 gp 46 #[.int .i64 s, .int .i64 n, .int .i64 0, .int .i64 0, .int .i64 0, .int .i64 0] by rw [← hw2, ← Hgp.out]; exact Blk.new _ _ _)
  have Hb2 := Lib.hid (show Below w.heap.size w w2 by rw [← hw2]; exact Hb1.out.alloc Hb1.out.size _)
  rw [Hgp.out]
  clear hw2 Hgp Hb1 hs hn hx hx1 hy hy1
  go_wp2_with fail
  obtain ⟨en, Hen⟩ : ∃ z, Hid (enough s n cy = z) := ⟨_, rfl⟩
  refine (enough_any gp s n _ _ _ _ cy _ HB2.out h1 (by omega) h3 (by omega)).mono ?_
  rintro e w3 ⟨rfl, q, rfl⟩
  rw [Hen.out]
  have HE : Hid (EHead s n gp w.heap.size len w (.int .i64 0) (w2.drewN q)) := ⟨0, 0, 0, 0, rfl, Nat.zero_le _, Nat.zero_le _, ⟨by omega, by omega, by simp [came], by simp⟩, below_drewN Hb2.out _, HB2.out.drewN _⟩
  have hen : (cy < 1 ∧ en = 0) ∨ (1 ≤ cy ∧ en = least s n cy) := by
    have := Hen.out
    unfold enough at this
    split at this
    · exact .inl ⟨by assumption, this.symm⟩
    · rw [if_neg (by omega)] at this
      exact .inr ⟨by omega, this.symm⟩
  have Hen2 := Lib.hid hen
  clear hen Hen HB2 Hb2
  go_wp2_with fail
  go_loopw [10] (fun v10 wr => EHead s n gp w.heap.size len w v10 wr) (fun v10 _ => (len - (intOf v10).toNat))
  case atStart => exact HE.out
  case round =>
    clear HE
    obtain ⟨i, r, t, k, rfl, hi1, hi2, hst, hbel, hB⟩ := hrel
    have Hst := Lib.hid hst
    have Hbel := Lib.hid hbel
    have HB := Lib.hid hB
    clear hst hbel hB
    by_cases hlt : i < len
    · by_cases h400 : i < 400
      · obtain ⟨b, off, hA, hb, hcell⟩ := Hrow.out (by omega)
        subst hA
        have x0 : wr.cell? ⟨b, off + i, none⟩ = some (.int .u8 (zs.getD i 0)) := by
          have h := (Hbel.out.cell (p := ⟨b, off + i * 1 + 0, none⟩) hb).trans (hcell i hlt 0 _ rfl)
          simpa using h
        obtain ⟨hy0, hy1⟩ := Hz.out i
        clear hcell
        generalize zs.getD i 0 = y at *
        obtain ⟨v1, v2, v3, v4, v5⟩ := Hst.out.bd hi2 h1 h2 h3 h4
        have key : Hid (k < cy → t < en) := by
          intro hk
          rcases Hen2.out with ⟨e1, e2⟩ | ⟨e1, e2⟩
          · omega
          · have := came_least s n cy t (by omega) (by omega)
            rw [← Hst.out.hk, ← e2] at this
            omega
        obtain ⟨v, Hv⟩ : ∃ v, Hid ((r + y * s) / n = v) := ⟨_, rfl⟩
        obtain ⟨q2, Hq⟩ : ∃ v, Hid ((r + y * s) % n = v) := ⟨_, rfl⟩
        obtain ⟨z, Hz3⟩ : ∃ z, Hid (k + v = z) := ⟨_, rfl⟩
        have Hn : Hid (Ev (i + 1) s n q2 (t + y) z) := by
          have := Hst.out.next h1 h3 hy0 hy1
          rw [Hv.out, Hq.out, Hz3.out] at this
          exact this
        have hv01 : 0 ≤ v ∧ v ≤ 1000000000000 := by
          obtain ⟨m1, m2⟩ := mul_bd hy0 hy1 (by omega : 0 ≤ s) h2
          obtain ⟨e1, e2⟩ := div_bd (by omega : 0 ≤ r + y * s) h3
          have := Hv.out
          omega
        obtain ⟨hv0, hv1⟩ := hv01
        by_cases hkc : k < cy
        · have hk2 := key.out hkc
          clear key
          go_wp2_with fail
          refine (taken_any gp s n _ _ t _ _ HB.out).mono ?_
          rintro e w4 ⟨rfl, rfl⟩
          go_wp2_with fail
          refine (done_any gp s n _ _ _ k _ HB.out).mono ?_
          rintro e w4 ⟨rfl, rfl⟩
          go_wp2_with fail
          refine (took_at gp s n r t k y v q2 _ HB.out h1 (by omega) h3 (by omega) v1 v2 Hst.out.t0 (by omega) hy0 hy1 Hv.out Hq.out).mono ?_
          rintro e w4 ⟨rfl, hB4, hg4⟩
          have HB4 := Lib.hid hB4
          have Hb4 := Lib.hid (below_only Hbel.out hg4 Hbel.out.size hgp)
          clear hB4 hg4
          go_wp2_with fail
          refine (did_at gp s n q2 v (t + y) k z _ HB4.out hv0 hv1 v4 (by omega) Hz3.out).mono ?_
          rintro e w5 ⟨rfl, hB5, hg5⟩
          have HB5 := Lib.hid hB5
          have Hb5 := Lib.hid (below_only Hb4.out hg5 Hb4.out.size hgp)
          clear hB5 hg5
          go_wp2_with fail
          exact ⟨⟨i + 1, q2, t + y, z, by go_num, by omega, by omega, Hn.out, Hb5.out, HB5.out⟩, by simp [intOf]; omega⟩
        · have hkd : decide (k < cy) = false := by simpa using hkc
          clear key hkc
          go_wp2_with fail
          refine (taken_any gp s n _ _ t _ _ HB.out).mono ?_
          rintro e w4 ⟨rfl, rfl⟩
          go_wp2_with fail
          refine (done_any gp s n _ _ _ k _ HB.out).mono ?_
          rintro e w4 ⟨rfl, rfl⟩
          go_wp2_with fail
          refine (took_at gp s n r t k y v q2 _ HB.out h1 (by omega) h3 (by omega) v1 v2 Hst.out.t0 (by omega) hy0 hy1 Hv.out Hq.out).mono ?_
          rintro e w4 ⟨rfl, hB4, hg4⟩
          have HB4 := Lib.hid hB4
          have Hb4 := Lib.hid (below_only Hbel.out hg4 Hbel.out.size hgp)
          clear hB4 hg4
          go_wp2_with fail
          refine (did_at gp s n q2 v (t + y) k z _ HB4.out hv0 hv1 v4 (by omega) Hz3.out).mono ?_
          rintro e w5 ⟨rfl, hB5, hg5⟩
          have HB5 := Lib.hid hB5
          have Hb5 := Lib.hid (below_only Hb4.out hg5 Hb4.out.size hgp)
          clear hB5 hg5
          go_wp2_with fail
          exact ⟨⟨i + 1, q2, t + y, z, by go_num, by omega, by omega, Hn.out, Hb5.out, HB5.out⟩, by simp [intOf]; omega⟩
      · go_wp2
        go_ret
        exact ⟨rfl, Hbel.out⟩
    · go_wp2
      go_ret
      exact ⟨rfl, Hbel.out⟩
end Go.Proofs.Ytbndbbgkjljccaa
