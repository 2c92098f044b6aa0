/- The walk of PacePlays. -/
import Derived.Test.YtbndbbgkjljccaaW4
import Derived.Test.YtbndbbgkjljccaaM2
import Derived.Test.YtbndbbgkjljccaaOpen
namespace Go.Proofs.Ytbndbbgkjljccaa
open Go.RowKit
set_option linter.unusedVariables false

theorem pp_no (s n : Int) (A : Option Addr) (len cap : Nat) (w : World) (h : s < 1 ∨ 1048576 < s ∨ n < 1 ∨ 1048576 < n) :
    Calls Try.prog 3 #[.int .i64 s, .int .i64 n, .slice A len cap] w fun e w' => e = .returned (.bool true) ∧ Below w.heap.size w w' := by
  have Hr := Lib.hid (fun w => right_no s n w h)
  have Hn := Lib.hid (fun w => new_no s n w h)
  clear h
  go_enter Try.func3, Try.ntmps3
  go_wp2_with fail
  refine (awake_any _).mono ?_
  rintro e w1 ⟨rfl, hb1⟩
  have Hb1 := Lib.hid hb1
  clear hb1
  go_wp2_with fail
  refine (Hn.out _).mono ?_
  rintro e w2 ⟨rfl, rfl⟩
  go_wp2_with fail
  refine (Hr.out _).mono ?_
  rintro e w2 ⟨rfl, rfl⟩
  go_wp2_with fail
  go_ret
  exact ⟨rfl, Hb1.out⟩

theorem all6 {w : World} {g : Nat} {t : TypeId} {a0 a1 a2 a3 a4 a5 : Value} (h : Blk w g t #[a0, a1, a2, a3, a4, a5]) :
    w.cell? ⟨g, 0, none⟩ = some a0 ∧ w.cell? ⟨g, 1, none⟩ = some a1 ∧ w.cell? ⟨g, 2, none⟩ = some a2 ∧ w.cell? ⟨g, 3, none⟩ = some a3 ∧ w.cell? ⟨g, 4, none⟩ = some a4 ∧ w.cell? ⟨g, 5, none⟩ = some a5 ∧
    w.frozen? ⟨g, 0, none⟩ = false ∧ w.frozen? ⟨g, 1, none⟩ = false ∧ w.frozen? ⟨g, 2, none⟩ = false ∧ w.frozen? ⟨g, 3, none⟩ = false ∧ w.frozen? ⟨g, 4, none⟩ = false ∧ w.frozen? ⟨g, 5, none⟩ = false :=
  ⟨h.cell 0, h.cell 1, h.cell 2, h.cell 3, h.cell 4, h.cell 5, h.frozen 0, h.frozen 1, h.frozen 2, h.frozen 3, h.frozen 4, h.frozen 5⟩

/-- What holds at a round's head. -/
def Head (s n : Int) (gp gw B len : Nat) (w0 : World) (v10 : Value) (wr : World) : Prop :=
  ∃ (i : Nat) (r d t k c : Int), v10 = .int .i64 i ∧ i ≤ len ∧ i ≤ 300 ∧ St i s n r d t k c ∧ Below B w0 wr ∧
    Blk wr gp 46 #[.int .i64 s, .int .i64 n, .int .i64 r, .int .i64 d, .int .i64 t, .int .i64 k] ∧ Blk wr gw 30 #[.int .i64 s, .int .i64 n, .int .i64 t, .int .i64 c, .int .i64 d, .int .i64 k]

set_option maxRecDepth 100000 in
set_option maxHeartbeats 2000000 in
theorem pp_yes (s n : Int) (A : Option Addr) (len cap : Nat) (zs : List (Int × Int)) (w : World) (h1 : 1 ≤ s) (h2 : s ≤ 1048576) (h3 : 1 ≤ n) (h4 : n ≤ 1048576)
    (hlen : len ≤ cap) (hcap : cap ≤ maxLen) (hrow : Row w A len 2 (fun i => [.int .i64 (zs.getD i (0, 0)).1, .int .i64 (zs.getD i (0, 0)).2])) :
    Calls Try.prog 3 #[.int .i64 s, .int .i64 n, .slice A len cap] w fun e w' => e = .returned (.bool true) ∧ Below w.heap.size w w' := by
  unfold maxLen at hcap
  have Hr := Lib.hid (fun w => right_yes s n w h1 h2 h3 h4)
  have Hn := Lib.hid (fun w => new_ok s n w h1 h2 h3 h4)
  have Hrow := Lib.hid hrow
  clear hrow
  go_enter Try.func3, Try.ntmps3
  go_wp2_with fail
  refine (awake_any _).mono ?_
  rintro e w1 ⟨rfl, hb1⟩
  have Hb1 := Lib.hid hb1
  clear hb1
  go_wp2_with fail
  refine (Hn.out _).mono ?_
  rintro e w2 ⟨rfl, hw2⟩
  obtain ⟨gp, Hgp⟩ : ∃ g, Hid (w1.heap.size = g) := ⟨_, rfl⟩
  have hgp : w.heap.size ≤ gp := by rw [← Hgp.out]; exact Hb1.out.size
  have HB2 := Lib.hid (show Blk w2 gp 46 #[.int .i64 s, .int .i64 n, .int .i64 0, .int .i64 0, .int .i64 0, .int .i64 0] by rw [← hw2, ← Hgp.out]; exact Blk.new _ _ _)
  have Hb2 := Lib.hid (show Below w.heap.size w w2 by rw [← hw2]; exact Hb1.out.alloc Hb1.out.size _)
  rw [Hgp.out]
  clear hw2 Hgp
  go_wp2_with fail
  refine (Hr.out _).mono ?_
  rintro e w3 ⟨rfl, rfl⟩
  go_wp2_with fail
  obtain ⟨gw, Hgw⟩ : ∃ g, Hid (w2.heap.size = g) := ⟨_, rfl⟩
  have hne : gp < gw := by rw [← Hgw.out]; exact HB2.out.lt
  rw [Hgw.out]
  have HS : Hid (Head s n gp gw w.heap.size len w (.int .i64 0) (w2.alloc (Obj.cells #[Value.int IntKind.i64 s, Value.int IntKind.i64 n, Value.int IntKind.i64 0, Value.int IntKind.i64 0, Value.int IntKind.i64 0, Value.int IntKind.i64 0] 30))) :=
    ⟨0, 0, 0, 0, 0, 0, rfl, Nat.zero_le _, Nat.zero_le _, St.zero s n, Hb2.out.alloc Hb2.out.size _, HB2.out.alloc _, by rw [← Hgw.out]; exact Blk.new _ _ _⟩
  clear Hgw HB2 Hb2 Hr Hn Hb1
  go_loopw [10] (fun v10 wr => Head s n gp gw w.heap.size len w v10 wr) (fun v10 _ => (len - (intOf v10).toNat))
  case atStart => exact HS.out
  case round =>
    clear HS
    obtain ⟨i, r, d, t, k, c, rfl, hi1, hi2, hst, hbel, hB, hC⟩ := hrel
    have Hst := Lib.hid hst
    have Hbel := Lib.hid hbel
    have HB := Lib.hid hB
    have HC := Lib.hid hC
    clear hst hbel hB hC
    by_cases hlt : i < len
    · by_cases h300 : i < 300
      · obtain ⟨b, off, hA, hb, hcell⟩ := Hrow.out (by omega)
        subst hA
        have x0 := (Hbel.out.cell (p := ⟨b, off + i * 2, none⟩) hb).trans (hcell i hlt 0 _ rfl)
        have x1 := (Hbel.out.cell (p := ⟨b, off + i * 2 + 1, none⟩) hb).trans (hcell i hlt 1 _ rfl)
        clear hcell
        generalize (zs.getD i (0, 0)).1 = kd at *
        generalize (zs.getD i (0, 0)).2 = m at *
        obtain ⟨v1, v2, v3, v4, v5, v6, v7⟩ := Hst.out.bd hi2 h1 h2 h3 h4
        have gs := HC.out.lt
        by_cases hm : 1099511627776 < m
        · go_wp2_with fail
          exact ⟨⟨i + 1, r, d, t, k, c, by go_num, by omega, by omega, Hst.out.idle, Hbel.out.alloc Hbel.out.size _, HB.out.alloc _, HC.out.alloc _⟩, by simp [intOf]; omega⟩
        · by_cases hk : kd = 0
          · have hkd : (kd == 0) = true := by simpa using hk
            clear hk
            go_wp2_with fail
            obtain ⟨x, y, x', e1, e2, e3, e4, hy0, hy1⟩ := clamp_took m
            obtain ⟨Hst2, hdd⟩ := Hst.out.took h1 h3 hy0 hy1
            refine (took_core gp s n r d t k m x y _ (HB.out.alloc _) h1 h2 h3 h4 v1 v2 Hst.out.d0 v3 Hst.out.t0 (by omega) e1 e2).mono ?_
            rintro e w3 ⟨rfl, hB3, hg3⟩
            have HC3 := Lib.hid ((HC.out.alloc _).grown hg3 (by simp; omega))
            have HB3 := Lib.hid hB3
            have Hb3 := Lib.hid (below_only (Hbel.out.alloc Hbel.out.size _) hg3 (by simp; exact Nat.le_succ_of_le Hbel.out.size) hgp)
            have y1 : w3.cell? ⟨wr.heap.size, 1, none⟩ = some (.int .i64 m) := ((World.cell?_of_block (w := wr.alloc _) (hg3.block wr.heap.size (by simp) (by simp; omega)))).trans ((Blk.new wr 32 #[.int .i64 kd, .int .i64 m]).cell 1)
            obtain ⟨p0, p1, p2, p3, p4, p5, q0, q1, q2, q3, q4, q5⟩ := all6 HC3.out
            clear hB3 hg3
            have He := Lib.hid (And.intro e3 e4)
            have Hdd := Lib.hid hdd
            have Hst3 := Lib.hid Hst2
            clear e1 e2 e3 e4 hdd Hst2
            go_wp2_with fail
            clear p0 p1 p2 p3 p4 p5 q0 q1 q2 q3 q4 q5 y1
            refine (refTook_core s n t c d k m x' y _ h1 h2 h3 h4 Hst.out.d0 v3 Hst.out.t0 v4 v5 (by omega) He.out.1 He.out.2).mono ?_
            rintro e w4 ⟨rfl, hb4⟩
            have HC4 := Lib.hid (HC3.out.below hb4 HC3.out.lt)
            have HB4 := Lib.hid (HB3.out.below hb4 HB3.out.lt)
            have Hb4 := Lib.hid (Hb3.out.trans (hb4.mono Hb3.out.size))
            clear hb4 HC3 HB3 Hb3
            obtain ⟨p0, p1, p2, p3, p4, p5, q0, q1, q2, q3, q4, q5⟩ := all6 HC4.out
            go_wp2_with fail
            clear p0 p1 p2 p3 p4 p5 q0 q1 q2 q3 q4 q5
            change Code.wp _ _ _ _ (store6 w4 gw _ _ _ _ _ _)
            have HC5 := Lib.hid (Blk.conv (cs' := #[.int .i64 s, .int .i64 n, .int .i64 (t + y), .int .i64 (came s n (t + y)), .int .i64 (d + (r + y * s) / n), .int .i64 k]) (HC4.out.store6 (a0 := .int .i64 s) (a1 := .int .i64 n) (a2 := .int .i64 (t + y)) (a3 := .int .i64 (came s n (t + y))) (a4 := .int .i64 (d + came s n (t + y) - c)) (a5 := .int .i64 k)) (by rw [Hdd.out]))
            have hg5 := only_store6 w4 gw (.int .i64 s) (.int .i64 n) (.int .i64 (t + y)) (.int .i64 (came s n (t + y))) (.int .i64 (d + came s n (t + y) - c)) (.int .i64 k)
            have HB5 := Lib.hid (HB4.out.grown hg5 (by simp; omega))
            have Hb5 := Lib.hid (below_only Hb4.out hg5 Hb4.out.size (by omega))
            clear hg5
            generalize store6 w4 gw (.int .i64 s) (.int .i64 n) (.int .i64 (t + y)) (.int .i64 (came s n (t + y))) (.int .i64 (d + came s n (t + y) - c)) (.int .i64 k) = w5 at *
            clear HC4 HB4 Hb4
            obtain ⟨p0, p1, p2, p3, p4, p5, q0, q1, q2, q3, q4, q5⟩ := all6 HC5.out
            go_quiet ((first | (go_at_call 13; exact quiet_left (due_any gp _ _ _ _ _ _ _ (HB5.out.drewN _))) | (go_at_call 14; exact quiet_left (taken_any gp _ _ _ _ _ _ _ (HB5.out.drewN _))) | (go_at_call 15; exact quiet_left (done_any gp _ _ _ _ _ _ _ (HB5.out.drewN _)))))
            go_wp2
            exact ⟨⟨i + 1, _, _, _, _, _, by go_num, by omega, by omega, Hst3.out, below_drewN Hb5.out _, HB5.out.drewN _, HC5.out.drewN _⟩, by simp [intOf]; omega⟩
          · have hkd : (kd == 0) = false := by simpa using hk
            clear hk
            go_wp2_with fail
            obtain ⟨y, z, e1, e2, e3, e4, hy0, hy1, hz0, hz1⟩ := clamp_did m d (by omega) Hst.out.d0
            have hst2 := Hst.out.did hy0 hy1 hz0 hz1
            refine (did_core gp s n r d t k m y z _ (HB.out.alloc _) Hst.out.d0 v3 Hst.out.k0 v7 (by omega) e1 e2).mono ?_
            rintro e w3 ⟨rfl, hB3, hg3⟩
            have HC3 := Lib.hid ((HC.out.alloc _).grown hg3 (by simp; omega))
            have HB3 := Lib.hid hB3
            have Hb3 := Lib.hid (below_only (Hbel.out.alloc Hbel.out.size _) hg3 (by simp; exact Nat.le_succ_of_le Hbel.out.size) hgp)
            have y1 : w3.cell? ⟨wr.heap.size, 1, none⟩ = some (.int .i64 m) := ((World.cell?_of_block (w := wr.alloc _) (hg3.block wr.heap.size (by simp) (by simp; omega)))).trans ((Blk.new wr 32 #[.int .i64 kd, .int .i64 m]).cell 1)
            obtain ⟨p0, p1, p2, p3, p4, p5, q0, q1, q2, q3, q4, q5⟩ := all6 HC3.out
            clear hB3 hg3
            have He := Lib.hid (And.intro e3 e4)
            have Hst3 := Lib.hid hst2
            clear e1 e2 e3 e4 hst2
            go_wp2_with fail
            clear p0 p1 p2 p3 p4 p5 q0 q1 q2 q3 q4 q5 y1
            refine (refDid_core s n t c d k m y z _ Hst.out.d0 v3 Hst.out.k0 v7 (by omega) He.out.1 He.out.2).mono ?_
            rintro e w4 ⟨rfl, hb4⟩
            have HC4 := Lib.hid (HC3.out.below hb4 HC3.out.lt)
            have HB4 := Lib.hid (HB3.out.below hb4 HB3.out.lt)
            have Hb4 := Lib.hid (Hb3.out.trans (hb4.mono Hb3.out.size))
            clear hb4 HC3 HB3 Hb3
            obtain ⟨p0, p1, p2, p3, p4, p5, q0, q1, q2, q3, q4, q5⟩ := all6 HC4.out
            go_wp2_with fail
            clear p0 p1 p2 p3 p4 p5 q0 q1 q2 q3 q4 q5
            change Code.wp _ _ _ _ (store6 w4 gw _ _ _ _ _ _)
            have HC5 := Lib.hid (HC4.out.store6 (a0 := .int .i64 s) (a1 := .int .i64 n) (a2 := .int .i64 t) (a3 := .int .i64 c) (a4 := .int .i64 z) (a5 := .int .i64 (k + y)))
            have hg5 := only_store6 w4 gw (.int .i64 s) (.int .i64 n) (.int .i64 t) (.int .i64 c) (.int .i64 z) (.int .i64 (k + y))
            have HB5 := Lib.hid (HB4.out.grown hg5 (by simp; omega))
            have Hb5 := Lib.hid (below_only Hb4.out hg5 Hb4.out.size (by omega))
            clear hg5
            generalize store6 w4 gw (.int .i64 s) (.int .i64 n) (.int .i64 t) (.int .i64 c) (.int .i64 z) (.int .i64 (k + y)) = w5 at *
            clear HC4 HB4 Hb4
            obtain ⟨p0, p1, p2, p3, p4, p5, q0, q1, q2, q3, q4, q5⟩ := all6 HC5.out
            go_quiet ((first | (go_at_call 13; exact quiet_left (due_any gp _ _ _ _ _ _ _ (HB5.out.drewN _))) | (go_at_call 14; exact quiet_left (taken_any gp _ _ _ _ _ _ _ (HB5.out.drewN _))) | (go_at_call 15; exact quiet_left (done_any gp _ _ _ _ _ _ _ (HB5.out.drewN _)))))
            go_wp2
            exact ⟨⟨i + 1, _, _, _, _, _, by go_num, by omega, by omega, Hst3.out, below_drewN Hb5.out _, HB5.out.drewN _, HC5.out.drewN _⟩, by simp [intOf]; omega⟩
      · go_wp2
        go_ret
        exact ⟨rfl, Hbel.out⟩
    · go_wp2
      go_ret
      exact ⟨rfl, Hbel.out⟩

theorem pp_any (s n : Int) (A : Option Addr) (len cap : Nat) (zs : List (Int × Int)) (w : World)
    (hlen : len ≤ cap) (hcap : cap ≤ maxLen) (hrow : Row w A len 2 (fun i => [.int .i64 (zs.getD i (0, 0)).1, .int .i64 (zs.getD i (0, 0)).2])) :
    Calls Try.prog 3 #[.int .i64 s, .int .i64 n, .slice A len cap] w fun e w' => e = .returned (.bool true) ∧ Below w.heap.size w w' := by
  by_cases h1 : s < 1
  · exact pp_no s n A len cap w (.inl h1)
  by_cases h2 : 1048576 < s
  · exact pp_no s n A len cap w (.inr (.inl h2))
  by_cases h3 : n < 1
  · exact pp_no s n A len cap w (.inr (.inr (.inl h3)))
  by_cases h4 : 1048576 < n
  · exact pp_no s n A len cap w (.inr (.inr (.inr h4)))
  exact pp_yes s n A len cap zs w (by omega) (by omega) (by omega) (by omega) hlen hcap hrow
end Go.Proofs.Ytbndbbgkjljccaa
