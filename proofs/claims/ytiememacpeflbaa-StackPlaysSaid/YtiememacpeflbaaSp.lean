/- The walk of StackPlays. -/
import Derived.Test.YtiememacpeflbaaSb
import Derived.Test.YtiememacpeflbaaSs
import Derived.Deep.DeepCutAuto
import Derived.Deep.CutBlock
import Derived.Deep.RegionWith
namespace Go.Proofs.Ytiememacpeflbaa
open Go.RowKit
set_option linter.unusedVariables false
set_option linter.unusedSimpArgs false

/-- The state at a round's head: and behind the round's call. -/
def SH (B gs gw len : Nat) (M : Int) (w0 : World) (i : Nat) (w : World) : Prop :=
  ∃ (xs : List Int) (A : Option Addr) (n cap : Nat) (A' : Option Addr) (cap' : Nat) (ms : Int), SS B gs gw M w0 w xs A n cap A' cap' ms ∧ n ≤ i ∧ 0 ≤ ms ∧ ms ≤ i

def SHead (B gs gw len : Nat) (M : Int) (w0 : World) (v : Value) (w : World) : Prop := ∃ i : Nat, v = .int .i64 i ∧ i ≤ len ∧ i ≤ 300 ∧ SH B gs gw len M w0 i w

set_option maxRecDepth 100000 in
set_option maxHeartbeats 2000000 in
theorem sp_any (m0 : Int) (A : Option Addr) (len cap : Nat) (zs : List (Int × Int)) (w : World) (hm0 : -32768 ≤ m0) (hm1 : m0 ≤ 32767)
    (hlen : len ≤ cap) (hcap : cap ≤ maxLen) (hrow : Row w A len 2 (fun i => [.int .i64 (zs.getD i (0, 0)).1, .int .u64 (zs.getD i (0, 0)).2])) :
    Calls Try.prog 4 #[.int .i16 m0, .slice A len cap] w fun e w' => e = .returned (.bool true) ∧ Below w.heap.size w w' := by
  unfold maxLen at hcap
  have Hrow := Lib.hid hrow
  clear hrow
  generalize hM : (if m0 < 0 then 0 else m0) = M
  have hM0 : 0 ≤ M := by split at hM <;> omega
  have hM1 : M ≤ 32767 := by split at hM <;> omega
  go_enter Try.func4, Try.ntmps4
  go_wp2_with fail
  refine (awake_any _).mono ?_
  rintro e w1 ⟨rfl, hb1⟩
  have Hb1 := Lib.hid hb1
  clear hb1
  go_wp2_with fail
  refine (new_word m0 M w1 hM).mono ?_
  rintro e w2 ⟨rfl, hw2⟩
  obtain ⟨gs, Hgs⟩ : ∃ g, Hid (w1.heap.size = g) := ⟨_, rfl⟩
  have hgs : w.heap.size ≤ gs := by rw [← Hgs.out]; exact Hb1.out.size
  have HB2 := Lib.hid (show Blk w2 gs 59 #[.slice none 0 0, .int .i64 M, .int .i64 0] by rw [← hw2, ← Hgs.out]; exact Blk.new _ _ _)
  have Hb2 := Lib.hid (show Below w.heap.size w w2 by rw [← hw2]; exact Hb1.out.alloc Hb1.out.size _)
  rw [Hgs.out]
  clear hw2 Hgs Hb1
  go_wp2_with fail
  obtain ⟨gw, Hgw⟩ : ∃ g, Hid (w2.heap.size = g) := ⟨_, rfl⟩
  have hgw : gs < gw := by rw [← Hgw.out]; exact HB2.out.lt
  rw [Hgw.out]
  have HS : Hid (SHead w.heap.size gs gw len M w (.int .i64 0) (w2.alloc (.cells #[.slice none 0 0, .int .i64 M, .int .i64 0] 38))) := by
    refine ⟨0, rfl, Nat.zero_le _, Nat.zero_le _, [], none, 0, 0, none, 0, 0, ⟨hgs, hgw, Hb2.out.alloc Hb2.out.size _, HB2.out.alloc _, Own.nil _ _ _ _, ?_, Rd.nil _ _ _, (fun a' h => by cases h), Nat.le_refl _, Nat.zero_le _⟩, Nat.le_refl _, Int.le_refl _, Int.le_refl _⟩
    rw [← Hgw.out]
    exact Blk.new _ _ _
  clear Hgw HB2 Hb2 hM
  go_loopw [7] (fun v7 wr => SHead w.heap.size gs gw len M w v7 wr) (fun v7 _ => len - (intOf v7).toNat)
  case atStart => exact HS.out
  case round =>
    clear HS
    obtain ⟨i, rfl, hi1, hi2, hs⟩ := hrel
    have HS := Lib.hid hs
    clear hs
    by_cases hlt : i < len
    · by_cases h300 : i < 300
      · obtain ⟨b, off, hA, hb, hcell⟩ := Hrow.out (by omega)
        subst hA
        have hbel : Below w.heap.size w wr := by obtain ⟨_, _, _, _, _, _, _, h, _⟩ := HS.out; exact h.b
        have x0 := (hbel.cell (p := ⟨b, off + i * 2, none⟩) hb).trans (hcell i hlt 0 _ rfl)
        have x1 := (hbel.cell (p := ⟨b, off + i * 2 + 1, none⟩) hb).trans (hcell i hlt 1 _ rfl)
        have Hwr := Lib.hid hbel.size
        clear hcell hbel
        generalize (zs.getD i (0, 0)).1 = kd at *
        generalize (zs.getD i (0, 0)).2 = x at *
        have hd300 : decide ((i : Int) < 300) = true := by simp; omega
        go_upto_block 2 with fail
        obtain ⟨xs, A0, n, c0, A1, c1, ms, hSS, hn, hms0, hms1⟩ := HS.out
        obtain ⟨gx, Hgx⟩ : ∃ g, Hid (wr.heap.size = g) := ⟨_, rfl⟩
        have HX : Hid (Blk (wr.alloc (.cells #[.int .i64 kd, .int .u64 x] 40)) gx 40 #[.int .i64 kd, .int .u64 x]) := by
          rw [← Hgx.out]; exact Blk.new wr 40 #[.int .i64 kd, .int .u64 x]
        rw [Hgx.out]
        have HSS := Lib.hid (hSS.alloc (.cells #[.int .i64 kd, .int .u64 x] 40))
        generalize wr.alloc _ = wa at *
        clear hSS HS x0 x1 Hwr Hgx
        go_cut [] (fun wx => SH w.heap.size gs gw len M w (i + 1) wx)
        case first =>
          by_cases hk0 : kd = 0
          · have hb0 : (kd == 0) = true := by simpa using hk0
            clear hk0
            obtain ⟨p0, p1, p2, q0, q1, q2⟩ := all3 HSS.out.r
            have y1 : wa.cell? ⟨gx, 1, none⟩ = some (.int .u64 x) := HX.out.cell 1
            by_cases hnm : (n : Int) < M
            · go_wp2_with fail
              refine (refPush_yes A1 n c1 M ms x xs wa HSS.out.rd hnm (by omega)).mono ?_
              rintro e w2 ⟨A2, cap2, rfl, hO2, hb2⟩
              have HSS2 := Lib.hid (HSS.out.below hb2 (Nat.le_refl _))
              have HX2 := Lib.hid (HX.out.below hb2 HX.out.lt)
              have HO2 := Lib.hid hO2
              have HS2 := Lib.hid hb2.size
              clear hO2 hb2 p0 p1 p2 q0 q1 q2 y1
              have y1 : w2.cell? ⟨gx, 1, none⟩ = some (.int .u64 x) := HX2.out.cell 1
              have hgx2 := HX2.out.lt
              go_wp2_with fail
              obtain ⟨g9, Hg9⟩ : ∃ g, Hid (w2.heap.size = g) := ⟨_, rfl⟩
              have HN3 : Hid (Blk (w2.alloc (.cells #[.slice A2 (n + 1) cap2, .int .i64 M, .int .i64 ms] 38)) g9 38 #[.slice A2 (n + 1) cap2, .int .i64 M, .int .i64 ms]) := by
                rw [← Hg9.out]; exact Blk.new w2 38 #[.slice A2 (n + 1) cap2, .int .i64 M, .int .i64 ms]
              have HSS3 := Lib.hid (HSS2.out.alloc (.cells #[.slice A2 (n + 1) cap2, .int .i64 M, .int .i64 ms] 38))
              have HO3 := Lib.hid (HO2.out.alloc (.cells #[.slice A2 (n + 1) cap2, .int .i64 M, .int .i64 ms] 38))
              have HS3 : Hid (w2.heap.size < (w2.alloc (.cells #[.slice A2 (n + 1) cap2, .int .i64 M, .int .i64 ms] 38)).heap.size) := by show _ < _; simp
              rw [Hg9.out]
              generalize w2.alloc _ = w3 at *
              clear HX2 y1 hgx2
              refine (push_yes_word w.heap.size gs A0 n c0 M ms x (ws xs) w3 HSS3.out.g HSS3.out.o hnm (by omega) HSS3.out.size).mono ?_
              rintro e w4 ⟨A3, cap3, rfl, hB4, hO4, hM4, hat4⟩
              rw [← ws_snoc] at hO4
              obtain ⟨hb4, hr4, _, _⟩ := HSS3.out.ref_mod hM4 (fun k hk => hk)
              have hA2 : ∀ a, A2 = some a → wa.heap.size ≤ a.block := fun a ha => (HO2.out.lt a ha).1
              have hA2l : ∀ a, A2 = some a → a.block < w2.heap.size := fun a ha => (HO2.out.lt a ha).2
              have hgs9 := HSS.out.g.lt
              have hA0 : ∀ a, A0 = some a → a.block < wa.heap.size := fun a ha => (HSS.out.o.lt a ha).2
              have hO4b := HO3.out.mod hM4 (fun a ha hk => by
                have h1 := hA2 a ha
                rcases hk with hk | ⟨a2, ha2, hk⟩
                · omega
                · have := hA0 a2 ha2
                  omega)
              have hN4 := hM4.blk HN3.out (fun hk => by
                have h1 := Hg9.out
                have h2 := HS2.out
                rcases hk with hk | ⟨a2, ha2, hk⟩
                · omega
                · have := hA0 a2 ha2
                  omega)
              have hsep : ∀ a', A2 = some a' → a'.block ≠ gs ∧ a'.block ≠ gw ∧ a'.block < w4.heap.size ∧ ∀ a, A3 = some a → a.block ≠ a'.block := by
                intro a' ha
                have h1 := hA2 a' ha
                have h2 := hA2l a' ha
                have h3 := HSS.out.r.lt
                have h4 := HS3.out
                have h5 := hM4.size
                refine ⟨by omega, by omega, by omega, fun a ha3 => ?_⟩
                rcases hat4 a ha3 with ⟨a0, ha0, e⟩ | h6
                · have := hA0 a0 ha0
                  omega
                · omega
              have hcap1 : n + 1 ≤ cap2 ∧ cap2 ≤ maxLen := by
                obtain ⟨_, _, _, _, h1, h2, _⟩ := HO2.out.at_ (by omega)
                exact ⟨h1, h2⟩
              obtain ⟨p0, p1, p2, q0, q1, q2⟩ := all3 hr4
              obtain ⟨d0, d1, d2, _, _, _⟩ := all3 hN4
              have HF := Lib.hid (SS.store hgs hgw hb4 hB4 hO4 hr4 hO4b.rd hsep hcap1.1 hcap1.2)
              clear hb4 hB4 hO4 hM4 hat4 hr4 hA2 hA2l hgs9 hA0 hO4b hN4 hsep hcap1 HO3 HSS3 HN3 HS3
              go_wp2_with fail
              go_meet
              case rel => exact ⟨xs ++ [x], A3, n + 1, cap3, A2, cap2, ms, HF.out, by omega, hms0, by omega⟩
            · go_wp2_with fail
              refine (refPush_no A1 n c1 M ms x wa (by omega) (by omega) hms0 (by omega)).mono ?_
              rintro e w2 ⟨rfl, hb2⟩
              have HSS2 := Lib.hid (HSS.out.below hb2 (Nat.le_refl _))
              have HX2 := Lib.hid (HX.out.below hb2 HX.out.lt)
              have HS2 := Lib.hid hb2.size
              clear hb2 p0 p1 p2 q0 q1 q2 y1
              have y1 : w2.cell? ⟨gx, 1, none⟩ = some (.int .u64 x) := HX2.out.cell 1
              have hgx2 := HX2.out.lt
              go_wp2_with fail
              obtain ⟨g9, Hg9⟩ : ∃ g, Hid (w2.heap.size = g) := ⟨_, rfl⟩
              have HN3 : Hid (Blk (w2.alloc (.cells #[.slice A1 n c1, .int .i64 M, .int .i64 (ms + 1)] 38)) g9 38 #[.slice A1 n c1, .int .i64 M, .int .i64 (ms + 1)]) := by
                rw [← Hg9.out]; exact Blk.new w2 38 #[.slice A1 n c1, .int .i64 M, .int .i64 (ms + 1)]
              have HSS3 := Lib.hid (HSS2.out.alloc (.cells #[.slice A1 n c1, .int .i64 M, .int .i64 (ms + 1)] 38))
              rw [Hg9.out]
              generalize w2.alloc _ = w3 at *
              clear HX2 y1 hgx2
              refine (push_no_word gs A0 n c0 M ms x w3 HSS3.out.g (by omega) (by omega) hms0 (by omega)).mono ?_
              rintro e w4 ⟨rfl, hB4, hM4⟩
              obtain ⟨hb4, hr4, hrd4, hlt4⟩ := HSS3.out.ref_mod hM4 (fun k hk => .inl hk)
              have hO4 := HSS3.out.o.mod hM4 (fun a ha hk => HSS3.out.o.ne HSS3.out.g (by decide) a ha hk)
              have hN4 := hM4.blk HN3.out (fun hk => by
                have h1 := Hg9.out
                have h2 := HS2.out
                have h3 := HSS.out.g.lt
                omega)
              have hsep : ∀ a', A1 = some a' → a'.block ≠ gs ∧ a'.block ≠ gw ∧ a'.block < w4.heap.size ∧ ∀ a, A0 = some a → a.block ≠ a'.block :=
                fun a' ha => ⟨(HSS3.out.sep a' ha).1, (HSS3.out.sep a' ha).2.1, hlt4 a' ha, (HSS3.out.sep a' ha).2.2.2⟩
              obtain ⟨p0, p1, p2, q0, q1, q2⟩ := all3 hr4
              obtain ⟨d0, d1, d2, _, _, _⟩ := all3 hN4
              have HF := Lib.hid (SS.store hgs hgw hb4 hB4 hO4 hr4 hrd4 hsep HSS3.out.cap1 HSS3.out.cap2)
              clear hb4 hB4 hO4 hM4 hr4 hrd4 hlt4 hN4 hsep HSS3 HN3
              go_wp2_with fail
              go_meet
              case rel => exact ⟨xs, A0, n, c0, A1, c1, ms + 1, HF.out, by omega, by omega, by omega⟩
          · have hb0 : (kd == 0) = false := by simpa using hk0
            by_cases hk1 : kd = 1
            · have hb1 : (kd == 1) = true := by simpa using hk1
              clear hk0 hk1
              obtain ⟨p0, p1, p2, q0, q1, q2⟩ := all3 HSS.out.r
              rcases Nat.eq_zero_or_pos n with hn0 | hn0
              · subst hn0
                go_wp2_with fail
                refine (refPop_no A1 c1 M ms wa).mono ?_
                rintro e w2 ⟨rfl, hb2⟩
                have HSS2 := Lib.hid (HSS.out.below hb2 (Nat.le_refl _))
                have HS2 := Lib.hid hb2.size
                clear hb2 p0 p1 p2 q0 q1 q2
                go_wp2_with fail
                obtain ⟨g9, Hg9⟩ : ∃ g, Hid (w2.heap.size = g) := ⟨_, rfl⟩
                have HN3 : Hid (Blk (w2.alloc (.cells #[.slice A1 0 c1, .int .i64 M, .int .i64 ms] 38)) g9 38 #[.slice A1 0 c1, .int .i64 M, .int .i64 ms]) := by
                  rw [← Hg9.out]; exact Blk.new w2 38 #[.slice A1 0 c1, .int .i64 M, .int .i64 ms]
                have HSS3 := Lib.hid (HSS2.out.alloc (.cells #[.slice A1 0 c1, .int .i64 M, .int .i64 ms] 38))
                rw [Hg9.out]
                generalize w2.alloc _ = w3 at *
                refine (pop_no_word gs A0 c0 M ms w3 HSS3.out.g).mono ?_
                rintro e w4 ⟨rfl, rfl⟩
                obtain ⟨p0, p1, p2, q0, q1, q2⟩ := all3 HSS3.out.r
                obtain ⟨d0, d1, d2, _, _, _⟩ := all3 HN3.out
                have HF := Lib.hid (SS.store hgs hgw HSS3.out.b HSS3.out.g HSS3.out.o HSS3.out.r HSS3.out.rd HSS3.out.sep HSS3.out.cap1 HSS3.out.cap2)
                go_wp2_with fail
                go_meet
                case rel => exact ⟨xs, A0, 0, c0, A1, c1, ms, HF.out, by omega, by omega, by omega⟩
              · obtain ⟨k, rfl⟩ : ∃ k, n = k + 1 := ⟨n - 1, by omega⟩
                obtain ⟨ys, y, rfl⟩ : ∃ ys y, xs = ys ++ [y] := by
                  have hl : xs.length = k + 1 := by have := HSS.out.rd.1; rw [ws_len] at this; omega
                  rcases List.eq_nil_or_concat xs with h | ⟨L, z, h⟩
                  · rw [h] at hl; simp at hl
                  · exact ⟨L, z, by rw [h, List.concat_eq_append]⟩
                go_wp2_with fail
                refine (refPop_yes A1 k c1 M ms y ys wa HSS.out.rd HSS.out.cap1 HSS.out.cap2 (by omega)).mono ?_
                rintro e w2 ⟨rfl, hb2⟩
                have HSS2 := Lib.hid (HSS.out.below hb2 (Nat.le_refl _))
                have HS2 := Lib.hid hb2.size
                clear hb2 p0 p1 p2 q0 q1 q2
                go_wp2_with fail
                obtain ⟨g9, Hg9⟩ : ∃ g, Hid (w2.heap.size = g) := ⟨_, rfl⟩
                have HN3 : Hid (Blk (w2.alloc (.cells #[.slice A1 k k, .int .i64 M, .int .i64 ms] 38)) g9 38 #[.slice A1 k k, .int .i64 M, .int .i64 ms]) := by
                  rw [← Hg9.out]; exact Blk.new w2 38 #[.slice A1 k k, .int .i64 M, .int .i64 ms]
                have HSS3 := Lib.hid (HSS2.out.alloc (.cells #[.slice A1 k k, .int .i64 M, .int .i64 ms] 38))
                rw [Hg9.out]
                generalize w2.alloc _ = w3 at *
                refine (pop_yes_word w.heap.size gs A0 k c0 M ms y (ws ys) w3 HSS3.out.g (by rw [← ws_snoc]; exact HSS3.out.o) (by omega)).mono ?_
                rintro e w4 ⟨rfl, hB4, hO4, hM4⟩
                obtain ⟨hb4, hr4, hrd4, hlt4⟩ := HSS3.out.ref_mod hM4 (fun k hk => .inl hk)
                have hN4 := hM4.blk HN3.out (fun hk => by
                  have h1 := Hg9.out
                  have h2 := HS2.out
                  have h3 := HSS.out.g.lt
                  omega)
                have hrd5 : Rd w4 1 A1 k (ws ys) := by
                  have := hrd4.cut (k := k) (by omega)
                  rwa [ws_snoc, Nat.mul_one, List.take_append_of_le_length (by have := hrd4.1; rw [ws_len] at this ⊢; simp at this; omega), List.take_of_length_le (by have := hrd4.1; rw [ws_len] at this ⊢; simp at this; omega)] at this
                have hsep : ∀ a', A1 = some a' → a'.block ≠ gs ∧ a'.block ≠ gw ∧ a'.block < w4.heap.size ∧ ∀ a, A0 = some a → a.block ≠ a'.block :=
                  fun a' ha => ⟨(HSS3.out.sep a' ha).1, (HSS3.out.sep a' ha).2.1, hlt4 a' ha, (HSS3.out.sep a' ha).2.2.2⟩
                obtain ⟨p0, p1, p2, q0, q1, q2⟩ := all3 hr4
                obtain ⟨d0, d1, d2, _, _, _⟩ := all3 hN4
                have HF := Lib.hid (SS.store hgs hgw hb4 hB4 hO4 hr4 hrd5 hsep (Nat.le_refl k) (by have := HSS3.out.cap1; have := HSS3.out.cap2; omega))
                clear hb4 hB4 hO4 hM4 hr4 hrd4 hrd5 hlt4 hN4 hsep HSS3 HN3
                go_wp2_with fail
                go_meet
                case rel => exact ⟨ys, A0, k, c0, A1, k, ms, HF.out, by omega, by omega, by omega⟩
            · have hb1 : (kd == 1) = false := by simpa using hk1
              by_cases hk2 : kd = 2
              · have hb2 : (kd == 2) = true := by simpa using hk2
                clear hk0 hk1 hk2
                obtain ⟨p0, p1, p2, q0, q1, q2⟩ := all3 HSS.out.r
                go_upto_region 22 with fail
                go_region_with (go_at_call 15; refine (missed_word gs (.slice A0 n c0) M ms _ (by exact HSS.out.g)).mono ?_; rintro e w4 ⟨rfl, hB4, hM4⟩; have hM5 : Mod wa w4 (fun k => k = gs) := ⟨hM4.os, hM4.tape, hM4.output, hM4.size, hM4.block⟩; have hd2 : w4.cell? ⟨gw, 2, none⟩ = some (.int .i64 ms) := (SS.ref_mod HSS.out hM5 (fun k hk => .inl hk)).2.1.cell 2; have HM5 := Lib.hid hM5; have HB4 := Lib.hid hB4; clear hM4 hM5 hB4)
                all_goals
                  obtain ⟨hb4, hr4, hrd4, hlt4⟩ := HSS.out.ref_mod HM5.out (fun k hk => .inl hk)
                  have hO4 := HSS.out.o.mod HM5.out (fun a ha hk => HSS.out.o.ne HSS.out.g (by decide) a ha hk)
                  have q5 := hr4.frozen 2
                  have hsep : ∀ a', A1 = some a' → a'.block ≠ gs ∧ a'.block ≠ gw ∧ a'.block < w4.heap.size ∧ ∀ a, A0 = some a → a.block ≠ a'.block :=
                    fun a' ha => ⟨(HSS.out.sep a' ha).1, (HSS.out.sep a' ha).2.1, hlt4 a' ha, (HSS.out.sep a' ha).2.2.2⟩
                  have HF := Lib.hid (SS.set2 hgs hgw hb4 HB4.out hO4 hr4 hrd4 hsep HSS.out.cap1 HSS.out.cap2)
                  clear hb4 hr4 hrd4 hlt4 hO4 hsep HM5 HB4
                  go_wp2_with fail
                  go_meet
                  case rel => exact ⟨xs, A0, n, c0, A1, c1, 0, HF.out, by omega, by omega, by omega⟩
              · have hb2 : (kd == 2) = false := by simpa using hk2
                by_cases hk3 : kd = 3
                · have hb3 : (kd == 3) = true := by simpa using hk3
                  clear hk0 hk1 hk2 hk3
                  go_wp2_with fail
                  refine (clear_word w.heap.size gs A0 n c0 M ms (ws xs) wa HSS.out.g HSS.out.o).mono ?_
                  rintro e w4 ⟨rfl, hB4, hO4, hM4⟩
                  obtain ⟨hb4, hr4, hrd4, hlt4⟩ := HSS.out.ref_mod hM4 (fun k hk => hk)
                  obtain ⟨p0, p1, p2, q0, q1, q2⟩ := all3 hr4
                  have HF := Lib.hid (SS.store (A2 := none) (cap2 := 0) (ms2 := 0) (xs2 := []) hgs hgw hb4 hB4 hO4 hr4 (Rd.nil _ _ _) (fun a' h => by cases h) (Nat.le_refl _) (Nat.zero_le _))
                  clear hb4 hB4 hO4 hM4 hr4 hrd4 hlt4
                  go_wp2_with fail
                  go_meet
                  case rel => exact ⟨[], A0, 0, c0, none, 0, 0, HF.out, by omega, by omega, by omega⟩
                · have hb3 : (kd == 3) = false := by simpa using hk3
                  clear hk0 hk1 hk2 hk3
                  go_wp2_with fail
                  go_meet
                  case rel => exact ⟨xs, A0, n, c0, A1, c1, ms, HSS.out, by omega, by omega, by omega⟩
        case rest =>
          clear HSS HX hn hms0 hms1
          obtain ⟨xs, A0, n, c0, A1, c1, ms, hSS, hn, hms0, hms1⟩ := hcut
          have HSS := Lib.hid hSS
          obtain ⟨p0, p1, p2, _, _, _⟩ := all3 hSS.r
          clear hSS
          go_wp2_with fail
          clear p0 p1 p2
          go_loopw [16, 17] (fun v16 v17 wr => ∃ (j k : Nat) (A' : Option Addr) (cap' : Nat), v17 = .int .i64 ((j : Int) - 1) ∧ j + k = n ∧ v16 = .slice A' k cap' ∧ Own wr wc.heap.size 35 1 A' k cap' (ws (xs.drop j).reverse) ∧ Below wc.heap.size wc wr)
            (fun _ v17 _ => (intOf v17 + 1).toNat)
          case atStart => exact ⟨n, 0, none, 0, rfl, rfl, rfl, by rw [List.drop_of_length_le (by have := HSS.out.rd.1; rw [ws_len] at this; omega)]; exact Own.nil _ _ _ _, Below.refl _ _⟩
          case round =>
            obtain ⟨j, k, A', cap', rfl, hjk, rfl, hO, hb⟩ := hrel
            have HO := Lib.hid hO
            have Hb := Lib.hid hb
            have hsz := hb.size
            have HSSr := Lib.hid (HSS.out.below hb (Nat.le_refl _))
            obtain ⟨p0, p1, p2, _, _, _⟩ := all3 HSSr.out.r
            clear hO hb
            rcases Nat.eq_zero_or_pos j with h0 | h0
            · subst h0
              obtain rfl : k = n := by omega
              have HR2 := Lib.hid HO.out.rd
              rw [List.drop_zero] at HR2
              go_upto_region 33 with fail
              have hn1 : k ≤ 1000000 := by omega
              go_region_with (first
                | (go_at_call 17; refine (len_word gs A0 k c0 (.int .i64 M) (.int .i64 ms) _ (by exact HSSr.out.g)).mono ?_; rintro e w' ⟨rfl, rfl⟩)
                | (go_at_call 18; refine (most_word gs (.slice A0 k c0) (.int .i64 ms) M _ (by exact HSSr.out.g)).mono ?_; rintro e w' ⟨rfl, rfl⟩)
                | (go_at_call 20; refine (all_word gs A0 k c0 (.int .i64 M) (.int .i64 ms) xs _ (by exact HSSr.out.g) (by exact HSSr.out.o.rd) hn1).mono ?_; rintro e w5 ⟨A5, cap5, rfl, hO5, hb5⟩; have HR5 := Lib.hid hO5.rd; have Hb5 : Hid (Below wr.heap.size wr w5) := ⟨hb5.os, hb5.tape, hb5.output, hb5.size, hb5.block⟩; clear hO5 hb5)
                | (go_at_call 19; refine (same_yes A5 A' k cap5 cap' xs.reverse _ hn1 (by exact HR5.out) (by exact HR2.out.below Hb5.out (Nat.le_refl _))).mono ?_; rintro e w6 ⟨rfl, q6, hq6⟩; have Hb6 : Hid (Below wr.heap.size wr w6) := (by rw [← hq6]; exact ⟨Hb5.out.os, Hb5.out.tape, Hb5.out.output, Hb5.out.size, Hb5.out.block⟩); clear hq6))
              all_goals
                go_wp2_with fail
                exact ⟨⟨i + 1, by go_num, by omega, by omega, xs, A0, k, c0, A1, c1, ms, HSSr.out.below Hb6.out (Nat.le_refl _), hn, hms0, hms1⟩, by simp [intOf]; omega⟩
            · obtain ⟨m, rfl⟩ : ∃ m, j = m + 1 := ⟨j - 1, by omega⟩
              rw [show (((m + 1 : Nat) : Int) - 1) = (m : Int) by omega]
              obtain ⟨g, off, hA, hg, hc⟩ := HSSr.out.rd.2 (by omega)
              have hl := HSSr.out.rd.1
              rw [ws_len] at hl
              subst hA
              have x0 : wr.cell? ⟨g, off + m, none⟩ = some (.int .u64 (xs.getD m 0)) := hc m _ (ws_at xs m (by omega))
              have Hd : Hid (ws (xs.drop m).reverse = ws (xs.drop (m + 1)).reverse ++ [.int .u64 (xs.getD m 0)]) := by
                show ws (xs.drop m).reverse = _
                rw [List.drop_eq_getElem_cons (by omega : m < xs.length), List.reverse_cons, ws_snoc]
                simp [List.getD, List.getElem?_eq_getElem (by omega : m < xs.length)]
              have hmn : m + 1 ≤ n := by omega
              have hkn : k ≤ 1000000 := by omega
              have Hjk := Lib.hid hjk
              obtain ⟨i0, hi0, hz0, hz1, hz2⟩ := info_parts info_word
              clear hc hjk hl
              generalize xs.getD m 0 = y at *
              go_wp2_with (at_builtin; refine append_one rfl (.tmp 104) (.tmp 110) 36 rfl wc.heap.size 35 i0 _ 8 Try.underlying36 hi0 hz0 hz1 hz2 rfl A' k cap' _ rfl HO.out _ rfl rfl (by unfold maxLen; omega) (by omega) hsz ?_)
              intro A4 cap4 w4 hO4 hM4 hat4
              have HO4 := Lib.hid hO4
              have Hb4 := Lib.hid (Below.mod Hb.out hM4 hsz (fun k _ ⟨a, ha, e⟩ => by rw [← e]; exact (HO.out.lt a ha).1))
              clear hO4 hM4 hat4 x0
              go_wp2_with fail
              exact ⟨⟨m, k + 1, A4, cap4, rfl, by have := Hjk.out; omega, rfl, by rw [Hd.out]; exact HO4.out, Hb4.out⟩, by simp [intOf]⟩
      · go_wp2_with fail
        go_ret
        obtain ⟨_, _, _, _, _, _, _, h, _⟩ := HS.out
        exact ⟨rfl, h.b⟩
    · go_wp2_with fail
      go_ret
      obtain ⟨_, _, _, _, _, _, _, h, _⟩ := HS.out
      exact ⟨rfl, h.b⟩
end Go.Proofs.Ytiememacpeflbaa
