/- The walks of the reference's Push and Pop. -/
import Derived.Test.YtiememacpeflbaaWv
namespace Go.Proofs.Ytiememacpeflbaa
open Go.RowKit
set_option linter.unusedVariables false
set_option linter.unusedSimpArgs false

theorem size38 : (Try.prog.info? 38).map (·.size) = some 3 := by kernel_rfl

theorem refPush_no (A : Option Addr) (n cap : Nat) (m ms x : Int) (w : World) (h : m ≤ (n : Int)) (hn : n ≤ 1000000) (h0 : 0 ≤ ms) (h1 : ms ≤ 1000000) :
    Calls Try.prog 11 #[.agg #[.slice A n cap, .int .i64 m, .int .i64 ms], .int .u64 x] w fun e w' =>
      e = .returned (.tuple #[.agg #[.slice A n cap, .int .i64 m, .int .i64 (ms + 1)], .bool false]) ∧ Below w.heap.size w w' := by
  go_enter Try.func11, Try.ntmps11
  go_wp2
  go_returns
  refine ⟨rfl, ?_⟩
  go_grown

set_option maxHeartbeats 400000 in
theorem refPush_yes (A : Option Addr) (n cap : Nat) (m ms x : Int) (xs : List Int) (w : World) (hR : Rd w 1 A n (ws xs)) (h : (n : Int) < m) (hn : n ≤ 1000000) :
    Calls Try.prog 11 #[.agg #[.slice A n cap, .int .i64 m, .int .i64 ms], .int .u64 x] w fun e w' => ∃ A' cap',
      e = .returned (.tuple #[.agg #[.slice A' (n + 1) cap', .int .i64 m, .int .i64 ms], .bool true]) ∧ Own w' w.heap.size 35 1 A' (n + 1) cap' (ws (xs ++ [x])) ∧ Below w.heap.size w w' := by
  obtain ⟨i0, hi0, hz0, hz1, hz2⟩ := info_parts info_word
  have hd : decide (m ≤ (n : Int)) = false := by simp; omega
  have HR := Lib.hid hR
  clear hR
  go_enter Try.func11, Try.ntmps11
  go_wp2_with (at_builtin; go_loud (refine append_rd rfl (.tmp 17) (.tmp 19) 36 rfl w.heap.size 35 i0 _ 1 8 Try.underlying36 hi0 hz0 hz1 hz2 rfl (by omega) (some ⟨w.heap.size + 1 + 1, 0, none⟩) 0 0 [] rfl (Own.empty _ _ 35 1 _ (by simp) (by omega)) A n cap (ws xs) rfl (((HR.out.alloc _).alloc _).alloc _) (ws_one _) n (Nat.zero_add n) (ws xs) rfl (by unfold maxLen; omega) (by omega) (by simp; omega) ?_))
  intro A1 cap1 w1 hO1 hM1 hat1
  have HO1 := Lib.hid hO1
  have HC1 := Lib.hid (hM1.blk ((((Blk.new w 38 #[.slice A n cap, .int .i64 m, .int .i64 ms])).alloc (.cells #[.slice none 0 0, .int .i64 0, .int .i64 0] 38)).alloc (.cells #[] 35)) (show ¬ (w.heap.size + 1 + 1 = w.heap.size) by omega))
  have hE0 := hM1.blk ((Blk.new (w.alloc (.cells #[.slice A n cap, .int .i64 m, .int .i64 ms] 38)) 38 #[.slice none 0 0, .int .i64 0, .int .i64 0]).alloc (.cells #[] 35)) (by simp)
  have hE1 : Blk w1 (w.heap.size + 1) 38 #[.slice none 0 0, .int .i64 0, .int .i64 0] := by simpa using hE0
  have HE1 := Lib.hid hE1
  have Hb1 := Lib.hid (Below.mod ((((Below.refl _ w).alloc (Nat.le_refl _) _).alloc (by simp) _).alloc (by simp; omega) _) hM1 (by simp; omega) (fun k _ hk => by have h2 : w.heap.size + 1 + 1 = k := hk; omega))
  have hs1 := Hb1.out.size
  clear hO1 hM1 hat1 hE0 hE1
  go_wp2_with (at_builtin; refine append_one rfl (.tmp 20) (.tmp 22) 36 rfl w.heap.size 35 i0 _ 8 Try.underlying36 hi0 hz0 hz1 hz2 rfl A1 n cap1 (ws xs) rfl HO1.out _ rfl rfl (by unfold maxLen; omega) (by omega) hs1 ?_)
  intro A2 cap2 w2 hO2 hM2 hat2
  have hn1 := HO1.out.ne HC1.out (by decide)
  have hn2 := HO1.out.ne HE1.out (by decide)
  have HC2 := Lib.hid (hM2.blk HC1.out (by rintro ⟨a, ha, he⟩; exact hn1 a ha he))
  have HE2 := Lib.hid (hM2.blk HE1.out (by rintro ⟨a, ha, he⟩; exact hn2 a ha he))
  have HO2 := Lib.hid hO2
  have Hb2 := Lib.hid (Below.mod Hb1.out hM2 hs1 (fun k _ hk => by obtain ⟨a, ha, he⟩ := hk; rw [← he]; exact (HO1.out.lt a ha).1))
  clear hO2 hM2 hat2 hn1 hn2
  have c0 := HC2.out.cell 0
  have c1 := HC2.out.cell 1
  have c2 := HC2.out.cell 2
  have f0 := HC2.out.frozen 0
  have d0 := HE2.out.cell 0
  have d1 := HE2.out.cell 1
  have d2 := HE2.out.cell 2
  have q0 := HE2.out.frozen 0
  have q1 := HE2.out.frozen 1
  have q2 := HE2.out.frozen 2
  simp only [List.getElem?_toArray, List.getElem?_cons_zero, List.getElem?_cons_succ] at c0 c1 c2 d0 d1 d2
  have Hws := Lib.hid (ws_snoc xs x)
  have Hm1 := Lib.hid (HO2.out.ne HC2.out (by decide))
  have Hm2 := Lib.hid (HO2.out.ne HE2.out (by decide))
  go_wp2_with fail
  clear c0 c1 c2 f0 d0 d1 d2 q0 q1 q2
  change bodyPost _ _ _ _ _ (store3 (w2.setCell ⟨w.heap.size, 0, none⟩ (.slice A2 (n + 1) cap2)) (w.heap.size + 1) (.slice A2 (n + 1) cap2) (.int .i64 m) (.int .i64 ms))
  have hM3 : Mod w2 (w2.setCell ⟨w.heap.size, 0, none⟩ (.slice A2 (n + 1) cap2)) (fun k => k = w.heap.size) := Mod.set (S := fun k => k = w.heap.size) (Mod.refl w2 _) (.inr rfl) _
  have HE4 := Lib.hid ((hM3.blk HE2.out (by omega)).store3 (.slice A2 (n + 1) cap2) (.int .i64 m) (.int .i64 ms))
  have HM4 := Lib.hid ((hM3.mono (S' := fun k => k = w.heap.size ∨ k = w.heap.size + 1) (fun k _ h => .inl h)).trans (Mod.of_grown (only_store3 (w2.setCell ⟨w.heap.size, 0, none⟩ (.slice A2 (n + 1) cap2)) (w.heap.size + 1) (.slice A2 (n + 1) cap2) (.int .i64 m) (.int .i64 ms)))
    (fun k _ h => .inr (by injection h with h; exact h.symm)))
  clear hM3
  generalize store3 _ _ _ _ _ = w4 at *
  obtain ⟨d0, d1, d2, _, _, _⟩ := all3 HE4.out
  refine bodyPost_ret (v := .tuple #[.agg #[.slice A2 (n + 1) cap2, .int .i64 m, .int .i64 ms], .bool true]) (by simp [results, Try.results11, go_sem, d0, d1, d2]) rfl ?_
  refine ⟨A2, cap2, rfl, ?_, ?_⟩
  · rw [Hws.out]
    exact HO2.out.mod HM4.out (fun a ha h => h.elim (Hm1.out a ha) (Hm2.out a ha))
  · exact Below.mod Hb2.out HM4.out Hb2.out.size (fun k _ h => by omega)

theorem refPop_no (A : Option Addr) (cap : Nat) (m ms : Int) (w : World) :
    Calls Try.prog 13 #[.agg #[.slice A 0 cap, .int .i64 m, .int .i64 ms]] w fun e w' =>
      e = .returned (.tuple #[.agg #[.slice A 0 cap, .int .i64 m, .int .i64 ms], .int .u64 0, .bool false]) ∧ Below w.heap.size w w' := by
  go_enter Try.func13, Try.ntmps13
  go_wp2
  go_returns
  refine ⟨rfl, ?_⟩
  go_grown

theorem refPop_yes (A : Option Addr) (n cap : Nat) (m ms x : Int) (xs : List Int) (w : World) (hR : Rd w 1 A (n + 1) (ws (xs ++ [x]))) (hcap : n + 1 ≤ cap) (hcap2 : cap ≤ maxLen) (hn : n ≤ 1000000) :
    Calls Try.prog 13 #[.agg #[.slice A (n + 1) cap, .int .i64 m, .int .i64 ms]] w fun e w' =>
      e = .returned (.tuple #[.agg #[.slice A n n, .int .i64 m, .int .i64 ms], .int .u64 x, .bool true]) ∧ Below w.heap.size w w' := by
  unfold maxLen at hcap2
  obtain ⟨g, off, rfl, hg, hc⟩ := hR.2 (by omega)
  have hlen : xs.length = n := by have := hR.1; rw [ws_len] at this; simp at this; omega
  have x0 : w.cell? ⟨g, off + n, none⟩ = some (.int .u64 x) := hc n _ (by rw [ws_snoc, List.getElem?_append_right (by rw [ws_len]; omega), ws_len, hlen]; simp)
  clear hc hR
  go_enter Try.func13, Try.ntmps13
  go_wp2
  go_returns
  refine ⟨rfl, ?_⟩
  go_grown
end Go.Proofs.Ytiememacpeflbaa
