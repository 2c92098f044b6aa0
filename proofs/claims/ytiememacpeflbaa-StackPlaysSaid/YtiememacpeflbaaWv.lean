/- The walks of a stack of words' other methods, of Same, and of the reference's Push and Pop. -/
import Derived.Test.YtiememacpeflbaaWu
import Derived.Lib.SliceRun
import Derived.Laws.CopyRow
namespace Go.Proofs.Ytiememacpeflbaa
open Go.RowKit
set_option linter.unusedVariables false
set_option linter.unusedSimpArgs false

theorem len_word (gs : Nat) (A : Option Addr) (n cap : Nat) (v1 v2 : Value) (w : World) (hB : Blk w gs 59 #[.slice A n cap, v1, v2]) :
    Calls Try.prog 17 #[.pointer (some ⟨gs, 0, none⟩)] w fun e w' => e = .returned (.int .i64 n) ∧ w = w' := by
  have c0 := hB.cell 0
  simp only [List.getElem?_toArray, List.getElem?_cons_zero, List.getElem?_cons_succ] at c0
  clear hB
  go_enter Try.func17, Try.ntmps17
  go_wp2
  go_ret
  exact ⟨rfl, rfl⟩

theorem most_word (gs : Nat) (v0 v2 : Value) (m : Int) (w : World) (hB : Blk w gs 59 #[v0, .int .i64 m, v2]) :
    Calls Try.prog 18 #[.pointer (some ⟨gs, 0, none⟩)] w fun e w' => e = .returned (.int .i64 m) ∧ w = w' := by
  have c1 := hB.cell 1
  simp only [List.getElem?_toArray, List.getElem?_cons_zero, List.getElem?_cons_succ] at c1
  clear hB
  go_enter Try.func18, Try.ntmps18
  go_wp2
  go_ret
  exact ⟨rfl, rfl⟩

theorem missed_word (gs : Nat) (v : Value) (m ms : Int) (w : World) (hB : Blk w gs 59 #[v, .int .i64 m, .int .i64 ms]) :
    Calls Try.prog 15 #[.pointer (some ⟨gs, 0, none⟩)] w fun e w' => e = .returned (.int .i64 ms) ∧ Blk w' gs 59 #[v, .int .i64 m, .int .i64 0] ∧ Mod w w' (fun k => k = gs) := by
  have c2 := hB.cell 2
  have f2 := hB.frozen 2
  simp only [List.getElem?_toArray, List.getElem?_cons_zero, List.getElem?_cons_succ] at c2
  have HB := Lib.hid hB
  clear hB
  go_enter Try.func15, Try.ntmps15
  go_wp2
  go_ret
  refine ⟨rfl, ?_, ?_⟩
  · refine Blk.conv (Blk.set_ HB.out 2 _) ?_
    simp
  · exact Mod.set (S := fun k => k = gs) (Mod.refl w _) (.inr rfl) _

/-- clear(s) on a row that the call owns. -/
theorem run_clear_own {P : Program} (w : World) (t e : TypeId) (z : Value) (ht : P.underlying t = some (.slice e)) (hv : ∀ w, (zeroValue e).run P w = .ok z w) (hz : z.cells = #[z]) (h1 : z.oneCell' = true)
    {B n cap : Nat} {A : Option Addr} {xs : List Value} (hO : Own w B e 1 A n cap xs) :
    ∃ w', (∀ ty, (Builtin.clear_ #[t] ty #[.slice A n cap]).run P w = .ok (.tuple #[]) w') ∧ Own w' B e 1 A n cap (List.replicate n z) ∧ Mod w w' (fun k => ∃ a, A = some a ∧ a.block = k) := by
  rcases Nat.eq_zero_or_pos n with h0 | h0
  · subst h0
    refine ⟨w, fun ty => ?_, ?_, Mod.refl w _⟩
    · cases A <;> simp [Builtin.clear_, run_underlying ht]
    · have := hO.cut (k := 0) (Nat.le_refl _)
      simpa using this
  · rcases hO.form with ⟨_, h, _⟩ | ⟨g, cur, rfl, hg1, hg2, hg3, hg4, hg5, hg6⟩
    · omega
    · have hzc : (Builtin.zeroCells z.cells n).toList = List.replicate n z := by
        rw [hz]
        simp [Builtin.zeroCells]
        apply List.ext_getElem
        · simp
        · intro i h1 h2
          simp [Nat.mod_one]
      have hst := run_storeCells_at P g 0 e (List.replicate n z) 0 cur w hg2 (by simp; omega) (by intro v hv'; rw [List.eq_of_mem_replicate hv']; exact h1)
      obtain ⟨cur2, hcur⟩ : ∃ c, (List.take (0 + 0) cur.toList ++ List.replicate n z ++ List.drop (0 + 0 + (List.replicate n z).length) cur.toList).toArray = c := ⟨_, rfl⟩
      rw [hcur] at hst
      refine ⟨w.setRow g cur2, fun ty => ?_, ⟨by simp, .inr ⟨g, cur2, rfl, hg1, setRow_heap w g cur cur2 e _ hg2, hg3, hg4, ?_, ?_⟩⟩, ⟨rfl, rfl, rfl, by simp [World.setRow], fun k _ hk => setRow_other w g k _ (fun e => hk ⟨_, rfl, e.symm⟩)⟩⟩
      · obtain ⟨m, rfl⟩ : ∃ m, n = m + 1 := ⟨n - 1, by omega⟩
        simp [Builtin.clear_, run_underlying ht, hv, hzc, hst]
      · subst hcur
        simp; omega
      · subst hcur
        simp

theorem zero35 (w : World) : (zeroValue 35).run Try.prog w = .ok (.int .u64 0) w := by kernel_rfl

theorem clear_word (B gs : Nat) (A : Option Addr) (n cap : Nat) (m ms : Int) (xs : List Value) (w : World) (hB : Blk w gs 59 #[.slice A n cap, .int .i64 m, .int .i64 ms])
    (hO : Own w B 35 1 A n cap xs) :
    Calls Try.prog 16 #[.pointer (some ⟨gs, 0, none⟩)] w fun e w' => e = .returned (.tuple #[]) ∧
      Blk w' gs 59 #[.slice A 0 cap, .int .i64 m, .int .i64 0] ∧ Own w' B 35 1 A 0 cap [] ∧ Mod w w' (fun k => k = gs ∨ ∃ a, A = some a ∧ a.block = k) := by
  obtain ⟨w2, hrun, hO2, hM2⟩ := run_clear_own w 36 35 _ Try.underlying36 zero35 rfl rfl hO
  have hne := hO.ne hB (by decide)
  have hB2 := hM2.blk hB (fun ⟨a, ha, he⟩ => hne a ha he)
  have c0 := hB.cell 0
  have d0 := hB2.cell 0
  have d2 := hB2.cell 2
  have f0 := hB2.frozen 0
  have f2 := hB2.frozen 2
  simp only [List.getElem?_toArray, List.getElem?_cons_zero, List.getElem?_cons_succ] at c0 d0 d2
  have HB2 := Lib.hid hB2
  have HO2 := Lib.hid (hO2.cut (k := 0) (Nat.zero_le _))
  have HM2 := Lib.hid hM2
  have Hne := Lib.hid (hO2.ne hB2 (by decide))
  clear hB hO hB2 hO2 hM2 hne
  go_enter Try.func16, Try.ntmps16
  go_wp2
  go_end0
  refine ⟨rfl, ?_, ?_, ?_⟩
  · refine Blk.conv (Blk.set_ (Blk.set_ HB2.out 0 _) 2 _) ?_
    simp
  · have hM := Mod.set (S := fun k => k = gs) (p := ⟨gs, 2, none⟩) (Mod.set (S := fun k => k = gs) (p := ⟨gs, 0, none⟩) (Mod.refl w2 _) (.inr rfl) (.slice A 0 cap)) (.inr rfl) (.int .i64 0)
    have := HO2.out.mod hM (fun a ha h => Hne.out a ha h)
    simpa using this
  · exact Mod.set (Mod.set (HM2.out.mono (fun k _ hk => .inr hk)) (.inr (.inl rfl)) _) (.inr (.inl rfl)) _

/-- Words as values. -/
def ws (xs : List Int) : List Value := xs.map (Value.int .u64)
theorem ws_len (xs : List Int) : (ws xs).length = xs.length := by simp [ws]
theorem ws_at (xs : List Int) (j : Nat) (h : j < xs.length) : (ws xs)[j]? = some (.int .u64 (xs.getD j 0)) := by simp [ws, List.getD, h]
theorem ws_one (xs : List Int) : ∀ u ∈ ws xs, u.oneCell' = true := by
  intro u hu
  obtain ⟨_, _, rfl⟩ := List.mem_map.1 hu
  rfl
theorem ws_snoc (xs : List Int) (x : Int) : ws (xs ++ [x]) = ws xs ++ [.int .u64 x] := by simp [ws]

theorem same_yes (A A' : Option Addr) (n c c' : Nat) (xs : List Int) (w : World) (hn : n ≤ 1000000) (h : Rd w 1 A n (ws xs)) (h' : Rd w 1 A' n (ws xs)) :
    Calls Try.prog 19 #[.slice A n c, .slice A' n c'] w fun e w' => e = .returned (.bool true) ∧ ∃ q, w.drewN q = w' := by
  have H := Lib.hid h
  have H' := Lib.hid h'
  have hlen : xs.length = n := by have := h.1; rw [ws_len] at this; omega
  have Hlen := Lib.hid hlen
  clear h h' hlen
  go_enter Try.func19, Try.ntmps19
  go_wp2_with fail
  go_loopw [5] (fun v5 wr => ∃ i : Nat, v5 = .int .i64 i ∧ i ≤ n ∧ ∃ q, w.drewN q = wr) (fun v5 _ => n - (intOf v5).toNat)
  case atStart => exact ⟨0, rfl, Nat.zero_le _, 0, rfl⟩
  case round =>
    obtain ⟨i, rfl, hi, q, rfl⟩ := hrel
    by_cases hlt : i < n
    · obtain ⟨g, off, hA, hg, hc⟩ := H.out.2 (by omega)
      obtain ⟨g', off', hA', hg', hc'⟩ := H'.out.2 (by omega)
      subst hA hA'
      have x0 : w.cell? ⟨g, off + i, none⟩ = some (.int .u64 (xs.getD i 0)) := hc i _ (ws_at xs i (by rw [Hlen.out]; exact hlt))
      have x1 : w.cell? ⟨g', off' + i, none⟩ = some (.int .u64 (xs.getD i 0)) := hc' i _ (ws_at xs i (by rw [Hlen.out]; exact hlt))
      clear hc hc'
      generalize xs.getD i 0 = x at *
      go_wp2_with fail
      go_quiet (fail)
      go_wp2_with fail
      exact ⟨⟨i + 1, by go_num, by omega, by first | exact ⟨_, rfl⟩ | exact ⟨_, (World.drewN_drewN _ _ _).symm⟩⟩, by simp [intOf]; omega⟩
    · obtain rfl : i = n := by omega
      go_wp2_with fail
      go_ret
      exact ⟨rfl, q, rfl⟩

theorem all_word (gs : Nat) (A : Option Addr) (n cap : Nat) (v1 v2 : Value) (xs : List Int) (w : World) (hB : Blk w gs 59 #[.slice A n cap, v1, v2]) (hR : Rd w 1 A n (ws xs)) (hn : n ≤ 1000000) :
    Calls Try.prog 20 #[.pointer (some ⟨gs, 0, none⟩)] w fun e w' => ∃ A' cap', e = .returned (.slice A' n cap') ∧ Own w' w.heap.size 35 1 A' n cap' (ws xs.reverse) ∧ Below w.heap.size w w' := by
  obtain ⟨i0, hi0, hz0, hz1, hz2⟩ := info_parts info_word
  have hlen : xs.length = n := by have := hR.1; rw [ws_len] at this; omega
  have c0 := hB.cell 0
  have hgs := hB.lt
  simp only [List.getElem?_toArray, List.getElem?_cons_zero, List.getElem?_cons_succ] at c0
  have HB := Lib.hid hB
  have HR := Lib.hid hR
  have Hlen := Lib.hid hlen
  clear hB hR hlen
  go_enter Try.func20, Try.ntmps20
  go_wp2_with fail
  clear c0
  go_loopw [3, 4] (fun v3 v4 wr => ∃ (j k : Nat) (A' : Option Addr) (cap' : Nat), v4 = .int .i64 ((j : Int) - 1) ∧ j + k = n ∧ v3 = .slice A' k cap' ∧ Own wr w.heap.size 35 1 A' k cap' (ws (xs.drop j).reverse) ∧ Below w.heap.size w wr)
    (fun _ v4 _ => (intOf v4 + 1).toNat)
  case atStart => exact ⟨n, 0, none, 0, rfl, rfl, rfl, by rw [List.drop_of_length_le (by rw [Hlen.out]; exact Nat.le_refl _)]; exact Own.nil _ _ _ _, Below.refl _ _⟩
  case round =>
    obtain ⟨j, k, A', cap', rfl, hjk, rfl, hO, hb⟩ := hrel
    have HO := Lib.hid hO
    have Hb := Lib.hid hb
    have hsz := hb.size
    have c0 : wr.cell? ⟨gs, 0, none⟩ = some (.slice A n cap) := (HB.out.below hb hgs).cell 0
    clear hO hb
    rcases Nat.eq_zero_or_pos j with h0 | h0
    · subst h0
      obtain rfl : k = n := by omega
      go_wp2_with fail
      go_ret
      exact ⟨A', cap', rfl, by simpa using HO.out, Hb.out⟩
    · obtain ⟨m, rfl⟩ : ∃ m, j = m + 1 := ⟨j - 1, by omega⟩
      rw [show (((m + 1 : Nat) : Int) - 1) = (m : Int) by omega]
      obtain ⟨g, off, hA, hg, hc⟩ := HR.out.2 (by omega)
      subst hA
      have x0 : wr.cell? ⟨g, off + m, none⟩ = some (.int .u64 (xs.getD m 0)) := (Hb.out.cell (p := ⟨g, off + m, none⟩) hg).trans (hc m _ (ws_at xs m (by rw [Hlen.out]; omega)))
      have Hd : Hid (ws (xs.drop m).reverse = ws (xs.drop (m + 1)).reverse ++ [.int .u64 (xs.getD m 0)]) := by
        show ws (xs.drop m).reverse = _
        rw [List.drop_eq_getElem_cons (by rw [Hlen.out]; omega : m < xs.length), List.reverse_cons, ws_snoc]
        simp [List.getD, List.getElem?_eq_getElem (by rw [Hlen.out]; omega : m < xs.length)]
      have hmn : m + 1 ≤ n := by omega
      have hkn : k ≤ 1000000 := by omega
      have Hjk := Lib.hid hjk
      clear hc hjk
      generalize xs.getD m 0 = x at *
      go_wp2_with (at_builtin; refine append_one rfl (.tmp 15) (.tmp 23) 36 rfl w.heap.size 35 i0 _ 8 Try.underlying36 hi0 hz0 hz1 hz2 rfl A' k cap' _ rfl HO.out _ rfl rfl (by unfold maxLen; omega) (by omega) hsz ?_)
      intro A4 cap4 w4 hO4 hM4 hat4
      have HO4 := Lib.hid hO4
      have Hb4 := Lib.hid (Below.mod Hb.out hM4 hsz (fun k _ ⟨a, ha, e⟩ => by rw [← e]; exact (HO.out.lt a ha).1))
      clear hO4 hM4 hat4 x0
      go_wp2_with fail
      exact ⟨⟨m, k + 1, A4, cap4, rfl, by have := Hjk.out; omega, rfl, by rw [Hd.out]; exact HO4.out, Hb4.out⟩, by simp [intOf]⟩
end Go.Proofs.Ytiememacpeflbaa
