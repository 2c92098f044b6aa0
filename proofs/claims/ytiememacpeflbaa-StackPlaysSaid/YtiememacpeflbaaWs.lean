/- The walks of New, Push and Pop of a stack of strings. -/
import Derived.Test.YtiememacpeflbaaProg
import Derived.Test.YtiememacpeflbaaMod
import Derived.WalkKit
import Derived.BigQuiet
import Derived.Deep.QuietTactic
import Derived.Handy
import Derived.WalkLawsBesides
import Derived.WalkSpells
namespace Go.Proofs.Ytiememacpeflbaa
open Go.RowKit
set_option linter.unusedVariables false
set_option linter.unusedSimpArgs false

theorem info_string : (Try.prog.info? 9).map (fun i => (i.zero, i.size, i.bytes)) = some (some (.string ⟨#[]⟩), 1, 16) := by kernel_rfl

theorem new_string (m k : Int) (w : World) (hk : (if m < 0 then 0 else m) = k) :
    Calls Try.prog 6 #[.int .i64 m] w fun e w' => e = .returned (.pointer (some ⟨w.heap.size, 0, none⟩)) ∧ w.alloc (.cells #[.slice none 0 0, .int .i64 k, .int .i64 0] 57) = w' := by
  go_enter Try.func6, Try.ntmps6
  go_wp2
  go_ret
  exact ⟨rfl, rfl⟩

theorem push_no_string (gs : Nat) (A : Option Addr) (n cap : Nat) (m ms : Int) (x : ByteArray) (w : World) (hB : Blk w gs 57 #[.slice A n cap, .int .i64 m, .int .i64 ms])
    (h : m ≤ (n : Int)) (hn : n ≤ 1000000) (h0 : 0 ≤ ms) (h1 : ms ≤ 1000000) :
    Calls Try.prog 7 #[.pointer (some ⟨gs, 0, none⟩), .string x] w fun e w' => e = .returned (.bool false) ∧
      Blk w' gs 57 #[.slice A n cap, .int .i64 m, .int .i64 (ms + 1)] ∧ Mod w w' (fun k => k = gs) := by
  have c0 := hB.cell 0
  have c1 := hB.cell 1
  have c2 := hB.cell 2
  have f2 := hB.frozen 2
  simp only [List.getElem?_toArray, List.getElem?_cons_zero, List.getElem?_cons_succ] at c0 c1 c2
  have HB := Lib.hid hB
  clear hB
  go_enter Try.func7, Try.ntmps7
  go_wp2
  go_quiet (fail)
  go_wp2
  go_ret
  refine ⟨rfl, ?_, ?_⟩
  · refine Blk.conv (Blk.set_ (Blk.drewN HB.out _) 2 _) ?_
    simp
  · exact Mod.set (S := fun k => k = gs) ((Mod.refl w _).drewN _) (.inr rfl) _

set_option maxHeartbeats 400000 in
theorem push_yes_string (B gs : Nat) (A : Option Addr) (n cap : Nat) (m ms : Int) (x : ByteArray) (xs : List Value) (w : World) (hB : Blk w gs 57 #[.slice A n cap, .int .i64 m, .int .i64 ms])
    (hO : Own w B 9 1 A n cap xs) (h : (n : Int) < m) (hn : n ≤ 1000000) (hbase : B ≤ w.heap.size) :
    Calls Try.prog 7 #[.pointer (some ⟨gs, 0, none⟩), .string x] w fun e w' => ∃ A' cap', e = .returned (.bool true) ∧
      Blk w' gs 57 #[.slice A' (n + 1) cap', .int .i64 m, .int .i64 ms] ∧ Own w' B 9 1 A' (n + 1) cap' (xs ++ [.string x]) ∧
      Mod w w' (fun k => k = gs ∨ ∃ a, A = some a ∧ a.block = k) ∧ (∀ a', A' = some a' → (∃ a, A = some a ∧ a.block = a'.block) ∨ w.heap.size ≤ a'.block) := by
  obtain ⟨i0, hi0, hz0, hz1, hz2⟩ := info_parts info_string
  have c0 := hB.cell 0
  have c1 := hB.cell 1
  simp only [List.getElem?_toArray, List.getElem?_cons_zero, List.getElem?_cons_succ] at c0 c1
  have hd : decide (m ≤ (n : Int)) = false := by simp; omega
  have HB := Lib.hid hB
  have HO := Lib.hid hO
  clear hB hO
  go_enter Try.func7, Try.ntmps7
  go_wp2_with fail
  go_quiet (fail)
  have HB1 := Lib.hid (HB.out.drewN nq)
  have HO1 := Lib.hid (HO.out.drewN nq)
  have HM1 := Lib.hid ((Mod.refl w (fun k => k = gs ∨ ∃ a, A = some a ∧ a.block = k)).drewN nq)
  have Hs1 : Hid ((w.drewN nq).heap.size = w.heap.size) := rfl
  generalize w.drewN nq = w1 at *
  have c0 := HB1.out.cell 0
  simp only [List.getElem?_toArray, List.getElem?_cons_zero, List.getElem?_cons_succ] at c0
  go_wp2_with (at_builtin; refine append_one rfl (.tmp 26) (.tmp 28) 22 rfl B 9 i0 _ 16 Try.underlying22 hi0 hz0 hz1 hz2 rfl A n cap xs rfl HO1.out _ rfl rfl (by unfold maxLen; omega) (by omega) (by rw [Hs1.out]; exact hbase) ?_)
  intro A' cap' w2 hown hmod hat
  have hne := HO1.out.ne HB1.out (by decide)
  have HB2 := Lib.hid (hmod.blk HB1.out (fun ⟨a, ha, hb⟩ => hne a ha hb))
  have HO2 := Lib.hid hown
  have HM2 := Lib.hid (HM1.out.trans hmod (fun k _ hk => .inr hk))
  have Hat := Lib.hid hat
  clear hown hmod hat hne HB1 HO1 HM1 c0
  have c0 := HB2.out.cell 0
  have f0 := HB2.out.frozen 0
  simp only [List.getElem?_toArray, List.getElem?_cons_zero, List.getElem?_cons_succ] at c0
  go_wp2
  go_ret
  refine ⟨A', cap', rfl, ?_, ?_, ?_, ?_⟩
  · refine Blk.conv (Blk.set_ HB2.out 0 _) ?_
    simp
  · exact HO2.out.mod (Mod.set (S := fun k => k = gs) (Mod.refl w2 _) (.inr rfl) _) (fun a ha h => HO2.out.ne HB2.out (by decide) a ha h)
  · exact HM2.out.set (.inr (.inl rfl)) _
  · intro a' ha'
    have := Hat.out a' ha'
    rw [Hs1.out] at this
    exact this

theorem pop_no_string (gs : Nat) (A : Option Addr) (cap : Nat) (m ms : Int) (w : World) (hB : Blk w gs 57 #[.slice A 0 cap, .int .i64 m, .int .i64 ms]) :
    Calls Try.prog 9 #[.pointer (some ⟨gs, 0, none⟩)] w fun e w' => e = .returned (.tuple #[.string ⟨#[]⟩, .bool false]) ∧ w = w' := by
  have c0 := hB.cell 0
  simp only [List.getElem?_toArray, List.getElem?_cons_zero, List.getElem?_cons_succ] at c0
  clear hB
  go_enter Try.func9, Try.ntmps9
  go_wp2
  go_ret2
  exact ⟨rfl, rfl⟩

theorem pop_yes_string (B gs : Nat) (A : Option Addr) (n cap : Nat) (m ms : Int) (x : ByteArray) (xs : List Value) (w : World) (hB : Blk w gs 57 #[.slice A (n + 1) cap, .int .i64 m, .int .i64 ms])
    (hO : Own w B 9 1 A (n + 1) cap (xs ++ [.string x])) (hn : n ≤ 1000000) :
    Calls Try.prog 9 #[.pointer (some ⟨gs, 0, none⟩)] w fun e w' => e = .returned (.tuple #[.string x, .bool true]) ∧
      Blk w' gs 57 #[.slice A n cap, .int .i64 m, .int .i64 ms] ∧ Own w' B 9 1 A n cap xs ∧ Mod w w' (fun k => k = gs) := by
  obtain ⟨g, rfl, hg1, hg2, hcap1, hcap2, hcell, _⟩ := hO.at_ (by omega)
  unfold maxLen at hcap2
  have hlen := hO.len
  have hxs : xs.length = n := by simp at hlen; omega
  have d0 : w.cell? ⟨g, n, none⟩ = some (.string x) := hcell n _ (by rw [List.getElem?_append_right (by omega), hxs]; simp)
  have hcut := hO.cut (k := n) (by omega)
  rw [show (xs ++ [Value.string x]).take (n * 1) = xs by rw [Nat.mul_one, ← hxs]; simp] at hcut
  have hne := hO.ne hB (by decide) _ rfl
  have c0 := hB.cell 0
  have f0 := hB.frozen 0
  simp only [List.getElem?_toArray, List.getElem?_cons_zero, List.getElem?_cons_succ] at c0
  have HB := Lib.hid hB
  have HO := Lib.hid hcut
  have Hne := Lib.hid hne
  clear hB hO hcell hcut hlen hxs hne
  go_enter Try.func9, Try.ntmps9
  go_wp2
  go_quiet (fail)
  go_wp2
  go_region
  go_wp2
  go_ret2
  refine ⟨rfl, ?_, ?_, ?_⟩
  · refine Blk.conv (Blk.set_ (Blk.drewN HB.out _) 0 _) ?_
    simp
  · exact (HO.out.drewN _).mod (Mod.set (S := fun k => k = gs) (Mod.refl _ _) (.inr rfl) _) (fun a ha h => by cases ha; exact Hne.out h)
  · exact Mod.set (S := fun k => k = gs) ((Mod.refl w _).drewN _) (.inr rfl) _
end Go.Proofs.Ytiememacpeflbaa
