/- The walk of the reference's New. -/
import Derived.Test.YtpflhgidcjlcjaaP1
import Derived.Test.YtpflhgidcjlcjaaAgg
namespace Go.Proofs.Ytpflhgidcjlcjaa
open Go.RowKit
set_option linter.unusedVariables false
set_option linter.unusedSimpArgs false

/-- The cells of the document's leveller. -/
def rcells (A B : Option Addr) (n cap nb capb : Nat) (K W M : Int) : Array Value := #[.slice A n cap, .slice B nb capb, .int .i64 K, .int .i64 W, .int .i64 M]
theorem size40 : (Try.prog.info? 40).map (·.size) = some 5 := by kernel_rfl
theorem rcells_one (A B : Option Addr) (n cap nb capb : Nat) (K W M : Int) : ∀ v ∈ (rcells A B n cap nb capb K W M).toList, v.oneCell' = true := by
  intro v hv
  simp only [rcells, List.mem_cons, List.not_mem_nil, or_false] at hv
  rcases hv with rfl | rfl | rfl | rfl | rfl <;> rfl
theorem rd_blk {w : World} {g t n : Nat} {l : List Nat} (h : Blk w g t (icells l).toArray) (hl : l.length = n) : Rd w 1 (some ⟨g, 0, none⟩) n (icells l) :=
  ⟨by rw [icells_len]; omega, fun _ => ⟨g, 0, rfl, h.lt, fun j u hu => by rw [Nat.zero_add, h.cell j]; simpa using hu⟩⟩
def upto (i : Nat) : List Int := (List.range i).map fun i : Nat => (i : Int)
theorem upto_len (i : Nat) : (upto i).length = i := by simp [upto]
theorem upto_succ (i : Nat) : ivals (upto (i + 1)) = ivals (upto i) ++ [.int .i64 i] := by simp [upto, ivals, List.range_succ]

def NHead (N gl B : Nat) (K : Int) (w : World) (v : Value) (wr : World) : Prop :=
  ∃ (i cap : Nat) (A : Option Addr), v = .int .i64 i ∧ i ≤ N ∧ Blk wr gl 40 (rcells A none i cap 0 0 K 0 0) ∧ Own wr (B + 2) 3 1 A i cap (ivals (upto i)) ∧ Below B w wr ∧ Blk wr B 40 (rcells none none 0 0 0 0 0 0 0)

set_option maxHeartbeats 1000000 in
theorem newr_any (N K : Nat) (w : World) (h1 : 1 ≤ N) (h2 : N ≤ 65536) :
    Calls Try.prog 17 #[.int .i64 N, .int .i64 K] w fun e w' => ∃ A B cap, e = .returned (.agg (rcells A B (N + 1) cap (N + 1) (N + 1) K 0 0)) ∧
      Rd w' 1 A (N + 1) (ivals (ats (new N K))) ∧ Rd w' 1 B (N + 1) (icells (List.replicate (N + 1) 0)) ∧ (∀ a, A = some a → w.heap.size ≤ a.block) ∧ (∀ a, B = some a → w.heap.size ≤ a.block) ∧ Below w.heap.size w w' := by
  obtain ⟨i0, hi0, hz0, hz1, hz2⟩ := info3s
  have hmk := mk31 (N + 1) ((N : Int) + 1) (by omega) (by omega)
  go_enter Try.func17, Try.ntmps17
  go_wp2_with fail
  obtain ⟨B, HB0⟩ : ∃ B, Hid (w.heap.size = B) := ⟨_, rfl⟩
  have HS : Hid (NHead N (B + 1) B K w (.int .i64 0) ((w.alloc (.cells (rcells none none 0 0 0 0 0 0 0) 40)).alloc (.cells (rcells none none 0 0 0 0 K 0 0) 40))) := by
    rw [← HB0.out]
    refine ⟨0, 0, none, rfl, Nat.zero_le _, ?_, Own.nil _ _ _ _, ((Below.refl _ w).alloc (Nat.le_refl _) _).alloc (by simp) _, (Blk.new _ _ _).alloc _⟩
    have := Blk.new (w.alloc (.cells (rcells none none 0 0 0 0 0 0 0) 40)) 40 (rcells none none 0 0 0 0 K 0 0)
    simpa using this
  unfold rcells at HS
  rw [HB0.out]
  generalize World.alloc (w.alloc _) _ = w2 at *
  go_loopw [6] (fun v6 wr => NHead N (B + 1) B K w v6 wr) (fun v6 _ => N - (intOf v6).toNat)
  case atStart => exact HS.out
  case round =>
    clear HS
    obtain ⟨i, cap, A, rfl, hi, hB, hO, hb, hR⟩ := hrel
    have HB := Lib.hid hB
    have HO := Lib.hid hO
    have Hb := Lib.hid hb
    have HR := Lib.hid hR
    have hBl : B + 2 ≤ wr.heap.size := hB.lt
    clear hB hO hb hR
    have b0 := HB.out.cell 0
    unfold rcells at b0
    simp only [List.getElem?_toArray, List.getElem?_cons_zero, List.getElem?_cons_succ] at b0
    have hB0l : B ≤ wr.heap.size := by omega
    by_cases hlt : i < N
    · go_wp2_with (at_builtin; (refine append_elem rfl (.tmp 15) (.tmp 17) 31 rfl (B + 2) 3 i0 _ 1 8 Try.underlying31 hi0 hz0 hz1 hz2 rfl (by omega) A i cap _ rfl HO.out [.int .i64 i] rfl rfl (by simp [Value.oneCell']) (by unfold maxLen; omega) (by omega) hBl ?_))
      intro A4 cap4 w4 hO4 hM4 hat4
      have HO4 := Lib.hid hO4
      have Hb4 := Lib.hid (Below.mod Hb.out hM4 hB0l (fun k _ ⟨a, ha, e⟩ => by rw [← e]; have := (HO.out.lt a ha).1; omega))
      have HB4 := Lib.hid (hM4.blk HB.out (fun ⟨a, ha, e⟩ => by have := (HO.out.lt a ha).1; omega))
      have HR4 := Lib.hid (hM4.blk HR.out (fun ⟨a, ha, e⟩ => by have := (HO.out.lt a ha).1; omega))
      clear hO4 hM4 hat4 b0
      have b0 := HB4.out.cell 0
      unfold rcells at b0
      simp only [List.getElem?_toArray, List.getElem?_cons_zero, List.getElem?_cons_succ] at b0
      have fz := HB4.out.frozen 0
      go_wp2_with fail
      have hle : B ≤ B + 1 := Nat.le_succ _
      refine ⟨⟨i + 1, cap4, A4, by go_num, by omega, Blk.conv (HB4.out.set_ 0 _) (by simp [rcells]), ?_, Hb4.out.setCell hle _, HR4.out.far (p := ⟨B + 1, 0, none⟩) (show B ≠ B + 1 by omega) _⟩, by simp [intOf]; omega⟩
      rw [upto_succ]
      exact HO4.out.mod ((Mod.refl w4 (fun k => k = B + 1)).set (.inr rfl) _) (fun a ha h => by have := (HO4.out.lt a ha).1; omega)
    · obtain rfl : i = N := by omega
      go_wp2_with (at_builtin; (refine append_elem rfl (.tmp 21) (.tmp 22) 31 rfl (B + 2) 3 i0 _ 1 8 Try.underlying31 hi0 hz0 hz1 hz2 rfl (by omega) A i cap _ rfl HO.out [.int .i64 (-1)] rfl rfl (by simp [Value.oneCell']) (by unfold maxLen; omega) (by omega) hBl ?_))
      intro A4 cap4 w4 hO4 hM4 hat4
      have HO4 := Lib.hid hO4
      have Hb4 := Lib.hid (Below.mod Hb.out hM4 hB0l (fun k _ ⟨a, ha, e⟩ => by rw [← e]; have := (HO.out.lt a ha).1; omega))
      have HB4 := Lib.hid (hM4.blk HB.out (fun ⟨a, ha, e⟩ => by have := (HO.out.lt a ha).1; omega))
      have HR4 := Lib.hid (hM4.blk HR.out (fun ⟨a, ha, e⟩ => by have := (HO.out.lt a ha).1; omega))
      clear hO4 hM4 hat4 b0
      have b0 := HB4.out.cell 0
      have b1 := HB4.out.cell 1
      unfold rcells at b0 b1
      simp only [List.getElem?_toArray, List.getElem?_cons_zero, List.getElem?_cons_succ] at b0 b1
      have fb0 := HB4.out.frozen 0
      have fb1 := HB4.out.frozen 1
      have hl4 := HB4.out.lt
      have hl5 := HR4.out.lt
      obtain ⟨W6, HW6⟩ : ∃ W6, Hid (((w4.setCell ⟨B + 1, 0, none⟩ (.slice A4 (i + 1) cap4)).setCell ⟨B + 1, 1, none⟩ (.slice (some ⟨w4.heap.size, 0, none⟩) (i + 1) (i + 1))).alloc (.cells (madeCells #[.int .i64 0] (i + 1)) 3) = W6) := ⟨_, rfl⟩
      have HB6 : Hid (Blk W6 (B + 1) 40 (rcells A4 (some ⟨w4.heap.size, 0, none⟩) (i + 1) cap4 (i + 1) (i + 1) K 0 0)) := by
        rw [← HW6.out]
        exact Blk.conv (((HB4.out.set_ 0 _).set_ 1 _).alloc _) (by simp [rcells])
      have HR6 : Hid (Blk W6 B 40 (rcells none none 0 0 0 0 0 0 0)) := by
        rw [← HW6.out]
        exact (((HR4.out.far (p := ⟨B + 1, 0, none⟩) (show B ≠ B + 1 by omega) _).far (p := ⟨B + 1, 1, none⟩) (show B ≠ B + 1 by omega) _).alloc _)
      have HM6 : Hid (Mod w4 ((w4.setCell ⟨B + 1, 0, none⟩ (.slice A4 (i + 1) cap4)).setCell ⟨B + 1, 1, none⟩ (.slice (some ⟨w4.heap.size, 0, none⟩) (i + 1) (i + 1))) (fun k => k = B + 1)) :=
        ((Mod.refl w4 (fun k => k = B + 1)).set (.inr rfl) _).set (.inr rfl) _
      have HO6 : Hid (Own W6 (B + 2) 3 1 A4 (i + 1) cap4 (ivals (ats (new i K)))) := by
        rw [← HW6.out]
        have := (HO4.out.mod HM6.out (fun a ha h => by have := (HO4.out.lt a ha).1; omega)).alloc (.cells (madeCells #[.int .i64 0] (i + 1)) 3)
        rw [ats_new i K h1]
        refine Lib.hid ?_
        simpa [ivals, upto] using this
      have HZ6 : Hid (Blk W6 w4.heap.size 3 (icells (List.replicate (i + 1) 0)).toArray) := by
        rw [← HW6.out, ← made_zero]
        have := Blk.new ((w4.setCell ⟨B + 1, 0, none⟩ (.slice A4 (i + 1) cap4)).setCell ⟨B + 1, 1, none⟩ (.slice (some ⟨w4.heap.size, 0, none⟩) (i + 1) (i + 1))) 3 (madeCells #[.int .i64 0] (i + 1))
        refine Lib.hid ?_
        simpa using this
      have Hb6 : Hid (Below B w W6) := by
        rw [← HW6.out]
        have h := Below.mod Hb4.out HM6.out (by omega) (fun k _ h => by omega)
        exact h.alloc (Nat.le_trans (by omega) HM6.out.size) _
      go_wp2_with (first
        | (rw [HW6.out]; refine wpList_load_row rfl 40 (.tmp 5) rfl (B + 1) rfl 40 _ (0, 0) _ HB6.out Try.underlying40 rfl size40 ?_)
        | (refine wpList_store_row rfl (.tmp 4) (.tmp 29) rfl rfl rfl HR6.out size40 rfl (rcells_one _ _ _ _ _ _ _ _ _) ?_))
      intro w7 hB7 hM7
      go_wp2_with fail
      have HZ7 := Lib.hid (hM7.blk HZ6.out (by omega))
      have HO7 := Lib.hid (HO6.out.mod hM7 (fun a ha h => by have := (HO6.out.lt a ha).1; omega))
      have Hb7 := Lib.hid (Below.mod Hb6.out hM7 (Nat.le_of_lt HR6.out.lt) (fun k _ h => by omega))
      refine bodyPost_ret (results_cell_row rfl _ _ B 40 _ _ _ rfl hB7 Try.underlying40 rfl size40) rfl ?_
      rw [HB0.out]
      refine ⟨A4, some ⟨w4.heap.size, 0, none⟩, cap4, rfl, HO7.out.rd, rd_blk HZ7.out (by simp), ?_, ?_, Hb7.out⟩
      · intro a ha
        have := (HO7.out.lt a ha).1
        omega
      · intro a ha
        cases ha
        show B ≤ w4.heap.size
        omega
end Go.Proofs.Ytpflhgidcjlcjaa
