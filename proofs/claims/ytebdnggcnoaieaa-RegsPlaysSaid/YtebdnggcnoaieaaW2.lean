/- The walk of Named. -/
import Derived.Test.YtebdnggcnoaieaaW1
namespace Go.Proofs.Ytebdnggcnoaieaa
open Go.RowKit
set_option linter.unusedVariables false
set_option linter.unusedSimpArgs false

/-- The registers below k that lead to x. -/
def idxs (fs : List Int) (x : Int) (k : Nat) : List Nat := (List.range k).filter fun i => x != 0 && fs.getD i 0 == x
theorem idxs_yes (fs : List Int) (x : Int) (k : Nat) (h0 : x ≠ 0) (h : fs.getD k 0 = x) : idxs fs x (k + 1) = idxs fs x k ++ [k] := by
  unfold idxs
  rw [List.range_succ, List.filter_append]
  congr 1
  simp only [List.filter_cons, List.filter_nil, h, beq_self_eq_true, Bool.and_true]
  simp [h0]
theorem idxs_no (fs : List Int) (x : Int) (k : Nat) (h : x = 0 ∨ fs.getD k 0 ≠ x) : idxs fs x (k + 1) = idxs fs x k := by
  unfold idxs
  rw [List.range_succ, List.filter_append]
  have : List.filter (fun i => x != 0 && fs.getD i 0 == x) [k] = [] := by
    rcases h with h | h
    · simp [h]
    · simp only [List.filter_cons, List.filter_nil]
      rw [show (fs.getD k 0 == x) = false by simpa using h]
      simp
  rw [this, List.append_nil]
theorem idxs_le (fs : List Int) (x : Int) (k : Nat) : (idxs fs x k).length ≤ k := by
  have := List.length_filter_le (fun i => x != 0 && fs.getD i 0 == x) (List.range k)
  simpa [idxs] using this

/-- The cells of names. -/
def ncells (l : List Nat) : List Value := l.flatMap fun i => [.int .i64 ((i / 8 : Nat) : Int), .int .i64 ((i % 8 : Nat) : Int)]
theorem ncells_snoc (l : List Nat) (m r : Nat) (hr : r < 8) : ncells (l ++ [m * 8 + r]) = ncells l ++ [.int .i64 m, .int .i64 r] := by
  unfold ncells
  rw [List.flatMap_append]
  congr 1
  simp only [List.flatMap_cons, List.flatMap_nil, List.append_nil]
  rw [show (m * 8 + r) / 8 = m by omega, show (m * 8 + r) % 8 = r by omega]

theorem info24 : (Try.prog.info? 24).map (fun i => (i.zero, i.size, i.bytes)) = some (some (.agg #[.int .i64 0, .int .i64 0]), 2, 16) := by kernel_rfl
theorem size27 : (Try.prog.info? 27).map (·.size) = some 8 := by kernel_rfl
theorem size28 : (Try.prog.info? 28).map (·.size) = some 32 := by kernel_rfl
theorem size3 : (Try.prog.info? 3).map (·.size) = some 1 := by kernel_rfl

/-- What is gathered: the row that the call owns. -/
def Got (fs : List Int) (x : Int) (k B : Nat) (w0 : World) (v : Value) (wr : World) : Prop :=
  ∃ A n cap, v = .slice A n cap ∧ n = (idxs fs x k).length ∧ Own wr B 24 2 A n cap (ncells (idxs fs x k)) ∧ Below B w0 wr ∧ B ≤ wr.heap.size

theorem Got.same {fs : List Int} {x : Int} {k k' B : Nat} {w0 wr : World} {v : Value} (h : Got fs x k B w0 v wr) (e : idxs fs x k' = idxs fs x k) : Got fs x k' B w0 v wr := by
  unfold Got at h ⊢
  rw [e]
  exact h

set_option maxHeartbeats 1000000 in
theorem named_any (g : Nat) (x : Int) (fs : List Int) (w : World) (hf : fs.length = 32) (hB : Blk w g 30 (fcells fs)) :
    Calls Try.prog 12 #[.pointer (some ⟨g, 0, none⟩), .int .i64 x] w fun e w' => ∃ v, e = .returned v ∧ Got fs x 32 w.heap.size w v w' := by
  obtain ⟨i0, hi0, hz0, hz1, hz2⟩ := info_parts info24
  have hsz := fcells_size fs
  rw [hf] at hsz
  have Hsz := Lib.hid hsz
  have Hf := Lib.hid hf
  have HB := Lib.hid hB
  clear hsz hf hB
  go_enter Try.func12, Try.ntmps12
  go_wp2_with (refine wpList_load_row rfl 28 (.tmp 12) rfl g rfl 30 (fcells fs) (0, 0) _ HB.out Try.underlying28 rfl (by rw [Hsz.out]; exact size28) ?_)
  have HC : Hid (∀ j, j < 32 → (fcells fs)[j]? = some (.int .i64 (fs.getD j 0))) := fun j hj => fcells_at fs j (by rw [Hf.out]; exact hj)
  have HC1 : Hid (∀ v ∈ (fcells fs).toList, v.oneCell' = true) := by
    intro v hv
    simp only [fcells, List.toList_toArray, List.mem_map] at hv
    obtain ⟨_, _, rfl⟩ := hv
    rfl
  generalize fcells fs = C at *
  go_loopw [5, 14] (fun v5 v14 wr => ∃ m : Nat, v14 = .int .i64 m ∧ m ≤ 4 ∧ Got fs x (m * 8) w.heap.size w v5 wr) (fun _ v14 _ => (4 - (intOf v14).toNat))
  case atStart => exact ⟨0, rfl, by omega, none, 0, 0, rfl, rfl, Own.nil _ _ _ _, Below.refl _ _, Nat.le_refl _⟩
  case round =>
    obtain ⟨m, rfl, hm, hgot⟩ := hrel
    have Hgot := Lib.hid hgot
    clear hgot
    by_cases hlt : m < 4
    · have hix : ∀ w, Sem.run Try.prog (Instr.index 28 (.agg C) (.int .i64 (m : Int))) w = .ok (.agg (C.extract (m * 8) (m * 8 + 8))) w :=
        fun w => run_index_sub 4 8 m Try.underlying28 Try.underlying27 rfl size27 hlt w
      have HR : Hid (∀ r, r < 8 → (C.extract (m * 8) (m * 8 + 8))[r]? = some (.int .i64 (fs.getD (m * 8 + r) 0))) := by
        intro r hr
        rw [Array.getElem?_extract, if_pos (by rw [Hsz.out]; omega), HC.out _ (by omega)]
      have HRs : Hid ((C.extract (m * 8) (m * 8 + 8)).size = 8) := by
        show (C.extract (m * 8) (m * 8 + 8)).size = 8
        rw [Array.size_extract, Hsz.out]; omega
      have HR1 : Hid (∀ v ∈ (C.extract (m * 8) (m * 8 + 8)).toList, v.oneCell' = true) := by
        intro v hv
        obtain ⟨j, hj, rfl⟩ := List.mem_iff_getElem.1 hv
        have hj8 : j < 8 := by rw [Array.length_toList, HRs.out] at hj; exact hj
        have := HR.out j hj8
        rw [Array.getElem?_eq_getElem (by rw [HRs.out]; exact hj8)] at this
        simp only [Array.getElem_toList]
        rw [Option.some.inj this]
        rfl
      generalize C.extract (m * 8) (m * 8 + 8) = R at *
      obtain ⟨A, n, cap, rfl, hn, hO, hb, hB⟩ := Hgot.out
      have HO := Lib.hid hO
      have Hn := Lib.hid hn
      have Hb := Lib.hid hb
      clear hn hO hb Hgot
      go_wp2_with (refine wpList_store_row rfl (.tmp 7) (.tmp 17) rfl rfl rfl (Blk.new _ _ _) (by rw [HRs.out]; exact size27) (by rw [HRs.out]; rfl) HR1.out ?_)
      intro w2 hB2 hM2
      have HB2 := Lib.hid hB2
      have HO2 := Lib.hid ((HO.out.alloc _).mod hM2 (fun a ha h => by have := (HO.out.lt a ha).2; omega))
      have Hb2 := Lib.hid (Below.mod (Hb.out.alloc Hb.out.size _) hM2 (by simp; exact Nat.le_succ_of_le Hb.out.size) (fun k _ hk => by rw [hk]; exact Hb.out.size))
      have hB2s : w.heap.size ≤ w2.heap.size := Hb2.out.size
      clear hB2 hM2 HO Hb hix
      go_wp2_with (refine wpList_load_row rfl 27 (.tmp 7) rfl _ rfl 27 R (0, 0) _ HB2.out Try.underlying27 rfl (by rw [HRs.out]; exact size27) ?_)
      have HG : Hid (Got fs x (m * 8 + 0) w.heap.size w (.slice A n cap) w2) := ⟨A, n, cap, rfl, Hn.out, HO2.out, Hb2.out, hB2s⟩
      clear HO2 Hb2 hB2s HB2 Hn
      go_loopw [5, 19] (fun v5 v19 wr => ∃ r : Nat, v19 = .int .i64 r ∧ r ≤ 8 ∧ Got fs x (m * 8 + r) w.heap.size w v5 wr) (fun _ v19 _ => (8 - (intOf v19).toNat))
      case atStart => exact ⟨0, rfl, by omega, HG.out⟩
      case round =>
        clear HG
        obtain ⟨r, rfl, hr, hgot⟩ := hrel
        have Hgot := Lib.hid hgot
        clear hgot
        by_cases hlr : r < 8
        · have hix : ∀ w, Sem.run Try.prog (Instr.index 27 (.agg R) (.int .i64 (r : Int))) w = .ok (.int .i64 (fs.getD (m * 8 + r) 0)) w :=
            fun w => run_index_one 8 r _ Try.underlying27 Try.underlying3 rfl size3 hlr (HR.out r hlr) w
          by_cases hx0 : x = 0
          · have hb0 : (x != 0) = false := by simpa using hx0
            have Hno := Lib.hid (idxs_no fs x (m * 8 + r) (.inl hx0))
            generalize fs.getD (m * 8 + r) 0 = y at *
            clear hx0
            go_wp2_with fail
            exact ⟨⟨r + 1, by go_num, by omega, Hgot.out.same (by rw [← Nat.add_assoc]; exact Hno.out)⟩, by simp [intOf]; omega⟩
          · have hb0 : (x != 0) = true := by simpa using hx0
            by_cases hv : fs.getD (m * 8 + r) 0 = x
            · have Hyes := Lib.hid (idxs_yes fs x (m * 8 + r) hx0 hv)
              rw [hv] at hix
              clear hx0 hv
              obtain ⟨A3, n3, cap3, rfl, hn, hO, hb, hB⟩ := Hgot.out
              have hle := idxs_le fs x (m * 8 + r)
              rw [← hn] at hle
              have HO := Lib.hid hO
              have Hn := Lib.hid hn
              have Hb := Lib.hid hb
              clear hn hO hb Hgot
              go_wp2_with (at_builtin; (refine append_elem rfl (.tmp 30) (.tmp 34) 45 rfl w.heap.size 24 i0 _ 2 16 Try.underlying45 hi0 hz0 hz1 hz2 rfl (by omega) A3 n3 cap3 _ rfl HO.out [.int .i64 m, .int .i64 r] rfl rfl (by simp [Value.oneCell']) (by unfold maxLen; omega) (by omega) hB ?_))
              intro A4 cap4 w4 hO4 hM4 hat4
              have HO4 := Lib.hid hO4
              have Hb4 := Lib.hid (Below.mod Hb.out hM4 hB (fun k _ ⟨a, ha, e⟩ => by rw [← e]; exact (HO.out.lt a ha).1))
              clear hO4 hM4 hat4
              go_wp2_with fail
              refine ⟨⟨r + 1, by go_num, by omega, A4, n3 + 1, cap4, rfl, ?_, ?_, Hb4.out, Hb4.out.size⟩, by simp [intOf]; omega⟩
              · rw [← Nat.add_assoc, Hyes.out, List.length_append, ← Hn.out]; rfl
              · rw [← Nat.add_assoc, Hyes.out, ncells_snoc _ _ _ hlr]; exact HO4.out
            · have Hno := Lib.hid (idxs_no fs x (m * 8 + r) (.inr hv))
              generalize fs.getD (m * 8 + r) 0 = y at *
              have hb1 : (y == x) = false := by simpa using hv
              clear hx0 hv
              go_wp2_with fail
              exact ⟨⟨r + 1, by go_num, by omega, Hgot.out.same (by rw [← Nat.add_assoc]; exact Hno.out)⟩, by simp [intOf]; omega⟩
        · obtain rfl : r = 8 := by omega
          go_wp2_with fail
          exact ⟨⟨m + 1, by go_num, by omega, by rw [show (m + 1) * 8 = m * 8 + 8 by omega]; exact Hgot.out⟩, by simp [intOf]; omega⟩
    · obtain rfl : m = 4 := by omega
      obtain ⟨A, n, cap, rfl, hn, hO, hb, hB⟩ := Hgot.out
      have HO := Lib.hid hO
      have Hn := Lib.hid hn
      have Hb := Lib.hid hb
      clear hn hO hb Hgot
      go_wp2
      go_ret
      exact ⟨_, rfl, A, n, cap, rfl, Hn.out, HO.out, Hb.out, hB⟩
end Go.Proofs.Ytebdnggcnoaieaa
