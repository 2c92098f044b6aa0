/- The walks of Index, ref Named, Drop. -/
import Derived.Test.YtebdnggcnoaieaaW3
namespace Go.Proofs.Ytebdnggcnoaieaa
open Go.RowKit
set_option linter.unusedVariables false
set_option linter.unusedSimpArgs false

/-- The number of a register. -/
def idx (m r : Int) : Int := if okName m r then 8 * m + r else -1
theorem index_any (m r : Int) (w : World) : Calls Try.prog 9 #[.int .i64 m, .int .i64 r] w fun e w' => e = .returned (.int .i64 (idx m r)) ∧ w = w' := by
  unfold idx
  by_cases h : okName m r
  · rw [if_pos h]
    obtain ⟨h1, h2, h3, h4⟩ := h
    go_enter Try.func9, Try.ntmps9
    go_wp2_with fail
    go_ret
    exact ⟨rfl, rfl⟩
  · rw [if_neg h]
    have h5 : m < 0 ∨ (0 ≤ m ∧ 3 < m) ∨ (0 ≤ m ∧ m ≤ 3 ∧ r < 0) ∨ (0 ≤ m ∧ m ≤ 3 ∧ 0 ≤ r ∧ 7 < r) := by unfold okName at h; omega
    clear h
    rcases h5 with h | ⟨h1, h2⟩ | ⟨h1, h2, h3⟩ | ⟨h1, h2, h3, h4⟩
    all_goals
      go_enter Try.func9, Try.ntmps9
      go_wp2_with fail
      go_ret
      exact ⟨rfl, rfl⟩

/-- The cells of integers. -/
def ivals (l : List Int) : List Value := l.map (Value.int .i64)
theorem ivals_snoc (l : List Int) (x : Int) : ivals (l ++ [x]) = ivals l ++ [.int .i64 x] := by simp [ivals]
theorem ivals_len (l : List Int) : (ivals l).length = l.length := by simp [ivals]

/-- What is gathered of integers: the row that the call owns. -/
def GotI (l : List Int) (B : Nat) (w0 : World) (v : Value) (wr : World) : Prop :=
  ∃ A n cap, v = .slice A n cap ∧ n = l.length ∧ Own wr B 3 1 A n cap (ivals l) ∧ Below B w0 wr ∧ B ≤ wr.heap.size
theorem GotI.same {l l' : List Int} {B : Nat} {w0 wr : World} {v : Value} (h : GotI l B w0 v wr) (e : l' = l) : GotI l' B w0 v wr := by
  rw [e]; exact h

def nats (l : List Nat) : List Int := l.map fun i : Nat => (i : Int)
theorem nats_len (l : List Nat) : (nats l).length = l.length := by simp [nats]
theorem nats_snoc (l : List Nat) (x : Nat) : nats (l ++ [x]) = nats l ++ [(x : Int)] := by simp [nats]
theorem info3 : (Try.prog.info? 3).map (fun i => (i.zero, i.size, i.bytes)) = some (some (.int .i64 0), 1, 8) := by kernel_rfl

set_option maxHeartbeats 1000000 in
theorem named2_any (x : Int) (fs : List Int) (w : World) (hf : fs.length = 32) :
    Calls Try.prog 10 #[.agg (fcells fs), .int .i64 x] w fun e w' => ∃ v, e = .returned v ∧ GotI (nats (idxs fs x 32)) (w.heap.size + 1) (w.alloc (.cells (fcells fs) 40)) v w' := by
  obtain ⟨i0, hi0, hz0, hz1, hz2⟩ := info_parts info3
  have Hf := Lib.hid hf
  clear hf
  have hsz := fcells_size fs
  rw [Hf.out] at hsz
  go_enter Try.func10, Try.ntmps10
  go_wp2_with fail
  have HB := Lib.hid (Blk.new w 40 (fcells fs))
  have hsz1 : (w.alloc (.cells (fcells fs) 40)).heap.size = w.heap.size + 1 := by simp
  obtain ⟨w1, Hw1⟩ : ∃ w1, Hid (w.alloc (.cells (fcells fs) 40) = w1) := ⟨_, rfl⟩
  obtain ⟨g, Hg⟩ : ∃ g, Hid (w.heap.size = g) := ⟨_, rfl⟩
  rw [Hg.out, Hw1.out] at HB
  rw [Hg.out, Hw1.out] at hsz1
  rw [Hg.out, Hw1.out]
  clear hsz
  go_loopw [5, 6] (fun v5 v6 wr => ∃ i : Nat, v6 = .int .i64 i ∧ i ≤ 32 ∧ GotI (nats (idxs fs x i)) (g + 1) w1 v5 wr) (fun _ v6 _ => 32 - (intOf v6).toNat)
  case atStart => exact ⟨0, rfl, Nat.zero_le _, none, 0, 0, rfl, rfl, Own.nil _ _ _ _, Below.refl _ _, by omega⟩
  case round =>
    obtain ⟨i, rfl, hi, A, n, cap, rfl, hn, hO, hb, hBl⟩ := hrel
    have HO := Lib.hid hO
    have Hb := Lib.hid hb
    have Hn := Lib.hid hn
    clear hO hb hn
    by_cases hlt : i < 32
    · have c0 : wr.cell? ⟨g, i, none⟩ = some (.int .i64 (fs.getD i 0)) := (HB.out.below Hb.out (Nat.lt_succ_self _)).cell i |>.trans (fcells_at fs i (by rw [Hf.out]; exact hlt))
      by_cases hx0 : x = 0
      · have hb0 : (x != 0) = false := by simpa using hx0
        have Hno := Lib.hid (idxs_no fs x i (.inl hx0))
        generalize fs.getD i 0 = y at *
        clear hx0
        go_wp2_with fail
        exact ⟨⟨i + 1, by go_num, by omega, A, n, cap, rfl, by rw [Hno.out]; exact Hn.out, by rw [Hno.out]; exact HO.out, Hb.out, hBl⟩, by simp [intOf]; omega⟩
      · have hb0 : (x != 0) = true := by simpa using hx0
        by_cases hv : fs.getD i 0 = x
        · have Hyes := Lib.hid (idxs_yes fs x i hx0 hv)
          rw [hv] at c0
          clear hx0 hv
          have hle := idxs_le fs x i
          rw [← nats_len, ← Hn.out] at hle
          go_wp2_with (at_builtin; (refine append_elem rfl (.tmp 21) (.tmp 23) 42 rfl (g + 1) 3 i0 _ 1 8 Try.underlying42 hi0 hz0 hz1 hz2 rfl (by omega) A n cap _ rfl HO.out [.int .i64 i] rfl rfl (by simp [Value.oneCell']) (by unfold maxLen; omega) (by omega) hBl ?_))
          intro A4 cap4 w4 hO4 hM4 hat4
          have HO4 := Lib.hid hO4
          have Hb4 := Lib.hid (Below.mod Hb.out hM4 hBl (fun k _ ⟨a, ha, e⟩ => by rw [← e]; exact (HO.out.lt a ha).1))
          clear hO4 hM4 hat4
          go_wp2_with fail
          refine ⟨⟨i + 1, by go_num, by omega, A4, n + 1, cap4, rfl, ?_, ?_, Hb4.out, ?_⟩, by simp [intOf]; omega⟩
          · rw [Hyes.out, nats_snoc, List.length_append, ← Hn.out]; rfl
          · rw [Hyes.out, nats_snoc, ivals_snoc]; exact HO4.out
          · have := Hb4.out.size; omega
        · have Hno := Lib.hid (idxs_no fs x i (.inr hv))
          generalize fs.getD i 0 = y at *
          have hb1 : (y == x) = false := by simpa using hv
          clear hx0 hv
          go_wp2_with fail
          exact ⟨⟨i + 1, by go_num, by omega, A, n, cap, rfl, by rw [Hno.out]; exact Hn.out, by rw [Hno.out]; exact HO.out, Hb.out, hBl⟩, by simp [intOf]; omega⟩
    · obtain rfl : i = 32 := by omega
      go_wp2_with fail
      go_ret
      rw [Hg.out, Hw1.out]
      exact ⟨_, rfl, A, n, cap, rfl, Hn.out, HO.out, Hb.out, hBl⟩

/-- The file with the first k registers that lead to x cleared. -/
def dropk (fs : List Int) (x : Int) : Nat → List Int
  | 0 => fs
  | k + 1 => if x ≠ 0 ∧ fs.getD k 0 = x then (dropk fs x k).set k 0 else dropk fs x k
theorem dropk_len (fs : List Int) (x : Int) (k : Nat) : (dropk fs x k).length = fs.length := by
  induction k with
  | zero => rfl
  | succ k ih => rw [dropk]; split <;> simp [ih]
theorem dropk_getD (fs : List Int) (x : Int) (k j : Nat) : (dropk fs x k).getD j 0 = if j < k ∧ x ≠ 0 ∧ fs.getD j 0 = x then 0 else fs.getD j 0 := by
  induction k with
  | zero => rw [dropk, if_neg (by omega)]
  | succ k ih =>
    rw [dropk]
    by_cases h : x ≠ 0 ∧ fs.getD k 0 = x
    · rw [if_pos h, List.getD_eq_getElem?_getD, List.getElem?_set]
      by_cases hj : k = j
      · subst hj
        rw [if_pos rfl, show (if k < k + 1 ∧ x ≠ 0 ∧ fs.getD k 0 = x then (0 : Int) else fs.getD k 0) = 0 from if_pos ⟨Nat.lt_succ_self _, h⟩]
        split <;> rfl
      · rw [if_neg hj, ← List.getD_eq_getElem?_getD, ih]
        by_cases h2 : j < k ∧ x ≠ 0 ∧ fs.getD j 0 = x
        · rw [if_pos h2, if_pos ⟨by omega, h2.2⟩]
        · rw [if_neg h2, if_neg (fun h3 => h2 ⟨by omega, h3.2⟩)]
    · rw [if_neg h, ih]
      by_cases h2 : j < k ∧ x ≠ 0 ∧ fs.getD j 0 = x
      · rw [if_pos h2, if_pos ⟨by omega, h2.2⟩]
      · rw [if_neg h2, if_neg]
        rintro ⟨h3, h4⟩
        by_cases hj : j = k
        · subst hj; exact h h4
        · exact h2 ⟨by omega, h4⟩

def DHead (fs : List Int) (x : Int) (g : Nat) (w0 : World) (k : Nat) (v5 : Value) (wr : World) : Prop :=
  v5 = .int .i64 ((idxs fs x k).length : Nat) ∧ Blk wr g 30 (fcells (dropk fs x k)) ∧ Mod w0 wr (fun j => j = g)

set_option maxHeartbeats 1000000 in
theorem drop_any (g : Nat) (x : Int) (fs : List Int) (w : World) (hf : fs.length = 32) (hB : Blk w g 30 (fcells fs)) :
    Calls Try.prog 11 #[.pointer (some ⟨g, 0, none⟩), .int .i64 x] w fun e w' => e = .returned (.int .i64 ((idxs fs x 32).length : Nat)) ∧ Blk w' g 30 (fcells (dropk fs x 32)) ∧ Mod w w' (fun j => j = g) := by
  have Hf := Lib.hid hf
  have HB := Lib.hid hB
  clear hf hB
  go_enter Try.func11, Try.ntmps11
  go_wp2_with fail
  go_loopw [5, 8] (fun v5 v8 wr => ∃ m : Nat, v8 = .int .i64 m ∧ m ≤ 4 ∧ DHead fs x g w (m * 8) v5 wr) (fun _ v8 _ => 4 - (intOf v8).toNat)
  case atStart => exact ⟨0, rfl, Nat.zero_le _, rfl, HB.out, Mod.refl _ _⟩
  case round =>
    clear HB
    obtain ⟨m, rfl, hm, hD⟩ := hrel
    have HD := Lib.hid hD
    clear hD
    by_cases hlt : m < 4
    · obtain ⟨q, hq⟩ := Nat.exists_eq_add_of_lt hlt
      obtain ⟨rfl, hB, hM⟩ := HD.out
      go_wp2_with fail
      go_loopw [5, 11] (fun v5 v11 wr => ∃ r : Nat, v11 = .int .i64 r ∧ r ≤ 8 ∧ DHead fs x g w (m * 8 + r) v5 wr) (fun _ v11 _ => 8 - (intOf v11).toNat)
      case atStart => exact ⟨0, rfl, Nat.zero_le _, HD.out⟩
      case round =>
        clear HD hB hM
        obtain ⟨r, rfl, hr, hv5, hB, hM⟩ := hrel
        subst hv5
        have HB := Lib.hid hB
        have HM := Lib.hid hM
        clear hB hM
        by_cases hlr : r < 8
        · have cx : wr.cell? ⟨g, m * 8 + r, none⟩ = some (.int .i64 (fs.getD (m * 8 + r) 0)) := by
            have e := (HB.out.cell (m * 8 + r)).trans (fcells_at _ _ (by rw [dropk_len, Hf.out]; omega))
            rw [dropk_getD, if_neg (by omega)] at e
            exact e
          have hle := idxs_le fs x (m * 8 + r)
          have fx := HB.out.frozen (m * 8 + r)
          have HS : Hid (dropk fs x (m * 8 + (r + 1)) = if x ≠ 0 ∧ fs.getD (m * 8 + r) 0 = x then (dropk fs x (m * 8 + r)).set (m * 8 + r) 0 else dropk fs x (m * 8 + r)) := rfl
          by_cases hx0 : x = 0
          · have hb0 : (x != 0) = false := by simpa using hx0
            have Hno : Hid (idxs fs x (m * 8 + (r + 1)) = idxs fs x (m * 8 + r) ∧ dropk fs x (m * 8 + (r + 1)) = dropk fs x (m * 8 + r)) := ⟨idxs_no fs x (m * 8 + r) (.inl hx0), by rw [HS.out, if_neg (fun h => h.1 hx0)]⟩
            generalize fs.getD (m * 8 + r) 0 = y at *
            clear hx0
            go_wp2_with fail
            exact ⟨⟨r + 1, by go_num, by omega, by rw [Hno.out.1], by rw [Hno.out.2]; exact HB.out, HM.out⟩, by simp [intOf]; omega⟩
          · have hb0 : (x != 0) = true := by simpa using hx0
            by_cases hv : fs.getD (m * 8 + r) 0 = x
            · have Hyes : Hid (idxs fs x (m * 8 + (r + 1)) = idxs fs x (m * 8 + r) ++ [m * 8 + r] ∧ dropk fs x (m * 8 + (r + 1)) = (dropk fs x (m * 8 + r)).set (m * 8 + r) 0) := ⟨idxs_yes fs x (m * 8 + r) hx0 hv, by rw [HS.out, if_pos ⟨hx0, hv⟩]⟩
              have HE : Hid ((idxs fs x (m * 8 + (r + 1))).length = (idxs fs x (m * 8 + r)).length + 1) := by show _ = _; rw [Hyes.out.1, List.length_append]; rfl
              rw [hv] at cx
              clear hx0 hv HS
              generalize (idxs fs x (m * 8 + r)).length = z at *
              go_wp2_with fail
              exact ⟨⟨r + 1, by go_num, by omega, by rw [HE.out]; go_num, by rw [Hyes.out.2]; exact Blk.conv (HB.out.set_ _ _) (fcells_set _ _ _), HM.out.set (.inr rfl) _⟩, by simp [intOf]; omega⟩
            · have Hno : Hid (idxs fs x (m * 8 + (r + 1)) = idxs fs x (m * 8 + r) ∧ dropk fs x (m * 8 + (r + 1)) = dropk fs x (m * 8 + r)) := ⟨idxs_no fs x (m * 8 + r) (.inr hv), by rw [HS.out, if_neg (fun h => hv h.2)]⟩
              generalize fs.getD (m * 8 + r) 0 = y at *
              have hb1 : (y == x) = false := by simpa using hv
              clear hx0 hv HS
              go_wp2_with fail
              exact ⟨⟨r + 1, by go_num, by omega, by rw [Hno.out.1], by rw [Hno.out.2]; exact HB.out, HM.out⟩, by simp [intOf]; omega⟩
        · obtain rfl : r = 8 := by omega
          go_wp2_with fail
          exact ⟨⟨m + 1, by go_num, by omega, by rw [show (m + 1) * 8 = m * 8 + 8 by omega]; exact ⟨rfl, HB.out, HM.out⟩⟩, by simp [intOf]; omega⟩
    · obtain rfl : m = 4 := by omega
      obtain ⟨rfl, hB, hM⟩ := HD.out
      go_wp2_with fail
      go_ret
      exact ⟨rfl, hB, hM⟩

/-- Where the first k registers lead that lead somewhere. -/
def alls (fs : List Int) : Nat → List Int
  | 0 => []
  | k + 1 => if fs.getD k 0 = 0 then alls fs k else alls fs k ++ [fs.getD k 0]
theorem alls_le (fs : List Int) (k : Nat) : (alls fs k).length ≤ k := by
  induction k with
  | zero => exact Nat.le_refl _
  | succ k ih =>
    rw [alls]
    split
    · omega
    · rw [List.length_append]; simp; omega

set_option maxHeartbeats 1000000 in
theorem all_any (g : Nat) (fs : List Int) (w : World) (hf : fs.length = 32) (hB : Blk w g 30 (fcells fs)) :
    Calls Try.prog 14 #[.pointer (some ⟨g, 0, none⟩)] w fun e w' => ∃ v, e = .returned v ∧ GotI (alls fs 32) w.heap.size w v w' := by
  obtain ⟨i0, hi0, hz0, hz1, hz2⟩ := info_parts info3
  have hsz := fcells_size fs
  rw [hf] at hsz
  have Hsz := Lib.hid hsz
  have Hf := Lib.hid hf
  have HB := Lib.hid hB
  clear hsz hf hB
  go_enter Try.func14, Try.ntmps14
  go_wp2_with (refine wpList_load_row rfl 28 (.tmp 10) rfl g rfl 30 (fcells fs) (0, 0) _ HB.out Try.underlying28 rfl (by rw [Hsz.out]; exact size28) ?_)
  have HC : Hid (∀ j, j < 32 → (fcells fs)[j]? = some (.int .i64 (fs.getD j 0))) := fun j hj => fcells_at fs j (by rw [Hf.out]; exact hj)
  generalize fcells fs = C at *
  go_loopw [3, 12] (fun v3 v12 wr => ∃ m : Nat, v12 = .int .i64 m ∧ m ≤ 4 ∧ GotI (alls fs (m * 8)) w.heap.size w v3 wr) (fun _ v12 _ => (4 - (intOf v12).toNat))
  case atStart => exact ⟨0, rfl, by omega, none, 0, 0, rfl, rfl, Own.nil _ _ _ _, Below.refl _ _, Nat.le_refl _⟩
  case round =>
    obtain ⟨m, rfl, hm, hgot⟩ := hrel
    have Hgot := Lib.hid hgot
    clear hgot
    by_cases hlt : m < 4
    · have hix : ∀ w, Sem.run Try.prog (Instr.index 28 (.agg C) (.int .i64 (m : Int))) w = .ok (.agg (C.extract (m * 8) (m * 8 + 8))) w :=
        fun w => run_index_sub 4 8 m Try.underlying28 Try.underlying27 rfl size27 hlt w
      have HR : Hid (∀ r, r < 8 → (C.extract (m * 8) (m * 8 + 8))[r]? = some (.int .i64 (fs.getD (m * 8 + r) 0))) := by
        intro r hr
        rw [Array.getElem?_extract, if_pos (by rw [Hsz.out]; omega), HC.out _ (by omega)]
      have HRs : Hid ((C.extract (m * 8) (m * 8 + 8)).size = 8) := by
        show (C.extract (m * 8) (m * 8 + 8)).size = 8
        rw [Array.size_extract, Hsz.out]; omega
      have HR1 : Hid (∀ v ∈ (C.extract (m * 8) (m * 8 + 8)).toList, v.oneCell' = true) := by
        intro v hv
        obtain ⟨j, hj, rfl⟩ := List.mem_iff_getElem.1 hv
        have hj8 : j < 8 := by rw [Array.length_toList, HRs.out] at hj; exact hj
        have := HR.out j hj8
        rw [Array.getElem?_eq_getElem (by rw [HRs.out]; exact hj8)] at this
        simp only [Array.getElem_toList]
        rw [Option.some.inj this]
        rfl
      generalize C.extract (m * 8) (m * 8 + 8) = R at *
      obtain ⟨A, n, cap, rfl, hn, hO, hb, hB⟩ := Hgot.out
      have HO := Lib.hid hO
      have Hn := Lib.hid hn
      have Hb := Lib.hid hb
      clear hn hO hb Hgot
      go_wp2_with (refine wpList_store_row rfl (.tmp 5) (.tmp 14) rfl rfl rfl (Blk.new _ _ _) (by rw [HRs.out]; exact size27) (by rw [HRs.out]; rfl) HR1.out ?_)
      intro w2 hB2 hM2
      have HB2 := Lib.hid hB2
      have HO2 := Lib.hid ((HO.out.alloc _).mod hM2 (fun a ha h => by have := (HO.out.lt a ha).2; omega))
      have Hb2 := Lib.hid (Below.mod (Hb.out.alloc Hb.out.size _) hM2 (by simp; exact Nat.le_succ_of_le Hb.out.size) (fun k _ hk => by rw [hk]; exact Hb.out.size))
      have hB2s : w.heap.size ≤ w2.heap.size := Hb2.out.size
      clear hB2 hM2 HO Hb hix
      go_wp2_with (refine wpList_load_row rfl 27 (.tmp 5) rfl _ rfl 27 R (0, 0) _ HB2.out Try.underlying27 rfl (by rw [HRs.out]; exact size27) ?_)
      have HG : Hid (GotI (alls fs (m * 8 + 0)) w.heap.size w (.slice A n cap) w2) := ⟨A, n, cap, rfl, Hn.out, HO2.out, Hb2.out, hB2s⟩
      clear HO2 Hb2 hB2s HB2 Hn
      go_loopw [3, 16] (fun v3 v16 wr => ∃ r : Nat, v16 = .int .i64 r ∧ r ≤ 8 ∧ GotI (alls fs (m * 8 + r)) w.heap.size w v3 wr) (fun _ v16 _ => (8 - (intOf v16).toNat))
      case atStart => exact ⟨0, rfl, by omega, HG.out⟩
      case round =>
        clear HG
        obtain ⟨r, rfl, hr, hgot⟩ := hrel
        have Hgot := Lib.hid hgot
        clear hgot
        by_cases hlr : r < 8
        · have hix : ∀ w, Sem.run Try.prog (Instr.index 27 (.agg R) (.int .i64 (r : Int))) w = .ok (.int .i64 (fs.getD (m * 8 + r) 0)) w :=
            fun w => run_index_one 8 r _ Try.underlying27 Try.underlying3 rfl size3 hlr (HR.out r hlr) w
          have HS : Hid (alls fs (m * 8 + (r + 1)) = if fs.getD (m * 8 + r) 0 = 0 then alls fs (m * 8 + r) else alls fs (m * 8 + r) ++ [fs.getD (m * 8 + r) 0]) := rfl
          have hle := alls_le fs (m * 8 + r)
          generalize fs.getD (m * 8 + r) 0 = y at *
          by_cases hy : y = 0
          · have HS2 : Hid (alls fs (m * 8 + (r + 1)) = alls fs (m * 8 + r)) := by show _ = _; rw [HS.out, if_pos hy]
            have hb0 : (y != 0) = false := by simpa using hy
            clear hy HS
            go_wp2_with fail
            exact ⟨⟨r + 1, by go_num, by omega, Hgot.out.same HS2.out⟩, by simp [intOf]; omega⟩
          · have HS2 : Hid (alls fs (m * 8 + (r + 1)) = alls fs (m * 8 + r) ++ [y]) := by show _ = _; rw [HS.out, if_neg hy]
            have hb0 : (y != 0) = true := by simpa using hy
            clear hy HS
            obtain ⟨A3, n3, cap3, rfl, hn, hO, hb, hB⟩ := Hgot.out
            rw [← hn] at hle
            have HO := Lib.hid hO
            have Hn := Lib.hid hn
            have Hb := Lib.hid hb
            clear hn hO hb Hgot
            go_wp2_with (at_builtin; (refine append_elem rfl (.tmp 21) (.tmp 23) 42 rfl w.heap.size 3 i0 _ 1 8 Try.underlying42 hi0 hz0 hz1 hz2 rfl (by omega) A3 n3 cap3 _ rfl HO.out [.int .i64 y] rfl rfl (by simp [Value.oneCell']) (by unfold maxLen; omega) (by omega) hB ?_))
            intro A4 cap4 w4 hO4 hM4 hat4
            have HO4 := Lib.hid hO4
            have Hb4 := Lib.hid (Below.mod Hb.out hM4 hB (fun k _ ⟨a, ha, e⟩ => by rw [← e]; exact (HO.out.lt a ha).1))
            clear hO4 hM4 hat4
            go_wp2_with fail
            refine ⟨⟨r + 1, by go_num, by omega, A4, n3 + 1, cap4, rfl, ?_, ?_, Hb4.out, Hb4.out.size⟩, by simp [intOf]; omega⟩
            · rw [HS2.out, List.length_append, ← Hn.out]; rfl
            · rw [HS2.out, ivals_snoc]; exact HO4.out
        · obtain rfl : r = 8 := by omega
          go_wp2_with fail
          exact ⟨⟨m + 1, by go_num, by omega, by rw [show (m + 1) * 8 = m * 8 + 8 by omega]; exact Hgot.out⟩, by simp [intOf]; omega⟩
    · obtain rfl : m = 4 := by omega
      obtain ⟨A, n, cap, rfl, hn, hO, hb, hB⟩ := Hgot.out
      have HO := Lib.hid hO
      have Hn := Lib.hid hn
      have Hb := Lib.hid hb
      clear hn hO hb Hgot
      go_wp2
      go_ret
      exact ⟨_, rfl, A, n, cap, rfl, Hn.out, HO.out, Hb.out, hB⟩
end Go.Proofs.Ytebdnggcnoaieaa

