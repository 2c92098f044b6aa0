/- The walk of RegsPlays. -/
import Derived.Test.YtebdnggcnoaieaaW5
import Derived.StillTailTactics
namespace Go.Proofs.Ytebdnggcnoaieaa
open Go.RowKit
set_option linter.unusedVariables false
set_option linter.unusedSimpArgs false

/-- A whole block loaded, by a step that may be guarded. -/
theorem wpList_load_row_g {P : Program} {ops : Array Oper} {rest : List Oper} {op : Oper} {a : Act} {w : World} {Q : Exit → Act → World → Prop} {g : Nat} {t ty : TypeId} {cs : Array Value} {d : TypeDesc} (hw : Region.wanted op (yielded ops a.tmps) = true) (x : Operand) (ho : op.op = .load ty x)
    (hx : a.eval x = .pointer (some ⟨g, 0, none⟩)) (hg : Blk w g t cs) (hu : P.underlying ty = some d) (hd : (match d with | .struct _ | .array _ _ => true | _ => false) = true)
    (hi : (P.info? ty).map (·.size) = some cs.size) (h : wpList P ops Q rest (a.put op.dst (.agg cs)) w) : wpList P ops Q (op :: rest) a w := by
  refine wpList_step fun K hK => ?_
  simp only [hw, if_true]
  unfold Oper.wp execOp
  simp only [ho, hx, run_loadAt_row hg hu hd hi, Sem.run_bind, Sem.run_pure, Result.andThen_ok]
  exact hK _ _ h

/-- The file with the first j of the registers of l cleared. -/
def zeros (fs : List Int) (l : List Nat) : Nat → List Int
  | 0 => fs
  | j + 1 => (zeros fs l j).set (l.getD j 0) 0
theorem zeros_len (fs : List Int) (l : List Nat) (j : Nat) : (zeros fs l j).length = fs.length := by
  induction j with
  | zero => rfl
  | succ j ih => rw [zeros, List.length_set, ih]
theorem zeros_getD (fs : List Int) (l : List Nat) (j : Nat) (i : Nat) (hj : j ≤ l.length) : (zeros fs l j).getD i 0 = if i ∈ l.take j then 0 else fs.getD i 0 := by
  induction j with
  | zero => rw [zeros, List.take_zero, if_neg (by simp)]
  | succ j ih =>
    have ih := ih (by omega)
    rw [zeros, List.getD_eq_getElem?_getD, List.getElem?_set, List.take_add_one, List.getElem?_eq_getElem (l := l) (i := j) (by omega)]
    have e : l.getD j 0 = l[j] := by rw [List.getD_eq_getElem?_getD, List.getElem?_eq_getElem (by omega)]; rfl
    rw [e]
    by_cases h : l[j] = i
    · subst h
      rw [if_pos rfl, show (if l[j] ∈ l.take j ++ (some l[j]).toList then (0 : Int) else fs.getD l[j] 0) = 0 from if_pos (List.mem_append_right _ (by simp))]
      split <;> rfl
    · rw [if_neg h, ← List.getD_eq_getElem?_getD, ih]
      by_cases h2 : i ∈ l.take j
      · rw [if_pos h2, if_pos (List.mem_append_left _ h2)]
      · rw [if_neg h2, if_neg (fun h3 => by rcases List.mem_append.1 h3 with h4 | h4; exact h2 h4; simp at h4; exact h h4.symm)]
theorem mem_idxs (fs : List Int) (x : Int) (k i : Nat) : i ∈ idxs fs x k ↔ i < k ∧ x ≠ 0 ∧ fs.getD i 0 = x := by
  unfold idxs
  rw [List.mem_filter, List.mem_range]
  simp only [Bool.and_eq_true, bne_iff_ne, beq_iff_eq, ne_eq]
theorem zeros_drop (fs : List Int) (x : Int) (h : fs.length = 32) : zeros fs (idxs fs x 32) (idxs fs x 32).length = dropk fs x 32 := by
  apply List.ext_getElem
  · rw [zeros_len, dropk_len]
  · intro i h1 h2
    have e1 := zeros_getD fs (idxs fs x 32) _ i (Nat.le_refl _)
    have e2 := dropk_getD fs x 32 i
    rw [List.take_length] at e1
    rw [List.getD_eq_getElem?_getD, List.getElem?_eq_getElem h1, Option.getD_some] at e1
    rw [List.getD_eq_getElem?_getD, List.getElem?_eq_getElem h2, Option.getD_some] at e2
    rw [e1, e2]
    by_cases h : i < 32 ∧ x ≠ 0 ∧ fs.getD i 0 = x
    · rw [if_pos h, if_pos ((mem_idxs fs x 32 i).2 h)]
    · rw [if_neg h, if_neg (fun h3 => h ((mem_idxs fs x 32 i).1 h3))]
theorem idxs_drop (fs : List Int) (x : Int) : idxs (dropk fs x 32) x 32 = [] := by
  apply List.eq_nil_iff_forall_not_mem.2
  intro i hi
  obtain ⟨h1, h2, h3⟩ := (mem_idxs _ x 32 i).1 hi
  rw [dropk_getD] at h3
  by_cases h : i < 32 ∧ x ≠ 0 ∧ fs.getD i 0 = x
  · rw [if_pos h] at h3; exact h2 h3.symm
  · rw [if_neg h] at h3; exact h ⟨h1, h2, h3⟩

/-- What holds of the two files. -/
structure RK (w0 w : World) (g : Nat) (fs : List Int) (nm nr : Int) : Prop where
  b : Below w0.heap.size w0 w
  f : Blk w g 30 (fcells fs)
  rf : Blk w (g + 1) 40 (fcells fs)
  n : Blk w w0.heap.size 24 #[.int .i64 nm, .int .i64 nr]
theorem RK.below {w0 w w' : World} {g B : Nat} {fs : List Int} {nm nr : Int} (h : RK w0 w g fs nm nr) (hb : Below B w w') (hB : w.heap.size ≤ B) : RK w0 w' g fs nm nr :=
  ⟨h.b.trans (hb.mono (Nat.le_trans h.b.size hB)), h.f.below hb (Nat.lt_of_lt_of_le h.f.lt hB), h.rf.below hb (Nat.lt_of_lt_of_le h.rf.lt hB), h.n.below hb (Nat.lt_of_lt_of_le h.n.lt hB)⟩

def opc (k m r x : Int) : Array Value := #[.int .i64 k, .int .i64 m, .int .i64 r, .int .i64 x]
def LPHead (g : Nat) (len : Nat) (w0 : World) (nm nr : Int) (v9 : Value) (wr : World) : Prop :=
  ∃ (i : Nat) (fs : List Int), v9 = .int .i64 i ∧ i ≤ len ∧ fs.length = 32 ∧ RK w0 wr g fs nm nr

set_option maxRecDepth 100000 in
set_option maxHeartbeats 2000000 in
theorem rp_any (A : Option Addr) (len cap : Nat) (zs : List (Int × Int × Int × Int)) (nm nr x : Int) (w : World)
    (hlen : len ≤ cap) (hcap : cap ≤ maxLen) (hrow : Row w A len 4 (fun i => opCells (zs.getD i (0, 0, 0, 0)))) :
    Calls Try.prog 4 #[.slice A len cap, .agg #[.int .i64 nm, .int .i64 nr], .int .i64 x] w fun e w' => e = .returned (.bool true) ∧ Below w.heap.size w w' := by
  unfold maxLen at hcap
  have Hrow := Lib.hid hrow
  clear hrow
  go_enter Try.func4, Try.ntmps4
  go_wp2_with fail
  refine (awake_any _).mono ?_
  rintro e w1 ⟨rfl, hb1⟩
  have Hb1 := Lib.hid (((Below.refl _ w).alloc (Nat.le_refl _) _).trans (hb1.mono (by simp)))
  have HN1 := Lib.hid (((Blk.new w 24 #[.int .i64 nm, .int .i64 nr])).below hb1 (by simp))
  clear hb1
  go_wp2_with fail
  obtain ⟨g, Hg⟩ : ∃ g, Hid (w1.heap.size = g) := ⟨_, rfl⟩
  have hg : w.heap.size < g := by rw [← Hg.out]; exact HN1.out.lt
  have HS : Hid (LPHead g len w nm nr (.int .i64 0) ((w1.alloc (.cells (fcells (List.replicate 32 0)) 30)).alloc (.cells (fcells (List.replicate 32 0)) 40))) := by
    refine ⟨0, List.replicate 32 0, rfl, Nat.zero_le _, by simp, (Hb1.out.alloc Hb1.out.size _).alloc (by simp; exact Nat.le_succ_of_le Hb1.out.size) _, ?_, ?_, (HN1.out.alloc _).alloc _⟩
    · rw [← Hg.out]
      exact (Blk.new _ _ _).alloc _
    · rw [← Hg.out]
      have := Blk.new (w1.alloc (.cells (fcells (List.replicate 32 0)) 30)) 40 (fcells (List.replicate 32 0))
      simpa using this
  rw [Hg.out]
  rw [fcells_zero] at HS
  generalize World.alloc (w1.alloc _) _ = w2 at *
  clear Hg HN1 Hb1
  go_loopw [9] (fun v9 wr => LPHead g len w nm nr v9 wr) (fun v9 _ => (len - (intOf v9).toNat))
  case atStart => exact HS.out
  case round =>
    clear HS
    obtain ⟨i, fs, rfl, hi1, hf, hK⟩ := hrel
    have HK := Lib.hid hK
    have Hf := Lib.hid hf
    clear hK hf
    by_cases hlt : i < len ∧ i < 100
    · obtain ⟨hlt, h100⟩ := hlt
      obtain ⟨b, off, hA, hb, hcell⟩ := Hrow.out (by omega)
      subst hA
      have x0 : wr.cell? ⟨b, off + i * 4, none⟩ = some _ := (HK.out.b.cell (p := ⟨b, off + i * 4, none⟩) hb).trans (hcell i hlt 0 _ rfl)
      have x1 : wr.cell? ⟨b, off + i * 4 + 1, none⟩ = some _ := (HK.out.b.cell (p := ⟨b, off + i * 4 + 1, none⟩) hb).trans (hcell i hlt 1 _ rfl)
      have x2 : wr.cell? ⟨b, off + i * 4 + 2, none⟩ = some _ := (HK.out.b.cell (p := ⟨b, off + i * 4 + 2, none⟩) hb).trans (hcell i hlt 2 _ rfl)
      have x3 : wr.cell? ⟨b, off + i * 4 + 3, none⟩ = some _ := (HK.out.b.cell (p := ⟨b, off + i * 4 + 3, none⟩) hb).trans (hcell i hlt 3 _ rfl)
      clear hcell
      generalize (zs.getD i (0, 0, 0, 0)).1 = kd at *
      generalize (zs.getD i (0, 0, 0, 0)).2.1 = m at *
      generalize (zs.getD i (0, 0, 0, 0)).2.2.1 = r at *
      generalize (zs.getD i (0, 0, 0, 0)).2.2.2 = y at *
      have HFs : Hid ((fcells fs).size = 32) := (fcells_size fs).trans Hf.out
      go_wp2_with fail
      obtain ⟨go, Hgo⟩ : ∃ go, Hid (wr.heap.size = go) := ⟨_, rfl⟩
      have hgo : g + 1 < go := by rw [← Hgo.out]; exact HK.out.rf.lt
      have HK2 := Lib.hid (HK.out.below ((Below.refl wr.heap.size wr).alloc (Nat.le_refl _) (.cells (opc kd m r y) 34)) (Nat.le_refl _))
      have HO2 := Lib.hid (Blk.new wr 34 (opc kd m r y))
      rw [Hgo.out] at HO2
      unfold opc at HK2 HO2
      refine (index_any m r _).mono ?_
      rintro e w3 ⟨rfl, hw3⟩
      rw [hw3] at HK2 HO2
      rw [Hgo.out]
      clear hw3 HK x0 x1 x2 x3 Hgo
      have o0 := HO2.out.cell 0
      have o1 := HO2.out.cell 1
      have o2 := HO2.out.cell 2
      have o3 := HO2.out.cell 3
      simp only [List.getElem?_toArray, List.getElem?_cons_zero, List.getElem?_cons_succ] at o0 o1 o2 o3
      by_cases hkd : kd = 1
      · subst hkd
        go_wp2_with (refine wpList_load_row rfl 40 (.tmp 8) rfl (g + 1) rfl 40 (fcells fs) (0, 0) _ HK2.out.rf Try.underlying40 rfl (by rw [HFs.out]; exact size40) ?_)
        refine (named2_any y fs _ Hf.out).mono ?_
        rintro e w4 ⟨_, rfl, A6, n6, cap6, rfl, hn6, hO6, hb6, hB6⟩
        have hb6' := ((Below.refl w3.heap.size w3).alloc (Nat.le_refl _) (.cells (fcells fs) 40)).trans (hb6.mono (Nat.le_succ _))
        have HK4 := Lib.hid (HK2.out.below hb6' (Nat.le_refl _))
        have HO4 := Lib.hid (HO2.out.below hb6' HO2.out.lt)
        have HL4 := Lib.hid hO6
        have hg3 : g + 1 < w3.heap.size := HK2.out.rf.lt
        obtain ⟨l, Hl⟩ : ∃ l, Hid (idxs fs y 32 = l) := ⟨_, rfl⟩
        have hle := idxs_le fs y 32
        have Hlt : Hid (∀ i, i < l.length → l.getD i 0 < 32) := by
          intro i hi
          rw [← Hl.out] at hi ⊢
          rw [List.getD_eq_getElem?_getD, List.getElem?_eq_getElem hi]
          exact ((mem_idxs _ _ _ _).1 (List.getElem_mem hi)).1
        rw [Hl.out] at HL4 hn6 hle
        rw [nats_len] at hn6
        have HD : Hid (zeros fs l n6 = dropk fs y 32) := by
          have := zeros_drop fs y Hf.out
          rw [Hl.out, ← hn6] at this
          exact this
        rw [← hn6] at hle
        have Hn6 := Lib.hid hn6
        clear hn6 hO6 hb6 hb6' hB6 HO2 HK2 o0 o1 o2 o3
        go_wp2_with fail
        go_loopw [13] (fun v13 wr => ∃ j : Nat, v13 = .int .i64 j ∧ j ≤ n6 ∧ Blk wr (g + 1) 40 (fcells (zeros fs l j)) ∧ Mod w4 wr (fun k => k = g + 1)) (fun v13 _ => n6 - (intOf v13).toNat)
        case atStart => exact ⟨0, rfl, Nat.zero_le _, HK4.out.rf, Mod.refl _ _⟩
        case round =>
          obtain ⟨j, rfl, hj, hB, hM⟩ := hrel
          have HB := Lib.hid hB
          have HM := Lib.hid hM
          clear hB hM
          by_cases hlj : j < n6
          · obtain ⟨g6, rfl, hg6a, hg6, hc3, hc4, hx6, _⟩ := (HL4.out.mod HM.out (fun a ha h => by have := (HL4.out.lt a ha).1; omega)).at_ (by omega)
            have hq := Hlt.out j (by rw [← Hn6.out]; exact hlj)
            have y2 : wr.cell? ⟨g6, j, none⟩ = some (.int .i64 (l.getD j 0 : Nat)) := hx6 j _ (nats_at l j (by rw [← Hn6.out]; exact hlj))
            have HZ : Hid (zeros fs l (j + 1) = (zeros fs l j).set (l.getD j 0) 0) := rfl
            clear hx6
            generalize l.getD j 0 = q at *
            have fx := HB.out.frozen q
            have cx : wr.cell? ⟨g + 1, q, none⟩ = some _ := (HB.out.cell q).trans (fcells_at _ q (by rw [zeros_len, Hf.out]; exact hq))
            go_wp2_with fail
            exact ⟨⟨j + 1, by go_num, by omega, by rw [HZ.out]; exact Blk.conv (HB.out.set_ _ _) (fcells_set _ _ _), HM.out.set (.inr rfl) _⟩, by simp [intOf]; omega⟩
          · obtain rfl : j = n6 := by omega
            have HK5 : Hid (RK w wr g fs nm nr ∨ True) := .inr trivial
            have HF5 := Lib.hid (HM.out.blk HK4.out.f (by omega))
            have HN5 := Lib.hid (HM.out.blk HK4.out.n (by omega))
            have HO5 := Lib.hid (HM.out.blk HO4.out (by omega))
            have Hb5 := Lib.hid (Below.mod HK4.out.b HM.out HK4.out.b.size (fun k _ h => by omega))
            have HR5 := Lib.hid HB.out
            rw [HD.out] at HR5
            clear HB HM HK4 HO4 HL4 HK5
            have o3 := HO5.out.cell 3
            simp only [List.getElem?_toArray, List.getElem?_cons_zero, List.getElem?_cons_succ] at o3
            go_wp2_with fail
            refine (drop_any g y fs _ Hf.out HF5.out).mono ?_
            rintro e w6 ⟨rfl, hB6, hM6⟩
            rw [Hl.out, ← Hn6.out]
            have HF6 := Lib.hid hB6
            have HN6 := Lib.hid (hM6.blk HN5.out (by omega))
            have HO6 := Lib.hid (hM6.blk HO5.out (by omega))
            have HR6 := Lib.hid (hM6.blk HR5.out (by omega))
            have Hb6 := Lib.hid (Below.mod Hb5.out hM6 Hb5.out.size (fun k _ h => by omega))
            clear HF5 HN5 HO5 HR5 Hb5 o3 hB6 hM6
            have o3 := HO6.out.cell 3
            simp only [List.getElem?_toArray, List.getElem?_cons_zero, List.getElem?_cons_succ] at o3
            go_wp2_with fail
            have Hdl : Hid ((dropk fs y 32).length = 32) := (dropk_len _ _ _).trans Hf.out
            refine (named_any g y (dropk fs y 32) _ Hdl.out HF6.out).mono ?_
            rintro e w7 ⟨_, rfl, A7, n7, cap7, rfl, hn7, hO7, hb7, hB7⟩
            rw [idxs_drop] at hn7
            have hn70 : n7 = 0 := hn7
            subst hn70
            have HK7 : Hid (RK w w6 g (dropk fs y 32) nm nr) := ⟨Hb6.out, HF6.out, HR6.out, HN6.out⟩
            have HK8 := Lib.hid (HK7.out.below hb7 (Nat.le_refl _))
            clear hn7 hO7 hb7 hB7
            go_wp2_with fail
            exact ⟨⟨i + 1, dropk fs y 32, by go_num, by omega, Hdl.out, HK8.out⟩, by simp [intOf]; omega⟩
      · have hb1 : (kd == 1) = false := by simpa using hkd
        clear hkd
        go_wp2_with fail
        refine (set_any g m r y fs _ Hf.out HK2.out.f).mono ?_
        rintro e w4 ⟨rfl, hB4, hM4⟩
        have HF4 := Lib.hid hB4
        have HN4 := Lib.hid (hM4.blk HK2.out.n (by omega))
        have HO4 := Lib.hid (hM4.blk HO2.out (by omega))
        have HR4 := Lib.hid (hM4.blk HK2.out.rf (by omega))
        have Hb4 := Lib.hid (Below.mod HK2.out.b hM4 HK2.out.b.size (fun k _ h => by omega))
        clear HK2 HO2 o0 o1 o2 o3 hB4 hM4
        have o3 := HO4.out.cell 3
        simp only [List.getElem?_toArray, List.getElem?_cons_zero, List.getElem?_cons_succ] at o3
        by_cases hok : okName m r
        · obtain ⟨K, hK⟩ : ∃ K : Nat, K = m.toNat * 8 + r.toNat := ⟨_, rfl⟩
          have hidx : idx m r = (K : Int) := (if_pos hok).trans (by have := hok.1; have := hok.2.2.1; omega)
          have hK32 : K < 32 := by have := hok.2.1; have := hok.2.2.2; omega
          rw [hidx]
          clear hidx
          by_cases hy : 0 ≤ y
          · have e1 : setk m r y = 0 := if_pos ⟨hok, hy⟩
            have e2 : setf fs m r y = fs.set K y := (if_pos ⟨hok, hy⟩).trans (by rw [hK])
            rw [e1]
            rw [e2] at HF4
            clear e1 e2 hK hok
            have fx := HR4.out.frozen K
            have cx : w4.cell? ⟨g + 1, K, none⟩ = some _ := (HR4.out.cell K).trans (fcells_at _ K (by rw [Hf.out]; exact hK32))
            go_wp2_with fail
            have hgb : w.heap.size ≤ g + 1 := by omega
            exact ⟨⟨i + 1, fs.set K y, by go_num, by omega, (List.length_set ..).trans Hf.out, Hb4.out.setCell hgb _, HF4.out.far (p := ⟨g + 1, K, none⟩) (show g ≠ g + 1 by omega) _, Blk.conv (HR4.out.set_ K _) (fcells_set fs K y), HN4.out.far (p := ⟨g + 1, K, none⟩) (show w.heap.size ≠ g + 1 by omega) _⟩, by simp [intOf]; omega⟩
          · have e1 : setk m r y = 1 := if_neg (fun h => hy h.2)
            have e2 : setf fs m r y = fs := if_neg (fun h => hy h.2)
            rw [e1]
            rw [e2] at HF4
            clear e1 e2 hK hok
            go_wp2_with fail
            exact ⟨⟨i + 1, fs, by go_num, by omega, Hf.out, Hb4.out, HF4.out, HR4.out, HN4.out⟩, by simp [intOf]; omega⟩
        · have hidx : idx m r = -1 := if_neg hok
          rw [hidx]
          have e1 : setk m r y = 1 := if_neg (fun h => hok h.1)
          have e2 : setf fs m r y = fs := if_neg (fun h => hok h.1)
          rw [e1]
          rw [e2] at HF4
          clear e1 e2 hok hidx
          go_wp2_with fail
          exact ⟨⟨i + 1, fs, by go_num, by omega, Hf.out, Hb4.out, HF4.out, HR4.out, HN4.out⟩, by simp [intOf]; omega⟩
    · have hex : ¬ i < len ∨ (i < len ∧ ¬ i < 100) := by omega
      clear hlt
      obtain ⟨i0, hi0, hz0, hz1, hz2⟩ := info_parts info3
      have HFs : Hid ((fcells fs).size = 32) := (fcells_size fs).trans Hf.out
      rcases hex with hex | ⟨hex1, hex2⟩
      all_goals
        go_wp2_with fail
        have hgr : g + 1 < wr.heap.size := HK.out.rf.lt
        generalize wr = wp at *
        go_loopw [15, 16] (fun v15 v16 wr => ∃ j : Nat, v16 = .int .i64 j ∧ j ≤ 32 ∧ GotI (alls fs j) wp.heap.size wp v15 wr) (fun _ v16 _ => 32 - (intOf v16).toNat)
        case atStart => exact ⟨0, rfl, Nat.zero_le _, none, 0, 0, rfl, rfl, Own.nil _ _ _ _, Below.refl _ _, Nat.le_refl _⟩
        case round =>
          obtain ⟨j, rfl, hj, A, n, cap, rfl, hn, hO, hb, hBl⟩ := hrel
          have HO := Lib.hid hO
          have Hb := Lib.hid hb
          have Hn := Lib.hid hn
          clear hO hb hn
          by_cases hlt : j < 32
          · have c0 : wr.cell? ⟨g + 1, j, none⟩ = some (.int .i64 (fs.getD j 0)) := ((HK.out.rf.below Hb.out hgr).cell j).trans (fcells_at fs j (by rw [Hf.out]; exact hlt))
            have HS : Hid (alls fs (j + 1) = if fs.getD j 0 = 0 then alls fs j else alls fs j ++ [fs.getD j 0]) := rfl
            have hle := alls_le fs j
            rw [← Hn.out] at hle
            generalize fs.getD j 0 = y at *
            by_cases hy : y = 0
            · have HS2 : Hid (alls fs (j + 1) = alls fs j) := by show _ = _; rw [HS.out, if_pos hy]
              have hb0 : (y != 0) = false := by simpa using hy
              clear hy HS
              go_wp2_with fail
              exact ⟨⟨j + 1, by go_num, by omega, A, n, cap, rfl, by rw [HS2.out]; exact Hn.out, by rw [HS2.out]; exact HO.out, Hb.out, hBl⟩, by simp [intOf]; omega⟩
            · have HS2 : Hid (alls fs (j + 1) = alls fs j ++ [y]) := by show _ = _; rw [HS.out, if_neg hy]
              have hb0 : (y != 0) = true := by simpa using hy
              clear hy HS
              go_wp2_with (at_builtin; (refine append_elem rfl (.tmp 102) (.tmp 107) 42 rfl wp.heap.size 3 i0 _ 1 8 Try.underlying42 hi0 hz0 hz1 hz2 rfl (by omega) A n cap _ rfl HO.out [.int .i64 y] rfl rfl (by simp [Value.oneCell']) (by unfold maxLen; omega) (by omega) hBl ?_))
              intro A4 cap4 w4 hO4 hM4 hat4
              have HO4 := Lib.hid hO4
              have Hb4 := Lib.hid (Below.mod Hb.out hM4 hBl (fun k _ ⟨a, ha, e⟩ => by rw [← e]; exact (HO.out.lt a ha).1))
              clear hO4 hM4 hat4
              go_wp2_with fail
              refine ⟨⟨j + 1, by go_num, by omega, A4, n + 1, cap4, rfl, ?_, ?_, Hb4.out, Hb4.out.size⟩, by simp [intOf]; omega⟩
              · rw [HS2.out, List.length_append, ← Hn.out]; rfl
              · rw [HS2.out, ivals_snoc]; exact HO4.out
          · obtain rfl : j = 32 := by omega
            have HK9 := Lib.hid (HK.out.below Hb.out (Nat.le_refl _))
            clear HK Hb
            go_wp2_with fail
            refine (all_any g fs _ Hf.out HK9.out.f).mono ?_
            rintro e w10 ⟨_, rfl, A10, n10, cap10, rfl, hn10, hO10, hb10, hB10⟩
            have HK10 := Lib.hid (HK9.out.below hb10 (Nat.le_refl _))
            have HO10 := Lib.hid hO10
            have HO11 := Lib.hid (HO.out.below hb10 (Nat.le_refl _))
            have hnn : n10 = n := by rw [hn10, Hn.out]
            subst hnn
            have hle := alls_le fs 32
            rw [← Hn.out] at hle
            clear hn10 hO10 hb10 hB10 HK9 HO
            go_wp2_with fail
            refine (ints_any _ _ n10 cap10 cap _ _ (alls fs 32) w10 (by omega) HO10.out HO11.out).mono ?_
            rintro e w11 ⟨rfl, hb11⟩
            have HK11 := Lib.hid (HK10.out.below hb11 (Nat.le_refl _))
            clear hb11 HO10 HO11 HK10
            have n0 := HK11.out.n.cell 0
            have n1 := HK11.out.n.cell 1
            simp only [List.getElem?_toArray, List.getElem?_cons_zero, List.getElem?_cons_succ] at n0 n1
            go_wp2_with (refine wpList_load_row_g (by rfl) (.tmp 8) rfl rfl HK11.out.rf Try.underlying40 rfl (by rw [HFs.out]; exact size40) ?_)
            refine (tells_any g x nm nr fs _ Hf.out HK11.out.f).mono ?_
            rintro e w12 ⟨rfl, hb12⟩
            have Hb12 := Lib.hid (HK11.out.b.trans (hb12.mono HK11.out.b.size))
            clear hb12 n0 n1
            go_wp2_with fail
            go_ret
            exact ⟨rfl, Hb12.out⟩
end Go.Proofs.Ytebdnggcnoaieaa
