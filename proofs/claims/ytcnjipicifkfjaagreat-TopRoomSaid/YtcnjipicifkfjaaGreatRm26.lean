/- slot.Choose. -/
import Derived.Test.YtcnjipicifkfjaaGreatRm25

namespace Go.Proofs.YtcnjipicifkfjaaGreat
open Go.RowKit
set_option linter.unusedVariables false
set_option linter.unusedSimpArgs false

/-- Which slot counts: the epoch and the roots, which one, is there one? -/
def chooseM (x y : Nat × Nat × List Nat) : (Nat × List Nat) × Nat × Bool :=
  if x.1 = 0 ∧ (y.1 ≠ 0 ∨ y.2.1 ≤ x.2.1) then (x.2, 0, true) else if y.1 = 0 then (y.2, 1, true) else ((0, zerosN 8), 0, false)
theorem sdecM_len (L : List Nat) : (sdecM L).2.2.length = 8 := by
  unfold sdecM
  split
  · split
    · exact rsOf_len L
    · rfl
  · rfl
theorem sdecM_err (L : List Nat) : (sdecM L).1 = 0 ∨ (sdecM L).1 = 25 ∨ (sdecM L).1 = 26 := by
  unfold sdecM
  split
  · split
    · exact .inl rfl
    · exact .inr (.inr rfl)
  · exact .inr (.inl rfl)
/-- Slots' words that may be decoded. -/
structure Slot16 (L : List Nat) : Prop where
  len : L.length = 16
  lt : lt64 L
  ok : sumOk L 0 → sumOk L 1 → RootsOk (rsOf L) ∧ 0 < L.getD 0 0
/-- Where Choose stands. -/
structure SC (w0 w : World) (n0 n1 n2 : Nat) (La Lb : List Nat) : Prop where
  be : Below w0.heap.size w0 w
  a : Blk w n0 220 (wcells La).toArray
  b : Blk w n1 220 (wcells Lb).toArray
  r : Blk w n2 172 (scells 0 (zerosN 8))
theorem SC.below {w0 w w' : World} {n0 n1 n2 B0 : Nat} {La Lb : List Nat} (h : SC w0 w n0 n1 n2 La Lb) (hb : Below B0 w w') (hB : w.heap.size ≤ B0) : SC w0 w' n0 n1 n2 La Lb :=
  ⟨h.be.trans (hb.mono (Nat.le_trans h.be.size hB)), h.a.below hb (Nat.lt_of_lt_of_le h.a.lt hB), h.b.below hb (Nat.lt_of_lt_of_le h.b.lt hB), h.r.below hb (Nat.lt_of_lt_of_le h.r.lt hB)⟩

set_option maxRecDepth 100000 in
set_option maxHeartbeats 2000000 in
theorem choose_any (La Lb : List Nat) (w : World) (ha : Slot16 La) (hb : Slot16 Lb) :
    Calls Tryz.prog 179 #[.agg (wcells La).toArray, .agg (wcells Lb).toArray] w fun e w' => e = .returned (.tuple #[.agg (scells (chooseM (sdecM La) (sdecM Lb)).1.1 (chooseM (sdecM La) (sdecM Lb)).1.2), .int .i64 (chooseM (sdecM La) (sdecM Lb)).2.1, .bool (chooseM (sdecM La) (sdecM Lb)).2.2]) ∧ Below w.heap.size w w' := by
  have Ha := Lib.hid (fun w => sdec_any La w ha.len ha.lt ha.ok)
  have Hb := Lib.hid (fun w => sdec_any Lb w hb.len hb.lt hb.ok)
  have hal := sdecM_len La
  have hbl := sdecM_len Lb
  have hae := sdecM_err La
  have hbe := sdecM_err Lb
  have hsza : (Tryz.prog.info? 220).map (·.size) = some (wcells La).toArray.size := by rw [size220]; simp [wcells_len, ha.len]
  have hszb : (Tryz.prog.info? 220).map (·.size) = some (wcells Lb).toArray.size := by rw [size220]; simp [wcells_len, hb.len]
  obtain ⟨⟨xe, xp, xr⟩, Hx⟩ : ∃ x, Hid (sdecM La = x) := ⟨_, rfl⟩
  obtain ⟨⟨ye, yp, yr⟩, Hy⟩ : ∃ x, Hid (sdecM Lb = x) := ⟨_, rfl⟩
  rw [Hx.out] at Ha hal hae ⊢
  rw [Hy.out] at Hb hbl hbe ⊢
  simp only at Ha Hb hal hbl hae hbe
  obtain ⟨n0, Hn0⟩ : ∃ n, Hid (w.heap.size = n) := ⟨_, rfl⟩
  obtain ⟨n1, Hn1⟩ : ∃ n, Hid (w.heap.size + 1 = n) := ⟨_, rfl⟩
  obtain ⟨n2, Hn2⟩ : ∃ n, Hid (w.heap.size + 1 + 1 = n) := ⟨_, rfl⟩
  have H0 : Hid (SC w (((w.alloc (.cells (wcells La).toArray 220)).alloc (.cells (wcells Lb).toArray 220)).alloc (.cells (scells 0 (zerosN 8)) 172)) n0 n1 n2 La Lb) := by
    refine ⟨((below_box w _).alloc (by simp) _).alloc (by simp; omega) _, by rw [← Hn0.out]; exact ((Blk.new w 220 _).alloc _).alloc _, ?_, ?_⟩
    · have := (Blk.new (w.alloc (.cells (wcells La).toArray 220)) 220 (wcells Lb).toArray).alloc (.cells (scells 0 (zerosN 8)) 172)
      rw [← Hn1.out]
      simpa using this
    · have := Blk.new ((w.alloc (.cells (wcells La).toArray 220)).alloc (.cells (wcells Lb).toArray 220)) 172 (scells 0 (zerosN 8))
      rw [← Hn2.out]
      simpa using this
  have hsz0 : (Tryz.prog.info? 172).map (·.size) = some (scells 0 (zerosN 8)).size := size172
  have hszx : (Tryz.prog.info? 172).map (·.size) = some (scells xp xr).size := by rw [scells_size xp xr hal]; exact size172
  have hszy : (Tryz.prog.info? 172).map (·.size) = some (scells yp yr).size := by rw [scells_size yp yr hbl]; exact size172
  clear ha hb
  go_enter Tryz.func179, Tryz.ntmps179
  go_wp2_with (refine wpList_load_row rfl 220 (.tmp 2) rfl w.heap.size rfl 220 _ (0, 0) _ (Hn0.out ▸ H0.out.a) Tryz.underlying220 rfl hsza ?_)
  rw [Hn2.out, Hn1.out, Hn0.out]
  have hw : ((w.alloc (.cells (wcells La).toArray 220)).alloc (.cells (wcells Lb).toArray 220)).alloc (.cells #[.int .u64 0, .int .i64 0, .int .i64 0, .int .i64 0, .int .i64 0, .int .i64 0, .int .i64 0, .int .i64 0, .int .i64 0] 172) = ((w.alloc (.cells (wcells La).toArray 220)).alloc (.cells (wcells Lb).toArray 220)).alloc (.cells (scells 0 (zerosN 8)) 172) := rfl
  rw [hw]
  clear hw
  generalize ((w.alloc (.cells (wcells La).toArray 220)).alloc (.cells (wcells Lb).toArray 220)).alloc (.cells (scells 0 (zerosN 8)) 172) = w1 at *
  refine (Ha.out _).mono ?_
  rintro e w2 ⟨rfl, hb2⟩
  have H2 := Lib.hid (H0.out.below hb2 (Nat.le_refl _))
  clear hb2 H0
  obtain ⟨n7, Hn7⟩ : ∃ n, Hid (w2.heap.size = n) := ⟨_, rfl⟩
  go_wp2_with (refine wpList_store_row rfl (.tmp 7) (.tmp 14) rfl rfl rfl (Blk.new _ _ _) hszx (by rw [scells_size xp xr hal]; rfl) (scells_one xp xr) ?_)
  intro w3 hB3 hM3
  have hb3 : Below w2.heap.size w2 w3 := Below.mod (below_box w2 _) hM3 (by simp) (fun k _ h => by omega)
  have H3 := Lib.hid (H2.out.below hb3 (Nat.le_refl _))
  have HX3 : Hid (Blk w3 n7 172 (scells xp xr)) := by rw [← Hn7.out]; exact hB3
  rw [Hn7.out]
  clear hb3 hB3 hM3 H2
  go_wp2_with (refine wpList_load_row rfl 220 (.tmp 3) rfl n1 rfl 220 _ (0, 0) _ H3.out.b Tryz.underlying220 rfl hszb ?_)
  refine (Hb.out _).mono ?_
  rintro e w4 ⟨rfl, hb4⟩
  have H4 := Lib.hid (H3.out.below hb4 (Nat.le_refl _))
  have HX4 := Lib.hid (HX3.out.below hb4 HX3.out.lt)
  clear hb4 H3 HX3
  obtain ⟨n9, Hn9⟩ : ∃ n, Hid (w4.heap.size = n) := ⟨_, rfl⟩
  go_wp2_with (refine wpList_store_row rfl (.tmp 9) (.tmp 19) rfl rfl rfl (Blk.new _ _ _) hszy (by rw [scells_size yp yr hbl]; rfl) (scells_one yp yr) ?_)
  intro w5 hB5 hM5
  have hb5 : Below w4.heap.size w4 w5 := Below.mod (below_box w4 _) hM5 (by simp) (fun k _ h => by omega)
  have H5 := Lib.hid (H4.out.below hb5 (Nat.le_refl _))
  have HX5 := Lib.hid (HX4.out.below hb5 HX4.out.lt)
  have HY5 : Hid (Blk w5 n9 172 (scells yp yr)) := by rw [← Hn9.out]; exact hB5
  rw [Hn9.out]
  clear hb5 hB5 hM5 H4 HX4
  have x0 : w5.cell? ⟨n7, 0, none⟩ = some (.int .u64 xp) := HX5.out.cell 0
  have y0 : w5.cell? ⟨n9, 0, none⟩ = some (.int .u64 yp) := HY5.out.cell 0
  have Hpost : Hid (∀ (z : Nat × List Nat) (i : Nat) (ok : Bool), chooseM (xe, xp, xr) (ye, yp, yr) = (z, i, ok) → z.2.length = 8 → ∀ w6, Blk w6 n2 172 (scells z.1 z.2) → Mod w5 w6 (fun k => k = n2) → Ending.returned (.tuple #[.agg (scells z.1 z.2), .int .i64 i, .bool ok]) = Ending.returned (.tuple #[.agg (scells (chooseM (xe, xp, xr) (ye, yp, yr)).1.1 (chooseM (xe, xp, xr) (ye, yp, yr)).1.2), .int .i64 (chooseM (xe, xp, xr) (ye, yp, yr)).2.1, .bool (chooseM (xe, xp, xr) (ye, yp, yr)).2.2]) ∧ Below w.heap.size w w6) := fun z i ok he hz w6 hB hM => by
    rw [he]
    exact ⟨rfl, Below.mod H5.out.be hM H5.out.be.size (fun k _ e => by have := Hn2.out; omega)⟩
  have px : ∀ (T : Tmp), True := fun _ => trivial
  clear px
  have done : ∀ (z : Nat × List Nat) (w6 : World), z.2.length = 8 → (Tryz.prog.info? 172).map (·.size) = some (scells z.1 z.2).size := fun z w6 h => by rw [scells_size z.1 z.2 h]; exact size172
  rcases hae with rfl | rfl | rfl <;> rcases hbe with rfl | rfl | rfl
  · by_cases hle : yp ≤ xp
    · have hc : chooseM (0, xp, xr) (0, yp, yr) = ((xp, xr), 0, true) := by simp [chooseM, hle]
      have h1 : decide ((yp : Int) ≤ (xp : Int)) = true := by rw [decide_eq_true_eq]; omega
      have h2 : (yp : Int) ≤ (xp : Int) := by omega
      go_wp2_with (first
        | (refine wpList_load_row rfl 172 (.tmp 7) rfl n7 rfl 172 _ (0, 0) _ HX5.out Tryz.underlying172 rfl hszx ?_)
        | (refine wpList_store_row rfl (.tmp 4) (.tmp 35) rfl rfl rfl H5.out.r hszx (by rw [scells_size xp xr hal]; rfl) (scells_one xp xr) ?_))
      intro w6 hB6 hM6
      have HB6 := Lib.hid hB6
      have HP := Lib.hid (Hpost.out (xp, xr) 0 true hc hal w6 hB6 hM6)
      clear hB6 hM6
      go_wp2_with fail
      refine bodyPost_ret (results_row_tmp2 rfl _ _ n2 172 _ _ _ rfl HB6.out Tryz.underlying172 rfl hszx) rfl ?_
      exact ⟨rfl, HP.out.2⟩
    · have hc : chooseM (0, xp, xr) (0, yp, yr) = ((yp, yr), 1, true) := by simp [chooseM, hle]
      have h1 : decide ((yp : Int) ≤ (xp : Int)) = false := by rw [decide_eq_false_iff_not]; omega
      have h2 : ¬ (yp : Int) ≤ (xp : Int) := by omega
      go_wp2_with (first
        | (refine wpList_load_row rfl 172 (.tmp 9) rfl n9 rfl 172 _ (0, 0) _ HY5.out Tryz.underlying172 rfl hszy ?_)
        | (refine wpList_store_row rfl (.tmp 4) (.tmp 39) rfl rfl rfl H5.out.r hszy (by rw [scells_size yp yr hbl]; rfl) (scells_one yp yr) ?_))
      intro w6 hB6 hM6
      have HB6 := Lib.hid hB6
      have HP := Lib.hid (Hpost.out (yp, yr) 1 true hc hbl w6 hB6 hM6)
      clear hB6 hM6
      go_wp2_with fail
      refine bodyPost_ret (results_row_tmp2 rfl _ _ n2 172 _ _ _ rfl HB6.out Tryz.underlying172 rfl hszy) rfl ?_
      exact ⟨rfl, HP.out.2⟩
  · have hc : chooseM (0, xp, xr) (25, yp, yr) = ((xp, xr), 0, true) := by simp [chooseM]
    go_wp2_with (first
      | (refine wpList_load_row rfl 172 (.tmp 7) rfl n7 rfl 172 _ (0, 0) _ HX5.out Tryz.underlying172 rfl hszx ?_)
      | (refine wpList_store_row rfl (.tmp 4) (.tmp 35) rfl rfl rfl H5.out.r hszx (by rw [scells_size xp xr hal]; rfl) (scells_one xp xr) ?_))
    intro w6 hB6 hM6
    have HB6 := Lib.hid hB6
    have HP := Lib.hid (Hpost.out (xp, xr) 0 true hc hal w6 hB6 hM6)
    clear hB6 hM6
    go_wp2_with fail
    refine bodyPost_ret (results_row_tmp2 rfl _ _ n2 172 _ _ _ rfl HB6.out Tryz.underlying172 rfl hszx) rfl ?_
    exact HP.out
  · have hc : chooseM (0, xp, xr) (26, yp, yr) = ((xp, xr), 0, true) := by simp [chooseM]
    go_wp2_with (first
      | (refine wpList_load_row rfl 172 (.tmp 7) rfl n7 rfl 172 _ (0, 0) _ HX5.out Tryz.underlying172 rfl hszx ?_)
      | (refine wpList_store_row rfl (.tmp 4) (.tmp 35) rfl rfl rfl H5.out.r hszx (by rw [scells_size xp xr hal]; rfl) (scells_one xp xr) ?_))
    intro w6 hB6 hM6
    have HB6 := Lib.hid hB6
    have HP := Lib.hid (Hpost.out (xp, xr) 0 true hc hal w6 hB6 hM6)
    clear hB6 hM6
    go_wp2_with fail
    refine bodyPost_ret (results_row_tmp2 rfl _ _ n2 172 _ _ _ rfl HB6.out Tryz.underlying172 rfl hszx) rfl ?_
    exact HP.out
  · have hc : chooseM (25, xp, xr) (0, yp, yr) = ((yp, yr), 1, true) := by simp [chooseM]
    go_wp2_with (first
      | (refine wpList_load_row rfl 172 (.tmp 9) rfl n9 rfl 172 _ (0, 0) _ HY5.out Tryz.underlying172 rfl hszy ?_)
      | (refine wpList_store_row rfl (.tmp 4) (.tmp 39) rfl rfl rfl H5.out.r hszy (by rw [scells_size yp yr hbl]; rfl) (scells_one yp yr) ?_))
    intro w6 hB6 hM6
    have HB6 := Lib.hid hB6
    have HP := Lib.hid (Hpost.out (yp, yr) 1 true hc hbl w6 hB6 hM6)
    clear hB6 hM6
    go_wp2_with fail
    refine bodyPost_ret (results_row_tmp2 rfl _ _ n2 172 _ _ _ rfl HB6.out Tryz.underlying172 rfl hszy) rfl ?_
    exact HP.out
  · have hc : chooseM (25, xp, xr) (25, yp, yr) = ((0, zerosN 8), 0, false) := by simp [chooseM]
    go_wp2_with (refine wpList_store_row rfl (.tmp 4) (.tmp 40) rfl rfl (cs := scells 0 (zerosN 8)) rfl H5.out.r hsz0 rfl (scells_one 0 (zerosN 8)) ?_)
    intro w6 hB6 hM6
    have HB6 := Lib.hid hB6
    have HP := Lib.hid (Hpost.out (0, zerosN 8) 0 false hc rfl w6 hB6 hM6)
    clear hB6 hM6
    go_wp2_with fail
    refine bodyPost_ret (results_row_tmp2 rfl _ _ n2 172 _ _ _ rfl HB6.out Tryz.underlying172 rfl hsz0) rfl ?_
    exact HP.out
  · have hc : chooseM (25, xp, xr) (26, yp, yr) = ((0, zerosN 8), 0, false) := by simp [chooseM]
    go_wp2_with (refine wpList_store_row rfl (.tmp 4) (.tmp 40) rfl rfl (cs := scells 0 (zerosN 8)) rfl H5.out.r hsz0 rfl (scells_one 0 (zerosN 8)) ?_)
    intro w6 hB6 hM6
    have HB6 := Lib.hid hB6
    have HP := Lib.hid (Hpost.out (0, zerosN 8) 0 false hc rfl w6 hB6 hM6)
    clear hB6 hM6
    go_wp2_with fail
    refine bodyPost_ret (results_row_tmp2 rfl _ _ n2 172 _ _ _ rfl HB6.out Tryz.underlying172 rfl hsz0) rfl ?_
    exact HP.out
  · have hc : chooseM (26, xp, xr) (0, yp, yr) = ((yp, yr), 1, true) := by simp [chooseM]
    go_wp2_with (first
      | (refine wpList_load_row rfl 172 (.tmp 9) rfl n9 rfl 172 _ (0, 0) _ HY5.out Tryz.underlying172 rfl hszy ?_)
      | (refine wpList_store_row rfl (.tmp 4) (.tmp 39) rfl rfl rfl H5.out.r hszy (by rw [scells_size yp yr hbl]; rfl) (scells_one yp yr) ?_))
    intro w6 hB6 hM6
    have HB6 := Lib.hid hB6
    have HP := Lib.hid (Hpost.out (yp, yr) 1 true hc hbl w6 hB6 hM6)
    clear hB6 hM6
    go_wp2_with fail
    refine bodyPost_ret (results_row_tmp2 rfl _ _ n2 172 _ _ _ rfl HB6.out Tryz.underlying172 rfl hszy) rfl ?_
    exact HP.out
  · have hc : chooseM (26, xp, xr) (25, yp, yr) = ((0, zerosN 8), 0, false) := by simp [chooseM]
    go_wp2_with (refine wpList_store_row rfl (.tmp 4) (.tmp 40) rfl rfl (cs := scells 0 (zerosN 8)) rfl H5.out.r hsz0 rfl (scells_one 0 (zerosN 8)) ?_)
    intro w6 hB6 hM6
    have HB6 := Lib.hid hB6
    have HP := Lib.hid (Hpost.out (0, zerosN 8) 0 false hc rfl w6 hB6 hM6)
    clear hB6 hM6
    go_wp2_with fail
    refine bodyPost_ret (results_row_tmp2 rfl _ _ n2 172 _ _ _ rfl HB6.out Tryz.underlying172 rfl hsz0) rfl ?_
    exact HP.out
  · have hc : chooseM (26, xp, xr) (26, yp, yr) = ((0, zerosN 8), 0, false) := by simp [chooseM]
    go_wp2_with (refine wpList_store_row rfl (.tmp 4) (.tmp 40) rfl rfl (cs := scells 0 (zerosN 8)) rfl H5.out.r hsz0 rfl (scells_one 0 (zerosN 8)) ?_)
    intro w6 hB6 hM6
    have HB6 := Lib.hid hB6
    have HP := Lib.hid (Hpost.out (0, zerosN 8) 0 false hc rfl w6 hB6 hM6)
    clear hB6 hM6
    go_wp2_with fail
    refine bodyPost_ret (results_row_tmp2 rfl _ _ n2 172 _ _ _ rfl HB6.out Tryz.underlying172 rfl hsz0) rfl ?_
    exact HP.out
end Go.Proofs.YtcnjipicifkfjaaGreat
