/- slot.Decode. -/
import Derived.Test.YtcnjipicifkfjaaGreatRm24

namespace Go.Proofs.YtcnjipicifkfjaaGreat
open Go.RowKit
set_option linter.unusedVariables false
set_option linter.unusedSimpArgs false

section
variable {P : Program} {ops : Array Oper} {S : World → Prop} {op : Oper} {a : Act}
theorem run_loadAt_row {w : World} {g : Nat} {t ty : TypeId} {cs : Array Value} {d : TypeDesc} (hg : Blk w g t cs) (hu : P.underlying ty = some d) (hd : (match d with | .struct _ | .array _ _ => true | _ => false) = true)
    (hi : (P.info? ty).map (·.size) = some cs.size) : (Instr.loadAt ty (.pointer (some ⟨g, 0, none⟩))).run P w = .ok (.agg cs) w := by
  have h := run_load_sub 0 cs.size hg hu hd hi (by omega)
  rw [Nat.zero_add, Array.extract_size] at h
  simp only [Instr.loadAt, Instr.sureAddr, Sem.run_bind, Sem.run_pure, Result.andThen_ok, h]
theorem yields_load_row {g : Nat} {t ty : TypeId} {cs : Array Value} {d : TypeDesc} (hw : Region.wanted op (yielded ops a.tmps) = true) (x : Operand) (ho : op.op = .load ty x)
    (hx : a.eval x = .pointer (some ⟨g, 0, none⟩)) (hS : ∀ w, S w → Blk w g t cs) (hu : P.underlying ty = some d) (hd : (match d with | .struct _ | .array _ _ => true | _ => false) = true)
    (hi : (P.info? ty).map (·.size) = some cs.size) : YieldsIf P ops S op (.agg cs) a :=
  .inl ⟨hw, fun w hw' => by
    unfold execOp
    simp only [ho, hx, run_loadAt_row (hS w hw') hu hd hi, Sem.run_bind, Sem.run_pure, Result.andThen_ok]⟩
theorem yields_move (v : Value) (hw : Region.wanted op (yielded ops a.tmps) = true) (x : Operand) (ho : op.op = .move x ∨ op.op = .assign x) (hv : a.eval x = v) : YieldsIf P ops S op v a :=
  .inl ⟨hw, fun w hw' => by
    unfold execOp
    rcases ho with ho | ho <;> simp only [ho, hv, Sem.run_bind, Sem.run_pure, Result.andThen_ok]⟩
end

theorem results_row_tmp {P : Program} {fn : Func} {p u : Tmp} {ty : TypeId} (h : fn.results = #[.cell p ty, .tmp u]) (tmps : Array Value) (w : World) (g : Nat) (t : TypeId) (cs : Array Value) (fr : Nat × Nat) (d : TypeDesc)
    (hp : tmps.getD p undef = .pointer (some ⟨g, 0, none⟩)) (hg : w.heap[g]? = some (.cells cs t fr))
    (hu : P.underlying ty = some d) (hd : (match d with | .struct _ | .array _ _ => true | _ => false) = true) (hi : (P.info? ty).map (·.size) = some cs.size) :
    (results fn tmps).run P w = .ok (.tuple #[.agg cs, tmps.getD u undef]) w := by
  have hp' : tmps[p]?.getD undef = .pointer (some ⟨g, 0, none⟩) := by simpa using hp
  simp [results, h, hp', asAddr, run_loadVar_row w g t ty cs fr d hg hu hd hi]
theorem results_row_tmp2 {P : Program} {fn : Func} {p u v : Tmp} {ty : TypeId} (h : fn.results = #[.cell p ty, .tmp u, .tmp v]) (tmps : Array Value) (w : World) (g : Nat) (t : TypeId) (cs : Array Value) (fr : Nat × Nat) (d : TypeDesc)
    (hp : tmps.getD p undef = .pointer (some ⟨g, 0, none⟩)) (hg : w.heap[g]? = some (.cells cs t fr))
    (hu : P.underlying ty = some d) (hd : (match d with | .struct _ | .array _ _ => true | _ => false) = true) (hi : (P.info? ty).map (·.size) = some cs.size) :
    (results fn tmps).run P w = .ok (.tuple #[.agg cs, tmps.getD u undef, tmps.getD v undef]) w := by
  have hp' : tmps[p]?.getD undef = .pointer (some ⟨g, 0, none⟩) := by simpa using hp
  simp [results, h, hp', asAddr, run_loadVar_row w g t ty cs fr d hg hu hd hi]

/-- The roots of a slot's words. -/
def rsOf (L : List Nat) : List Nat := (List.range 8).map fun i => L.getD (i / 4 * 8 + 1 + i % 4) 0
def sumOk (L : List Nat) (l : Nat) : Prop := L.getD (8 * l + 7) 0 = crcW ((L.drop (8 * l)).take 7)
instance (L : List Nat) (l : Nat) : Decidable (sumOk L l) := by unfold sumOk; exact inferInstance
/-- What Decode answers: the error, the epoch, the roots. -/
def sdecM (L : List Nat) : Nat × Nat × List Nat :=
  if sumOk L 0 ∧ sumOk L 1 then (if slotEnc (L.getD 0 0) (rsOf L) = L then (0, L.getD 0 0, rsOf L) else (26, 0, zerosN 8)) else (25, 0, zerosN 8)
theorem rsOf_len (L : List Nat) : (rsOf L).length = 8 := by simp [rsOf]
theorem rsOf_get (L : List Nat) (i : Nat) (h : i < 8) : (rsOf L).getD i 0 = L.getD (i / 4 * 8 + 1 + i % 4) 0 := by simp [rsOf, List.getD_eq_getElem?_getD, h]

theorem scells_one (ep : Nat) (R : List Nat) : ∀ v ∈ (scells ep R).toList, v.oneCell' = true := by
  intro v hv
  simp only [scells, ncells, List.mem_cons, List.mem_map] at hv
  rcases hv with rfl | ⟨x, _, rfl⟩ <;> rfl
/-- Where Decode stands: what it got at n0, its result at n1. -/
structure SD (w0 w : World) (n0 n1 : Nat) (L : List Nat) : Prop where
  be : Below w0.heap.size w0 w
  l : Blk w n0 220 (wcells L).toArray
  r : Blk w n1 172 (scells 0 (zerosN 8))
theorem SD.below {w0 w w' : World} {n0 n1 B0 : Nat} {L : List Nat} (h : SD w0 w n0 n1 L) (hb : Below B0 w w') (hB : w.heap.size ≤ B0) : SD w0 w' n0 n1 L :=
  ⟨h.be.trans (hb.mono (Nat.le_trans h.be.size hB)), h.l.below hb (Nat.lt_of_lt_of_le h.l.lt hB), h.r.below hb (Nat.lt_of_lt_of_le h.r.lt hB)⟩
theorem SD.drew {w0 w : World} {n0 n1 : Nat} {L : List Nat} (h : SD w0 w n0 n1 L) : SD w0 w.drew n0 n1 L := ⟨below_drewN h.be 1, h.l.drew, h.r.drew⟩

/-- .. and the slot it makes at n6. -/
structure SE6 (w0 w : World) (n0 n1 n6 : Nat) (L : List Nat) (ep : Nat) (R : List Nat) : Prop where
  d : SD w0 w n0 n1 L
  s : Blk w n6 172 (scells ep R)
theorem SE6.below {w0 w w' : World} {n0 n1 n6 B0 ep : Nat} {L R : List Nat} (h : SE6 w0 w n0 n1 n6 L ep R) (hb : Below B0 w w') (hB : w.heap.size ≤ B0) : SE6 w0 w' n0 n1 n6 L ep R :=
  ⟨h.d.below hb hB, h.s.below hb (Nat.lt_of_lt_of_le h.s.lt hB)⟩
theorem SE6.drew {w0 w : World} {n0 n1 n6 ep : Nat} {L R : List Nat} (h : SE6 w0 w n0 n1 n6 L ep R) : SE6 w0 w.drew n0 n1 n6 L ep R := ⟨h.d.drew, h.s.drew⟩
theorem Blk.setr {w : World} {g ep : Nat} {R : List Nat} (h : Blk w g 172 (scells ep R)) (i v : Nat) : Blk (w.setCell ⟨g, 1 + i, none⟩ (.int .i64 (v : Nat))) g 172 (scells ep (R.set i v)) := by
  have := h.set_ (1 + i) (.int .i64 (v : Nat))
  refine this.conv ?_
  unfold scells ncells
  rw [List.setIfInBounds_toArray, Nat.add_comm 1 i, List.set_cons_succ, List.map_set]
theorem Blk.root {w : World} {g ep : Nat} {R : List Nat} (h : Blk w g 172 (scells ep R)) (i : Nat) (hi : i < R.length) : w.cell? ⟨g, 1 + i, none⟩ = some (.int .i64 (R.getD i 0 : Nat)) := by
  rw [h.cell (1 + i)]
  unfold scells
  rw [List.getElem?_toArray, Nat.add_comm 1 i, List.getElem?_cons_succ]
  exact ncells_at R i hi

set_option maxRecDepth 100000 in
set_option maxHeartbeats 2000000 in
theorem sdec_any (L : List Nat) (w : World) (hlen : L.length = 16) (hlt : lt64 L) (hR : sumOk L 0 → sumOk L 1 → RootsOk (rsOf L) ∧ 0 < L.getD 0 0) :
    Calls Tryz.prog 221 #[.agg (wcells L).toArray] w fun e w' => e = .returned (.tuple #[.agg (scells (sdecM L).2.1 (sdecM L).2.2), .int .i64 (sdecM L).1]) ∧ Below w.heap.size w w' := by
  have Hlen := Lib.hid hlen
  have Hlt := Lib.hid hlt
  have HR := Lib.hid hR
  clear hR hlt hlen
  obtain ⟨n0, Hn0⟩ : ∃ n, Hid (w.heap.size = n) := ⟨_, rfl⟩
  obtain ⟨n1, Hn1⟩ : ∃ n, Hid (w.heap.size + 1 = n) := ⟨_, rfl⟩
  have h01 : ¬ n0 = n1 := by rw [← Hn0.out, ← Hn1.out]; omega
  have H0 : Hid (SD w ((w.alloc (.cells (wcells L).toArray 220)).alloc (.cells (scells 0 (zerosN 8)) 172)) n0 n1 L) := by
    refine ⟨(below_box w _).alloc (by simp) _, by rw [← Hn0.out]; exact (Blk.new w 220 _).alloc _, ?_⟩
    have := Blk.new (w.alloc (.cells (wcells L).toArray 220)) 172 (scells 0 (zerosN 8))
    rw [← Hn1.out]
    simpa using this
  have hsz0 : (Tryz.prog.info? 172).map (·.size) = some (scells 0 (zerosN 8)).size := size172
  go_enter Tryz.func221, Tryz.ntmps221
  go_wp2_with fail
  rw [Hn1.out, Hn0.out]
  have hw : (w.alloc (.cells (wcells L).toArray 220)).alloc (.cells #[.int .u64 0, .int .i64 0, .int .i64 0, .int .i64 0, .int .i64 0, .int .i64 0, .int .i64 0, .int .i64 0, .int .i64 0] 172) = ((w.alloc (.cells (wcells L).toArray 220)).alloc (.cells (scells 0 (zerosN 8)) 172)) := rfl
  rw [hw]
  clear hw
  generalize ((w.alloc (.cells (wcells L).toArray 220)).alloc (.cells (scells 0 (zerosN 8)) 172)) = w1 at *
  go_loopw [8] (fun v8 wr => ∃ l : Nat, v8 = .int .i64 l ∧ l ≤ 2 ∧ (∀ j, j < l → sumOk L j) ∧ SD w wr n0 n1 L) (fun v8 _ => 2 - (intOf v8).toNat)
  case atStart => exact ⟨0, rfl, Nat.zero_le _, fun j hj => absurd hj (Nat.not_lt_zero _), H0.out⟩
  case round =>
    clear H0
    obtain ⟨l, rfl, hl, hS, hW⟩ := hrel
    have HS := Lib.hid hS
    have HW := Lib.hid hW
    clear hS hW
    by_cases hl2 : l < 2
    · have HW' : Hid (∀ w', SD w w' n0 n1 L → Calls Tryz.prog 171 #[.slice (some ⟨n0, 8 * l, none⟩) 7 (16 - 8 * l)] w' fun e w'' => e = .returned (.int .u32 (crcW ((L.drop (8 * l)).take 7) : Nat)) ∧ Below w'.heap.size w' w'') := fun w' h =>
        cwords_any _ 7 _ _ w' (by omega) (fun j _ => Hlt.out.part _ 7 j) (h.l.part _ 7 (by rw [Hlen.out]; omega))
      have y7 := HW.out.l.word (8 * l + 7) (by rw [Hlen.out]; omega)
      have hcl := crcW_lt ((L.drop (8 * l)).take 7)
      have hvl := Hlt.out (8 * l + 7)
      have Hdef : Hid (sumOk L l ↔ L.getD (8 * l + 7) 0 = crcW ((L.drop (8 * l)).take 7)) := Iff.rfl
      obtain ⟨c, Hc⟩ : ∃ c, Hid (crcW ((L.drop (8 * l)).take 7) = c) := ⟨_, rfl⟩
      obtain ⟨v, Hv⟩ : ∃ v, Hid (L.getD (8 * l + 7) 0 = v) := ⟨_, rfl⟩
      rw [Hc.out] at HW' hcl
      rw [Hv.out] at y7 hvl
      rw [Hc.out, Hv.out] at Hdef
      have hwc : IntKind.u64.wrap (c : Int) = (c : Int) := by rw [IntKind.wrap_u64]; omega
      rcases (by omega : l = 0 ∨ l = 1) with rfl | rfl
      · simp only [Nat.mul_zero] at y7 HW'
        have y7d : wr.drew.cell? ⟨n0, 7, none⟩ = some (.int .u64 v) := y7
        have HWd := Lib.hid HW.out.drew
        by_cases hcv : v = c
        · have HA := Lib.hid (Hdef.out.2 hcv)
          clear Hdef Hv
          subst hcv
          go_wp2_with fail
          go_region_held3 (fun w' => w'.cell? ⟨n0, 7, none⟩ = some (.int .u64 v))
            (first | exact y7d | exact (cell_mod ((Mod.of_below hb2).mono (S' := fun k => wr.drew.heap.size ≤ k) (fun k hk hk2 => hk2)) y7d (fun hk => by have := HWd.out.l.lt; simp only at hk; omega)))
            ((go_at_call 171; refine (HW'.out _ HWd.out).mono ?_; rintro e w2 ⟨rfl, hb2⟩))
          have HW2 := Lib.hid (HWd.out.below hb2 (Nat.le_refl _))
          clear y7 y7d hb2 HWd
          go_wp2_with fail
          exact ⟨⟨1, rfl, by omega, fun j hj => by rcases (by omega : j = 0 ∨ j < 0) with rfl | h; exact HA.out; exact HS.out j h, HW2.out⟩, by simp [intOf]⟩
        · have HA := Lib.hid (fun h => hcv (Hdef.out.1 h))
          have hcv2 : ((v : Int) != (c : Int)) = true := by rw [bne_iff_ne]; omega
          go_wp2_with fail
          go_region_held3 (fun w' => w'.cell? ⟨n0, 7, none⟩ = some (.int .u64 v))
            (first | exact y7d | exact (cell_mod ((Mod.of_below hb2).mono (S' := fun k => wr.drew.heap.size ≤ k) (fun k hk hk2 => hk2)) y7d (fun hk => by have := HWd.out.l.lt; simp only at hk; omega)))
            ((go_at_call 171; refine (HW'.out _ HWd.out).mono ?_; rintro e w2 ⟨rfl, hb2⟩))
          have HW2 := Lib.hid (HWd.out.below hb2 (Nat.le_refl _))
          clear y7 y7d hb2 HWd
          have HF : Hid (sdecM L = (25, 0, zerosN 8)) := by
            show _ = _
            unfold sdecM
            rw [if_neg (fun h => HA.out h.1)]
          go_wp2_with (refine wpList_store_row rfl (.tmp 2) (.tmp 25) rfl rfl (cs := scells 0 (zerosN 8)) rfl HW2.out.r hsz0 rfl (by intro v hv; simp [scells, zerosN, ncells] at hv; rcases hv with rfl | rfl <;> rfl) ?_)
          intro w3 hB3 hM3
          have HB3 := Lib.hid hB3
          have HG3 := Lib.hid (Below.mod HW2.out.be hM3 HW2.out.be.size (fun k _ e => by have := Hn1.out; omega))
          clear hB3 hM3
          go_wp2_with fail
          refine bodyPost_ret (results_row_tmp rfl _ _ n1 172 _ _ _ rfl HB3.out Tryz.underlying172 rfl hsz0) rfl ?_
          rw [HF.out]
          exact ⟨rfl, HG3.out⟩
      · simp only [Nat.mul_one] at y7 HW'
        have y7d : wr.drew.cell? ⟨n0, 15, none⟩ = some (.int .u64 v) := y7
        have HWd := Lib.hid HW.out.drew
        by_cases hcv : v = c
        · have HA := Lib.hid (Hdef.out.2 hcv)
          clear Hdef Hv
          subst hcv
          go_wp2_with fail
          go_region_held3 (fun w' => w'.cell? ⟨n0, 15, none⟩ = some (.int .u64 v))
            (first | exact y7d | exact (cell_mod ((Mod.of_below hb2).mono (S' := fun k => wr.drew.heap.size ≤ k) (fun k hk hk2 => hk2)) y7d (fun hk => by have := HWd.out.l.lt; simp only at hk; omega)))
            ((go_at_call 171; refine (HW'.out _ HWd.out).mono ?_; rintro e w2 ⟨rfl, hb2⟩))
          have HW2 := Lib.hid (HWd.out.below hb2 (Nat.le_refl _))
          clear y7 y7d hb2 HWd
          go_wp2_with fail
          exact ⟨⟨2, rfl, by omega, fun j hj => by rcases (by omega : j = 1 ∨ j < 1) with rfl | h; exact HA.out; exact HS.out j h, HW2.out⟩, by simp [intOf]⟩
        · have HA := Lib.hid (fun h => hcv (Hdef.out.1 h))
          have hcv2 : ((v : Int) != (c : Int)) = true := by rw [bne_iff_ne]; omega
          go_wp2_with fail
          go_region_held3 (fun w' => w'.cell? ⟨n0, 15, none⟩ = some (.int .u64 v))
            (first | exact y7d | exact (cell_mod ((Mod.of_below hb2).mono (S' := fun k => wr.drew.heap.size ≤ k) (fun k hk hk2 => hk2)) y7d (fun hk => by have := HWd.out.l.lt; simp only at hk; omega)))
            ((go_at_call 171; refine (HW'.out _ HWd.out).mono ?_; rintro e w2 ⟨rfl, hb2⟩))
          have HW2 := Lib.hid (HWd.out.below hb2 (Nat.le_refl _))
          clear y7 y7d hb2 HWd
          have HF : Hid (sdecM L = (25, 0, zerosN 8)) := by
            show _ = _
            unfold sdecM
            rw [if_neg (fun h => HA.out h.2)]
          go_wp2_with (refine wpList_store_row rfl (.tmp 2) (.tmp 25) rfl rfl (cs := scells 0 (zerosN 8)) rfl HW2.out.r hsz0 rfl (by intro v hv; simp [scells, zerosN, ncells] at hv; rcases hv with rfl | rfl <;> rfl) ?_)
          intro w3 hB3 hM3
          have HB3 := Lib.hid hB3
          have HG3 := Lib.hid (Below.mod HW2.out.be hM3 HW2.out.be.size (fun k _ e => by have := Hn1.out; omega))
          clear hB3 hM3
          go_wp2_with fail
          refine bodyPost_ret (results_row_tmp rfl _ _ n1 172 _ _ _ rfl HB3.out Tryz.underlying172 rfl hsz0) rfl ?_
          rw [HF.out]
          exact ⟨rfl, HG3.out⟩
    · obtain rfl : l = 2 := by omega
      rw [show ((2 : Nat) : Int) = 2 from rfl]
      obtain ⟨HR8, hep⟩ := HR.out (HS.out 0 (by omega)) (HS.out 1 (by omega))
      have HF : Hid (sdecM L = if slotEnc (L.getD 0 0) (rsOf L) = L then (0, L.getD 0 0, rsOf L) else (26, 0, zerosN 8)) := if_pos ⟨HS.out 0 (by omega), HS.out 1 (by omega)⟩
      have Hrl := Lib.hid (rsOf_len L)
      have Hrg : Hid (∀ i, i < 8 → L.getD (i / 4 * 8 + 1 + i % 4) 0 = (rsOf L).getD i 0) := fun i hi => (rsOf_get L i hi).symm
      have y0 := HW.out.l.word 0 (by rw [Hlen.out]; omega)
      have hep2 := Hlt.out 0
      obtain ⟨ep, Hep⟩ : ∃ ep, Hid (L.getD 0 0 = ep) := ⟨_, rfl⟩
      obtain ⟨R, HRR⟩ : ∃ R, Hid (rsOf L = R) := ⟨_, rfl⟩
      rw [Hep.out] at hep hep2 y0
      rw [Hep.out, HRR.out] at HF
      rw [HRR.out] at HR8 Hrl Hrg
      have HR8' := Lib.hid HR8
      clear HR8 HS HR
      obtain ⟨n6, Hn6⟩ : ∃ n, Hid (wr.heap.size = n) := ⟨_, rfl⟩
      go_wp2_with fail
      rw [Hn6.out]
      have hn6 : w.heap.size ≤ n6 := by rw [← Hn6.out]; exact HW.out.be.size
      have h06 : n0 ≠ n6 := by have := HW.out.l.lt; rw [Hn6.out] at this; omega
      have h16 : n1 ≠ n6 := by have := HW.out.r.lt; rw [Hn6.out] at this; omega
      have H6 : Hid (SE6 w (wr.alloc (.cells (scells ep (zerosN 8)) 172)) n0 n1 n6 L ep (copyS (fun i => R.getD i 0) 8 0)) :=
        ⟨HW.out.below (below_box wr _) (Nat.le_refl _), by rw [← Hn6.out]; exact Blk.new wr 172 _⟩
      have hw : wr.alloc (.cells #[.int .u64 ep, .int .i64 0, .int .i64 0, .int .i64 0, .int .i64 0, .int .i64 0, .int .i64 0, .int .i64 0, .int .i64 0] 172) = wr.alloc (.cells (scells ep (zerosN 8)) 172) := rfl
      rw [hw]
      clear hw HW y0
      generalize wr.alloc _ = w6 at *
      go_loopw [30] (fun v30 wr => ∃ k : Nat, v30 = .int .i64 k ∧ k ≤ 8 ∧ SE6 w wr n0 n1 n6 L ep (copyS (fun i => R.getD i 0) 8 k)) (fun v30 _ => 8 - (intOf v30).toNat)
      case atStart => exact ⟨0, rfl, Nat.zero_le _, H6.out⟩
      case round =>
        clear H6
        obtain ⟨k, rfl, hk, hW⟩ := hrel
        have HW := Lib.hid hW
        clear hW
        have hl := copyS_len (fun i => R.getD i 0) 8 k
        by_cases hk8 : k < 8
        · have HS : Hid (copyS (fun i => R.getD i 0) 8 (k + 1) = (copyS (fun i => R.getD i 0) 8 k).set k (R.getD k 0)) := rfl
          have y0 := HW.out.s.root k (by omega)
          have y1 := HW.out.s.frozen (1 + k)
          have x0 := HW.out.d.l.word (k / 4 * 8 + 1 + k % 4) (by rw [Hlen.out]; omega)
          have hr := HR8'.out.lt k hk8
          rw [Hrg.out k hk8] at x0
          obtain ⟨q, Hq⟩ : ∃ q, Hid (k / 4 * 8 + 1 + k % 4 = q) := ⟨_, rfl⟩
          obtain ⟨v, Hv⟩ : ∃ v, Hid (R.getD k 0 = v) := ⟨_, rfl⟩
          rw [Hq.out, Hv.out] at x0
          rw [Hv.out] at hr HS
          have hq : q < 16 := by rw [← Hq.out]; omega
          have e1 : (k : Int) / 4 = ((k / 4 : Nat) : Int) := by omega
          have e1' : (k : Int).tdiv 4 = ((k / 4 : Nat) : Int) := by rw [Int.tdiv_eq_ediv_of_nonneg (by omega)]; exact e1
          have e2 : (k : Int) % 4 = ((k % 4 : Nat) : Int) := by omega
          have e2' : (k : Int).tmod 4 = ((k % 4 : Nat) : Int) := by rw [Int.tmod_eq_emod_of_nonneg (by omega)]; exact e2
          obtain ⟨d, Hd⟩ : ∃ d, Hid (k / 4 = d) := ⟨_, rfl⟩
          obtain ⟨r, Hr⟩ : ∃ r, Hid (k % 4 = r) := ⟨_, rfl⟩
          rw [Hd.out] at e1 e1'
          rw [Hr.out] at e2 e2'
          have hd : d ≤ 1 := by rw [← Hd.out]; omega
          have hr4 : r ≤ 3 := by rw [← Hr.out]; omega
          have e3 : (d : Int) * 8 + 1 + (r : Int) = (q : Int) := by rw [← Hq.out, ← Hd.out, ← Hr.out]; omega
          have e4 : min (v : Int) 1099511627776 = (v : Int) := by omega
          go_wp2_with fail
          exact ⟨⟨k + 1, by go_num, by omega, ⟨HW.out.d.be.setCell (p := ⟨n6, 1 + k, none⟩) hn6 _, HW.out.d.l.far (p := ⟨n6, 1 + k, none⟩) h06 _, HW.out.d.r.far (p := ⟨n6, 1 + k, none⟩) h16 _⟩, by rw [HS.out]; exact HW.out.s.setr k v⟩, by simp [intOf]; omega⟩
        · obtain rfl : k = 8 := by omega
          have HW2 : Hid (SE6 w wr n0 n1 n6 L ep R) := by
            have := HW.out
            rw [copyS_all _ R 8 Hrl.out (fun j _ => rfl)] at this
            exact this
          clear HW
          have Hsr := Lib.hid (fun w => sright_any ep R w HR8'.out hep hep2)
          have Hse := Lib.hid (fun w => senc_any ep R w HR8'.out hep hep2)
          have hne := neq_words 16 220 (slotEnc ep R) L (outS_len ep R 2) Hlen.out Tryz.underlying220
          have hszR : (Tryz.prog.info? 172).map (·.size) = some (scells ep R).size := by rw [scells_size ep R Hrl.out]; exact size172
          have hszL : (Tryz.prog.info? 220).map (·.size) = some (wcells L).toArray.size := by rw [size220]; simp [wcells_len, Hlen.out]
          go_wp2_with fail
          by_cases hE : slotEnc ep R = L
          · rw [if_pos hE] at HF
            simp only [hE, decide_true, Bool.not_true] at hne Hse
            refine wp_region_noPanic ?_
            refine wp_region_held_drew (S := fun W => SE6 w W n0 n1 n6 L ep R) (by kernel_rfl) HW2.out.drew (fun hHeld => ?_)
            refine wpAnyH_take (i := 0) (oi := _) (v := _) rfl (by kernel_rfl) (by kernel_rfl) (by kernel_rfl) (fun _ _ _ h => h) (yields_load_row (by rfl) _ rfl rfl (fun w' h => SE6.s h) Tryz.underlying172 rfl hszR) hHeld ?_
            try simp only [Act.put, List.setIfInBounds_toArray, List.set_cons_zero, List.set_cons_succ, List.getElem_toArray, List.getElem_cons_zero, List.getElem_cons_succ]
            refine wpAnyH_ready (rs := [1]) (by kernel_rfl) (by simp) ?_
            refine AllReadyH.cons (o := _) rfl (fun K1 hK1 => ?_) AllReadyH.nil
            go_simp
            refine (Hsr.out _).mono ?_
            rintro e w7 ⟨rfl, hb7⟩
            have HW7 := Lib.hid (hHeld.below hb7 (Nat.le_refl _))
            clear hHeld hb7
            go_wp2_with fail
            refine hK1.out _ _ HW7.out (fun hHeld => ?_)
            clear hK1 K1
            try simp only [Act.put, List.setIfInBounds_toArray, List.set_cons_zero, List.set_cons_succ, List.getElem_toArray, List.getElem_cons_zero, List.getElem_cons_succ]
            refine wpAnyH_take (i := 2) (oi := _) (v := _) rfl (by kernel_rfl) (by kernel_rfl) (by kernel_rfl) (fun _ _ _ h => h) (Or.inl ⟨by rfl, (by intro w hSw; go_simp; try with_reducible rfl)⟩) hHeld ?_
            try simp only [Act.put, List.setIfInBounds_toArray, List.set_cons_zero, List.set_cons_succ, List.getElem_toArray, List.getElem_cons_zero, List.getElem_cons_succ]
            refine wpAnyH_take (i := 3) (oi := _) (v := _) rfl (by kernel_rfl) (by kernel_rfl) (by kernel_rfl) (fun _ _ _ h => h) (yields_move _ (by rfl) _ (.inl rfl) rfl) hHeld ?_
            try simp only [Act.put, List.setIfInBounds_toArray, List.set_cons_zero, List.set_cons_succ, List.getElem_toArray, List.getElem_cons_zero, List.getElem_cons_succ]
            refine wpAnyH_take (i := 4) (oi := _) (v := _) rfl (by kernel_rfl) (by kernel_rfl) (by kernel_rfl) (fun _ _ _ h => h) (yields_load_row (by rfl) _ rfl rfl (fun w' h => SE6.s h) Tryz.underlying172 rfl hszR) hHeld ?_
            try simp only [Act.put, List.setIfInBounds_toArray, List.set_cons_zero, List.set_cons_succ, List.getElem_toArray, List.getElem_cons_zero, List.getElem_cons_succ]
            refine wpAnyH_take (i := 6) (oi := _) (v := _) rfl (by kernel_rfl) (by kernel_rfl) (by kernel_rfl) (fun _ _ _ h => h) (yields_load_row (by rfl) _ rfl rfl (fun w' h => SE6.d h |>.l) Tryz.underlying220 rfl hszL) hHeld ?_
            try simp only [Act.put, List.setIfInBounds_toArray, List.set_cons_zero, List.set_cons_succ, List.getElem_toArray, List.getElem_cons_zero, List.getElem_cons_succ]
            refine wpAnyH_ready (rs := [5]) (by kernel_rfl) (by simp) ?_
            refine AllReadyH.cons (o := _) rfl (fun K1 hK1 => ?_) AllReadyH.nil
            go_simp
            refine (Hse.out _).mono ?_
            rintro e w8 ⟨rfl, hb8⟩
            have HW8 := Lib.hid (hHeld.below hb8 (Nat.le_refl _))
            clear hHeld hb8
            go_wp2_with fail
            refine hK1.out _ _ HW8.out (fun hHeld => ?_)
            clear hK1 K1
            try simp only [Act.put, List.setIfInBounds_toArray, List.set_cons_zero, List.set_cons_succ, List.getElem_toArray, List.getElem_cons_zero, List.getElem_cons_succ]
            refine wpAnyH_take (i := 7) (oi := _) (v := _) rfl (by kernel_rfl) (by kernel_rfl) (by kernel_rfl) (fun _ _ _ h => h) (Or.inl ⟨by rfl, (by intro w hSw; go_simp; try with_reducible rfl)⟩) hHeld ?_
            try simp only [Act.put, List.setIfInBounds_toArray, List.set_cons_zero, List.set_cons_succ, List.getElem_toArray, List.getElem_cons_zero, List.getElem_cons_succ]
            refine wpAnyH_take (i := 8) (oi := _) (v := _) rfl (by kernel_rfl) (by kernel_rfl) (by kernel_rfl) (fun _ _ _ h => h) (Or.inl ⟨by rfl, (by intro w hSw; go_simp; try with_reducible rfl)⟩) hHeld ?_
            try simp only [Act.put, List.setIfInBounds_toArray, List.set_cons_zero, List.set_cons_succ, List.getElem_toArray, List.getElem_cons_zero, List.getElem_cons_succ]
            refine wpAnyH_done (by kernel_rfl) ?_ _
            refine NoPanic.normal ?_
            clear hHeld
            go_wp2_with (first
              | (refine wpList_load_row rfl 172 (.tmp 6) rfl n6 rfl 172 _ (0, 0) _ HW8.out.s Tryz.underlying172 rfl hszR ?_)
              | (refine wpList_store_row rfl (.tmp 2) (.tmp 58) rfl rfl rfl HW8.out.d.r hszR (by rw [scells_size ep R Hrl.out]; rfl) (scells_one ep R) ?_))
            intro w9 hB9 hM9
            have HB9 := Lib.hid hB9
            have HG9 := Lib.hid (Below.mod HW8.out.d.be hM9 HW8.out.d.be.size (fun k _ e => by have := Hn1.out; omega))
            clear hB9 hM9
            go_wp2_with fail
            refine bodyPost_ret (results_row_tmp rfl _ _ n1 172 _ _ _ rfl HB9.out Tryz.underlying172 rfl hszR) rfl ?_
            rw [HF.out]
            exact ⟨rfl, HG9.out⟩
          · rw [if_neg hE] at HF
            simp only [hE, decide_false, Bool.not_false] at hne
            refine wp_region_noPanic ?_
            refine wp_region_held_drew (S := fun W => SE6 w W n0 n1 n6 L ep R) (by kernel_rfl) HW2.out.drew (fun hHeld => ?_)
            refine wpAnyH_take (i := 0) (oi := _) (v := _) rfl (by kernel_rfl) (by kernel_rfl) (by kernel_rfl) (fun _ _ _ h => h) (yields_load_row (by rfl) _ rfl rfl (fun w' h => SE6.s h) Tryz.underlying172 rfl hszR) hHeld ?_
            try simp only [Act.put, List.setIfInBounds_toArray, List.set_cons_zero, List.set_cons_succ, List.getElem_toArray, List.getElem_cons_zero, List.getElem_cons_succ]
            refine wpAnyH_ready (rs := [1]) (by kernel_rfl) (by simp) ?_
            refine AllReadyH.cons (o := _) rfl (fun K1 hK1 => ?_) AllReadyH.nil
            go_simp
            refine (Hsr.out _).mono ?_
            rintro e w7 ⟨rfl, hb7⟩
            have HW7 := Lib.hid (hHeld.below hb7 (Nat.le_refl _))
            clear hHeld hb7
            go_wp2_with fail
            refine hK1.out _ _ HW7.out (fun hHeld => ?_)
            clear hK1 K1
            try simp only [Act.put, List.setIfInBounds_toArray, List.set_cons_zero, List.set_cons_succ, List.getElem_toArray, List.getElem_cons_zero, List.getElem_cons_succ]
            refine wpAnyH_take (i := 2) (oi := _) (v := _) rfl (by kernel_rfl) (by kernel_rfl) (by kernel_rfl) (fun _ _ _ h => h) (Or.inl ⟨by rfl, (by intro w hSw; go_simp; try with_reducible rfl)⟩) hHeld ?_
            try simp only [Act.put, List.setIfInBounds_toArray, List.set_cons_zero, List.set_cons_succ, List.getElem_toArray, List.getElem_cons_zero, List.getElem_cons_succ]
            refine wpAnyH_take (i := 3) (oi := _) (v := _) rfl (by kernel_rfl) (by kernel_rfl) (by kernel_rfl) (fun _ _ _ h => h) (yields_move _ (by rfl) _ (.inl rfl) rfl) hHeld ?_
            try simp only [Act.put, List.setIfInBounds_toArray, List.set_cons_zero, List.set_cons_succ, List.getElem_toArray, List.getElem_cons_zero, List.getElem_cons_succ]
            refine wpAnyH_take (i := 4) (oi := _) (v := _) rfl (by kernel_rfl) (by kernel_rfl) (by kernel_rfl) (fun _ _ _ h => h) (yields_load_row (by rfl) _ rfl rfl (fun w' h => SE6.s h) Tryz.underlying172 rfl hszR) hHeld ?_
            try simp only [Act.put, List.setIfInBounds_toArray, List.set_cons_zero, List.set_cons_succ, List.getElem_toArray, List.getElem_cons_zero, List.getElem_cons_succ]
            refine wpAnyH_take (i := 6) (oi := _) (v := _) rfl (by kernel_rfl) (by kernel_rfl) (by kernel_rfl) (fun _ _ _ h => h) (yields_load_row (by rfl) _ rfl rfl (fun w' h => SE6.d h |>.l) Tryz.underlying220 rfl hszL) hHeld ?_
            try simp only [Act.put, List.setIfInBounds_toArray, List.set_cons_zero, List.set_cons_succ, List.getElem_toArray, List.getElem_cons_zero, List.getElem_cons_succ]
            refine wpAnyH_ready (rs := [5]) (by kernel_rfl) (by simp) ?_
            refine AllReadyH.cons (o := _) rfl (fun K1 hK1 => ?_) AllReadyH.nil
            go_simp
            refine (Hse.out _).mono ?_
            rintro e w8 ⟨rfl, hb8⟩
            have HW8 := Lib.hid (hHeld.below hb8 (Nat.le_refl _))
            clear hHeld hb8
            go_wp2_with fail
            refine hK1.out _ _ HW8.out (fun hHeld => ?_)
            clear hK1 K1
            try simp only [Act.put, List.setIfInBounds_toArray, List.set_cons_zero, List.set_cons_succ, List.getElem_toArray, List.getElem_cons_zero, List.getElem_cons_succ]
            refine wpAnyH_take (i := 7) (oi := _) (v := _) rfl (by kernel_rfl) (by kernel_rfl) (by kernel_rfl) (fun _ _ _ h => h) (Or.inl ⟨by rfl, (by intro w hSw; go_simp; try with_reducible rfl)⟩) hHeld ?_
            try simp only [Act.put, List.setIfInBounds_toArray, List.set_cons_zero, List.set_cons_succ, List.getElem_toArray, List.getElem_cons_zero, List.getElem_cons_succ]
            refine wpAnyH_take (i := 8) (oi := _) (v := _) rfl (by kernel_rfl) (by kernel_rfl) (by kernel_rfl) (fun _ _ _ h => h) (Or.inl ⟨by rfl, (by intro w hSw; go_simp; try with_reducible rfl)⟩) hHeld ?_
            try simp only [Act.put, List.setIfInBounds_toArray, List.set_cons_zero, List.set_cons_succ, List.getElem_toArray, List.getElem_cons_zero, List.getElem_cons_succ]
            refine wpAnyH_done (by kernel_rfl) ?_ _
            refine NoPanic.normal ?_
            clear hHeld
            go_wp2_with (refine wpList_store_row rfl (.tmp 2) (.tmp 57) rfl rfl (cs := scells 0 (zerosN 8)) rfl HW8.out.d.r hsz0 rfl (scells_one 0 (zerosN 8)) ?_)
            intro w9 hB9 hM9
            have HB9 := Lib.hid hB9
            have HG9 := Lib.hid (Below.mod HW8.out.d.be hM9 HW8.out.d.be.size (fun k _ e => by have := Hn1.out; omega))
            clear hB9 hM9
            go_wp2_with fail
            refine bodyPost_ret (results_row_tmp rfl _ _ n1 172 _ _ _ rfl HB9.out Tryz.underlying172 rfl hsz0) rfl ?_
            rw [HF.out]
            exact ⟨rfl, HG9.out⟩
end Go.Proofs.YtcnjipicifkfjaaGreat
