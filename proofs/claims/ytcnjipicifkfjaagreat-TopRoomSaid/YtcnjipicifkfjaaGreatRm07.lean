/- Rows made anew; slices.Clone. -/
import Derived.Test.YtcnjipicifkfjaaGreatRm06
import Derived.Lib.LazyBuf
import Derived.Test.YtcnjipicifkfjaaGreatRm01

namespace Go.Proofs.YtcnjipicifkfjaaGreat
open Go.RowKit
set_option linter.unusedVariables false
set_option linter.unusedSimpArgs false

theorem info28 : (Tryz.prog.info? 28).map (fun i => (i.size, i.bytes, i.zero)) = some (1, 8, some (.int .u64 0)) := by kernel_rfl
theorem info28s : ∃ i, Tryz.prog.info? 28 = some i ∧ i.zero = some (.int .u64 0) ∧ i.size = 1 ∧ i.bytes = 8 := by
  obtain ⟨i, hi, hi2⟩ := Option.map_eq_some_iff.1 info28
  simp only [Prod.mk.injEq] at hi2
  exact ⟨i, hi, hi2.2.2, hi2.1, hi2.2.1⟩
theorem info4 : (Tryz.prog.info? 4).map (fun i => (i.size, i.bytes, i.zero)) = some (1, 1, some (.bool false)) := by kernel_rfl
theorem info4s : ∃ i, Tryz.prog.info? 4 = some i ∧ i.zero = some (.bool false) ∧ i.size = 1 ∧ i.bytes = 1 := by
  obtain ⟨i, hi, hi2⟩ := Option.map_eq_some_iff.1 info4
  simp only [Prod.mk.injEq] at hi2
  exact ⟨i, hi, hi2.2.2, hi2.1, hi2.2.1⟩
theorem mk22 (n : Nat) (hn : n ≤ 1000000) : ∀ w : World, (Instr.makeSlice 22 (.int .i64 (n : Int)) (.int .i64 (n : Int))).run Tryz.prog w = .ok (.slice (some ⟨w.heap.size, 0, none⟩) n n) (w.alloc (.cells (madeCells #[.int .u64 0] n) 28)) := by
  intro w
  obtain ⟨i, hi, h3, h1, h2⟩ := info28s
  have hr := run_make (P := Tryz.prog) w 22 28 i (.int .u64 0) Tryz.underlying22 hi h3 .i64 .i64 n n (by omega) (by omega) (by rw [h2]; omega) (by omega)
  simp only [Int.toNat_natCast, h1, Nat.mul_one] at hr
  rw [hr]
  simp [Value.cells]
theorem mk88 (n : Nat) (hn : n ≤ 1000000) : ∀ w : World, (Instr.makeSlice 88 (.int .i64 (n : Int)) (.int .i64 (n : Int))).run Tryz.prog w = .ok (.slice (some ⟨w.heap.size, 0, none⟩) n n) (w.alloc (.cells (madeCells #[.bool false] n) 4)) := by
  intro w
  obtain ⟨i, hi, h3, h1, h2⟩ := info4s
  have hr := run_make (P := Tryz.prog) w 88 4 i (.bool false) Tryz.underlying88 hi h3 .i64 .i64 n n (by omega) (by omega) (by rw [h2]; omega) (by omega)
  simp only [Int.toNat_natCast, h1, Nat.mul_one] at hr
  rw [hr]
  simp [Value.cells]
def zerosN (n : Nat) : List Nat := List.replicate n 0
def falsesN (n : Nat) : List Bool := List.replicate n false
theorem own_made (w : World) (B : Nat) (e : TypeId) (z : Value) (n g : Nat) (hg : w.heap.size = g) (hB : B ≤ g) (hn : n ≤ 1000000) : Own (w.alloc (.cells (madeCells #[z] n) e)) B e 1 (some ⟨g, 0, none⟩) n n (List.replicate n z) := by
  have hb : Blk (w.alloc (.cells (madeCells #[z] n) e)) g e (madeCells #[z] n) := by rw [← hg]; exact Blk.new w e _
  have hs : (madeCells #[z] n).size = n * 1 := by rw [← Array.length_toList, toList_madeCells_one, List.length_replicate, Nat.mul_one]
  have ht : (madeCells #[z] n).toList.take (n * 1) = List.replicate n z := by rw [toList_madeCells_one, Nat.mul_one, List.take_of_length_le (by rw [List.length_replicate]; exact Nat.le_refl _)]
  have hm : n ≤ maxLen := by unfold maxLen; omega
  have hl : (List.replicate n z).length = n * 1 := by rw [List.length_replicate, Nat.mul_one]
  exact ⟨hl, .inr ⟨g, _, rfl, hB, hb, Nat.le_refl n, hm, hs, ht⟩⟩
theorem own_madeW (w : World) (B n g : Nat) (hg : w.heap.size = g) (hB : B ≤ g) (hm : n ≤ 800000) : Own (w.alloc (.cells (madeCells #[.int .u64 0] n) 28)) B 28 1 (some ⟨g, 0, none⟩) n n (wcells (zerosN n)) := by
  have := own_made w B 28 (.int .u64 0) n g hg hB (by omega)
  have e : wcells (zerosN n) = List.replicate n (.int .u64 0) := by simp [wcells, zerosN]
  rw [e]
  exact this
theorem own_madeB (w : World) (B m g : Nat) (hg : w.heap.size = g) (hB : B ≤ g) (hm : m ≤ 100000) : Own (w.alloc (.cells (madeCells #[.bool false] m) 4)) B 4 1 (some ⟨g, 0, none⟩) m m (blcells (falsesN m)) := by
  have := own_made w B 4 (.bool false) m g hg hB (by omega)
  have e : blcells (falsesN m) = List.replicate m (.bool false) := by simp [blcells, falsesN]
  rw [e]
  exact this

theorem clone_any (g n cap : Nat) (l : List Nat) (w : World) (hn0 : 0 < n) (hn : n ≤ 1000000) (hr : Rd w 1 (some ⟨g, 0, none⟩) n (wcells l)) :
    Calls Tryz.prog 90 #[.slice (some ⟨g, 0, none⟩) n cap] w fun e w' => ∃ g' cap', e = .returned (.slice (some ⟨g', 0, none⟩) n cap') ∧ Own w' w.heap.size 28 1 (some ⟨g', 0, none⟩) n cap' (wcells l) ∧ Below w.heap.size w w' := by
  obtain ⟨i, hi, h3, h1, h2⟩ := info28s
  have Hr := Lib.hid hr
  have heq : ∀ w, (binOp .eql 22 (.slice (some ⟨g, 0, none⟩) n cap) (.slice none 0 0)).run Tryz.prog w = .ok (.bool false) w := fun w => run_eql_slice_nil w 22 28 (some ⟨g, 0, none⟩) n cap Tryz.underlying22
  clear hr
  go_enter Tryz.func90, Tryz.ntmps90
  go_wp2_with (at_builtin; (refine append_rd rfl (.tmp 5) (.tmp 6) 22 rfl w.heap.size 28 i _ 1 8 Tryz.underlying22 hi h3 h1 h2 rfl (by omega) (some ⟨w.heap.size, 0, none⟩) 0 0 [] rfl (Own.empty w w.heap.size 28 1 w.heap.size rfl (Nat.le_refl _)) (some ⟨g, 0, none⟩) n cap (wcells l) rfl (Hr.out.alloc _) wcells_one n (by omega) (wcells l) rfl (by unfold maxLen; omega) (by omega) (by simp) ?_))
  intro A5 cap5 w5 hO5 hM5 hat5
  obtain ⟨g5, rfl, _⟩ := hO5.at_ hn0
  have HO5 := Lib.hid hO5
  have Hb5 := Lib.hid (Below.mod ((Below.refl _ w).alloc (Nat.le_refl _) (.cells #[] 28)) hM5 (by simp) (fun k _ h => by first | omega | (obtain ⟨a, ha, e⟩ := h; cases ha; simp only at e; omega)))
  clear hO5 hM5 hat5
  go_wp2_with fail
  go_ret
  exact ⟨g5, cap5, rfl, HO5.out, Hb5.out⟩
end Go.Proofs.YtcnjipicifkfjaaGreat

/- slot: Right, Encode. -/
namespace Go.Proofs.YtcnjipicifkfjaaGreat
open Go.RowKit
set_option linter.unusedVariables false
set_option linter.unusedSimpArgs false

/-- A slot's cells: its epoch, and where the roots lead. -/
def scells (ep : Nat) (rs : List Nat) : Array Value := (Value.int .u64 (ep : Nat) :: ncells rs).toArray
theorem ncells_len (l : List Nat) : (ncells l).length = l.length := by simp [ncells]
theorem ncells_at (l : List Nat) (j : Nat) (h : j < l.length) : (ncells l)[j]? = some (.int .i64 (l.getD j 0 : Nat)) := by simp [ncells, h, List.getD_eq_getElem?_getD]
theorem size80 : (Tryz.prog.info? 80).map (·.size) = some 8 := by kernel_rfl
theorem size172 : (Tryz.prog.info? 172).map (·.size) = some 9 := by kernel_rfl
theorem size220 : (Tryz.prog.info? 220).map (·.size) = some 16 := by kernel_rfl
/-- Roots that may be. -/
structure RootsOk (rs : List Nat) : Prop where
  len : rs.length = 8
  lt : ∀ i, i < 8 → rs.getD i 0 < 131072

theorem scells_roots (ep : Nat) (rs : List Nat) (h : rs.length = 8) : (scells ep rs).extract 1 (1 + 8) = (ncells rs).toArray := by
  apply Array.ext'
  rw [Array.toList_extract]
  unfold scells
  simp only [List.extract_eq_take_drop, List.drop_succ_cons, List.drop_zero]
  exact List.take_of_length_le (by rw [ncells_len, h]; exact Nat.le_refl _)
theorem scells_size (ep : Nat) (rs : List Nat) (h : rs.length = 8) : (scells ep rs).size = 9 := by simp [scells, ncells_len, h]

set_option maxHeartbeats 1000000 in
theorem sright_any (ep : Nat) (rs : List Nat) (w : World) (h : RootsOk rs) (he : 0 < ep) (he2 : ep < 18446744073709551616) :
    Calls Tryz.prog 215 #[.agg (scells ep rs)] w fun e w' => e = .returned (.bool true) ∧ Below w.heap.size w w' := by
  have Hlt := Lib.hid h.lt
  have Hlen := Lib.hid h.len
  have hx : ∀ i : Nat, i < 8 → ∀ w, (Instr.index 80 (.agg (ncells rs).toArray) (.int .i64 (i : Int))).run Tryz.prog w = .ok (.int .i64 (rs.getD i 0 : Nat)) w := fun i hi =>
    run_index_one 8 i _ Tryz.underlying80 Tryz.underlying3 rfl (by kernel_rfl) hi (by rw [List.getElem?_toArray]; exact ncells_at rs i (by rw [Hlen.out]; exact hi))
  have Hx := Lib.hid hx
  clear h hx
  have HX := Lib.hid (Blk.new w 172 (scells ep rs))
  have HB := Lib.hid (below_box w (.cells (scells ep rs) 172))
  have hc0 := HX.out.cell 0
  have e0 : (scells ep rs)[0]? = some (.int .u64 ep) := rfl
  rw [e0] at hc0
  have Hex := Lib.hid (scells_roots ep rs Hlen.out)
  have Hsz := Lib.hid (scells_size ep rs Hlen.out)
  obtain ⟨R, HR⟩ : ∃ R, Hid ((ncells rs).toArray = R) := ⟨_, rfl⟩
  rw [HR.out] at Hx Hex
  obtain ⟨S, HS⟩ : ∃ S, Hid (scells ep rs = S) := ⟨_, rfl⟩
  rw [HS.out] at HX HB Hex Hsz hc0 ⊢
  clear e0
  have hep : decide ((0 : Int) < (ep : Int)) = true := by rw [decide_eq_true_eq]; omega
  go_enter Tryz.func215, Tryz.ntmps215
  go_wp2_with (refine wpList_load_sub rfl (.tmp 5) rfl 1 8 rfl HX.out Tryz.underlying80 rfl size80 (by rw [Hsz.out]; exact Nat.le_refl _) ?_)
  rw [Hex.out]
  obtain ⟨N, HN⟩ : ∃ N, Hid (w.heap.size = N) := ⟨_, rfl⟩
  rw [HN.out] at hc0 ⊢
  clear HX
  generalize w.alloc _ = w1 at *
  go_wp2_with fail
  go_loopw [7] (fun v7 wr => ∃ i : Nat, v7 = .int .i64 i ∧ i ≤ 8 ∧ w1 = wr) (fun v7 _ => 8 - (intOf v7).toNat)
  case atStart => exact ⟨0, rfl, Nat.zero_le _, rfl⟩
  case round =>
    obtain ⟨i, rfl, hi, rfl⟩ := hrel
    by_cases h8 : i < 8
    · have hx := Hx.out i h8
      have hl := Hlt.out i h8
      generalize rs.getD i 0 = r at *
      go_wp2_with fail
      exact ⟨⟨i + 1, by go_num, by omega, by trivial⟩, by simp [intOf]; omega⟩
    · obtain rfl : i = 8 := by omega
      go_wp2_with fail
      go_ret
      exact ⟨rfl, HB.out⟩

def innerS (rs : List Nat) (l : Nat) (L : List Nat) : Nat → List Nat
  | 0 => L
  | i + 1 => (innerS rs l L i).set (8 * l + 1 + i) (rs.getD (4 * l + i) 0)
/-- A line of a slot. -/
def stepLine (ep : Nat) (rs L : List Nat) (l : Nat) : List Nat :=
  let L3 := (innerS rs l (L.set (8 * l) ep) 4).set (8 * l + 5) l
  L3.set (8 * l + 7) (crcW ((L3.drop (8 * l)).take 7))
def slotEnc (ep : Nat) (rs : List Nat) : List Nat := stepLine ep rs (stepLine ep rs (zerosN 16) 0) 1
def outS (ep : Nat) (rs : List Nat) : Nat → List Nat
  | 0 => zerosN 16
  | l + 1 => stepLine ep rs (outS ep rs l) l
theorem innerS_len (rs : List Nat) (l : Nat) (L : List Nat) (i : Nat) : (innerS rs l L i).length = L.length := by
  induction i with
  | zero => rfl
  | succ i ih => simp only [innerS, List.length_set]; exact ih
theorem outS_len (ep : Nat) (rs : List Nat) (l : Nat) : (outS ep rs l).length = 16 := by
  induction l with
  | zero => rfl
  | succ l ih => simp only [outS, stepLine, List.length_set, innerS_len]; exact ih
/-- A block of words. -/
theorem Blk.setw {w : World} {g : Nat} {t : TypeId} {L : List Nat} (h : Blk w g t (wcells L).toArray) (i v : Nat) : Blk (w.setCell ⟨g, i, none⟩ (.int .u64 (v : Nat))) g t (wcells (L.set i v)).toArray :=
  Blk.conv (h.set_ i _) (by rw [← wcells_set]; simp)
theorem Blk.word {w : World} {g : Nat} {t : TypeId} {L : List Nat} (h : Blk w g t (wcells L).toArray) (i : Nat) (hi : i < L.length) : w.cell? ⟨g, i, none⟩ = some (.int .u64 (L.getD i 0 : Nat)) := by
  rw [h.cell i, List.getElem?_toArray]
  exact wcells_at L i hi

/-- Words of 64 bits. -/
def lt64 (L : List Nat) : Prop := ∀ j, L.getD j 0 < 18446744073709551616
theorem lt64.set {L : List Nat} (h : lt64 L) (i : Nat) {v : Nat} (hv : v < 18446744073709551616) : lt64 (L.set i v) := by
  intro j
  rw [List.getD_eq_getElem?_getD, List.getElem?_set]
  split
  · split
    · exact hv
    · simp
  · have := h j
    rwa [List.getD_eq_getElem?_getD] at this
theorem lt64.part {L : List Nat} (h : lt64 L) (o n : Nat) : lt64 ((L.drop o).take n) := by
  intro j
  rw [List.getD_eq_getElem?_getD, List.getElem?_take]
  split
  · rw [List.getElem?_drop]
    have := h (o + j)
    rwa [List.getD_eq_getElem?_getD] at this
  · simp
theorem lt64.zeros (n : Nat) : lt64 (zerosN n) := by
  intro j
  unfold zerosN
  rw [List.getD_eq_getElem?_getD, List.getElem?_replicate]
  split <;> simp
theorem innerS_lt {rs L : List Nat} (h : lt64 L) (hr : ∀ i, i < 8 → rs.getD i 0 < 131072) (l i : Nat) (hl : l < 2) (hi : i ≤ 4) : lt64 (innerS rs l L i) := by
  induction i with
  | zero => exact h
  | succ i ih => exact (ih (by omega)).set _ (by have := hr (4 * l + i) (by omega); omega)
theorem stepLine_lt {ep : Nat} {rs L : List Nat} (h : lt64 L) (he : ep < 18446744073709551616) (hr : ∀ i, i < 8 → rs.getD i 0 < 131072) (l : Nat) (hl : l < 2) : lt64 (stepLine ep rs L l) := by
  unfold stepLine
  exact ((innerS_lt (h.set _ he) hr l 4 hl (Nat.le_refl _)).set _ (by omega)).set _ (by have := crcW_lt (((innerS rs l (L.set (8 * l) ep) 4).set (8 * l + 5) l).drop (8 * l) |>.take 7); omega)
theorem outS_lt (ep : Nat) (rs : List Nat) (he : ep < 18446744073709551616) (hr : ∀ i, i < 8 → rs.getD i 0 < 131072) (l : Nat) (hl : l ≤ 2) : lt64 (outS ep rs l) := by
  induction l with
  | zero => exact lt64.zeros 16
  | succ l ih => exact stepLine_lt (ih (by omega)) he hr l (by omega)
theorem Blk.part {w : World} {g : Nat} {t : TypeId} {L : List Nat} (h : Blk w g t (wcells L).toArray) (o n : Nat) (hn : o + n ≤ L.length) : Rd w 1 (some ⟨g, o, none⟩) n (wcells ((L.drop o).take n)) := by
  refine ⟨by rw [wcells_len, List.length_take, List.length_drop]; omega, fun _ => ⟨g, o, rfl, h.lt, fun j u hu => ?_⟩⟩
  unfold wcells at hu
  rw [List.map_take, List.map_drop, List.getElem?_take, List.getElem?_drop] at hu
  rw [h.cell (o + j), List.getElem?_toArray]
  split at hu
  · exact hu
  · cases hu
/-- Where Encode stands. -/
structure SE (w0 w : World) (n1 n2 n3 : Nat) (ep : Nat) (rs L : List Nat) : Prop where
  be : Below w0.heap.size w0 w
  s : Blk w n1 172 (scells ep rs)
  r : Blk w n2 220 (wcells (zerosN 16)).toArray
  o : Blk w n3 220 (wcells L).toArray
theorem SE.below {w0 w w' : World} {n1 n2 n3 ep B0 : Nat} {rs L : List Nat} (h : SE w0 w n1 n2 n3 ep rs L) (hb : Below B0 w w') (hB : w.heap.size ≤ B0) : SE w0 w' n1 n2 n3 ep rs L :=
  ⟨h.be.trans (hb.mono (Nat.le_trans h.be.size hB)), h.s.below hb (Nat.lt_of_lt_of_le h.s.lt hB), h.r.below hb (Nat.lt_of_lt_of_le h.r.lt hB), h.o.below hb (Nat.lt_of_lt_of_le h.o.lt hB)⟩
theorem SE.set {w0 w : World} {n1 n2 n3 ep : Nat} {rs L : List Nat} (h : SE w0 w n1 n2 n3 ep rs L) (h1 : n1 ≠ n3) (h2 : n2 ≠ n3) (hB : w0.heap.size ≤ n3) (i v : Nat) : SE w0 (w.setCell ⟨n3, i, none⟩ (.int .u64 (v : Nat))) n1 n2 n3 ep rs (L.set i v) :=
  ⟨h.be.setCell (p := ⟨n3, i, none⟩) hB _, h.s.far (p := ⟨n3, i, none⟩) h1 _, h.r.far (p := ⟨n3, i, none⟩) h2 _, h.o.setw i v⟩

set_option maxRecDepth 100000 in
set_option maxHeartbeats 2000000 in
theorem senc_any (ep : Nat) (rs : List Nat) (w : World) (h : RootsOk rs) (he : 0 < ep) (he2 : ep < 18446744073709551616) :
    Calls Tryz.prog 170 #[.agg (scells ep rs)] w fun e w' => e = .returned (.agg (wcells (slotEnc ep rs)).toArray) ∧ Below w.heap.size w w' := by
  have Hlt := Lib.hid h.lt
  have Hlen := Lib.hid h.len
  have Hr := Lib.hid (fun w => sright_any ep rs w h he he2)
  have H2 : Hid (slotEnc ep rs = outS ep rs 2) := rfl
  rw [H2.out]
  have hszS : Hid ((Tryz.prog.info? 172).map (·.size) = some (scells ep rs).size) := by show _ = _; rw [scells_size ep rs h.len]; exact size172
  have HB0 : Hid (SE w (((w.alloc (.cells (scells ep rs) 172)).alloc (.cells (wcells (zerosN 16)).toArray 220)).alloc (.cells (wcells (zerosN 16)).toArray 220)) w.heap.size (w.heap.size + 1) (w.heap.size + 1 + 1) ep rs (zerosN 16)) := by
    refine ⟨((below_box w _).alloc (by simp) _).alloc (by simp; omega) _, ((Blk.new w 172 _).alloc _).alloc _, ?_, ?_⟩
    · have := (Blk.new (w.alloc (.cells (scells ep rs) 172)) 220 (wcells (zerosN 16)).toArray).alloc (.cells (wcells (zerosN 16)).toArray 220)
      simpa using this
    · have := Blk.new ((w.alloc (.cells (scells ep rs) 172)).alloc (.cells (wcells (zerosN 16)).toArray 220)) 220 (wcells (zerosN 16)).toArray
      simpa using this
  clear h
  go_enter Tryz.func170, Tryz.ntmps170
  go_wp2_with (refine wpList_load_row rfl 172 (.tmp 1) rfl w.heap.size rfl 172 _ (0, 0) _ HB0.out.s Tryz.underlying172 rfl hszS.out ?_)
  refine (Hr.out _).mono ?_
  rintro e w1 ⟨rfl, hb1⟩
  have HE1 : Hid (SE w w1 w.heap.size (w.heap.size + 1) (w.heap.size + 1 + 1) ep rs (zerosN 16)) := HB0.out.below hb1 (Nat.le_refl _)
  clear hb1 HB0 hszS Hr
  obtain ⟨n1, Hn1⟩ : ∃ n, Hid (w.heap.size = n) := ⟨_, rfl⟩
  obtain ⟨n2, Hn2⟩ : ∃ n, Hid (w.heap.size + 1 = n) := ⟨_, rfl⟩
  obtain ⟨n3, Hn3⟩ : ∃ n, Hid (w.heap.size + 1 + 1 = n) := ⟨_, rfl⟩
  have h13 : ¬ n1 = n3 := by rw [← Hn1.out, ← Hn3.out]; omega
  have h31 : ¬ n3 = n1 := fun e => h13 e.symm
  have h23 : ¬ n2 = n3 := by rw [← Hn2.out, ← Hn3.out]; omega
  have h3B : w.heap.size ≤ n3 := by rw [← Hn3.out]; omega
  have h2B : w.heap.size ≤ n2 := by rw [← Hn2.out]; omega
  rw [Hn3.out, Hn2.out] at HE1 ⊢
  go_wp2_with fail
  rw [Hn1.out] at HE1 ⊢
  go_loopw [11] (fun v11 wr => ∃ l : Nat, v11 = .int .i64 l ∧ l ≤ 2 ∧ SE w wr n1 n2 n3 ep rs (outS ep rs l)) (fun v11 _ => 2 - (intOf v11).toNat)
  case atStart => exact ⟨0, rfl, Nat.zero_le _, HE1.out⟩
  case round =>
    clear HE1
    obtain ⟨l, rfl, hl, hE⟩ := hrel
    have HE := Lib.hid hE
    clear hE
    have Hol := Lib.hid (outS_len ep rs l)
    have HS : Hid (outS ep rs (l + 1) = stepLine ep rs (outS ep rs l) l) := rfl
    by_cases hl2 : l < 2
    · obtain ⟨O, HO⟩ : ∃ O, Hid (outS ep rs l = O) := ⟨_, rfl⟩
      rw [HO.out] at HE Hol HS
      have x0 : wr.cell? ⟨n1, 0, none⟩ = some (.int .u64 ep) := HE.out.s.cell 0
      have y0 := HE.out.o.word (8 * l) (by rw [Hol.out]; omega)
      have y1 := HE.out.o.frozen (8 * l)
      rcases (by omega : l = 0 ∨ l = 1) with rfl | rfl
      · simp only [Nat.mul_zero] at y0 y1
        have HI : Hid (outS ep rs 1 = ((innerS rs 0 (O.set 0 ep) 4).set 5 0).set 7 (crcW ((((innerS rs 0 (O.set 0 ep) 4).set 5 0).drop 0).take 7))) := HS.out
        go_wp2_with fail
        have HE0 : Hid (SE w (wr.setCell ⟨n3, 0, none⟩ (.int .u64 ep)) n1 n2 n3 ep rs (innerS rs 0 (O.set 0 ep) 0)) := HE.out.set h13 h23 h3B 0 ep
        generalize wr.setCell _ _ = wx at *
        clear x0 y0 y1 HE
        go_loopw [24] (fun v24 wy => ∃ i : Nat, v24 = .int .i64 i ∧ i ≤ 4 ∧ SE w wy n1 n2 n3 ep rs (innerS rs 0 (O.set 0 ep) i)) (fun v24 _ => 4 - (intOf v24).toNat)
        case atStart => exact ⟨0, rfl, Nat.zero_le _, HE0.out⟩
        case round =>
          clear HE0
          obtain ⟨i, rfl, hi, hE⟩ := hrel
          have HE := Lib.hid hE
          clear hE
          have hil := innerS_len rs 0 (O.set 0 ep) i
          rw [List.length_set, Hol.out] at hil
          by_cases hi4 : i < 4
          · have r0 : wr.cell? ⟨n1, 1 + i, none⟩ = some (.int .i64 (rs.getD i 0 : Nat)) := by
              rw [HE.out.s.cell (1 + i)]
              show (scells ep rs)[1 + i]? = _
              unfold scells
              rw [List.getElem?_toArray, Nat.add_comm 1 i, List.getElem?_cons_succ]
              exact ncells_at rs i (by rw [Hlen.out]; omega)
            have hr := Hlt.out i (by omega)
            have y0 := HE.out.o.word (1 + i) (by omega)
            have y1 := HE.out.o.frozen (1 + i)
            have HI2 : Hid (innerS rs 0 (O.set 0 ep) (i + 1) = (innerS rs 0 (O.set 0 ep) i).set (1 + i) (rs.getD i 0)) := by show _ = _; simp only [innerS, Nat.mul_zero, Nat.zero_add]
            obtain ⟨r, Hr⟩ : ∃ r, Hid (rs.getD i 0 = r) := ⟨_, rfl⟩
            rw [Hr.out] at r0 hr HI2
            go_wp2_with fail
            exact ⟨⟨i + 1, by go_num, by omega, by rw [HI2.out]; exact HE.out.set h13 h23 h3B (1 + i) r⟩, by simp [intOf]; omega⟩
          · obtain rfl : i = 4 := by omega
            have Hlt3 : Hid (lt64 ((innerS rs 0 (O.set 0 ep) 4).set 5 0)) := (innerS_lt ((HO.out ▸ outS_lt ep rs he2 Hlt.out 0 (by omega) : lt64 O).set 0 he2) Hlt.out 0 4 (by omega) (Nat.le_refl _)).set 5 (by omega)
            have y5 := HE.out.o.word 5 (by omega)
            have f5 := HE.out.o.frozen 5
            have HE5 : Hid (SE w (wr.setCell ⟨n3, 5, none⟩ (.int .u64 (0 : Nat))) n1 n2 n3 ep rs ((innerS rs 0 (O.set 0 ep) 4).set 5 0)) := HE.out.set h13 h23 h3B 5 0
            obtain ⟨L3, HL3⟩ : ∃ L3, Hid ((innerS rs 0 (O.set 0 ep) 4).set 5 0 = L3) := ⟨_, rfl⟩
            have hl3 : L3.length = 16 := by rw [← HL3.out, List.length_set]; exact hil
            rw [HL3.out] at HE5 HI Hlt3
            have hc5 : ((0 : Nat) : Int) = 0 := rfl
            go_wp2_with fail
            obtain ⟨w5, Hw5⟩ : ∃ w5, Hid (wr.setCell ⟨n3, 5, none⟩ (.int .u64 0) = w5) := ⟨_, rfl⟩
            have HE6 : Hid (SE w w5 n1 n2 n3 ep rs L3) := by rw [← Hw5.out]; exact HE5.out
            rw [Hw5.out]
            clear HE HE5 y5 f5
            refine (cwords_any _ 7 16 ((L3.drop 0).take 7) w5 (by omega) (fun j _ => Hlt3.out.part 0 7 j) (HE6.out.o.part 0 7 (by omega))).mono ?_
            rintro e w6 ⟨rfl, hb6⟩
            have HE7 := Lib.hid (HE6.out.below hb6 (Nat.le_refl _))
            have hcl := crcW_lt ((L3.drop 0).take 7)
            obtain ⟨c, Hc⟩ : ∃ c, Hid (crcW ((L3.drop 0).take 7) = c) := ⟨_, rfl⟩
            rw [Hc.out] at hcl HI ⊢
            have y7 := HE7.out.o.word 7 (by omega)
            have f7 := HE7.out.o.frozen 7
            clear hb6 HE6
            go_wp2_with fail
            exact ⟨⟨1, rfl, by omega, by rw [HI.out]; exact HE7.out.set h13 h23 h3B 7 c⟩, by simp [intOf]⟩
      · simp only [Nat.mul_one] at y0 y1
        have hadd : (⟨n3, 0, none⟩ : Addr).add 8 = ⟨n3, 8, none⟩ := rfl
        have HI : Hid (outS ep rs 2 = ((innerS rs 1 (O.set 8 ep) 4).set 13 1).set 15 (crcW ((((innerS rs 1 (O.set 8 ep) 4).set 13 1).drop 8).take 7))) := HS.out
        go_wp2_with fail
        have HE0 : Hid (SE w (wr.setCell ⟨n3, 8, none⟩ (.int .u64 ep)) n1 n2 n3 ep rs (innerS rs 1 (O.set 8 ep) 0)) := HE.out.set h13 h23 h3B 8 ep
        generalize wr.setCell _ _ = wx at *
        clear x0 y0 y1 HE
        go_loopw [24] (fun v24 wy => ∃ i : Nat, v24 = .int .i64 i ∧ i ≤ 4 ∧ SE w wy n1 n2 n3 ep rs (innerS rs 1 (O.set 8 ep) i)) (fun v24 _ => 4 - (intOf v24).toNat)
        case atStart => exact ⟨0, rfl, Nat.zero_le _, HE0.out⟩
        case round =>
          clear HE0
          obtain ⟨i, rfl, hi, hE⟩ := hrel
          have HE := Lib.hid hE
          clear hE
          have hil := innerS_len rs 1 (O.set 8 ep) i
          rw [List.length_set, Hol.out] at hil
          by_cases hi4 : i < 4
          · have r0 : wr.cell? ⟨n1, 1 + (4 + i), none⟩ = some (.int .i64 (rs.getD (4 + i) 0 : Nat)) := by
              rw [HE.out.s.cell (1 + (4 + i))]
              show (scells ep rs)[1 + (4 + i)]? = _
              unfold scells
              rw [List.getElem?_toArray, Nat.add_comm 1 (4 + i), List.getElem?_cons_succ]
              exact ncells_at rs (4 + i) (by rw [Hlen.out]; omega)
            have hr := Hlt.out (4 + i) (by omega)
            have y0 := HE.out.o.word (8 + (1 + i)) (by omega)
            have y1 := HE.out.o.frozen (8 + (1 + i))
            have HI2 : Hid (innerS rs 1 (O.set 8 ep) (i + 1) = (innerS rs 1 (O.set 8 ep) i).set (8 + (1 + i)) (rs.getD (4 + i) 0)) := by show _ = _; simp only [innerS, Nat.mul_one]; rw [Nat.add_assoc 8 1 i]
            obtain ⟨r, Hr⟩ : ∃ r, Hid (rs.getD (4 + i) 0 = r) := ⟨_, rfl⟩
            rw [Hr.out] at r0 hr HI2
            go_wp2_with fail
            exact ⟨⟨i + 1, by go_num, by omega, by rw [HI2.out]; exact HE.out.set h13 h23 h3B (8 + (1 + i)) r⟩, by simp [intOf]; omega⟩
          · obtain rfl : i = 4 := by omega
            have Hlt3 : Hid (lt64 ((innerS rs 1 (O.set 8 ep) 4).set 13 1)) := (innerS_lt ((HO.out ▸ outS_lt ep rs he2 Hlt.out 1 (by omega) : lt64 O).set 8 he2) Hlt.out 1 4 (by omega) (Nat.le_refl _)).set 13 (by omega)
            have y5 := HE.out.o.word 13 (by omega)
            have f5 := HE.out.o.frozen 13
            have HE5 : Hid (SE w (wr.setCell ⟨n3, 13, none⟩ (.int .u64 (1 : Nat))) n1 n2 n3 ep rs ((innerS rs 1 (O.set 8 ep) 4).set 13 1)) := HE.out.set h13 h23 h3B 13 1
            obtain ⟨L3, HL3⟩ : ∃ L3, Hid ((innerS rs 1 (O.set 8 ep) 4).set 13 1 = L3) := ⟨_, rfl⟩
            have hl3 : L3.length = 16 := by rw [← HL3.out, List.length_set]; exact hil
            rw [HL3.out] at HE5 HI Hlt3
            have hc5 : ((1 : Nat) : Int) = 1 := rfl
            go_wp2_with fail
            obtain ⟨w5, Hw5⟩ : ∃ w5, Hid (wr.setCell ⟨n3, 13, none⟩ (.int .u64 1) = w5) := ⟨_, rfl⟩
            have HE6 : Hid (SE w w5 n1 n2 n3 ep rs L3) := by rw [← Hw5.out]; exact HE5.out
            rw [Hw5.out]
            clear HE HE5 y5 f5
            refine (cwords_any _ 7 8 ((L3.drop 8).take 7) w5 (by omega) (fun j _ => Hlt3.out.part 8 7 j) (HE6.out.o.part 8 7 (by omega))).mono ?_
            rintro e w6 ⟨rfl, hb6⟩
            have HE7 := Lib.hid (HE6.out.below hb6 (Nat.le_refl _))
            have hcl := crcW_lt ((L3.drop 8).take 7)
            obtain ⟨c, Hc⟩ : ∃ c, Hid (crcW ((L3.drop 8).take 7) = c) := ⟨_, rfl⟩
            rw [Hc.out] at hcl HI ⊢
            have y7 := HE7.out.o.word 15 (by omega)
            have f7 := HE7.out.o.frozen 15
            clear hb6 HE6
            go_wp2_with fail
            exact ⟨⟨2, rfl, by omega, by rw [HI.out]; exact HE7.out.set h13 h23 h3B 15 c⟩, by simp [intOf]⟩
    · obtain rfl : l = 2 := by omega
      have hsz : (Tryz.prog.info? 220).map (·.size) = some (wcells (outS ep rs 2)).toArray.size := by rw [size220]; simp [wcells_len, Hol.out]
      go_wp2_with (first
        | (refine wpList_load_row rfl 220 (.tmp 3) rfl n3 rfl 220 _ (0, 0) _ HE.out.o Tryz.underlying220 rfl hsz ?_)
        | (refine wpList_store_row rfl (.tmp 2) (.tmp 51) rfl rfl rfl HE.out.r hsz (by simp [wcells_len, Hol.out, zerosN]) (by simpa using wcells_one) ?_))
      intro w2 hB2 hM2
      have HB2 := Lib.hid hB2
      have HG2 := Lib.hid (Below.mod HE.out.be hM2 HE.out.be.size (fun k _ e => by omega))
      clear hB2 hM2
      go_wp2_with fail
      refine bodyPost_ret (results_cell_row rfl _ _ n2 220 _ _ _ rfl HB2.out Tryz.underlying220 rfl hsz) rfl ?_
      exact ⟨rfl, HG2.out⟩
end Go.Proofs.YtcnjipicifkfjaaGreat

/- slices.Index, Contains, Clone of whole numbers. -/
namespace Go.Proofs.YtcnjipicifkfjaaGreat
open Go.RowKit
set_option linter.unusedVariables false
set_option linter.unusedSimpArgs false

def IdxP (l : List Nat) (x : Nat) (w : World) (e : Ending) (w' : World) : Prop := (∃ i : Int, e = .returned (.int .i64 i) ∧ ((0 ≤ i ∧ x ∈ l) ∨ (i = -1 ∧ x ∉ l))) ∧ w = w'
theorem index_any (A : Option Addr) (n cap x : Nat) (l : List Nat) (w : World) (hr : Rd w 1 A n (ncells l)) (hn : n ≤ 1000000) :
    Calls Tryz.prog 265 #[.slice A n cap, .int .i64 x] w (IdxP l x w) := by
  have hl : l.length = n := by have := hr.1; rw [ncells_len] at this; omega
  have Hr := Lib.hid hr
  have Hl := Lib.hid hl
  clear hr hl
  go_enter Tryz.func265, Tryz.ntmps265
  go_wp2_with fail
  go_loop [8] (fun v8 => ∃ i : Nat, v8 = .int .i64 i ∧ i ≤ n ∧ ∀ j, j < i → l.getD j 0 ≠ x) (fun v8 => n - (intOf v8).toNat)
  case atStart => exact ⟨0, rfl, Nat.zero_le _, fun j hj => absurd hj (Nat.not_lt_zero _)⟩
  case round =>
    obtain ⟨i, rfl, hi, hall⟩ := hrel
    have Hall := Lib.hid hall
    clear hall
    by_cases hin : i < n
    · obtain ⟨g, o, rfl, hg, hx⟩ := Hr.out.2 (by omega)
      have y1 : w.cell? ⟨g, o + i, none⟩ = some (.int .i64 (l.getD i 0 : Nat)) := hx i _ (ncells_at l i (by rw [Hl.out]; exact hin))
      clear hx
      by_cases hy : l.getD i 0 = x
      · have HF : Hid (x ∈ l) := by
          show x ∈ l
          rw [← hy, List.getD_eq_getElem?_getD, List.getElem?_eq_getElem (by rw [Hl.out]; exact hin)]
          exact List.getElem_mem _
        rw [hy] at y1
        clear hy
        go_wp2_with fail
        go_ret
        exact ⟨⟨(i : Int), rfl, .inl ⟨by omega, HF.out⟩⟩, rfl⟩
      · have HN : Hid (∀ j, j < i + 1 → l.getD j 0 ≠ x) := by
          intro j hj
          rcases Nat.lt_or_ge j i with h | h
          · exact Hall.out j h
          · obtain rfl : j = i := by omega
            exact hy
        have hyb : ((x : Int) == (l.getD i 0 : Int)) = false := by rw [beq_eq_false_iff_ne]; omega
        have hyb2 : (x == l.getD i 0) = false := by rw [beq_eq_false_iff_ne]; omega
        clear hy
        generalize l.getD i 0 = y at *
        go_wp2_with fail
        exact ⟨⟨i + 1, by go_num, by omega, HN.out⟩, by simp [intOf]; omega⟩
    · obtain rfl : i = n := by omega
      have HN : Hid (x ∉ l) := by
        show ¬ x ∈ l
        intro h
        obtain ⟨j, hj, rfl⟩ := List.getElem_of_mem h
        refine Hall.out j (by rw [← Hl.out]; exact hj) ?_
        simp [List.getD_eq_getElem?_getD, hj]
      go_wp2_with fail
      go_ret
      exact ⟨⟨-1, rfl, .inr ⟨rfl, HN.out⟩⟩, rfl⟩
theorem contains_any (A : Option Addr) (n cap x : Nat) (l : List Nat) (w : World) (hr : Rd w 1 A n (ncells l)) (hn : n ≤ 1000000) :
    Calls Tryz.prog 240 #[.slice A n cap, .int .i64 x] w fun e w' => e = .returned (.bool (decide (x ∈ l))) ∧ w = w' := by
  have Hi := Lib.hid (index_any A n cap x l w hr hn)
  clear hr
  go_enter Tryz.func240, Tryz.ntmps240
  go_wp2_with fail
  refine Hi.out.mono ?_
  rintro e w' ⟨⟨i, rfl, hi⟩, rfl⟩
  rcases hi with ⟨h1, h2⟩ | ⟨h1, h2⟩
  · have HE : Hid (decide (x ∈ l) = true) := decide_eq_true h2
    clear h2
    go_wp2_with fail
    go_ret
    rw [HE.out]
    exact ⟨by simp, rfl⟩
  · have HE : Hid (decide (x ∈ l) = false) := decide_eq_false h2
    subst h1
    clear h2
    go_wp2_with fail
    go_ret
    rw [HE.out]
    exact ⟨by simp, rfl⟩
theorem info3s : ∃ i, Tryz.prog.info? 3 = some i ∧ i.zero = some (.int .i64 0) ∧ i.size = 1 ∧ i.bytes = 8 := by
  obtain ⟨i, hi, hi2⟩ := Option.map_eq_some_iff.1 (show (Tryz.prog.info? 3).map (fun i => (i.size, i.bytes, i.zero)) = some (1, 8, some (.int .i64 0)) by kernel_rfl)
  simp only [Prod.mk.injEq] at hi2
  exact ⟨i, hi, hi2.2.2, hi2.1, hi2.2.1⟩
theorem ncells_one {l : List Nat} : ∀ u ∈ ncells l, u.oneCell' = true := by
  intro u hu
  simp only [ncells, List.mem_map] at hu
  obtain ⟨_, _, rfl⟩ := hu
  rfl
/-- slices.Clone: of a slice that isn't nil. -/
theorem iclone_any (ad : Addr) (n cap : Nat) (l : List Nat) (w : World) (hn : n ≤ 1000000) (hr : Rd w 1 (some ad) n (ncells l)) :
    Calls Tryz.prog 192 #[.slice (some ad) n cap] w fun e w' => ∃ A' cap', e = .returned (.slice A' n cap') ∧ Own w' w.heap.size 3 1 A' n cap' (ncells l) ∧ Below w.heap.size w w' := by
  obtain ⟨i, hi, h3, h1, h2⟩ := info3s
  have Hr := Lib.hid hr
  have heq : ∀ w, (binOp .eql 60 (.slice (some ad) n cap) (.slice none 0 0)).run Tryz.prog w = .ok (.bool false) w := fun w => run_eql_slice_nil w 60 3 (some ad) n cap Tryz.underlying60
  clear hr
  go_enter Tryz.func192, Tryz.ntmps192
  go_wp2_with (at_builtin; (refine append_rd rfl (.tmp 5) (.tmp 6) 60 rfl w.heap.size 3 i _ 1 8 Tryz.underlying60 hi h3 h1 h2 rfl (by omega) (some ⟨w.heap.size, 0, none⟩) 0 0 [] rfl (Own.empty w w.heap.size 3 1 w.heap.size rfl (Nat.le_refl _)) (some ad) n cap (ncells l) rfl (Hr.out.alloc _) ncells_one n (by omega) (ncells l) rfl (by unfold maxLen; omega) (by omega) (by simp) ?_))
  intro A5 cap5 w5 hO5 hM5 hat5
  have HO5 := Lib.hid hO5
  have Hb5 := Lib.hid (Below.mod ((Below.refl _ w).alloc (Nat.le_refl _) (.cells #[] 3)) hM5 (by simp) (fun k _ h => by first | omega | (obtain ⟨a, ha, e⟩ := h; cases ha; simp only at e; omega)))
  clear hO5 hM5 hat5
  go_wp2_with fail
  go_ret
  exact ⟨A5, cap5, rfl, HO5.out, Hb5.out⟩
theorem iclone_nil (w : World) : Calls Tryz.prog 192 #[.slice none 0 0] w fun e w' => e = .returned (.slice none 0 0) ∧ w = w' := by
  have heq : ∀ w, (binOp .eql 60 (.slice none 0 0) (.slice none 0 0)).run Tryz.prog w = .ok (.bool true) w := fun w => run_eql_slice_nil w 60 3 none 0 0 Tryz.underlying60
  go_enter Tryz.func192, Tryz.ntmps192
  go_wp2_with fail
  go_ret
  exact ⟨rfl, rfl⟩
end Go.Proofs.YtcnjipicifkfjaaGreat
