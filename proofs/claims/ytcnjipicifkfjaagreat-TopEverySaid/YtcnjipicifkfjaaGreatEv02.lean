/- Whole rows: a struct or an array read out of a block, stored into one; an array's element by value; equality of an array with itself. -/
import Derived.Test.YtcnjipicifkfjaaGreatEv01
import Derived.Laws.CopyRow
import Derived.Laws.StructEq
import Derived.OwnWalk
import Derived.Test.YtcnjipicifkfjaaGreatProg
import Derived.Laws.BitsLemmas
import Derived.Lib.EndianBits
import Derived.WalkKit
import Derived.WalkLawsBesides
import Derived.WalkSpells
import Derived.BigRegion
import Derived.BigQuiet
import Derived.Handy
import Derived.Deep.RegionHeld3

namespace Go.Proofs.YtcnjipicifkfjaaGreat
open Go.RowKit

section
variable {P : Program} {w : World} {g : Nat} {t ty : TypeId} {cs cur : Array Value} {d : TypeDesc}

theorem Blk.setRow (h : Blk w g t cur) (cs : Array Value) : Blk (w.setRow g cs) g t cs := setRow_heap w g cur cs t _ h
theorem mod_setRow (w : World) (g : Nat) (cs : Array Value) : Mod w (w.setRow g cs) (fun k => k = g) :=
  ⟨rfl, rfl, rfl, by simp, fun k _ hk => setRow_other w g k cs (fun e => hk e)⟩

/-- Part of a block, from cell 'o' on, read as a struct or an array. -/
theorem run_load_sub (o n : Nat) (hg : Blk w g t cs) (hu : P.underlying ty = some d) (hd : (match d with | .struct _ | .array _ _ => true | _ => false) = true)
    (hi : (P.info? ty).map (·.size) = some n) (hn : o + n ≤ cs.size) :
    (loadVar ty ⟨g, o, none⟩).run P w = .ok (.agg (cs.extract o (o + n))) w := by
  have hl : (loadCells ⟨g, o, none⟩ (cs.extract o (o + n)).toList.length).run P w = .ok (cs.extract o (o + n)).toList.toArray w :=
    run_loadCells_list (P := P) w ⟨g, o, none⟩ (cs.extract o (o + n)).toList (fun j v hv => by
      have hadd : (⟨g, o, none⟩ : Addr).add j = ⟨g, o + j, none⟩ := by unfold Addr.add; split <;> simp_all
      rw [hadd, hg.cell (o + j)]
      rw [Array.getElem?_toList, Array.getElem?_extract] at hv
      split at hv
      · exact hv
      · cases hv)
  have hsz : (cs.extract o (o + n)).size = n := by rw [Array.size_extract]; omega
  cases hq : P.info? ty with
  | none => simp [hq] at hi
  | some i =>
    have hs : i.size = n := by simpa [hq] using hi
    have hagg : (isAgg ty).run P w = .ok true w := by
      unfold isAgg
      rw [Sem.run_bind, run_underlying hu w]
      cases d <;> simp_all
    simp only [Array.length_toList, Array.toArray_toList, hsz] at hl
    simp [loadVar, Sem.run_bind, hagg, sizeOf, typeInfo, hq, hs, hl]

theorem wpList_load_sub {ops : Array Oper} {rest : List Oper} {op : Oper} {a : Act} {Q : Exit → Act → World → Prop} (hgd : op.guard = none) (x : Operand) (ho : op.op = .load ty x)
    (o n : Nat) (hx : a.eval x = .pointer (some ⟨g, o, none⟩)) (hg : Blk w g t cs) (hu : P.underlying ty = some d) (hd : (match d with | .struct _ | .array _ _ => true | _ => false) = true)
    (hi : (P.info? ty).map (·.size) = some n) (hn : o + n ≤ cs.size) (h : wpList P ops Q rest (a.put op.dst (.agg (cs.extract o (o + n)))) w) : wpList P ops Q (op :: rest) a w := by
  refine wpList_plain hgd fun K hK => ?_
  unfold Oper.wp execOp
  simp only [ho, hx, Instr.loadAt, Instr.sureAddr, Sem.run_bind, Sem.run_pure, Result.andThen_ok, run_load_sub o n hg hu hd hi hn]
  exact hK _ _ h

/-- A whole block stored over. -/
theorem run_store_row (hg : Blk w g t cur) (hi : (P.info? ty).map (·.size) = some cs.size) (hs : cs.size = cur.size) (h1 : ∀ v ∈ cs.toList, v.oneCell' = true) :
    (storeVar ty ⟨g, 0, none⟩ (.agg cs)).run P w = .ok () (w.setRow g cs) := by
  cases hq : P.info? ty with
  | none => simp [hq] at hi
  | some i =>
    have hsz : i.size = cs.size := by simpa [hq] using hi
    have hst := run_storeCells_at P g 0 t cs.toList 0 cur w hg (by simp; omega) h1
    have he : (List.take 0 cur.toList ++ cs.toList ++ List.drop (0 + cs.toList.length) cur.toList).toArray = cs := by
      rw [List.take_zero, List.nil_append, List.drop_of_length_le (by simp; omega), List.append_nil, Array.toArray_toList]
    simp only [Nat.add_zero, Nat.zero_add] at hst he
    rw [he] at hst
    simp [storeVar, Sem.run_bind, sizeOf, typeInfo, hq, hsz, Value.cells, hst]

theorem wpList_store_row {ops : Array Oper} {rest : List Oper} {op : Oper} {a : Act} {Q : Exit → Act → World → Prop} (hgd : op.guard = none) (x y : Operand) (ho : op.op = .store ty x y)
    (hx : a.eval x = .pointer (some ⟨g, 0, none⟩)) (hy : a.eval y = .agg cs) (hg : Blk w g t cur) (hi : (P.info? ty).map (·.size) = some cs.size) (hs : cs.size = cur.size)
    (h1 : ∀ v ∈ cs.toList, v.oneCell' = true) (h : ∀ w', Blk w' g t cs → Mod w w' (fun k => k = g) → wpList P ops Q rest (a.put op.dst undef) w') : wpList P ops Q (op :: rest) a w := by
  refine wpList_plain hgd fun K hK => ?_
  unfold Oper.wp execOp
  simp only [ho, hx, hy, Instr.storeAt, Instr.sureAddr, Sem.run_bind, Sem.run_pure, Result.andThen_ok, run_store_row hg hi hs h1]
  exact hK _ _ (h _ (hg.setRow cs) (mod_setRow w g cs))

/-- An element of an array that is held by value: of several cells. -/
theorem run_index_sub {e : TypeId} {k : IntKind} (len n i : Nat) (ht : P.underlying ty = some (.array len e)) (hu : P.underlying e = some d) (hd : (match d with | .struct _ | .array _ _ => true | _ => false) = true)
    (hi : (P.info? e).map (·.size) = some n) (hlt : i < len) (w : World) : (Instr.index ty (.agg cs) (.int k (i : Int))).run P w = .ok (.agg (cs.extract (i * n) (i * n + n))) w := by
  cases hq : P.info? e with
  | none => simp [hq] at hi
  | some inf =>
    have hs : inf.size = n := by simpa [hq] using hi
    have hagg : ∀ w, (isAgg e).run P w = .ok true w := by
      intro w
      unfold isAgg
      rw [Sem.run_bind, run_underlying hu w]
      cases d <;> simp_all
    have h0 : (0 : Int) ≤ (i : Int) ∧ (i : Int) < (len : Int) := by omega
    simp [Instr.index, asIntOf, Sem.run_bind, run_underlying ht, sizeOf, typeInfo, hq, hs, hlt, part, hagg]
/-- .. of one cell. -/
theorem run_index_one {e : TypeId} {k : IntKind} (len i : Nat) (u : Value) (ht : P.underlying ty = some (.array len e)) (hu : P.underlying e = some d) (hd : (match d with | .struct _ | .array _ _ => true | _ => false) = false)
    (hi : (P.info? e).map (·.size) = some 1) (hlt : i < len) (hc : cs[i]? = some u) (w : World) : (Instr.index ty (.agg cs) (.int k (i : Int))).run P w = .ok u w := by
  cases hq : P.info? e with
  | none => simp [hq] at hi
  | some inf =>
    have hs : inf.size = 1 := by simpa [hq] using hi
    have hagg : ∀ w, (isAgg e).run P w = .ok false w := by
      intro w
      unfold isAgg
      rw [Sem.run_bind, run_underlying hu w]
      cases d <;> simp_all
    simp [Instr.index, asIntOf, Sem.run_bind, run_underlying ht, sizeOf, typeInfo, hq, hs, hlt, part, hagg, hc]

/-- An array is equal to itself where its elements are. -/
theorem eq_array (dp : Nat) (t e : TypeId) (len n : Nat) (xs : Array Value) (ht : P.underlying t = some (.array len e)) (hi : (P.info? e).map (·.size) = some n)
    (h : ∀ i, i < len → ∃ v, (part e xs (i * n)).run P w = .ok v w ∧ (Op.equalIn dp e v v).run P w = .ok true w) :
    (Op.equalIn (dp + 1) t (.agg xs) (.agg xs)).run P w = .ok true w := by
  cases hq : P.info? e with
  | none => simp [hq] at hi
  | some inf =>
    have hs : inf.size = n := by simpa [hq] using hi
    simp only [Op.equalIn, Sem.run_bind, run_underlying ht, Result.andThen_ok, sizeOf, typeInfo, run_program, hq, Sem.run_pure, hs]
    rw [Std.Legacy.Range.forIn_eq_forIn_range']
    have hl : ∀ i, i ∈ List.range' [:len].start [:len].size [:len].step → i < len := by
      intro i hi
      simp [Std.Legacy.Range.size] at hi
      omega
    revert hl
    generalize List.range' [:len].start [:len].size [:len].step = l
    intro hl
    induction l with
    | nil => simp
    | cons i l ih =>
      obtain ⟨v, h1, h2⟩ := h i (hl i (by simp))
      simp only [List.forIn_cons, Sem.run_bind, h1, h2, Result.andThen_ok, Bool.not_true, Bool.false_eq_true, if_false, Sem.run_pure]
      exact ih (fun j hj => hl j (by simp [hj]))

theorem part_sub (e : TypeId) (xs : Array Value) (o n : Nat) (hu : P.underlying e = some d) (hd : (match d with | .struct _ | .array _ _ => true | _ => false) = true)
    (hi : (P.info? e).map (·.size) = some n) : (part e xs o).run P w = .ok (.agg (xs.extract o (o + n))) w := by
  cases hq : P.info? e with
  | none => simp [hq] at hi
  | some inf =>
    have hs : inf.size = n := by simpa [hq] using hi
    have hagg : (isAgg e).run P w = .ok true w := by
      unfold isAgg
      rw [Sem.run_bind, run_underlying hu w]
      cases d <;> simp_all
    simp [part, Sem.run_bind, hagg, sizeOf, typeInfo, hq, hs]

theorem part_one (e : TypeId) (xs : Array Value) (o : Nat) (v : Value) (hu : P.underlying e = some d) (hd : (match d with | .struct _ | .array _ _ => true | _ => false) = false)
    (hv : xs[o]? = some v) : (part e xs o).run P w = .ok v w := by
  have hagg : (isAgg e).run P w = .ok false w := by
    unfold isAgg
    rw [Sem.run_bind, run_underlying hu w]
    cases d <;> simp_all
  simp [part, Sem.run_bind, hagg, hv]
end
end Go.Proofs.YtcnjipicifkfjaaGreat

/- bits and crc: what their functions compute. -/
namespace Go.Proofs.YtcnjipicifkfjaaGreat
open Go.RowKit
set_option linter.unusedVariables false
set_option linter.unusedSimpArgs false

theorem xor_nat (k : IntKind) (j : Nat) (hj : j ≤ k.bits) (hk : ∀ n : Int, 0 ≤ n → n < 2 ^ j → k.wrap n = n) (a b : Nat) (ha : a < 2 ^ j) (hb : b < 2 ^ j) : bits .xor k a b = ((a ^^^ b : Nat) : Int) := by
  have hp : 2 ^ j ≤ 2 ^ k.bits := Nat.pow_le_pow_right (by decide) hj
  have ha' : a % 2 ^ k.bits = a := Nat.mod_eq_of_lt (Nat.lt_of_lt_of_le ha hp)
  have hb' : b % 2 ^ k.bits = b := Nat.mod_eq_of_lt (Nat.lt_of_lt_of_le hb hp)
  simp only [bits, BitVec.ofInt_natCast, BitVec.toNat_xor, BitVec.toNat_ofNat, ha', hb']
  exact hk _ (Int.natCast_nonneg _) (by exact_mod_cast Nat.xor_lt_two_pow ha hb)
theorem xor_u8 (a b : Nat) (ha : a < 256) (hb : b < 256) : bits .xor .u8 a b = ((a ^^^ b : Nat) : Int) := xor_nat .u8 8 (by decide) wraps_u8 a b ha hb
theorem xor_u32 (a b : Nat) (ha : a < 4294967296) (hb : b < 4294967296) : bits .xor .u32 a b = ((a ^^^ b : Nat) : Int) := xor_nat .u32 32 (by decide) wraps_u32 a b ha hb

theorem up_pos (n k : Nat) (w : World) (hn : 0 < n) (hk : 0 < k) (hn2 : n ≤ 9223372036854775807) (hk2 : k ≤ 9223372036854775807) :
    Calls Tryz.prog 67 #[.int .i64 n, .int .i64 k] w fun e w' => e = .returned (.int .i64 (((n - 1) / k + 1 : Nat) : Int)) ∧ w = w' := by
  have hd : (n - 1) / k ≤ n - 1 := Nat.div_le_self _ _
  have he : ((n : Int) - 1) / (k : Int) = (((n - 1) / k : Nat) : Int) := by
    rw [show (n : Int) - 1 = ((n - 1 : Nat) : Int) by omega]
    exact (Int.natCast_ediv _ _).symm
  generalize (n - 1) / k = q at *
  have He := Lib.hid he
  have hb : (n : Int) - 1 < 9223372036854775807 := by omega
  clear he
  go_enter Tryz.func67, Tryz.ntmps67
  go_wp2_with fail
  go_ret
  refine ⟨?_, rfl⟩
  rw [He.out]
  refine ret_int ?_
  show wrap64 _ = _
  unfold wrap64
  omega
theorem up_zero (k : Int) (w : World) : Calls Tryz.prog 67 #[.int .i64 0, .int .i64 k] w fun e w' => e = .returned (.int .i64 0) ∧ w = w' := by
  go_enter Tryz.func67, Tryz.ntmps67
  go_wp2_with fail
  go_ret
  exact ⟨rfl, rfl⟩

theorem mask_any (k : Nat) (w : World) (hk : 0 < k) (hk2 : k < 64) :
    Calls Tryz.prog 213 #[.int .i64 k] w fun e w' => e = .returned (.int .u64 ((2 ^ k - 1 : Nat) : Int)) ∧ w = w' := by
  have h1 : 2 ^ k < 18446744073709551616 := Nat.lt_of_lt_of_le (Nat.pow_lt_pow_right (by decide) hk2) (by decide)
  have h0 : 0 < 2 ^ k := Nat.two_pow_pos k
  have H : Hid (IntKind.u64.wrap (IntKind.u64.wrap (2 ^ k) - 1) = ((2 ^ k - 1 : Nat) : Int)) := by
    show _ = _
    have e : ((2 : Int) ^ k) = ((2 ^ k : Nat) : Int) := by simp
    rw [e, IntKind.wrap_u64, IntKind.wrap_u64]
    omega
  clear h1 h0
  go_enter Tryz.func213, Tryz.ntmps213
  go_wp2_with fail
  go_ret
  refine ⟨?_, rfl⟩
  rw [H.out]
  rfl

/-- The table of sixteen. -/
def tabL : List Nat := [0, 498536548, 997073096, 651767980, 1994146192, 1802195444, 1303535960, 1342533948, 3988292384, 4027552580, 3604390888, 3412177804, 2607071920, 2262029012, 2685067896, 3183342108]
def tab (i : Nat) : Nat := tabL.getD (i % 16) 0
set_option maxRecDepth 10000 in
theorem table_any (i : Nat) (w : World) (hi : i < 256) :
    Calls Tryz.prog 264 #[.int .u8 i] w fun e w' => e = .returned (.int .u32 (tab i : Nat)) ∧ w = w' := by
  have h1 : bits BinOp.and IntKind.u8 (i : Int) 15 = ((i % 16 : Nat) : Int) := by rw [u8_and15 _ (by omega) (by omega)]; simp
  obtain ⟨j, hj⟩ : ∃ j, i % 16 = j := ⟨_, rfl⟩
  have hj16 : j < 16 := by omega
  have H : Hid (tab i = tabL.getD j 0) := by show _ = _; unfold tab; rw [hj]
  rw [hj] at h1
  clear hj hi
  have h2 : ∀ w, (Instr.index 309 (.agg (tabL.map fun x => Value.int .u32 (x : Nat)).toArray) (.int .u8 (j : Int))).run Tryz.prog w = .ok (.int .u32 (tabL.getD j 0 : Nat)) w :=
    run_index_one 16 j _ Tryz.underlying309 Tryz.underlying219 rfl (by kernel_rfl) hj16 (by
      rw [List.getElem?_toArray, List.getElem?_map, List.getD_eq_getElem?_getD]
      have : j < tabL.length := hj16
      simp [this])
  obtain ⟨x, Hx⟩ : ∃ x, Hid (tabL.getD j 0 = x) := ⟨_, rfl⟩
  rw [Hx.out] at h2 H
  simp only [tabL, List.map_cons, List.map_nil, Int.cast_ofNat_Int, Int.natCast_zero] at h2
  rw [H.out]
  go_enter Tryz.func264, Tryz.ntmps264
  go_wp2_with fail
  go_ret
  exact ⟨rfl, rfl⟩

def crcStep (s b : Nat) : Nat :=
  let t := tab ((s % 256) ^^^ b) ^^^ (s / 16)
  tab ((t % 256) ^^^ (b / 16)) ^^^ (t / 16)
def crcFold (s : Nat) (l : List Nat) : Nat := l.foldl crcStep s
def bcells (l : List Nat) : List Value := l.map fun x => .int .u8 (x : Nat)
theorem bcells_len (l : List Nat) : (bcells l).length = l.length := by simp [bcells]
theorem bcells_at (l : List Nat) (j : Nat) (h : j < l.length) : (bcells l)[j]? = some (.int .u8 (l.getD j 0 : Nat)) := by simp [bcells, h, List.getD_eq_getElem?_getD]
theorem tab_lt (i : Nat) : tab i < 4294967296 := by
  unfold tab
  have h : i % 16 < 16 := Nat.mod_lt _ (by decide)
  generalize i % 16 = j at *
  have : ∀ j : Fin 16, tabL.getD j.1 0 < 4294967296 := by decide
  exact this ⟨j, h⟩
theorem crcStep_lt (s b : Nat) (h : s < 4294967296) : crcStep s b < 4294967296 := by
  unfold crcStep
  have h1 := tab_lt ((s % 256) ^^^ b)
  have h2 : tab ((s % 256) ^^^ b) ^^^ (s / 16) < 2 ^ 32 := Nat.xor_lt_two_pow h1 (by omega)
  generalize tab ((s % 256) ^^^ b) ^^^ (s / 16) = t at *
  have h3 := tab_lt ((t % 256) ^^^ (b / 16))
  exact Nat.xor_lt_two_pow (n := 32) h3 (by omega)
theorem crcFold_take (s : Nat) (l : List Nat) (j : Nat) (h : j < l.length) : crcFold s (l.take (j + 1)) = crcStep (crcFold s (l.take j)) (l.getD j 0) := by
  unfold crcFold
  rw [List.take_add_one, List.getElem?_eq_getElem h, Option.toList_some, List.foldl_append, List.getD_eq_getElem?_getD, List.getElem?_eq_getElem h]
  rfl
theorem crcFold_lt (s : Nat) (l : List Nat) (h : s < 4294967296) : crcFold s l < 4294967296 := by
  unfold crcFold
  induction l generalizing s with
  | nil => exact h
  | cons a l ih => exact ih _ (crcStep_lt s a h)

def crcNot (s : Nat) : Nat := 4294967295 ^^^ s
theorem crcNot_lt {s : Nat} (h : s < 4294967296) : crcNot s < 4294967296 := Nat.xor_lt_two_pow (n := 32) (by decide) h
theorem not_u32 (s : Nat) (h : s < 4294967296) : bits .xor .u32 IntKind.u32.max (s : Int) = ((crcNot s : Nat) : Int) := xor_u32 4294967295 s (by decide) h
theorem u8_of (s : Nat) : IntKind.u8.wrap (s : Int) = ((s % 256 : Nat) : Int) := by rw [IntKind.wrap_u8]; simp
theorem crcOne (s b : Nat) (hs : s < 4294967296) (hb : b < 256) : ((s % 256) ^^^ b) < 256 ∧ tab ((s % 256) ^^^ b) ^^^ (s / 16) < 4294967296 :=
  ⟨Nat.xor_lt_two_pow (n := 8) (by omega) hb, Nat.xor_lt_two_pow (n := 32) (tab_lt _) (by omega)⟩

set_option maxHeartbeats 1000000 in
theorem more_any (s : Nat) (A : Option Addr) (n cap : Nat) (l : List Nat) (w : World) (hs : s < 4294967296) (hn : n ≤ 1000000) (hl : ∀ j, j < l.length → l.getD j 0 < 256) (hr : Rd w 1 A n (bcells l)) :
    Calls Tryz.prog 238 #[.int .u32 s, .slice A n cap] w fun e w' => e = .returned (.int .u32 ((crcNot (crcFold (crcNot s) l) : Nat) : Int)) ∧ w = w' := by
  have Hr := Lib.hid hr
  have Hln : Hid (l.length = n) := by have := hr.1; rw [bcells_len] at this; show _ = _; omega
  have Hl := Lib.hid hl
  have h0 := not_u32 s hs
  have hs2 := crcNot_lt hs
  clear hr hl
  obtain ⟨s1, Hs1⟩ : ∃ s1, Hid (crcNot s = s1) := ⟨_, rfl⟩
  rw [Hs1.out] at h0 hs2 ⊢
  go_enter Tryz.func238, Tryz.ntmps238
  go_wp2_with fail
  go_loopw [0, 11] (fun v0 v11 wr => ∃ i : Nat, v11 = .int .i64 i ∧ i ≤ n ∧ v0 = .int .u32 ((crcFold s1 (l.take i) : Nat) : Int) ∧ w = wr) (fun _ v11 _ => n - (intOf v11).toNat)
  case atStart => exact ⟨0, rfl, Nat.zero_le _, rfl, rfl⟩
  case round =>
    obtain ⟨i, rfl, hi, rfl, rfl⟩ := hrel
    have hlt := crcFold_lt s1 (l.take i) hs2
    by_cases hin : i < n
    · obtain ⟨g, off, rfl, hg, hc⟩ := Hr.out.2 (by omega)
      have c0 := hc i _ (bcells_at l i (by rw [Hln.out]; exact hin))
      have hb := Hl.out i (by rw [Hln.out]; exact hin)
      have HS := Lib.hid (crcFold_take s1 l i (by rw [Hln.out]; exact hin))
      clear hc
      generalize l.getD i 0 = b at *
      generalize crcFold s1 (l.take i) = s2 at *
      obtain ⟨h1, h2⟩ := crcOne s2 b hlt hb
      have e1 : bits BinOp.xor IntKind.u8 ((s2 : Int) % 256) (b : Int) = (((s2 % 256) ^^^ b : Nat) : Int) := by
        rw [show (s2 : Int) % 256 = ((s2 % 256 : Nat) : Int) by simp, xor_u8 _ _ (by omega) hb]
      have HC : Hid (crcStep s2 b = crcStep s2 b) := rfl
      have hcs : crcStep s2 b = tab (((tab ((s2 % 256) ^^^ b) ^^^ (s2 / 16)) % 256) ^^^ (b / 16)) ^^^ ((tab ((s2 % 256) ^^^ b) ^^^ (s2 / 16)) / 16) := rfl
      have e2 : bits BinOp.xor IntKind.u32 (tab ((s2 % 256) ^^^ b) : Nat) ((s2 : Int) / 16) = ((tab ((s2 % 256) ^^^ b) ^^^ (s2 / 16) : Nat) : Int) := by
        rw [show (s2 : Int) / 16 = ((s2 / 16 : Nat) : Int) by simp, xor_u32 _ _ (tab_lt _) (by omega)]
      obtain ⟨k1, Hk1⟩ : ∃ k, Hid ((s2 % 256) ^^^ b = k) := ⟨_, rfl⟩
      rw [Hk1.out] at h1 h2 e1 e2 hcs
      obtain ⟨t1, Ht1⟩ : ∃ k, Hid (tab k1 ^^^ (s2 / 16) = k) := ⟨_, rfl⟩
      rw [Ht1.out] at h2 e2 hcs
      obtain ⟨h5, h6⟩ := crcOne t1 (b / 16) h2 (by omega)
      have e3 : bits BinOp.xor IntKind.u8 ((t1 : Int) % 256) ((b : Int) / 16) = (((t1 % 256) ^^^ (b / 16) : Nat) : Int) := by
        rw [show (t1 : Int) % 256 = ((t1 % 256 : Nat) : Int) by simp, show (b : Int) / 16 = ((b / 16 : Nat) : Int) by simp, xor_u8 _ _ (by omega) (by omega)]
      have e4 : bits BinOp.xor IntKind.u32 (tab ((t1 % 256) ^^^ (b / 16)) : Nat) ((t1 : Int) / 16) = ((tab ((t1 % 256) ^^^ (b / 16)) ^^^ (t1 / 16) : Nat) : Int) := by
        rw [show (t1 : Int) / 16 = ((t1 / 16 : Nat) : Int) by simp, xor_u32 _ _ (tab_lt _) (by omega)]
      rw [← hcs] at e4
      obtain ⟨k2, Hk2⟩ : ∃ k, Hid ((t1 % 256) ^^^ (b / 16) = k) := ⟨_, rfl⟩
      rw [Hk2.out] at h5 e3 e4
      obtain ⟨s3, Hs3⟩ : ∃ k, Hid (crcStep s2 b = k) := ⟨_, rfl⟩
      rw [Hs3.out] at e4 HS
      clear h6 hcs HC Hk1 Ht1 Hk2
      go_wp2_with (go_at_call 264; refine (table_any _ _ (by omega)).mono ?_; rintro e w' ⟨rfl, rfl⟩)
      exact ⟨⟨i + 1, by go_num, by omega, by rw [HS.out], by trivial⟩, by simp [intOf]; omega⟩
    · obtain rfl : i = n := by omega
      have h3 := not_u32 _ hlt
      have h4 : l.take i = l := List.take_of_length_le (by rw [Hln.out]; exact Nat.le_refl _)
      rw [h4] at h3 hlt ⊢
      go_wp2_with fail
      go_ret
      exact ⟨rfl, rfl⟩
end Go.Proofs.YtcnjipicifkfjaaGreat

/- bits.Bytes, crc.Words, Seal, Open. -/
namespace Go.Proofs.YtcnjipicifkfjaaGreat
open Go.RowKit
set_option linter.unusedVariables false
set_option linter.unusedSimpArgs false

/-- Words' cells. -/
def wcells (l : List Nat) : List Value := l.map fun x => .int .u64 (x : Nat)
theorem wcells_len (l : List Nat) : (wcells l).length = l.length := by simp [wcells]
theorem wcells_at (l : List Nat) (j : Nat) (h : j < l.length) : (wcells l)[j]? = some (.int .u64 (l.getD j 0 : Nat)) := by simp [wcells, h, List.getD_eq_getElem?_getD]
def byteL (x : Nat) : List Nat := (List.range 8).map fun i => x / 2 ^ (8 * i) % 256
def bytesOf (l : List Nat) : List Nat := l.flatMap byteL
theorem byteL_len (x : Nat) : (byteL x).length = 8 := by simp [byteL]
theorem bytesOf_len (l : List Nat) : (bytesOf l).length = 8 * l.length := by
  induction l with
  | nil => rfl
  | cons a l ih => simp only [bytesOf, List.flatMap_cons, List.length_append, byteL_len, List.length_cons] at ih ⊢; omega
theorem byteL_lt (x j : Nat) : (byteL x).getD j 0 < 256 := by
  unfold byteL
  rw [List.getD_eq_getElem?_getD, List.getElem?_map]
  cases h : (List.range 8)[j]? with
  | none => simp
  | some i => simp; exact Nat.mod_lt _ (by decide)
theorem bytesOf_lt (l : List Nat) (j : Nat) : (bytesOf l).getD j 0 < 256 := by
  rw [List.getD_eq_getElem?_getD]
  cases h : (bytesOf l)[j]? with
  | none => simp
  | some b =>
    have := List.mem_of_getElem? h
    simp only [bytesOf, byteL, List.mem_flatMap, List.mem_map] at this
    obtain ⟨_, _, _, _, rfl⟩ := this
    exact Nat.mod_lt _ (by decide)
theorem bcells_append (l m : List Nat) : bcells (l ++ m) = bcells l ++ bcells m := by simp [bcells]
theorem info5 : (Tryz.prog.info? 5).map (fun i => (i.size, i.bytes, i.zero)) = some (1, 1, some (.int .u8 0)) := by kernel_rfl
theorem info5s : ∃ i, Tryz.prog.info? 5 = some i ∧ i.zero = some (.int .u8 0) ∧ i.size = 1 ∧ i.bytes = 1 := by
  obtain ⟨i, hi, hi2⟩ := Option.map_eq_some_iff.1 info5
  simp only [Prod.mk.injEq] at hi2
  exact ⟨i, hi, hi2.2.2, hi2.1, hi2.2.1⟩

theorem sum_any (A : Option Addr) (n cap : Nat) (l : List Nat) (w : World) (hn : n ≤ 1000000) (hl : ∀ j, j < l.length → l.getD j 0 < 256) (hr : Rd w 1 A n (bcells l)) :
    Calls Tryz.prog 216 #[.slice A n cap] w fun e w' => e = .returned (.int .u32 ((crcNot (crcFold (crcNot 0) l) : Nat) : Int)) ∧ w = w' := by
  have H := Lib.hid (more_any 0 A n cap l w (by decide) hn hl hr)
  clear hl hr
  go_enter Tryz.func216, Tryz.ntmps216
  go_wp2_with (go_at_call 238; refine H.out.mono ?_; rintro e w' ⟨rfl, rfl⟩)
  go_ret
  exact ⟨rfl, rfl⟩

set_option maxRecDepth 100000 in
set_option maxHeartbeats 1000000 in
theorem bytes_any (A : Option Addr) (n cap : Nat) (l : List Nat) (w : World) (hn : n ≤ 1000) (hl : ∀ j, j < l.length → l.getD j 0 < 18446744073709551616) (hr : Rd w 1 A n (wcells l)) :
    Calls Tryz.prog 217 #[.slice A n cap] w fun e w' => ∃ A' cap', e = .returned (.slice A' (8 * n) cap') ∧ Own w' w.heap.size 5 1 A' (8 * n) cap' (bcells (bytesOf l)) ∧ Below w.heap.size w w' := by
  obtain ⟨i5, hi5, hz1, hz2, hz3⟩ := info5s
  have Hr := Lib.hid hr
  have Hln : Hid (l.length = n) := by have := hr.1; rw [wcells_len] at this; show _ = _; omega
  have Hl := Lib.hid hl
  clear hr hl
  have hmk : ∀ w : World, (Instr.makeSlice 92 (.int .i64 0) (.int .i64 (8 * (n : Int)))).run Tryz.prog w = .ok (.slice (some ⟨w.heap.size, 0, none⟩) 0 (8 * n)) (w.alloc (.cells (madeCells #[.int .u8 0] (8 * n)) 5)) := by
    intro w
    have hr := run_make (P := Tryz.prog) w 92 5 i5 (.int .u8 0) Tryz.underlying92 hi5 hz1 .i64 .i64 0 (8 * n) (by omega) (by omega) (by rw [hz3]; omega) (by omega)
    simp only [Int.toNat_zero, show (8 * (n : Int)).toNat = 8 * n by omega, hz2, Nat.mul_one] at hr
    rw [hr]
    simp [Value.cells]
  go_enter Tryz.func217, Tryz.ntmps217
  go_wp2_with fail
  obtain ⟨N, HN⟩ : ∃ N, Hid (w.heap.size = N) := ⟨_, rfl⟩
  have HO : Hid (Own (w.alloc (.cells (madeCells #[.int .u8 0] (8 * n)) 5)) w.heap.size 5 1 (some ⟨N, 0, none⟩) 0 (8 * n) []) := by
    refine ⟨by simp, .inr ⟨N, _, rfl, by rw [HN.out]; exact Nat.le_refl _, by rw [← HN.out]; exact Blk.new w 5 _, Nat.zero_le _, by unfold maxLen; omega, ?_, by simp⟩⟩
    rw [← Array.length_toList, toList_madeCells_one]
    simp
  have HB := Lib.hid ((Below.refl w.heap.size w).alloc (Nat.le_refl _) (.cells (madeCells #[.int .u8 0] (8 * n)) 5))
  rw [HN.out]
  clear hmk
  generalize w.alloc _ = w1 at *
  go_loopw [3, 13] (fun v3 v13 wr => ∃ (j : Nat) (A' : Option Addr) (cap' : Nat), v13 = .int .i64 j ∧ j ≤ n ∧ v3 = .slice A' (8 * j) cap' ∧ Own wr w.heap.size 5 1 A' (8 * j) cap' (bcells (bytesOf (l.take j))) ∧ Below w.heap.size w wr) (fun _ v13 _ => n - (intOf v13).toNat)
  case atStart => exact ⟨0, _, _, rfl, Nat.zero_le _, rfl, HO.out, HB.out⟩
  case round =>
    clear HO HB
    obtain ⟨j, A', cap', rfl, hj, rfl, hO, hb⟩ := hrel
    have HO := Lib.hid hO
    have HB := Lib.hid hb
    clear hO hb
    by_cases hjn : j < n
    · obtain ⟨g, off, rfl, hg, hc⟩ := (Hr.out.below HB.out (Nat.le_refl _)).2 (by omega)
      have c0 := hc j _ (wcells_at l j (by rw [Hln.out]; exact hjn))
      have hx := Hl.out j (by rw [Hln.out]; exact hjn)
      have HS : Hid (bytesOf (l.take (j + 1)) = bytesOf (l.take j) ++ byteL (l.getD j 0)) := by
        show _ = _
        have hjl : j < l.length := by rw [Hln.out]; exact hjn
        unfold bytesOf
        rw [List.take_add_one, List.getElem?_eq_getElem hjl, List.getD_eq_getElem?_getD, List.getElem?_eq_getElem hjl, List.flatMap_append]
        simp only [Option.toList_some, List.flatMap_cons, List.flatMap_nil, List.append_nil, Option.getD_some]
      clear hc
      generalize l.getD j 0 = x at *
      go_wp2_with fail
      go_loopw [3, 17] (fun v3 v17 wx => ∃ (k : Nat) (A2 : Option Addr) (cap2 : Nat), v17 = .int .i64 k ∧ k ≤ 8 ∧ v3 = .slice A2 (8 * j + k) cap2 ∧ Own wx w.heap.size 5 1 A2 (8 * j + k) cap2 (bcells (bytesOf (l.take j) ++ (byteL x).take k)) ∧ Below w.heap.size w wx) (fun _ v17 _ => 8 - (intOf v17).toNat)
      case atStart => exact ⟨0, _, _, rfl, Nat.zero_le _, rfl, by simpa using HO.out, HB.out⟩
      case round =>
        clear HO HB c0
        obtain ⟨k, A2, cap2, rfl, hk, rfl, hO, hb⟩ := hrel
        have HO := Lib.hid hO
        have HB := Lib.hid hb
        have hBs := hb.size
        clear hO hb
        by_cases hk8 : k < 8
        · have HT : Hid ((byteL x).take (k + 1) = (byteL x).take k ++ [x / 2 ^ (8 * k) % 256]) := by
            show _ = _
            rw [List.take_add_one]
            have : (byteL x)[k]? = some (x / 2 ^ (8 * k) % 256) := by simp [byteL, hk8]
            rw [this]
            rfl
          go_wp2_with (at_builtin; (refine append_one rfl (.tmp 20) (.tmp 27) 92 rfl w.heap.size 5 i5 _ 1 Tryz.underlying92 hi5 hz1 hz2 hz3 rfl A2 (8 * j + k) cap2 _ rfl HO.out _ rfl rfl (by unfold maxLen; omega) (by omega) hBs ?_))
          intro A5 cap5 w5 hO5 hM5 hat5
          have e : (Value.int .u8 ((x : Int) / 2 ^ (8 * k) % 256)) = .int .u8 ((x / 2 ^ (8 * k) % 256 : Nat) : Int) := by simp
          have HO5 : Hid (Own w5 w.heap.size 5 1 A5 (8 * j + (k + 1)) cap5 (bcells (bytesOf (l.take j) ++ (byteL x).take (k + 1)))) := by
            rw [e] at hO5
            rw [HT.out, ← List.append_assoc, bcells_append]
            exact hO5
          have HB5 := Lib.hid (Below.mod HB.out hM5 hBs (fun b _ ⟨a, ha, e⟩ => by rw [← e]; exact (HO.out.lt a ha).1))
          clear hO5 hM5 hat5 e
          go_wp2_with fail
          exact ⟨⟨k + 1, A5, cap5, by go_num, by omega, rfl, HO5.out, HB5.out⟩, by simp [intOf]; omega⟩
        · obtain rfl : k = 8 := by omega
          have h8 : (byteL x).take 8 = byteL x := List.take_of_length_le (by rw [byteL_len]; exact Nat.le_refl _)
          go_wp2_with fail
          exact ⟨⟨j + 1, A2, cap2, by go_num, by omega, by rw [show 8 * (j + 1) = 8 * j + 8 by omega], by rw [HS.out, ← h8, show 8 * (j + 1) = 8 * j + 8 by omega]; exact HO.out, HB.out⟩, by simp [intOf]; omega⟩
    · obtain rfl : j = n := by omega
      have h4 : l.take j = l := List.take_of_length_le (by rw [Hln.out]; exact Nat.le_refl _)
      rw [h4] at HO
      go_wp2_with fail
      go_ret
      exact ⟨A', cap', rfl, HO.out, HB.out⟩

/-- crc.Words, crc.Seal. -/
def crcW (l : List Nat) : Nat := crcNot (crcFold (crcNot 0) (bytesOf l))
theorem crcW_lt (l : List Nat) : crcW l < 4294967296 := crcNot_lt (crcFold_lt _ _ (by decide))
def sealN (n place : Nat) : Nat := crcW [n, place] * 4294967296 + n

theorem cwords_any (A : Option Addr) (n cap : Nat) (l : List Nat) (w : World) (hn : n ≤ 1000) (hl : ∀ j, j < l.length → l.getD j 0 < 18446744073709551616) (hr : Rd w 1 A n (wcells l)) :
    Calls Tryz.prog 171 #[.slice A n cap] w fun e w' => e = .returned (.int .u32 (crcW l : Nat)) ∧ Below w.heap.size w w' := by
  have H := Lib.hid (bytes_any A n cap l w hn hl hr)
  clear hl hr
  go_enter Tryz.func171, Tryz.ntmps171
  go_wp2_with fail
  refine H.out.mono ?_
  rintro e w1 ⟨A', cap', rfl, hO, hb⟩
  have HR := Lib.hid hO.rd
  have HB := Lib.hid hb
  clear hO hb
  go_wp2_with fail
  refine (sum_any A' (8 * n) cap' (bytesOf l) w1 (by omega) (fun j _ => bytesOf_lt l j) HR.out).mono ?_
  rintro e w2 ⟨rfl, rfl⟩
  go_wp2_with fail
  go_ret
  exact ⟨rfl, HB.out⟩

theorem rd_two (w : World) (a b : Nat) : Rd (w.alloc (.cells #[.int .u64 a, .int .u64 b] 28)) 1 (some ⟨w.heap.size, 0, none⟩) 2 (wcells [a, b]) := by
  refine ⟨rfl, fun _ => ⟨_, 0, rfl, by simp, fun j u hu => ?_⟩⟩
  rw [Nat.zero_add, (Blk.new w 28 _).cell]
  simpa [wcells] using hu
theorem or_u64_seal (c n : Nat) (hc : c < 4294967296) (hn : n < 4294967296) : bits .or .u64 ((c : Int) * 4294967296) (n : Int) = ((c * 4294967296 + n : Nat) : Int) := by
  rw [bits_join .u64 64 (by decide) wraps_u64 32 ((c : Int) * 4294967296) n (by omega) (by omega) (by omega) (by omega) (by omega) (by omega)]
  simp
theorem seal_any (n place : Nat) (w : World) (hn : n < 4294967296) (hp : place < 9223372036854775808) :
    Calls Tryz.prog 166 #[.int .u32 n, .int .i64 place] w fun e w' => e = .returned (.int .u64 (sealN n place : Nat)) ∧ Below w.heap.size w w' := by
  have h1 := or_u64_seal (crcW [n, place]) n (crcW_lt _) hn
  have h2 := crcW_lt [n, place]
  go_enter Tryz.func166, Tryz.ntmps166
  go_wp2_with fail
  refine (cwords_any _ 2 2 [n, place] _ (by omega) (fun j hj => by match j, hj with | 0, _ => simp; omega | 1, _ => simp; omega) (rd_two w n place)).mono ?_
  rintro e w1 ⟨rfl, hb⟩
  have HB := Lib.hid (((Below.refl w.heap.size w).alloc (Nat.le_refl _) _).trans (hb.mono (by simp)))
  clear hb
  go_wp2_with fail
  go_ret
  refine ⟨?_, HB.out⟩
  unfold sealN
  simp
theorem sealN_lt (n place : Nat) (hn : n < 4294967296) : sealN n place < 18446744073709551616 := by
  have := crcW_lt [n, place]
  unfold sealN
  omega
theorem sealN_mod (n place : Nat) (hn : n < 4294967296) : sealN n place % 4294967296 = n := by unfold sealN; omega
/-- crc.Open of what was sealed there. -/
theorem open_seal (n place : Nat) (w : World) (hn : n < 4294967296) (hp : place < 9223372036854775808) :
    Calls Tryz.prog 219 #[.int .u64 (sealN n place : Nat), .int .i64 place] w fun e w' => e = .returned (.tuple #[.int .u32 n, .bool true]) ∧ Below w.heap.size w w' := by
  have h1 := sealN_lt n place hn
  have h2 : ((sealN n place : Nat) : Int) % 4294967296 = (n : Int) := by have := sealN_mod n place hn; omega
  obtain ⟨s, Hs⟩ : ∃ s, Hid (sealN n place = s) := ⟨_, rfl⟩
  rw [Hs.out] at h1 h2 ⊢
  go_enter Tryz.func219, Tryz.ntmps219
  go_wp2_with fail
  refine (seal_any n place w hn hp).mono ?_
  rintro e w1 ⟨rfl, hb⟩
  rw [Hs.out]
  have HB := Lib.hid hb
  clear hb
  go_wp2_with fail
  go_ret2
  exact ⟨rfl, HB.out⟩
end Go.Proofs.YtcnjipicifkfjaaGreat
