/- bits and crc: what their functions compute. -/
import Derived.Test.YtcnjipicifkfjaaGreatRm02
import Derived.Test.YtcnjipicifkfjaaGreatRm01
import Derived.Test.YtcnjipicifkfjaaGreatProg
import Derived.Laws.BitsLemmas
import Derived.Lib.EndianBits
import Derived.WalkKit
import Derived.WalkLawsBesides
import Derived.WalkSpells
import Derived.BigRegion
import Derived.BigQuiet
import Derived.Handy
import Derived.Deep.RegionHeld3
import Derived.WideKeyEntry
import Derived.Deep.RegionLaw
import Derived.LoopN

namespace Go.Proofs.YtcnjipicifkfjaaGreat
open Go.RowKit
set_option linter.unusedVariables false
set_option linter.unusedSimpArgs false

theorem xor_nat (k : IntKind) (j : Nat) (hj : j ≤ k.bits) (hk : ∀ n : Int, 0 ≤ n → n < 2 ^ j → k.wrap n = n) (a b : Nat) (ha : a < 2 ^ j) (hb : b < 2 ^ j) : bits .xor k a b = ((a ^^^ b : Nat) : Int) := by
  have hp : 2 ^ j ≤ 2 ^ k.bits := Nat.pow_le_pow_right (by decide) hj
  have ha' : a % 2 ^ k.bits = a := Nat.mod_eq_of_lt (Nat.lt_of_lt_of_le ha hp)
  have hb' : b % 2 ^ k.bits = b := Nat.mod_eq_of_lt (Nat.lt_of_lt_of_le hb hp)
  simp only [bits, BitVec.ofInt_natCast, BitVec.toNat_xor, BitVec.toNat_ofNat, ha', hb']
  exact hk _ (Int.natCast_nonneg _) (by exact_mod_cast Nat.xor_lt_two_pow ha hb)
theorem xor_u8 (a b : Nat) (ha : a < 256) (hb : b < 256) : bits .xor .u8 a b = ((a ^^^ b : Nat) : Int) := xor_nat .u8 8 (by decide) wraps_u8 a b ha hb
theorem xor_u32 (a b : Nat) (ha : a < 4294967296) (hb : b < 4294967296) : bits .xor .u32 a b = ((a ^^^ b : Nat) : Int) := xor_nat .u32 32 (by decide) wraps_u32 a b ha hb

theorem up_pos (n k : Nat) (w : World) (hn : 0 < n) (hk : 0 < k) (hn2 : n ≤ 9223372036854775807) (hk2 : k ≤ 9223372036854775807) :
    Calls Tryz.prog 67 #[.int .i64 n, .int .i64 k] w fun e w' => e = .returned (.int .i64 (((n - 1) / k + 1 : Nat) : Int)) ∧ w = w' := by
  have hd : (n - 1) / k ≤ n - 1 := Nat.div_le_self _ _
  have he : ((n : Int) - 1) / (k : Int) = (((n - 1) / k : Nat) : Int) := by
    rw [show (n : Int) - 1 = ((n - 1 : Nat) : Int) by omega]
    exact (Int.natCast_ediv _ _).symm
  generalize (n - 1) / k = q at *
  have He := Lib.hid he
  have hb : (n : Int) - 1 < 9223372036854775807 := by omega
  clear he
  go_enter Tryz.func67, Tryz.ntmps67
  go_wp2_with fail
  go_ret
  refine ⟨?_, rfl⟩
  rw [He.out]
  refine ret_int ?_
  show wrap64 _ = _
  unfold wrap64
  omega
theorem mask_any (k : Nat) (w : World) (hk : 0 < k) (hk2 : k < 64) :
    Calls Tryz.prog 213 #[.int .i64 k] w fun e w' => e = .returned (.int .u64 ((2 ^ k - 1 : Nat) : Int)) ∧ w = w' := by
  have h1 : 2 ^ k < 18446744073709551616 := Nat.lt_of_lt_of_le (Nat.pow_lt_pow_right (by decide) hk2) (by decide)
  have h0 : 0 < 2 ^ k := Nat.two_pow_pos k
  have H : Hid (IntKind.u64.wrap (IntKind.u64.wrap (2 ^ k) - 1) = ((2 ^ k - 1 : Nat) : Int)) := by
    show _ = _
    have e : ((2 : Int) ^ k) = ((2 ^ k : Nat) : Int) := by simp
    rw [e, IntKind.wrap_u64, IntKind.wrap_u64]
    omega
  clear h1 h0
  go_enter Tryz.func213, Tryz.ntmps213
  go_wp2_with fail
  go_ret
  refine ⟨?_, rfl⟩
  rw [H.out]
  rfl

/-- The table of sixteen. -/
def tabL : List Nat := [0, 498536548, 997073096, 651767980, 1994146192, 1802195444, 1303535960, 1342533948, 3988292384, 4027552580, 3604390888, 3412177804, 2607071920, 2262029012, 2685067896, 3183342108]
def tab (i : Nat) : Nat := tabL.getD (i % 16) 0
set_option maxRecDepth 10000 in
theorem table_any (i : Nat) (w : World) (hi : i < 256) :
    Calls Tryz.prog 264 #[.int .u8 i] w fun e w' => e = .returned (.int .u32 (tab i : Nat)) ∧ w = w' := by
  have h1 : bits BinOp.and IntKind.u8 (i : Int) 15 = ((i % 16 : Nat) : Int) := by rw [u8_and15 _ (by omega) (by omega)]; simp
  obtain ⟨j, hj⟩ : ∃ j, i % 16 = j := ⟨_, rfl⟩
  have hj16 : j < 16 := by omega
  have H : Hid (tab i = tabL.getD j 0) := by show _ = _; unfold tab; rw [hj]
  rw [hj] at h1
  clear hj hi
  have h2 : ∀ w, (Instr.index 309 (.agg (tabL.map fun x => Value.int .u32 (x : Nat)).toArray) (.int .u8 (j : Int))).run Tryz.prog w = .ok (.int .u32 (tabL.getD j 0 : Nat)) w :=
    run_index_one 16 j _ Tryz.underlying309 Tryz.underlying219 rfl (by kernel_rfl) hj16 (by
      rw [List.getElem?_toArray, List.getElem?_map, List.getD_eq_getElem?_getD]
      have : j < tabL.length := hj16
      simp [this])
  obtain ⟨x, Hx⟩ : ∃ x, Hid (tabL.getD j 0 = x) := ⟨_, rfl⟩
  rw [Hx.out] at h2 H
  simp only [tabL, List.map_cons, List.map_nil, Int.cast_ofNat_Int, Int.natCast_zero] at h2
  rw [H.out]
  go_enter Tryz.func264, Tryz.ntmps264
  go_wp2_with fail
  go_ret
  exact ⟨rfl, rfl⟩

def crcStep (s b : Nat) : Nat :=
  let t := tab ((s % 256) ^^^ b) ^^^ (s / 16)
  tab ((t % 256) ^^^ (b / 16)) ^^^ (t / 16)
def crcFold (s : Nat) (l : List Nat) : Nat := l.foldl crcStep s
def bcells (l : List Nat) : List Value := l.map fun x => .int .u8 (x : Nat)
theorem bcells_len (l : List Nat) : (bcells l).length = l.length := by simp [bcells]
theorem bcells_at (l : List Nat) (j : Nat) (h : j < l.length) : (bcells l)[j]? = some (.int .u8 (l.getD j 0 : Nat)) := by simp [bcells, h, List.getD_eq_getElem?_getD]
theorem tab_lt (i : Nat) : tab i < 4294967296 := by
  unfold tab
  have h : i % 16 < 16 := Nat.mod_lt _ (by decide)
  generalize i % 16 = j at *
  have : ∀ j : Fin 16, tabL.getD j.1 0 < 4294967296 := by decide
  exact this ⟨j, h⟩
theorem crcStep_lt (s b : Nat) (h : s < 4294967296) : crcStep s b < 4294967296 := by
  unfold crcStep
  have h1 := tab_lt ((s % 256) ^^^ b)
  have h2 : tab ((s % 256) ^^^ b) ^^^ (s / 16) < 2 ^ 32 := Nat.xor_lt_two_pow h1 (by omega)
  generalize tab ((s % 256) ^^^ b) ^^^ (s / 16) = t at *
  have h3 := tab_lt ((t % 256) ^^^ (b / 16))
  exact Nat.xor_lt_two_pow (n := 32) h3 (by omega)
theorem crcFold_take (s : Nat) (l : List Nat) (j : Nat) (h : j < l.length) : crcFold s (l.take (j + 1)) = crcStep (crcFold s (l.take j)) (l.getD j 0) := by
  unfold crcFold
  rw [List.take_add_one, List.getElem?_eq_getElem h, Option.toList_some, List.foldl_append, List.getD_eq_getElem?_getD, List.getElem?_eq_getElem h]
  rfl
theorem crcFold_lt (s : Nat) (l : List Nat) (h : s < 4294967296) : crcFold s l < 4294967296 := by
  unfold crcFold
  induction l generalizing s with
  | nil => exact h
  | cons a l ih => exact ih _ (crcStep_lt s a h)

def crcNot (s : Nat) : Nat := 4294967295 ^^^ s
theorem crcNot_lt {s : Nat} (h : s < 4294967296) : crcNot s < 4294967296 := Nat.xor_lt_two_pow (n := 32) (by decide) h
theorem not_u32 (s : Nat) (h : s < 4294967296) : bits .xor .u32 IntKind.u32.max (s : Int) = ((crcNot s : Nat) : Int) := xor_u32 4294967295 s (by decide) h
theorem crcOne (s b : Nat) (hs : s < 4294967296) (hb : b < 256) : ((s % 256) ^^^ b) < 256 ∧ tab ((s % 256) ^^^ b) ^^^ (s / 16) < 4294967296 :=
  ⟨Nat.xor_lt_two_pow (n := 8) (by omega) hb, Nat.xor_lt_two_pow (n := 32) (tab_lt _) (by omega)⟩

set_option maxHeartbeats 1000000 in
theorem more_any (s : Nat) (A : Option Addr) (n cap : Nat) (l : List Nat) (w : World) (hs : s < 4294967296) (hn : n ≤ 1000000) (hl : ∀ j, j < l.length → l.getD j 0 < 256) (hr : Rd w 1 A n (bcells l)) :
    Calls Tryz.prog 238 #[.int .u32 s, .slice A n cap] w fun e w' => e = .returned (.int .u32 ((crcNot (crcFold (crcNot s) l) : Nat) : Int)) ∧ w = w' := by
  have Hr := Lib.hid hr
  have Hln : Hid (l.length = n) := by have := hr.1; rw [bcells_len] at this; show _ = _; omega
  have Hl := Lib.hid hl
  have h0 := not_u32 s hs
  have hs2 := crcNot_lt hs
  clear hr hl
  obtain ⟨s1, Hs1⟩ : ∃ s1, Hid (crcNot s = s1) := ⟨_, rfl⟩
  rw [Hs1.out] at h0 hs2 ⊢
  go_enter Tryz.func238, Tryz.ntmps238
  go_wp2_with fail
  go_loopw [0, 11] (fun v0 v11 wr => ∃ i : Nat, v11 = .int .i64 i ∧ i ≤ n ∧ v0 = .int .u32 ((crcFold s1 (l.take i) : Nat) : Int) ∧ w = wr) (fun _ v11 _ => n - (intOf v11).toNat)
  case atStart => exact ⟨0, rfl, Nat.zero_le _, rfl, rfl⟩
  case round =>
    obtain ⟨i, rfl, hi, rfl, rfl⟩ := hrel
    have hlt := crcFold_lt s1 (l.take i) hs2
    by_cases hin : i < n
    · obtain ⟨g, off, rfl, hg, hc⟩ := Hr.out.2 (by omega)
      have c0 := hc i _ (bcells_at l i (by rw [Hln.out]; exact hin))
      have hb := Hl.out i (by rw [Hln.out]; exact hin)
      have HS := Lib.hid (crcFold_take s1 l i (by rw [Hln.out]; exact hin))
      clear hc
      generalize l.getD i 0 = b at *
      generalize crcFold s1 (l.take i) = s2 at *
      obtain ⟨h1, h2⟩ := crcOne s2 b hlt hb
      have e1 : bits BinOp.xor IntKind.u8 ((s2 : Int) % 256) (b : Int) = (((s2 % 256) ^^^ b : Nat) : Int) := by
        rw [show (s2 : Int) % 256 = ((s2 % 256 : Nat) : Int) by simp, xor_u8 _ _ (by omega) hb]
      have HC : Hid (crcStep s2 b = crcStep s2 b) := rfl
      have hcs : crcStep s2 b = tab (((tab ((s2 % 256) ^^^ b) ^^^ (s2 / 16)) % 256) ^^^ (b / 16)) ^^^ ((tab ((s2 % 256) ^^^ b) ^^^ (s2 / 16)) / 16) := rfl
      have e2 : bits BinOp.xor IntKind.u32 (tab ((s2 % 256) ^^^ b) : Nat) ((s2 : Int) / 16) = ((tab ((s2 % 256) ^^^ b) ^^^ (s2 / 16) : Nat) : Int) := by
        rw [show (s2 : Int) / 16 = ((s2 / 16 : Nat) : Int) by simp, xor_u32 _ _ (tab_lt _) (by omega)]
      obtain ⟨k1, Hk1⟩ : ∃ k, Hid ((s2 % 256) ^^^ b = k) := ⟨_, rfl⟩
      rw [Hk1.out] at h1 h2 e1 e2 hcs
      obtain ⟨t1, Ht1⟩ : ∃ k, Hid (tab k1 ^^^ (s2 / 16) = k) := ⟨_, rfl⟩
      rw [Ht1.out] at h2 e2 hcs
      obtain ⟨h5, h6⟩ := crcOne t1 (b / 16) h2 (by omega)
      have e3 : bits BinOp.xor IntKind.u8 ((t1 : Int) % 256) ((b : Int) / 16) = (((t1 % 256) ^^^ (b / 16) : Nat) : Int) := by
        rw [show (t1 : Int) % 256 = ((t1 % 256 : Nat) : Int) by simp, show (b : Int) / 16 = ((b / 16 : Nat) : Int) by simp, xor_u8 _ _ (by omega) (by omega)]
      have e4 : bits BinOp.xor IntKind.u32 (tab ((t1 % 256) ^^^ (b / 16)) : Nat) ((t1 : Int) / 16) = ((tab ((t1 % 256) ^^^ (b / 16)) ^^^ (t1 / 16) : Nat) : Int) := by
        rw [show (t1 : Int) / 16 = ((t1 / 16 : Nat) : Int) by simp, xor_u32 _ _ (tab_lt _) (by omega)]
      rw [← hcs] at e4
      obtain ⟨k2, Hk2⟩ : ∃ k, Hid ((t1 % 256) ^^^ (b / 16) = k) := ⟨_, rfl⟩
      rw [Hk2.out] at h5 e3 e4
      obtain ⟨s3, Hs3⟩ : ∃ k, Hid (crcStep s2 b = k) := ⟨_, rfl⟩
      rw [Hs3.out] at e4 HS
      clear h6 hcs HC Hk1 Ht1 Hk2
      go_wp2_with (go_at_call 264; refine (table_any _ _ (by omega)).mono ?_; rintro e w' ⟨rfl, rfl⟩)
      exact ⟨⟨i + 1, by go_num, by omega, by rw [HS.out], by trivial⟩, by simp [intOf]; omega⟩
    · obtain rfl : i = n := by omega
      have h3 := not_u32 _ hlt
      have h4 : l.take i = l := List.take_of_length_le (by rw [Hln.out]; exact Nat.le_refl _)
      rw [h4] at h3 hlt ⊢
      go_wp2_with fail
      go_ret
      exact ⟨rfl, rfl⟩
end Go.Proofs.YtcnjipicifkfjaaGreat

/- runs: New, add, drop. -/
namespace Go.Proofs.YtcnjipicifkfjaaGreat
open Go.RowKit
set_option linter.unusedVariables false
set_option linter.unusedSimpArgs false

/-- What the two maps of free runs tell, if there is one run, or none. -/
def runF (o : Option (Nat × Nat)) (y : Nat) : Option Value := match o with | none => none | some r => if y = r.1 then some (.int .i64 (r.2 : Nat)) else none
def endF (o : Option (Nat × Nat)) (y : Nat) : Option Value := match o with | none => none | some r => if y = r.1 + r.2 then some (.int .i64 (r.1 : Nat)) else none
/-- An index of free runs at block x. -/
def IdxR (w : World) (F : Nat → Prop) (x K : Nat) (o : Option (Nat × Nat)) : Prop :=
  ∃ s e, Blk w x 253 #[.map (some s), .map (some e), .int .i64 K] ∧ MapF w s natK (runF o) ∧ MapF w e natK (endF o) ∧ F x ∧ F s ∧ F e ∧ s ≠ e
theorem key3 : KeyT Tryz.prog 3 natK := natT Tryz.underlying3
theorem MapF.entry {P : Program} {w : World} {r kt et t : TypeId} {κ : Type} [DecidableEq κ] {K : κ → Value} {f : κ → Option Value} (k : KeyT P kt K) (ht : P.underlying t = some (.map kt et)) {z : Value} (hz : ∀ w, (zeroValue et).run P w = .ok z w) (h : MapF w r K f) (x : κ) (hx : f x = none) :
    ∃ (c : Nat) (w1 : World), (Instr.mapEntry t (.map (some r)) (K x)).run P w = .ok (.tuple #[z, .int .i64 (c : Int)]) w1 ∧ Mod w w1 (fun k => k = r) ∧
      ∀ (v : Value) (w2 : World), w2.heap[r]? = w1.heap[r]? → ∃ w3, (Instr.entryStore t (.map (some r)) (.int .i64 (c : Int)) v).run P w2 = .ok () w3 ∧ MapF w3 r K (putF f x v) ∧ Mod w2 w3 (fun k => k = r) := by
  obtain ⟨es, c, h, h2⟩ := h
  have hsz := h.size
  have hf : findE x es 0 = none := by
    have := hx
    rw [h2] at this
    unfold getE at this
    cases hf : findE x es 0 with
    | none => rfl
    | some p => rw [hf] at this; cases this
  have hw1 : (w.putObj r (.map ((es ++ [(x, z, c)]).map (mkE K)).toArray (c + 1))).heap[r]? = some (.map ((es ++ [(x, z, c)]).map (mkE K)).toArray (c + 1)) := World.putObj_heap_same hsz
  refine ⟨c, w.putObj r (.map ((es ++ [(x, z, c)]).map (mkE K)).toArray (c + 1)), ?_, mod_put _ _ _, fun v w2 hw2 => ?_⟩
  · simp only [Instr.mapEntry, Sem.run_bind, run_underlying ht, Result.andThen_ok, run_getMap h, k.chk, k.find, hf, run_setMap h, hz, Sem.run_pure]
    simp [mkE, goInt]
  · rw [hw1] at hw2
    have hr : r < w2.heap.size := (Array.getElem?_eq_some_iff.1 hw2).1
    have hidx : ((es ++ [(x, z, c)]).map (mkE K)).toArray.findIdx? (fun e => (e.born : Int) == (c : Int)) = some es.length := by
      rw [WideElems.findIdx_arr]
      have := WideElems.findIdx_born (l := (es ++ [(x, z, c)]).map (mkE K)) (j := es.length) (e0 := mkE K (x, z, c)) (by
        have e : ((es ++ [(x, z, c)]).map (mkE K)).map (·.born) = (es ++ [(x, z, c)]).map (·.2.2) := by rw [List.map_map]; rfl
        rw [e, List.map_append, List.nodup_append]
        refine ⟨h.born, by simp, fun a ha b hb => ?_⟩
        simp at hb
        subst hb
        obtain ⟨e, he, rfl⟩ := List.mem_map.1 ha
        have := h.lt e he
        omega) (by simp)
      exact this
    refine ⟨w2.putObj r (.map ((es ++ [(x, v, c)]).map (mkE K)).toArray (c + 1)), ?_, ⟨es ++ [(x, v, c)], c + 1, ⟨World.putObj_heap_same hr, ?_, ?_, ?_⟩, fun y => ?_⟩, mod_put _ _ _⟩
    · have hg : (getObj r).run P w2 = .ok (.map ((es ++ [(x, z, c)]).map (mkE K)).toArray (c + 1)) w2 := MapKept.run_getObj_map hw2
      have hs : ∀ o, (setObj r o).run P w2 = .ok () (w2.putObj r o) := fun o => MapKept.run_setObj_map o hw2
      have ha : (asInt (.int .i64 (c : Int))).run P w2 = .ok (c : Int) w2 := rfl
      simp only [Instr.entryStore, Sem.run_bind, Result.andThen_ok, hg, ha, hidx, hs]
      congr 3
      rw [List.modify_toArray]
      congr 1
      rw [List.map_append, List.map_append]
      have := WideElems.modify_last (fun e : MapEntry => { e with val := v }) (mkE K (x, z, c)) (es.map (mkE K))
      rw [List.length_map] at this
      exact this
    · rw [List.map_append, List.nodup_append]
      refine ⟨h.keys, by simp, fun a ha b hb => ?_⟩
      simp at hb
      subst hb
      obtain ⟨e, he, rfl⟩ := List.mem_map.1 ha
      exact findE_none hf e he
    · intro e he
      rcases List.mem_append.1 he with he | he
      · have := h.lt e he; omega
      · simp at he; subst he; simp
    · rw [List.map_append, List.nodup_append]
      refine ⟨h.born, by simp, fun a ha b hb => ?_⟩
      simp at hb
      subst hb
      obtain ⟨e, he, rfl⟩ := List.mem_map.1 ha
      have := h.lt e he
      omega
    · unfold putF
      rw [getE_append, getE_cons]
      by_cases hy : y = x
      · subst hy
        rw [if_pos rfl, if_pos rfl]
        have : getE es y = none := by unfold getE; rw [hf]; rfl
        rw [this]; rfl
      · rw [if_neg hy, if_neg (fun e => hy e.symm), h2]
        simp [getE, findE]
theorem zeroValue3 : ∀ w, (zeroValue 3).run Tryz.prog w = .ok (.int .i64 0) w := fun w => by kernel_rfl
set_option maxRecDepth 100000 in
set_option maxHeartbeats 1000000 in
theorem xadd_any (F : Nat → Prop) (x K st n : Nat) (w : World) (h : IdxR w F x K none) (hst : st ≤ 1000) (hn : n ≤ 1000) :
    Calls Tryz.prog 226 #[.pointer (some ⟨x, 0, none⟩), .int .i64 st, .int .i64 n] w fun e w' => (∃ v, e = .returned v) ∧ IdxR w' F x K (some (st, n)) ∧ Mod w w' F := by
  obtain ⟨s, e, hb, hs, he, f1, f2, f3, hne⟩ := h
  have c0 : w.cell? ⟨x, 0, none⟩ = some (.map (some s)) := hb.cell 0
  have c1 : w.cell? ⟨x, 1, none⟩ = some (.map (some e)) := hb.cell 1
  obtain ⟨ca, w1, r1, m1, k1⟩ := MapF.entry (w := w.drew) key3 Tryz.underlying251 zeroValue3 (hs.drewN 1) st rfl
  obtain ⟨w2, r2, hs2, m2⟩ := k1 (.int .i64 (n : Nat)) w1 rfl
  have he2 : MapF w2 e natK (endF none) := ((he.drewN 1).mod m1 (fun h => hne h.symm)).mod m2 (fun h => hne h.symm)
  obtain ⟨cb, w3, r3, m3, k3⟩ := MapF.entry key3 Tryz.underlying251 zeroValue3 he2 (st + n) rfl
  obtain ⟨w4, r4, he4, m4⟩ := k3 (.int .i64 (st : Nat)) w3 rfl
  have hs4 := (hs2.mod m3 (fun h => hne h)).mod m4 (fun h => hne h)
  have xs : x ≠ s := by
    rintro rfl
    obtain ⟨es, c, hm, _⟩ := hs
    have h1 := hm.at_
    unfold Blk at hb
    rw [hb] at h1; cases h1
  have xe : x ≠ e := by
    rintro rfl
    obtain ⟨es, c, hm, _⟩ := he
    have h1 := hm.at_
    unfold Blk at hb
    rw [hb] at h1; cases h1
  have hb4 := m4.blk (m3.blk (m2.blk (m1.blk (hb.drew) xs) xs) xe) xe
  have HR : Hid (IdxR w4 F x K (some (st, n)) ∧ Mod w w4 F) := by
    refine ⟨⟨s, e, hb4, ?_, ?_, f1, f2, f3, hne⟩, ?_⟩
    · obtain ⟨es, c, hm, h2⟩ := hs4
      exact ⟨es, c, hm, fun y => by rw [← h2 y]; unfold putF runF; simp⟩
    · obtain ⟨es, c, hm, h2⟩ := he4
      exact ⟨es, c, hm, fun y => by rw [← h2 y]; unfold putF endF; simp⟩
    · exact (((((Mod.refl w F).drewN 1).trans m1 (fun _ _ e => by rw [e]; exact f2)).trans m2 (fun _ _ e => by rw [e]; exact f2)).trans m3 (fun _ _ e => by rw [e]; exact f3)).trans m4 (fun _ _ e => by rw [e]; exact f3)
  have r1' : (Instr.mapEntry 251 (.map (some s)) (.int .i64 (st : Nat))).run Tryz.prog w.drew = .ok (.tuple #[.int .i64 0, .int .i64 (ca : Int)]) w1 := r1
  have r3' : (Instr.mapEntry 251 (.map (some e)) (.int .i64 ((st + n : Nat) : Int))).run Tryz.prog w2 = .ok (.tuple #[.int .i64 0, .int .i64 (cb : Int)]) w3 := r3
  have hsum : (st : Int) + (n : Int) = ((st + n : Nat) : Int) := by omega
  obtain ⟨q, Hq⟩ : ∃ q, Hid (st + n = q) := ⟨_, rfl⟩
  rw [Hq.out] at r3' hsum
  have hq : q ≤ 2000 := by rw [← Hq.out]; omega
  have hw : IntKind.i64.wrap (q : Int) = (q : Int) := IntWalk.i64_in _ (by omega)
  clear r1 r3 k1 k3 hs2 he2 he4 hs4 hb4 hs he m1 m2 m3 m4 xs xe hne hb
  go_enter Tryz.func226, Tryz.ntmps226
  go_region
  all_goals
    go_wp2_with fail
    go_end0
    exact ⟨⟨_, rfl⟩, HR.out⟩
end Go.Proofs.YtcnjipicifkfjaaGreat

/- runs: New, drop, Has, Give, Take, Fill. -/
namespace Go.Proofs.YtcnjipicifkfjaaGreat
open Go.RowKit
set_option linter.unusedVariables false
set_option linter.unusedSimpArgs false

section
variable {w w' : World} {F F' S : Nat → Prop} {x K : Nat} {o : Option (Nat × Nat)}
theorem IdxR.mod (h : IdxR w F x K o) (m : Mod w w' S) (hs : ∀ k, F k → ¬ S k) : IdxR w' F x K o := by
  obtain ⟨s, e, hb, h1, h2, f1, f2, f3, hne⟩ := h
  exact ⟨s, e, m.blk hb (hs _ f1), h1.mod m (hs _ f2), h2.mod m (hs _ f3), f1, f2, f3, hne⟩
theorem IdxR.weak (h : IdxR w F x K o) (hF : ∀ k, k < w.heap.size → F k → F' k) : IdxR w F' x K o := by
  obtain ⟨s, e, hb, h1, h2, f1, f2, f3, hne⟩ := h
  exact ⟨s, e, hb, h1, h2, hF _ hb.lt f1, hF _ h1.size f2, hF _ h2.size f3, hne⟩
theorem IdxR.below {B : Nat} (h : IdxR w F x K o) (hb : Below B w w') (hB : w.heap.size ≤ B) : IdxR w' F x K o := by
  have h2 := (h.weak (F' := fun k => F k ∧ k < w.heap.size) (fun k h1 h2 => ⟨h2, h1⟩)).mod (Mod.of_below hb) (fun k hk => Nat.not_le.2 (Nat.lt_of_lt_of_le hk.2 hB))
  exact h2.weak (fun k _ hk => hk.1)
end
theorem step_delete {P : Program} {ops : Array Oper} {o : Oper} {a : Act} {w w' : World} {K : Act → World → Prop} {Q : Exit → Act → World → Prop} {E : Prop} (hgd : o.guard = none) (m x : Operand) (t k : TypeId)
    (ho : o.op = .call { callee := .builtin .delete, args := #[m, x], argTypes := #[t, k] }) (mv xv : Value) (hm : a.eval m = mv) (hx : a.eval x = xv) (hrun : (Builtin.delete_ #[t, k] o.type #[mv, xv]).run P w = .ok (.tuple #[]) w')
    (h : K (a.put o.dst (.tuple #[])) w') : if Region.wanted o (yielded ops a.tmps) = true then Oper.wp P o a w K Q else E := by
  have hw : Region.wanted o (yielded ops a.tmps) = true := by simp [Region.wanted, hgd]
  rw [if_pos hw]
  unfold Oper.wp execOp
  simp only [ho, resolve, invoke, builtin, Sem.run_bind, Sem.run_pure, Result.andThen_ok, List.map_toArray, List.map_cons, List.map_nil, hm, hx, hrun]
  exact h
theorem list_delete {P : Program} {ops : Array Oper} {rest : List Oper} {o : Oper} {a : Act} {w w' : World} {Q : Exit → Act → World → Prop} (hgd : o.guard = none) (m x : Operand) (t k : TypeId)
    (ho : o.op = .call { callee := .builtin .delete, args := #[m, x], argTypes := #[t, k] }) (mv xv : Value) (hm : a.eval m = mv) (hx : a.eval x = xv) (hrun : (Builtin.delete_ #[t, k] o.type #[mv, xv]).run P w = .ok (.tuple #[]) w')
    (h : wpList P ops Q rest (a.put o.dst (.tuple #[])) w') : wpList P ops Q (o :: rest) a w := by
  refine wpList_plain hgd fun K hK => ?_
  unfold Oper.wp execOp
  simp only [ho, resolve, invoke, builtin, Sem.run_bind, Sem.run_pure, Result.andThen_ok, List.map_toArray, List.map_cons, List.map_nil, hm, hx, hrun]
  exact hK _ _ h
theorem runF_at (st n : Nat) : runF (some (st, n)) st = some (.int .i64 (n : Nat)) := by unfold runF; simp
theorem xnew_any (K : Nat) (w : World) (hK : K ≤ 1000) :
    Calls Tryz.prog 185 #[.int .i64 K] w fun e w' => ∃ x, e = .returned (.pointer (some ⟨x, 0, none⟩)) ∧ IdxR w' (fun b => w.heap.size ≤ b) x K none ∧ Below w.heap.size w w' := by
  have hmm := @run_makeMap Tryz.prog
  obtain ⟨q, Hq⟩ : ∃ q, Hid (w.heap.size = q) := ⟨_, rfl⟩
  have HI : Hid (IdxR (((w.alloc (.map #[] 0)).alloc (.map #[] 0)).alloc (.cells #[.map (some q), .map (some (q + 1)), .int .i64 K] 253)) (fun b => q ≤ b) (q + 2) K none) := by
    have h1 : (w.alloc (.map #[] 0)).heap.size = q + 1 := by rw [World.size_alloc, Hq.out]
    have h2 : ((w.alloc (.map #[] 0)).alloc (.map #[] 0)).heap.size = q + 2 := by rw [World.size_alloc, h1]
    have hs := MapF.made w q Hq.out natK
    have he := MapF.made (w.alloc (.map #[] 0)) (q + 1) h1 natK
    refine ⟨q, q + 1, by rw [← h2]; exact Blk.new _ 253 _, (hs.mod ((Mod.refl _ Nob).alloc _) (fun h => h)).mod ((Mod.refl _ Nob).alloc _) (fun h => h), he.mod ((Mod.refl _ Nob).alloc _) (fun h => h), ?_, ?_, ?_, by omega⟩
    · show q ≤ q + 2; omega
    · show q ≤ q; omega
    · show q ≤ q + 1; omega
  have HB : Hid (Below q w (((w.alloc (.map #[] 0)).alloc (.map #[] 0)).alloc (.cells #[.map (some q), .map (some (q + 1)), .int .i64 K] 253))) := by
    rw [← Hq.out]
    exact (((Below.refl _ w).alloc (Nat.le_refl _) _).alloc (by simp) _).alloc (by simp; omega) _
  have hmax : max (K : Int) 0 = (K : Int) := by omega
  go_enter Tryz.func185, Tryz.ntmps185
  go_wp2_with fail
  go_ret
  rw [Hq.out]
  exact ⟨q + 2, rfl, HI.out, HB.out⟩
set_option maxRecDepth 100000 in
set_option maxHeartbeats 1000000 in
theorem xdrop_any (F : Nat → Prop) (x K st n : Nat) (w : World) (h : IdxR w F x K (some (st, n))) (hst : st ≤ 1000) (hn : n ≤ 1000) :
    Calls Tryz.prog 225 #[.pointer (some ⟨x, 0, none⟩), .int .i64 st] w fun e w' => (∃ v, e = .returned v) ∧ IdxR w' F x K none ∧ Mod w w' F := by
  obtain ⟨s, e, hb, hs, he, f1, f2, f3, hne⟩ := h
  have c0 : w.cell? ⟨x, 0, none⟩ = some (.map (some s)) := hb.cell 0
  have c1 : w.cell? ⟨x, 1, none⟩ = some (.map (some e)) := hb.cell 1
  have xs : x ≠ s := by
    rintro rfl
    obtain ⟨es, c, hm, _⟩ := hs
    have h1 := hm.at_
    unfold Blk at hb
    rw [hb] at h1; cases h1
  have xe : x ≠ e := by
    rintro rfl
    obtain ⟨es, c, hm, _⟩ := he
    have h1 := hm.at_
    unfold Blk at hb
    rw [hb] at h1; cases h1
  have hlk : (Instr.lookup 251 (.map (some s)) (.int .i64 (st : Nat)) false).run Tryz.prog w = .ok (.int .i64 (n : Nat)) w := by
    have := hs.look key3 Tryz.underlying251 zeroValue3 st
    rw [runF_at] at this
    exact this
  have hlkd : (Instr.lookup 251 (.map (some s)) (.int .i64 (st : Nat)) false).run Tryz.prog w.drew = .ok (.int .i64 (n : Nat)) w.drew := by
    have := (hs.drewN 1).look key3 Tryz.underlying251 zeroValue3 st
    rw [runF_at] at this
    exact this
  obtain ⟨w1, r1, he1, m1⟩ := MapF.del (w := w.drew) key3 Tryz.underlying251 (he.drewN 1) (st + n) #[251, 3] rfl 0
  obtain ⟨w2, r2, hs2, m2⟩ := MapF.del key3 Tryz.underlying251 ((hs.drewN 1).mod m1 hne) st #[251, 3] rfl 0
  have r1' : (Builtin.delete_ #[251, 3] 0 #[.map (some e), .int .i64 ((st + n : Nat) : Int)]).run Tryz.prog w.drew = .ok (.tuple #[]) w1 := r1
  have r2' : (Builtin.delete_ #[251, 3] 0 #[.map (some s), .int .i64 (st : Nat)]).run Tryz.prog w1 = .ok (.tuple #[]) w2 := r2
  have hb1 := m1.blk hb.drew xe
  have y0 : w1.cell? ⟨x, 0, none⟩ = some (.map (some s)) := hb1.cell 0
  have HR : Hid (IdxR w2 F x K none ∧ Mod w w2 F) := by
    refine ⟨⟨s, e, m2.blk hb1 xs, ?_, ?_, f1, f2, f3, hne⟩, ?_⟩
    · obtain ⟨es, c, hm, h2⟩ := hs2
      exact ⟨es, c, hm, fun y => by rw [← h2 y]; unfold delF runF; simp⟩
    · obtain ⟨es, c, hm, h2⟩ := he1.mod m2 (fun h => hne h.symm)
      exact ⟨es, c, hm, fun y => by rw [← h2 y]; unfold delF endF; simp⟩
    · exact ((((Mod.refl w F).drewN 1).trans m1 (fun _ _ e => by rw [e]; exact f3)).trans m2 (fun _ _ e => by rw [e]; exact f2))
  have R1 := Lib.hid r1'
  have R2 := Lib.hid r2'
  have hsum : (st : Int) + (n : Int) = ((st + n : Nat) : Int) := by omega
  obtain ⟨q, Hq⟩ : ∃ q, Hid (st + n = q) := ⟨_, rfl⟩
  rw [Hq.out] at R1 hsum
  have hq : q ≤ 2000 := by rw [← Hq.out]; omega
  have hw : IntKind.i64.wrap (q : Int) = (q : Int) := IntWalk.i64_in _ (by omega)
  clear r1 r2 r1' r2' hs2 he1 hs he m1 m2 xs xe hne hb hb1
  go_enter Tryz.func225, Tryz.ntmps225
  go_wp2_with fail
  go_region_law ((refine step_delete (by rfl) (.tmp 7) (.tmp 15) 251 3 (by rfl) _ _ (by rfl) (by rfl) R1.out ?_))
  all_goals
    go_wp2_with (refine list_delete rfl (.tmp 19) (.tmp 20) 251 3 rfl _ _ rfl rfl R2.out ?_)
    go_end0
    exact ⟨⟨_, rfl⟩, HR.out⟩
end Go.Proofs.YtcnjipicifkfjaaGreat

/- runs: Has, Give, Take, Fill. -/
namespace Go.Proofs.YtcnjipicifkfjaaGreat
open Go.RowKit
set_option linter.unusedVariables false
set_option linter.unusedSimpArgs false

theorem MapF.none_ {w : World} {r : Nat} (h : MapF w r natK (runF none)) : ∃ c, w.heap[r]? = some (.map #[] c) := by
  obtain ⟨es, c, hm, h2⟩ := h
  cases es with
  | nil => exact ⟨c, hm.at_⟩
  | cons e es =>
    have := h2 e.1
    rw [getE_cons, if_pos rfl] at this
    cases this
theorem MapF.one_ {w : World} {r st n : Nat} (h : MapF w r natK (runF (some (st, n)))) : ∃ b c, b < c ∧ w.heap[r]? = some (.map #[{ key := .int .i64 (st : Int), val := .int .i64 (n : Int), born := b }] c) := by
  obtain ⟨es, c, hm, h2⟩ := h
  have h3 := h2 st
  rw [runF_at] at h3
  obtain ⟨b, hb⟩ := getE_mem h3.symm
  have hall : ∀ e ∈ es, e.1 = st := by
    rintro ⟨y, v, b'⟩ he
    have h4 := h2 y
    rw [getE_of_mem hm.keys he] at h4
    unfold runF at h4
    simp only at h4
    split at h4
    · assumption
    · cases h4
  have hes : es = [(st, .int .i64 (n : Nat), b)] := by
    cases es with
    | nil => cases hb
    | cons e es =>
      cases es with
      | nil =>
        rcases List.mem_cons.1 hb with rfl | h
        · rfl
        · cases h
      | cons e2 es =>
        exfalso
        have hk := hm.keys
        rw [List.map_cons, List.map_cons, List.nodup_cons] at hk
        exact hk.1 (by rw [hall e (by simp), hall e2 (by simp)]; simp)
  refine ⟨b, c, hm.lt _ hb, ?_⟩
  rw [hm.at_, hes]
  rfl
set_option maxRecDepth 100000 in
set_option maxHeartbeats 1000000 in
theorem xhas_none (F : Nat → Prop) (x K b : Nat) (w : World) (h : IdxR w F x K none) :
    Calls Tryz.prog 224 #[.pointer (some ⟨x, 0, none⟩), .int .i64 b] w fun e w' => e = .returned (.bool false) ∧ Below w.heap.size w w' := by
  obtain ⟨s, e, hb, hs, he, f1, f2, f3, hne⟩ := h
  have c0 : w.cell? ⟨x, 0, none⟩ = some (.map (some s)) := hb.cell 0
  obtain ⟨c, hm⟩ := hs.none_
  have hrg : (Instr.range 251 (.map (some s))).run Tryz.prog w = .ok (.pointer (some ⟨w.heap.size, 0, none⟩)) (w.alloc (.mapIter (some s) c #[] c)) := by
    simp only [Instr.range, Sem.run_bind, run_underlying Tryz.underlying251, Result.andThen_ok, MapKept.run_getObj_map hm]
    rfl
  have hsl : s < w.heap.size := hs.size
  obtain ⟨q, Hq⟩ : ∃ q, Hid (w.heap.size = q) := ⟨_, rfl⟩
  obtain ⟨w1, Hw1⟩ : ∃ w1, Hid (w.alloc (.mapIter (some s) c #[] c) = w1) := ⟨_, rfl⟩
  have HB := Lib.hid (Hw1.out ▸ ((Below.refl w.heap.size w).alloc (Nat.le_refl _) (.mapIter (some s) c #[] c)))
  have hq1 : w1.heap[q]? = some (.mapIter (some s) c #[] c) := by rw [← Hw1.out, ← Hq.out]; exact heap_alloc_new w _
  have hm1 : w1.heap[s]? = some (.map #[] c) := by rw [← Hw1.out]; exact (Below.heap_alloc w _ s hsl).trans hm
  have hnx : ∀ ty, (Instr.next (.pointer (some ⟨q, 0, none⟩)) false ty).run Tryz.prog w1 = .ok (.tuple #[.bool false]) w1 := fun ty => run_next_none hm1 hq1
  rw [Hw1.out, Hq.out] at hrg
  clear hb hs he hm hq1 hm1 hsl
  go_enter Tryz.func224, Tryz.ntmps224
  go_wp2_with fail
  refine wp_loop_rounds 1 ?_
  rw [rounds_succ]
  go_wp2_with fail
  go_ret
  exact ⟨rfl, HB.out⟩
set_option maxRecDepth 100000 in
set_option maxHeartbeats 1000000 in
theorem xhas_one (F : Nat → Prop) (x K b st n : Nat) (w : World) (h : IdxR w F x K (some (st, n))) (hst : st ≤ 1000) (hn : n ≤ 1000) (hno : b < st ∨ st + n ≤ b) (hbb : b ≤ 1000) :
    Calls Tryz.prog 224 #[.pointer (some ⟨x, 0, none⟩), .int .i64 b] w fun e w' => e = .returned (.bool false) ∧ Below w.heap.size w w' := by
  obtain ⟨s, e, hb, hs, he, f1, f2, f3, hne⟩ := h
  have c0 : w.cell? ⟨x, 0, none⟩ = some (.map (some s)) := hb.cell 0
  obtain ⟨bo, c, hbc, hm⟩ := hs.one_
  have hrg : (Instr.range 251 (.map (some s))).run Tryz.prog w = .ok (.pointer (some ⟨w.heap.size, 0, none⟩)) (w.alloc (.mapIter (some s) c #[] c)) := by
    simp only [Instr.range, Sem.run_bind, run_underlying Tryz.underlying251, Result.andThen_ok, MapKept.run_getObj_map hm]
    rfl
  have hsl : s < w.heap.size := hs.size
  obtain ⟨q, Hq⟩ : ∃ q, Hid (w.heap.size = q) := ⟨_, rfl⟩
  obtain ⟨w1, Hw1⟩ : ∃ w1, Hid (w.alloc (.mapIter (some s) c #[] c) = w1) := ⟨_, rfl⟩
  have hB1 : Below w.heap.size w w1 := Hw1.out ▸ ((Below.refl w.heap.size w).alloc (Nat.le_refl _) (.mapIter (some s) c #[] c))
  have hq1 : w1.heap[q]? = some (.mapIter (some s) c #[] c) := by rw [← Hw1.out, ← Hq.out]; exact heap_alloc_new w _
  have hm1 : w1.heap[s]? = some (.map #[{ key := .int .i64 (st : Int), val := .int .i64 (n : Int), born := bo }] c) := by rw [← Hw1.out]; exact (Below.heap_alloc w _ s hsl).trans hm
  have hsq : s ≠ q := by rw [← Hq.out]; omega
  have hnx : ∃ w2, (∀ ty, (Instr.next (.pointer (some ⟨q, 0, none⟩)) false ty).run Tryz.prog w1 = .ok (.tuple #[.bool true, .int .i64 (st : Int), .int .i64 (n : Int)]) w2) ∧ w2.heap[q]? = some (.mapIter (some s) c #[bo] c) ∧ Mod w1 w2 (fun k => k = q) ∧
      (Instr.entry (.pointer (some ⟨q, 0, none⟩))).run Tryz.prog w2 = .ok (.tuple #[.int .i64 (st : Int), .int .i64 (n : Int)]) w2 := by
    obtain ⟨w2, h1, h2, h3, h4⟩ := run_next_one (P := Tryz.prog) (ty := 0) hm1 hbc hq1
    exact ⟨w2, fun ty => h1, h2, h3, h4⟩
  obtain ⟨w2, hn1, hq2, hM2, hen⟩ := hnx
  have hm2 := (hM2.block s (by have := hB1.size; omega) hsq).trans hm1
  have hn2 : ∀ ty, (Instr.next (.pointer (some ⟨q, 0, none⟩)) false ty).run Tryz.prog w2 = .ok (.tuple #[.bool false]) w2 := fun ty => run_next_end (b := 0) hm2 hbc hq2
  have HB := Lib.hid (hB1.trans (hM2.below (B := w.heap.size) hB1.size (fun k e => by rw [e, ← Hq.out]; exact Nat.le_refl _)))
  rw [Hw1.out, Hq.out] at hrg
  clear hb hs he hm hq1 hm1 hsl hq2 hM2 hm2 hbc hB1
  rcases hno with h1 | h1
  · have hlt : ¬ ((b : Int) ≥ (st : Int)) := by omega
    go_enter Tryz.func224, Tryz.ntmps224
    go_wp2_with fail
    refine wp_loop_rounds 2 ?_
    rw [rounds_succ]
    go_wp2_with fail
    rw [rounds_succ]
    go_wp2_with fail
    go_ret
    exact ⟨rfl, HB.out⟩
  · have hlt : ((b : Int) ≥ (st : Int)) := by omega
    have hlt2 : ¬ ((b : Int) < (st : Int) + (n : Int)) := by omega
    go_enter Tryz.func224, Tryz.ntmps224
    go_wp2_with fail
    refine wp_loop_rounds 2 ?_
    rw [rounds_succ]
    go_wp2_with fail
    rw [rounds_succ]
    go_wp2_with fail
    go_ret
    exact ⟨rfl, HB.out⟩
end Go.Proofs.YtcnjipicifkfjaaGreat
