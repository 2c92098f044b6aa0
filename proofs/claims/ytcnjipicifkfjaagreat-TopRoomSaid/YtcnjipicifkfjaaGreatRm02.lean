/- Maps: what they hold, as lists of entries; their operations. -/
import Derived.Test.YtcnjipicifkfjaaGreatRm01
import Derived.Test.YtcnjipicifkfjaaGreatProg
import Derived.Maps.RangeWalk
import Derived.Laws.StructEq
import Derived.RangeFuncRecord
import Derived.ProofKit
import Derived.OpenShut
import Derived.Deep.Slices
import Derived.Deep.Fields
import Derived.Lib.SmallJoins
import Derived.Laws.CopyRow
import Derived.OwnWalk

namespace Go.Proofs.YtcnjipicifkfjaaGreat
open Go.RowKit
set_option linter.unusedVariables false
set_option linter.unusedSimpArgs false

section
variable {κ : Type} [DecidableEq κ]
def mkE (K : κ → Value) (e : κ × Value × Nat) : MapEntry := { key := K e.1, val := e.2.1, born := e.2.2 }
def findE (x : κ) : List (κ × Value × Nat) → Nat → Option (Nat × Value)
  | [], _ => none
  | e :: es, i => if e.1 = x then some (i, e.2.1) else findE x es (i + 1)
/-- What is at a key. -/
def getE (es : List (κ × Value × Nat)) (x : κ) : Option Value := (findE x es 0).map (·.2)
/-- Keys of a type: they can be asked for. -/
structure KeyT (P : Program) (kt : TypeId) (K : κ → Value) : Prop where
  chk : ∀ (b : Bool) (x : κ) (w : World), (Instr.checkKey b 10000 kt (K x)).run P w = .ok () w
  find : ∀ (x : κ) (es : List (κ × Value × Nat)) (w : World), (Instr.findKey kt (K x) (es.map (mkE K))).run P w = .ok (findE x es 0) w
  same : ∀ x, Instr.sameBits 10000 (K x) (K x) = true

theorem findE_shift (x : κ) (es : List (κ × Value × Nat)) (i : Nat) : findE x es (i + 1) = (findE x es i).map fun p => (p.1 + 1, p.2) := by
  induction es generalizing i with
  | nil => rfl
  | cons e es ih =>
    simp only [findE]
    split
    · rfl
    · exact ih _
theorem findE_none {x : κ} {es : List (κ × Value × Nat)} {i : Nat} (h : findE x es i = none) : ∀ e ∈ es, e.1 ≠ x := by
  induction es generalizing i with
  | nil => intro e he; cases he
  | cons a es ih =>
    simp only [findE] at h
    split at h
    · cases h
    · rename_i hne
      intro e he
      rcases List.mem_cons.1 he with rfl | he
      · exact hne
      · exact ih h e he
theorem findE_some {x : κ} {es : List (κ × Value × Nat)} {i j : Nat} {v : Value} (h : findE x es i = some (j, v)) : i ≤ j ∧ ∃ b, es[j - i]? = some (x, v, b) := by
  induction es generalizing i with
  | nil => cases h
  | cons a es ih =>
    simp only [findE] at h
    split at h
    · rename_i he
      cases h
      refine ⟨Nat.le_refl _, a.2.2, ?_⟩
      simp [← he]
    · obtain ⟨h1, b, h2⟩ := ih h
      refine ⟨by omega, b, ?_⟩
      obtain ⟨k, hk⟩ : ∃ k, j - i = k + 1 := ⟨j - i - 1, by omega⟩
      rw [hk, List.getElem?_cons_succ, ← h2]
      congr 1
      omega
theorem getE_cons (e : κ × Value × Nat) (es : List (κ × Value × Nat)) (x : κ) : getE (e :: es) x = if e.1 = x then some e.2.1 else getE es x := by
  unfold getE
  simp only [findE]
  split
  · rfl
  · rw [findE_shift]
    cases findE x es 0 <;> rfl
theorem getE_append (es fs : List (κ × Value × Nat)) (x : κ) : getE (es ++ fs) x = (getE es x).or (getE fs x) := by
  induction es with
  | nil => simp [getE, findE]
  | cons e es ih =>
    rw [List.cons_append, getE_cons, getE_cons]
    split
    · rfl
    · exact ih
theorem getE_mem {es : List (κ × Value × Nat)} {x : κ} {v : Value} (h : getE es x = some v) : ∃ b, (x, v, b) ∈ es := by
  unfold getE at h
  cases hf : findE x es 0 with
  | none => rw [hf] at h; cases h
  | some p =>
    rw [hf] at h
    cases h
    obtain ⟨_, b, hb⟩ := findE_some (j := p.1) (v := p.2) hf
    exact ⟨b, List.mem_of_getElem? hb⟩
theorem getE_of_mem {es : List (κ × Value × Nat)} (hn : (es.map (·.1)).Nodup) {x : κ} {v : Value} {b : Nat} (h : (x, v, b) ∈ es) : getE es x = some v := by
  induction es with
  | nil => cases h
  | cons e es ih =>
    rw [List.map_cons, List.nodup_cons] at hn
    rw [getE_cons]
    rcases List.mem_cons.1 h with rfl | h
    · simp
    · rw [if_neg (fun e' => hn.1 (by rw [e']; exact List.mem_map.2 ⟨_, h, rfl⟩))]
      exact ih hn.2 h

/-- A map's block holds these entries. -/
structure MapR (w : World) (r : Nat) (K : κ → Value) (es : List (κ × Value × Nat)) (clock : Nat) : Prop where
  at_ : w.heap[r]? = some (.map (es.map (mkE K)).toArray clock)
  keys : (es.map (·.1)).Nodup
  lt : ∀ e ∈ es, e.2.2 < clock
  born : (es.map (·.2.2)).Nodup
/-- A map's block tells what is at each key. -/
def MapF (w : World) (r : Nat) (K : κ → Value) (f : κ → Option Value) : Prop := ∃ es clock, MapR w r K es clock ∧ ∀ x, f x = getE es x

variable {P : Program} {w w' : World} {r kt et t : TypeId} {K : κ → Value} {es : List (κ × Value × Nat)} {clock : Nat} {f : κ → Option Value} {S : Nat → Prop}
theorem MapR.size {κ : Type} {w : World} {r : Nat} {K : κ → Value} {es : List (κ × Value × Nat)} {clock : Nat} (h : MapR w r K es clock) : r < w.heap.size := (Array.getElem?_eq_some_iff.1 h.at_).1
theorem MapR.mod {κ : Type} {w w' : World} {r : Nat} {K : κ → Value} {es : List (κ × Value × Nat)} {clock : Nat} {S : Nat → Prop} (h : MapR w r K es clock) (m : Mod w w' S) (hs : ¬ S r) : MapR w' r K es clock := ⟨(m.block r h.size hs).trans h.at_, h.keys, h.lt, h.born⟩
theorem MapF.size (h : MapF w r K f) : r < w.heap.size := by obtain ⟨es, c, h, _⟩ := h; exact h.size
theorem MapF.mod (h : MapF w r K f) (m : Mod w w' S) (hs : ¬ S r) : MapF w' r K f := by
  obtain ⟨es, c, h, h2⟩ := h
  exact ⟨es, c, h.mod m hs, h2⟩
theorem MapF.below {B : Nat} (h : MapF w r K f) (hb : Below B w w') (hB : r < B) : MapF w' r K f := h.mod (Mod.of_below hb) (Nat.not_le.2 hB)
theorem MapF.drewN (h : MapF w r K f) (q : Nat) : MapF (w.drewN q) r K f := by
  obtain ⟨es, c, h, h2⟩ := h
  exact ⟨es, c, ⟨h.at_, h.keys, h.lt, h.born⟩, h2⟩
theorem MapF.made (w : World) (r : Nat) (hr : w.heap.size = r) (K : κ → Value) : MapF (w.alloc (.map #[] 0)) r K (fun _ => none) := by
  refine ⟨[], 0, ⟨?_, List.nodup_nil, fun e he => absurd he List.not_mem_nil, List.nodup_nil⟩, fun _ => rfl⟩
  rw [← hr]
  exact heap_alloc_new w _
theorem mod_put (w : World) (r : Nat) (o : Go.Obj) : Mod w (w.putObj r o) (fun k => k = r) :=
  ⟨rfl, rfl, rfl, by simp [World.putObj], fun k hk hn => World.putObj_heap_other hn⟩
theorem run_getMap {P : Program} {κ : Type} {w : World} {r : Nat} {K : κ → Value} {es : List (κ × Value × Nat)} {clock : Nat} (h : MapR w r K es clock) : (getObj r).run P w = .ok (.map (es.map (mkE K)).toArray clock) w := MapKept.run_getObj_map h.at_
theorem run_setMap {P : Program} {κ : Type} {w : World} {r : Nat} {K : κ → Value} {es : List (κ × Value × Nat)} {clock : Nat} (h : MapR w r K es clock) (o : Go.Obj) : (setObj r o).run P w = .ok () (w.putObj r o) := MapKept.run_setObj_map o h.at_

theorem MapF.look (k : KeyT P kt K) (ht : P.underlying t = some (.map kt et)) {z : Value} (hz : ∀ w, (zeroValue et).run P w = .ok z w) (h : MapF w r K f) (x : κ) :
    (Instr.lookup t (.map (some r)) (K x) false).run P w = .ok ((f x).getD z) w := by
  obtain ⟨es, c, h, h2⟩ := h
  simp only [Instr.lookup, Sem.run_bind, run_underlying ht, Result.andThen_ok, run_getMap h, Sem.run_pure, k.chk, k.find]
  rw [h2]
  unfold getE
  cases findE x es 0 with
  | none => simp [hz]
  | some p => simp
theorem MapF.look2 (k : KeyT P kt K) (ht : P.underlying t = some (.map kt et)) {z : Value} (hz : ∀ w, (zeroValue et).run P w = .ok z w) (h : MapF w r K f) (x : κ) :
    (Instr.lookup t (.map (some r)) (K x) true).run P w = .ok (.tuple #[(f x).getD z, .bool (f x).isSome]) w := by
  obtain ⟨es, c, h, h2⟩ := h
  simp only [Instr.lookup, Sem.run_bind, run_underlying ht, Result.andThen_ok, run_getMap h, Sem.run_pure, k.chk, k.find]
  rw [h2]
  unfold getE
  cases findE x es 0 with
  | none => simp [hz]
  | some p => simp
/-- A key's element set. -/
def putF (f : κ → Option Value) (x : κ) (v : Value) : κ → Option Value := fun y => if y = x then some v else f y
def delF (f : κ → Option Value) (x : κ) : κ → Option Value := fun y => if y = x then none else f y

theorem map_modify {α β : Type} (g : α → β) (l : List α) (i : Nat) (F : β → β) (G : α → α) (h : ∀ a ∈ l[i]?, F (g a) = g (G a)) : (l.map g).modify i F = (l.modify i G).map g := by
  induction l generalizing i with
  | nil => simp
  | cons a l ih =>
    cases i with
    | zero => simp [h a (by simp)]
    | succ i =>
      rw [List.map_cons, List.modify_succ_cons, List.modify_succ_cons, List.map_cons, ih i (fun b hb => h b (by simpa using hb))]
theorem keys_modify {κ : Type} (es : List (κ × Value × Nat)) (i : Nat) (G : κ × Value × Nat → κ × Value × Nat) (h : ∀ e, (G e).1 = e.1 ∧ (G e).2.2 = e.2.2) : (es.modify i G).map (·.1) = es.map (·.1) ∧ (es.modify i G).map (·.2.2) = es.map (·.2.2) := by
  induction es generalizing i with
  | nil => simp
  | cons a l ih =>
    cases i with
    | zero => simp [h a]
    | succ i => simp [List.modify_succ_cons, (ih i).1, (ih i).2]
theorem getE_modify (es : List (κ × Value × Nat)) (hn : (es.map (·.1)).Nodup) (i : Nat) (x : κ) (v0 v : Value) (b : Nat) (hi : es[i]? = some (x, v0, b)) (y : κ) :
    getE (es.modify i fun e => (e.1, v, e.2.2)) y = if y = x then some v else getE es y := by
  induction es generalizing i with
  | nil => simp at hi
  | cons a l ih =>
    rw [List.map_cons, List.nodup_cons] at hn
    cases i with
    | zero =>
      simp at hi
      subst hi
      rw [List.modify_zero_cons, getE_cons, getE_cons]
      simp only
      by_cases hy : y = x
      · subst hy; simp
      · rw [if_neg (fun e => hy e.symm), if_neg hy, if_neg (fun e => hy e.symm)]
    | succ i =>
      rw [List.getElem?_cons_succ] at hi
      rw [List.modify_succ_cons, getE_cons, getE_cons, ih hn.2 i hi]
      by_cases hy : y = x
      · subst hy
        have : a.1 ≠ y := fun e => hn.1 (by rw [e]; exact List.mem_map.2 ⟨_, List.mem_of_getElem? hi, rfl⟩)
        rw [if_neg this]
        simp
      · simp [hy]
theorem MapF.put (k : KeyT P kt K) (ht : P.underlying t = some (.map kt et)) (h : MapF w r K f) (x : κ) (v : Value) :
    ∃ w', (Instr.mapUpdate t (.map (some r)) (K x) v).run P w = .ok () w' ∧ MapF w' r K (putF f x v) ∧ Mod w w' (fun k => k = r) := by
  obtain ⟨es, c, h, h2⟩ := h
  have hsz := h.size
  cases hf : findE x es 0 with
  | none =>
    refine ⟨w.putObj r (.map ((es ++ [(x, v, c)]).map (mkE K)).toArray (c + 1)), ?_, ⟨es ++ [(x, v, c)], c + 1, ⟨World.putObj_heap_same hsz, ?_, ?_, ?_⟩, fun y => ?_⟩, mod_put _ _ _⟩
    · simp only [Instr.mapUpdate, Sem.run_bind, run_underlying ht, Result.andThen_ok, run_getMap h, k.chk, k.find, hf, run_setMap h]
      simp [mkE]
    · rw [List.map_append, List.nodup_append]
      refine ⟨h.keys, by simp, fun a ha b hb => ?_⟩
      simp at hb
      subst hb
      obtain ⟨e, he, rfl⟩ := List.mem_map.1 ha
      exact findE_none hf e he
    · intro e he
      rcases List.mem_append.1 he with he | he
      · have := h.lt e he; omega
      · simp at he; subst he; simp
    · rw [List.map_append, List.nodup_append]
      refine ⟨h.born, by simp, fun a ha b hb => ?_⟩
      simp at hb
      subst hb
      obtain ⟨e, he, rfl⟩ := List.mem_map.1 ha
      have := h.lt e he
      omega
    · unfold putF
      rw [getE_append, getE_cons]
      by_cases hy : y = x
      · subst hy
        rw [if_pos rfl, if_pos rfl]
        have : getE es y = none := by unfold getE; rw [hf]; rfl
        rw [this]; rfl
      · rw [if_neg hy, if_neg (fun e => hy e.symm), h2]
        simp [getE, findE]
  | some p =>
    obtain ⟨i, v0⟩ := p
    obtain ⟨_, b, hi⟩ := findE_some hf
    rw [Nat.sub_zero] at hi
    have hm := keys_modify es i (fun e => (e.1, v, e.2.2)) (fun e => ⟨rfl, rfl⟩)
    refine ⟨w.putObj r (.map ((es.modify i fun e => (e.1, v, e.2.2)).map (mkE K)).toArray c), ?_, ⟨_, c, ⟨World.putObj_heap_same hsz, by rw [hm.1]; exact h.keys, ?_, by rw [hm.2]; exact h.born⟩, fun y => ?_⟩, mod_put _ _ _⟩
    · have hk : ((es.map (mkE K)).toArray[i]?).map (·.key) = some (K x) := by simp [hi, mkE]
      simp only [Instr.mapUpdate, Sem.run_bind, run_underlying ht, Result.andThen_ok, run_getMap h, k.chk, k.find, hf, hk, Option.getD_some, Instr.keyThatStays, k.same, if_true, Sem.run_pure, run_setMap h]
      congr 3
      rw [List.modify_toArray]
      congr 1
      refine map_modify (mkE K) es i _ (fun e => (e.1, v, e.2.2)) (fun a ha => ?_)
      rw [hi] at ha
      cases ha
      rfl
    · intro e he
      obtain ⟨j, hj⟩ := List.getElem?_of_mem he
      have hb : (es.map (·.2.2))[j]? = some e.2.2 := by rw [← hm.2]; simp [hj]
      rw [List.getElem?_map, Option.map_eq_some_iff] at hb
      obtain ⟨e', he', hb⟩ := hb
      have := h.lt e' (List.mem_of_getElem? he')
      omega
    · unfold putF
      rw [getE_modify es h.keys i x v0 v b hi y, h2]
theorem getE_erase (es : List (κ × Value × Nat)) (hn : (es.map (·.1)).Nodup) (i : Nat) (x : κ) (v0 : Value) (b : Nat) (hi : es[i]? = some (x, v0, b)) (y : κ) :
    getE (es.eraseIdx i) y = if y = x then none else getE es y := by
  induction es generalizing i with
  | nil => simp at hi
  | cons a l ih =>
    rw [List.map_cons, List.nodup_cons] at hn
    cases i with
    | zero =>
      simp at hi
      subst hi
      rw [List.eraseIdx_cons_zero, getE_cons]
      simp only
      by_cases hy : y = x
      · subst hy
        rw [if_pos rfl]
        cases hg : getE l y with
        | none => rfl
        | some v => obtain ⟨b', hb'⟩ := getE_mem hg; exact absurd (List.mem_map.2 ⟨_, hb', rfl⟩) hn.1
      · rw [if_neg hy, if_neg (fun e => hy e.symm)]
    | succ i =>
      rw [List.getElem?_cons_succ] at hi
      rw [List.eraseIdx_cons_succ, getE_cons, getE_cons, ih hn.2 i hi]
      by_cases hy : y = x
      · subst hy
        have : a.1 ≠ y := fun e => hn.1 (by rw [e]; exact List.mem_map.2 ⟨_, List.mem_of_getElem? hi, rfl⟩)
        simp [this]
      · simp [hy]
theorem erase_map {α β : Type} (g : α → β) (l : List α) (i : Nat) : (l.map g).eraseIdx i = (l.eraseIdx i).map g := by
  induction l generalizing i with
  | nil => rfl
  | cons a l ih =>
    cases i with
    | zero => rfl
    | succ i => simp [ih]
theorem MapF.del (k : KeyT P kt K) (ht : P.underlying t = some (.map kt et)) (h : MapF w r K f) (x : κ) (ts : Array TypeId) (hts : ts[0]? = some t) (ty : TypeId) :
    ∃ w', (Builtin.delete_ ts ty #[.map (some r), K x]).run P w = .ok (.tuple #[]) w' ∧ MapF w' r K (delF f x) ∧ Mod w w' (fun k => k = r) := by
  obtain ⟨es, c, h, h2⟩ := h
  have hsz := h.size
  have a0 : (#[Value.map (some r), K x] : Array Value)[0]? = some (.map (some r)) := rfl
  have a1 : (#[Value.map (some r), K x] : Array Value)[1]? = some (K x) := rfl
  cases hf : findE x es 0 with
  | none =>
    refine ⟨w.putObj r (.map (es.map (mkE K)).toArray c), ?_, ⟨es, c, ⟨World.putObj_heap_same hsz, h.keys, h.lt, h.born⟩, fun y => ?_⟩, mod_put _ _ _⟩
    · simp only [Builtin.delete_, a0, a1, hts, Sem.run_bind, run_underlying ht, Result.andThen_ok, run_getMap h, k.chk, k.find, hf, run_setMap h, Sem.run_pure]
    · unfold delF
      by_cases hy : y = x
      · subst hy; rw [if_pos rfl]; unfold getE; rw [hf]; rfl
      · rw [if_neg hy, h2]
  | some p =>
    obtain ⟨i, v0⟩ := p
    obtain ⟨_, b, hi⟩ := findE_some hf
    rw [Nat.sub_zero] at hi
    refine ⟨w.putObj r (.map ((es.eraseIdx i).map (mkE K)).toArray c), ?_, ⟨_, c, ⟨World.putObj_heap_same hsz, ?_, ?_, ?_⟩, fun y => ?_⟩, mod_put _ _ _⟩
    · simp only [Builtin.delete_, a0, a1, hts, Sem.run_bind, run_underlying ht, Result.andThen_ok, run_getMap h, k.chk, k.find, hf, run_setMap h, Sem.run_pure]
      congr 3
      simp [erase_map]
    · rw [← erase_map]; exact h.keys.sublist (List.eraseIdx_sublist _ _)
    · exact fun e he => h.lt e ((List.eraseIdx_sublist _ _).subset he)
    · rw [← erase_map]; exact h.born.sublist (List.eraseIdx_sublist _ _)
    · unfold delF
      rw [getE_erase es h.keys i x v0 b hi y, h2]
end

/-- Whole numbers as keys. -/
def natK (x : Nat) : Value := .int .i64 (x : Int)
theorem natT {P : Program} {kt : TypeId} (hk : P.underlying kt = some (.int .i64)) : KeyT P kt natK where
  chk := fun b x w => by
    unfold Instr.checkKey
    simp [natK, run_underlying hk]
  find := fun x es w => by
    have : ∀ i, Instr.findNow (.int .i64) (natK x) (es.map (mkE natK)) i = some (findE x es i) := by
      intro i
      induction es generalizing i with
      | nil => rfl
      | cons e es ih =>
        simp only [List.map_cons, Instr.findNow, mkE, natK, Instr.sameNow, if_true, findE]
        by_cases he : e.1 = x
        · subst he; simp
        · have : ((x : Int) == (e.1 : Int)) = false := by rw [beq_eq_false_iff_ne]; omega
          rw [this, if_neg he]
          exact ih _
    simp only [Instr.findKey, Sem.run_bind, run_underlying hk, Result.andThen_ok, this, Sem.run_pure]
  same := fun x => by simp [natK, Instr.sameBits]
end Go.Proofs.YtcnjipicifkfjaaGreat

/- Maps whose keys are a mutator and a class; ranges over maps. -/
namespace Go.Proofs.YtcnjipicifkfjaaGreat
open Go.RowKit
set_option linter.unusedVariables false
set_option linter.unusedSimpArgs false

/-- A mutator and a class as a key. -/
def slotK (x : Nat × Nat) : Value := .agg #[.int .i64 (x.1 : Int), .int .i64 (x.2 : Int)]
theorem chk249 (b : Bool) (x : Nat × Nat) (w : World) : (Instr.checkKey b 10000 249 (slotK x)).run Tryz.prog w = .ok () w := by
  obtain ⟨m, k⟩ := x
  unfold slotK
  kernel_rfl
theorem eq249 (x y : Nat × Nat) (w : World) : (Op.equal 249 (slotK x) (slotK y)).run Tryz.prog w = .ok (decide (y = x)) w := by
  have hf : Tryz.prog.fieldsOf 249 = #[{ name := "Mutator", type := 3, offset := 0, embedded := false, tag := "", pkgPath := "", byteOffset := 0 }, { name := "Class", type := 3, offset := 1, embedded := false, tag := "", pkgPath := "", byteOffset := 8 }] := by kernel_rfl
  have h := run_equalIn_struct (P := Tryz.prog) w 9999 249 #[.int .i64 (x.1 : Int), .int .i64 (x.2 : Int)] #[.int .i64 (y.1 : Int), .int .i64 (y.2 : Int)] (by rw [hf]; exact Tryz.underlying249) (by kernel_rfl)
  have h2 : (Op.equal 249 (slotK x) (slotK y)).run Tryz.prog w = (Op.eqFields 9999 #[.int .i64 (x.1 : Int), .int .i64 (x.2 : Int)] #[.int .i64 (y.1 : Int), .int .i64 (y.2 : Int)] (Tryz.prog.fieldsOf 249).toList).run Tryz.prog w := h
  rw [h2, hf]
  have hi : ∀ (a b : Int), (Op.equalIn 9999 3 (.int .i64 a) (.int .i64 b)).run Tryz.prog w = .ok (a == b) w := fun a b => by
    unfold Op.equalIn
    simp [run_underlying Tryz.underlying3]
  have p0 : ∀ (a b : Value), (part 3 #[a, b] 0).run Tryz.prog w = .ok a w := fun a b => by kernel_rfl
  have p1 : ∀ (a b : Value), (part 3 #[a, b] 1).run Tryz.prog w = .ok b w := fun a b => by kernel_rfl
  simp only [Op.eqFields, Sem.run_bind, Sem.run_ite, p0, p1, hi, Result.andThen_ok, Sem.run_pure]
  obtain ⟨a, b⟩ := x
  obtain ⟨c, d⟩ := y
  simp only [ne_eq, String.reduceEq, not_false_eq_true, if_true, Prod.mk.injEq]
  by_cases h1 : a = c
  · subst h1
    by_cases h3 : b = d
    · subst h3; simp
    · have : ¬ d = b := fun e => h3 e.symm
      have h4 : ((b : Int) == (d : Int)) = false := by rw [beq_eq_false_iff_ne]; omega
      simp [this, h4]
  · have : ¬ c = a := fun e => h1 e.symm
    have h4 : ((a : Int) == (c : Int)) = false := by rw [beq_eq_false_iff_ne]; omega
    simp [this, h4]
theorem slotT : KeyT Tryz.prog 249 slotK where
  chk := chk249
  find := fun x es w => by
    have hask : ∀ i, (Instr.findAsking 249 (slotK x) (es.map (mkE slotK)) i).run Tryz.prog w = .ok (findE x es i) w := by
      intro i
      induction es generalizing i with
      | nil => rfl
      | cons e es ih =>
        simp only [List.map_cons, Instr.findAsking, Sem.run_bind, mkE, eq249, Result.andThen_ok, findE]
        by_cases he : e.1 = x
        · rw [decide_eq_true he, if_pos he]
          rfl
        · rw [decide_eq_false he, if_neg he]
          exact ih _
    cases es with
    | nil =>
      simp only [Instr.findKey, Sem.run_bind, run_underlying Tryz.underlying249, Result.andThen_ok, List.map_nil, Instr.findNow, Sem.run_pure, findE]
    | cons e es =>
      have hn : ∀ (d : TypeDesc), Instr.findNow (.struct #[{ name := "Mutator", type := 3, offset := 0, embedded := false, tag := "", pkgPath := "", byteOffset := 0 }, { name := "Class", type := 3, offset := 1, embedded := false, tag := "", pkgPath := "", byteOffset := 8 }]) (slotK x) ((e :: es).map (mkE slotK)) 0 = none := fun _ => rfl
      have h0 := hask 0
      simp only [Instr.findKey, Sem.run_bind, run_underlying Tryz.underlying249, Result.andThen_ok, hn (.int .i64)]
      exact h0
  same := fun x => by simp [slotK, Instr.sameBits]

/-- A range over a map begins. -/
theorem run_range_map {κ : Type} [DecidableEq κ] {P : Program} {w : World} {r kt et t : TypeId} {K : κ → Value} {es : List (κ × Value × Nat)} {clock : Nat} (h : MapR w r K es clock) (ht : P.underlying t = some (.map kt et)) :
    (Instr.range t (.map (some r))).run P w = .ok (.pointer (some ⟨w.heap.size, 0, none⟩)) (w.alloc (.mapIter (some r) clock #[] clock)) := by
  simp only [Instr.range, Sem.run_bind, run_underlying ht, Result.andThen_ok, run_getMap h]
  rfl
/-- A range over a map of no entry. -/
theorem run_next_none {P : Program} {w : World} {r q c : Nat} {ty : TypeId} (h : w.heap[r]? = some (.map #[] c)) (hq : w.heap[q]? = some (.mapIter (some r) c #[] c)) :
    (Instr.next (.pointer (some ⟨q, 0, none⟩)) false ty).run P w = .ok (.tuple #[.bool false]) w := by
  rcases run_next_at (P := P) w ty q r c c #[] #[] c hq h (fun x hx => by simp at hx) (Nat.le_refl _) with ⟨_, h1⟩ | ⟨e, he, _⟩
  · exact h1
  · simp [leftOf] at he
theorem run_next_one {P : Program} {w : World} {r q c : Nat} {e : MapEntry} {ty : TypeId} (h : w.heap[r]? = some (.map #[e] c)) (hb : e.born < c) (hq : w.heap[q]? = some (.mapIter (some r) c #[] c)) :
    ∃ w', (Instr.next (.pointer (some ⟨q, 0, none⟩)) false ty).run P w = .ok (.tuple #[.bool true, e.key, e.val]) w' ∧ w'.heap[q]? = some (.mapIter (some r) c #[e.born] c) ∧ Mod w w' (fun k => k = q) ∧
      (Instr.entry (.pointer (some ⟨q, 0, none⟩))).run P w' = .ok (.tuple #[e.key, e.val]) w' := by
  rcases run_next_at (P := P) w ty q r c c #[] #[e] c hq h (fun x hx => by simp at hx; subst hx; exact hb) (Nat.le_refl _) with ⟨h0, _⟩ | ⟨e', he, w1, hw1, h1⟩
  · simp [leftOf] at h0
  · have : e' = e := by simpa [leftOf] using he
    subst this
    have hrq : r ≠ q := by rintro rfl; rw [h] at hq; cases hq
    have hqs : q < w1.heap.size := by
      have := (Array.getElem?_eq_some_iff.1 hq).1
      rcases hw1 with rfl | rfl <;> exact this
    have hh : (ChangeMaps.setBlock w1 q (.mapIter (some r) c (#[].push e'.born) c)).heap[q]? = some (.mapIter (some r) c (#[].push e'.born) c) := by simp [ChangeMaps.setBlock, hqs]
    have hr : (ChangeMaps.setBlock w1 q (.mapIter (some r) c (#[].push e'.born) c)).heap[r]? = some (.map #[e'] c) := by
      simp only [ChangeMaps.setBlock]
      rw [Array.getElem?_setIfInBounds_ne (fun e => hrq e.symm)]
      rcases hw1 with rfl | rfl <;> exact h
    refine ⟨_, h1, hh, ?_, run_entry_at _ q r c #[] #[e'] c e' hh hr (by simp) (by simp)⟩
    have hm : Mod w1 (ChangeMaps.setBlock w1 q (.mapIter (some r) c (#[].push e'.born) c)) (fun k => k = q) :=
      ⟨rfl, rfl, rfl, by simp [ChangeMaps.setBlock], fun k hk hn => by simp only [ChangeMaps.setBlock]; exact Array.getElem?_setIfInBounds_ne (fun e => hn e.symm)⟩
    rcases hw1 with rfl | rfl
    · exact hm
    · exact ⟨hm.os, hm.tape, hm.output, hm.size, hm.block⟩
theorem run_next_end {P : Program} {w : World} {r q c b : Nat} {e : MapEntry} {ty : TypeId} (h : w.heap[r]? = some (.map #[e] c)) (hb : e.born < c) (hq : w.heap[q]? = some (.mapIter (some r) c #[e.born] c)) :
    (Instr.next (.pointer (some ⟨q, 0, none⟩)) false ty).run P w = .ok (.tuple #[.bool false]) w := by
  rcases run_next_at (P := P) w ty q r c c #[e.born] #[e] c hq h (fun x hx => by simp at hx; subst hx; exact hb) (Nat.le_refl _) with ⟨_, h1⟩ | ⟨e', he, _⟩
  · exact h1
  · simp [leftOf] at he
end Go.Proofs.YtcnjipicifkfjaaGreat

/- Arguments opened: arrays and structs by value, slices of integers, of strings, of structs; what the walk is told of each. -/
namespace Go.Proofs.YtcnjipicifkfjaaGreat
open Go.RowKit Go.ChangeShapes Go.WideShapes Go.Joins Go.Deep

/-- A slice's elements by their cells: 'V i' are the cells of element i, each element has 'sz'. -/
def Row (w : World) (A : Option Addr) (n sz : Nat) (V : Nat → List Value) : Prop :=
  0 < n → ∃ b off, A = some ⟨b, off, none⟩ ∧ b < w.heap.size ∧ ∀ i, i < n → ∀ j u, (V i)[j]? = some u → w.cell? ⟨b, off + i * sz + j, none⟩ = some u

theorem cell_lt {w : World} {p : Addr} {u : Value} (h : w.cell? p = some u) : p.block < w.heap.size := by
  rcases Nat.lt_or_ge p.block w.heap.size with hlt | hge
  · exact hlt
  · unfold World.cell? at h
    rw [Array.getElem?_eq_none hge] at h
    simp at h

section
variable {H : Type} {enc : TypeId × Value → H} {P : Program} {w : World} {base : Nat} {spare : Nat → Bool} {held : Bool} {r : Reach} {b0 : Nat} {t e : TypeId} {v : Value} {d : DataW H} {p : List MemPlace}

theorem open_int0 {k : IntKind} (ht : P.underlying t = some (.int k)) (hv : Value.okWide P w r b0 t v) (h : DataW.Trod enc P w base spare held t v d p) :
    ∃ n, v = .int k n ∧ (Lit.int k n).wf = true := by
  obtain ⟨n, rfl, _, _, hw⟩ := open_int ht hv h
  exact ⟨n, rfl, hw⟩

/-- An array of two integers by value. -/
theorem open_arr2 {k : IntKind} (ht : P.underlying t = some (.array 2 e)) (he : P.underlying e = some (.int k)) (hc : P.cellsOf e = 1) (hC : P.cellsOf t = 2)
    (hv : Value.okWide P w r b0 t v) (h : DataW.Trod enc P w base spare held t v d p) :
    ∃ x y, v = .agg #[.int k x, .int k y] ∧ (Lit.int k x).wf = true ∧ (Lit.int k y).wf = true := by
  have hs : ∃ cs, v = .agg cs ∧ cs.size = P.cellsOf t := by
    simp only [Value.okWide, ht] at hv
    obtain ⟨cs, h1, h2, _⟩ := hv
    exact ⟨cs, h1, h2⟩
  obtain ⟨cs, rfl, hsz⟩ := hs
  obtain ⟨c0, c1, rfl⟩ := array2 (hsz.trans hC)
  obtain ⟨fuel, hf⟩ := h
  obtain ⟨xs, m, _, _, _, hl, hg⟩ := DataW.trod_array ht hf
  have h0 := hg 0 (by omega)
  have h1 := hg 1 (by omega)
  rw [hc, List.getElem?_eq_getElem (by omega)] at h0 h1
  simp [Value.cells] at h0 h1
  obtain ⟨x, e0, _, w0⟩ := DataW.trod_int he h0
  obtain ⟨y, e1, _, w1⟩ := DataW.trod_int he h1
  simp at e0 e1
  subst e0 e1
  exact ⟨x, y, rfl, w0, w1⟩

end
end Go.Proofs.YtcnjipicifkfjaaGreat

/- Whole rows: a struct or an array read out of a block, stored into one; an array's element by value; equality of an array with itself. -/
namespace Go.Proofs.YtcnjipicifkfjaaGreat
open Go.RowKit

section
variable {P : Program} {w : World} {g : Nat} {t ty : TypeId} {cs cur : Array Value} {d : TypeDesc}

theorem Blk.setRow (h : Blk w g t cur) (cs : Array Value) : Blk (w.setRow g cs) g t cs := setRow_heap w g cur cs t _ h
theorem mod_setRow (w : World) (g : Nat) (cs : Array Value) : Mod w (w.setRow g cs) (fun k => k = g) :=
  ⟨rfl, rfl, rfl, by simp, fun k _ hk => setRow_other w g k cs (fun e => hk e)⟩

/-- Part of a block, from cell 'o' on, read as a struct or an array. -/
theorem run_load_sub (o n : Nat) (hg : Blk w g t cs) (hu : P.underlying ty = some d) (hd : (match d with | .struct _ | .array _ _ => true | _ => false) = true)
    (hi : (P.info? ty).map (·.size) = some n) (hn : o + n ≤ cs.size) :
    (loadVar ty ⟨g, o, none⟩).run P w = .ok (.agg (cs.extract o (o + n))) w := by
  have hl : (loadCells ⟨g, o, none⟩ (cs.extract o (o + n)).toList.length).run P w = .ok (cs.extract o (o + n)).toList.toArray w :=
    run_loadCells_list (P := P) w ⟨g, o, none⟩ (cs.extract o (o + n)).toList (fun j v hv => by
      have hadd : (⟨g, o, none⟩ : Addr).add j = ⟨g, o + j, none⟩ := by unfold Addr.add; split <;> simp_all
      rw [hadd, hg.cell (o + j)]
      rw [Array.getElem?_toList, Array.getElem?_extract] at hv
      split at hv
      · exact hv
      · cases hv)
  have hsz : (cs.extract o (o + n)).size = n := by rw [Array.size_extract]; omega
  cases hq : P.info? ty with
  | none => simp [hq] at hi
  | some i =>
    have hs : i.size = n := by simpa [hq] using hi
    have hagg : (isAgg ty).run P w = .ok true w := by
      unfold isAgg
      rw [Sem.run_bind, run_underlying hu w]
      cases d <;> simp_all
    simp only [Array.length_toList, Array.toArray_toList, hsz] at hl
    simp [loadVar, Sem.run_bind, hagg, sizeOf, typeInfo, hq, hs, hl]

theorem wpList_load_sub {ops : Array Oper} {rest : List Oper} {op : Oper} {a : Act} {Q : Exit → Act → World → Prop} (hgd : op.guard = none) (x : Operand) (ho : op.op = .load ty x)
    (o n : Nat) (hx : a.eval x = .pointer (some ⟨g, o, none⟩)) (hg : Blk w g t cs) (hu : P.underlying ty = some d) (hd : (match d with | .struct _ | .array _ _ => true | _ => false) = true)
    (hi : (P.info? ty).map (·.size) = some n) (hn : o + n ≤ cs.size) (h : wpList P ops Q rest (a.put op.dst (.agg (cs.extract o (o + n)))) w) : wpList P ops Q (op :: rest) a w := by
  refine wpList_plain hgd fun K hK => ?_
  unfold Oper.wp execOp
  simp only [ho, hx, Instr.loadAt, Instr.sureAddr, Sem.run_bind, Sem.run_pure, Result.andThen_ok, run_load_sub o n hg hu hd hi hn]
  exact hK _ _ h

/-- A whole block stored over. -/
theorem run_store_row (hg : Blk w g t cur) (hi : (P.info? ty).map (·.size) = some cs.size) (hs : cs.size = cur.size) (h1 : ∀ v ∈ cs.toList, v.oneCell' = true) :
    (storeVar ty ⟨g, 0, none⟩ (.agg cs)).run P w = .ok () (w.setRow g cs) := by
  cases hq : P.info? ty with
  | none => simp [hq] at hi
  | some i =>
    have hsz : i.size = cs.size := by simpa [hq] using hi
    have hst := run_storeCells_at P g 0 t cs.toList 0 cur w hg (by simp; omega) h1
    have he : (List.take 0 cur.toList ++ cs.toList ++ List.drop (0 + cs.toList.length) cur.toList).toArray = cs := by
      rw [List.take_zero, List.nil_append, List.drop_of_length_le (by simp; omega), List.append_nil, Array.toArray_toList]
    simp only [Nat.add_zero, Nat.zero_add] at hst he
    rw [he] at hst
    simp [storeVar, Sem.run_bind, sizeOf, typeInfo, hq, hsz, Value.cells, hst]

theorem wpList_store_row {ops : Array Oper} {rest : List Oper} {op : Oper} {a : Act} {Q : Exit → Act → World → Prop} (hgd : op.guard = none) (x y : Operand) (ho : op.op = .store ty x y)
    (hx : a.eval x = .pointer (some ⟨g, 0, none⟩)) (hy : a.eval y = .agg cs) (hg : Blk w g t cur) (hi : (P.info? ty).map (·.size) = some cs.size) (hs : cs.size = cur.size)
    (h1 : ∀ v ∈ cs.toList, v.oneCell' = true) (h : ∀ w', Blk w' g t cs → Mod w w' (fun k => k = g) → wpList P ops Q rest (a.put op.dst undef) w') : wpList P ops Q (op :: rest) a w := by
  refine wpList_plain hgd fun K hK => ?_
  unfold Oper.wp execOp
  simp only [ho, hx, hy, Instr.storeAt, Instr.sureAddr, Sem.run_bind, Sem.run_pure, Result.andThen_ok, run_store_row hg hi hs h1]
  exact hK _ _ (h _ (hg.setRow cs) (mod_setRow w g cs))

/-- An element of an array that is held by value: of several cells. -/
theorem run_index_sub {e : TypeId} {k : IntKind} (len n i : Nat) (ht : P.underlying ty = some (.array len e)) (hu : P.underlying e = some d) (hd : (match d with | .struct _ | .array _ _ => true | _ => false) = true)
    (hi : (P.info? e).map (·.size) = some n) (hlt : i < len) (w : World) : (Instr.index ty (.agg cs) (.int k (i : Int))).run P w = .ok (.agg (cs.extract (i * n) (i * n + n))) w := by
  cases hq : P.info? e with
  | none => simp [hq] at hi
  | some inf =>
    have hs : inf.size = n := by simpa [hq] using hi
    have hagg : ∀ w, (isAgg e).run P w = .ok true w := by
      intro w
      unfold isAgg
      rw [Sem.run_bind, run_underlying hu w]
      cases d <;> simp_all
    have h0 : (0 : Int) ≤ (i : Int) ∧ (i : Int) < (len : Int) := by omega
    simp [Instr.index, asIntOf, Sem.run_bind, run_underlying ht, sizeOf, typeInfo, hq, hs, hlt, part, hagg]
/-- .. of one cell. -/
theorem run_index_one {e : TypeId} {k : IntKind} (len i : Nat) (u : Value) (ht : P.underlying ty = some (.array len e)) (hu : P.underlying e = some d) (hd : (match d with | .struct _ | .array _ _ => true | _ => false) = false)
    (hi : (P.info? e).map (·.size) = some 1) (hlt : i < len) (hc : cs[i]? = some u) (w : World) : (Instr.index ty (.agg cs) (.int k (i : Int))).run P w = .ok u w := by
  cases hq : P.info? e with
  | none => simp [hq] at hi
  | some inf =>
    have hs : inf.size = 1 := by simpa [hq] using hi
    have hagg : ∀ w, (isAgg e).run P w = .ok false w := by
      intro w
      unfold isAgg
      rw [Sem.run_bind, run_underlying hu w]
      cases d <;> simp_all
    simp [Instr.index, asIntOf, Sem.run_bind, run_underlying ht, sizeOf, typeInfo, hq, hs, hlt, part, hagg, hc]

theorem part_one (e : TypeId) (xs : Array Value) (o : Nat) (v : Value) (hu : P.underlying e = some d) (hd : (match d with | .struct _ | .array _ _ => true | _ => false) = false)
    (hv : xs[o]? = some v) : (part e xs o).run P w = .ok v w := by
  have hagg : (isAgg e).run P w = .ok false w := by
    unfold isAgg
    rw [Sem.run_bind, run_underlying hu w]
    cases d <;> simp_all
  simp [part, Sem.run_bind, hagg, hv]
end
end Go.Proofs.YtcnjipicifkfjaaGreat
