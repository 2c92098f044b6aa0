/- Maps: what they hold, as lists of entries; their operations. -/
import Derived.Test.YtcnjipicifkfjaaGreatEv08
import Derived.Test.YtcnjipicifkfjaaGreatProg
import Derived.Maps.RangeWalk
import Derived.Laws.StructEq
import Derived.RangeFuncRecord
import Derived.Test.YtcnjipicifkfjaaGreatEv02
import Derived.WideKeyEntry
import Derived.Deep.RegionLaw

namespace Go.Proofs.YtcnjipicifkfjaaGreat
open Go.RowKit
set_option linter.unusedVariables false
set_option linter.unusedSimpArgs false

section
variable {κ : Type} [DecidableEq κ]
def mkE (K : κ → Value) (e : κ × Value × Nat) : MapEntry := { key := K e.1, val := e.2.1, born := e.2.2 }
def findE (x : κ) : List (κ × Value × Nat) → Nat → Option (Nat × Value)
  | [], _ => none
  | e :: es, i => if e.1 = x then some (i, e.2.1) else findE x es (i + 1)
/-- What is at a key. -/
def getE (es : List (κ × Value × Nat)) (x : κ) : Option Value := (findE x es 0).map (·.2)
/-- Keys of a type: they can be asked for. -/
structure KeyT (P : Program) (kt : TypeId) (K : κ → Value) : Prop where
  chk : ∀ (b : Bool) (x : κ) (w : World), (Instr.checkKey b 10000 kt (K x)).run P w = .ok () w
  find : ∀ (x : κ) (es : List (κ × Value × Nat)) (w : World), (Instr.findKey kt (K x) (es.map (mkE K))).run P w = .ok (findE x es 0) w
  same : ∀ x, Instr.sameBits 10000 (K x) (K x) = true

theorem findE_shift (x : κ) (es : List (κ × Value × Nat)) (i : Nat) : findE x es (i + 1) = (findE x es i).map fun p => (p.1 + 1, p.2) := by
  induction es generalizing i with
  | nil => rfl
  | cons e es ih =>
    simp only [findE]
    split
    · rfl
    · exact ih _
theorem findE_none {x : κ} {es : List (κ × Value × Nat)} {i : Nat} (h : findE x es i = none) : ∀ e ∈ es, e.1 ≠ x := by
  induction es generalizing i with
  | nil => intro e he; cases he
  | cons a es ih =>
    simp only [findE] at h
    split at h
    · cases h
    · rename_i hne
      intro e he
      rcases List.mem_cons.1 he with rfl | he
      · exact hne
      · exact ih h e he
theorem findE_some {x : κ} {es : List (κ × Value × Nat)} {i j : Nat} {v : Value} (h : findE x es i = some (j, v)) : i ≤ j ∧ ∃ b, es[j - i]? = some (x, v, b) := by
  induction es generalizing i with
  | nil => cases h
  | cons a es ih =>
    simp only [findE] at h
    split at h
    · rename_i he
      cases h
      refine ⟨Nat.le_refl _, a.2.2, ?_⟩
      simp [← he]
    · obtain ⟨h1, b, h2⟩ := ih h
      refine ⟨by omega, b, ?_⟩
      obtain ⟨k, hk⟩ : ∃ k, j - i = k + 1 := ⟨j - i - 1, by omega⟩
      rw [hk, List.getElem?_cons_succ, ← h2]
      congr 1
      omega
theorem getE_cons (e : κ × Value × Nat) (es : List (κ × Value × Nat)) (x : κ) : getE (e :: es) x = if e.1 = x then some e.2.1 else getE es x := by
  unfold getE
  simp only [findE]
  split
  · rfl
  · rw [findE_shift]
    cases findE x es 0 <;> rfl
theorem getE_append (es fs : List (κ × Value × Nat)) (x : κ) : getE (es ++ fs) x = (getE es x).or (getE fs x) := by
  induction es with
  | nil => simp [getE, findE]
  | cons e es ih =>
    rw [List.cons_append, getE_cons, getE_cons]
    split
    · rfl
    · exact ih
theorem getE_mem {es : List (κ × Value × Nat)} {x : κ} {v : Value} (h : getE es x = some v) : ∃ b, (x, v, b) ∈ es := by
  unfold getE at h
  cases hf : findE x es 0 with
  | none => rw [hf] at h; cases h
  | some p =>
    rw [hf] at h
    cases h
    obtain ⟨_, b, hb⟩ := findE_some (j := p.1) (v := p.2) hf
    exact ⟨b, List.mem_of_getElem? hb⟩
theorem getE_of_mem {es : List (κ × Value × Nat)} (hn : (es.map (·.1)).Nodup) {x : κ} {v : Value} {b : Nat} (h : (x, v, b) ∈ es) : getE es x = some v := by
  induction es with
  | nil => cases h
  | cons e es ih =>
    rw [List.map_cons, List.nodup_cons] at hn
    rw [getE_cons]
    rcases List.mem_cons.1 h with rfl | h
    · simp
    · rw [if_neg (fun e' => hn.1 (by rw [e']; exact List.mem_map.2 ⟨_, h, rfl⟩))]
      exact ih hn.2 h

/-- A map's block holds these entries. -/
structure MapR (w : World) (r : Nat) (K : κ → Value) (es : List (κ × Value × Nat)) (clock : Nat) : Prop where
  at_ : w.heap[r]? = some (.map (es.map (mkE K)).toArray clock)
  keys : (es.map (·.1)).Nodup
  lt : ∀ e ∈ es, e.2.2 < clock
  born : (es.map (·.2.2)).Nodup
/-- A map's block tells what is at each key. -/
def MapF (w : World) (r : Nat) (K : κ → Value) (f : κ → Option Value) : Prop := ∃ es clock, MapR w r K es clock ∧ ∀ x, f x = getE es x

variable {P : Program} {w w' : World} {r kt et t : TypeId} {K : κ → Value} {es : List (κ × Value × Nat)} {clock : Nat} {f : κ → Option Value} {S : Nat → Prop}
theorem MapR.size {κ : Type} {w : World} {r : Nat} {K : κ → Value} {es : List (κ × Value × Nat)} {clock : Nat} (h : MapR w r K es clock) : r < w.heap.size := (Array.getElem?_eq_some_iff.1 h.at_).1
theorem MapR.mod {κ : Type} {w w' : World} {r : Nat} {K : κ → Value} {es : List (κ × Value × Nat)} {clock : Nat} {S : Nat → Prop} (h : MapR w r K es clock) (m : Mod w w' S) (hs : ¬ S r) : MapR w' r K es clock := ⟨(m.block r h.size hs).trans h.at_, h.keys, h.lt, h.born⟩
theorem MapF.size (h : MapF w r K f) : r < w.heap.size := by obtain ⟨es, c, h, _⟩ := h; exact h.size
theorem MapF.mod (h : MapF w r K f) (m : Mod w w' S) (hs : ¬ S r) : MapF w' r K f := by
  obtain ⟨es, c, h, h2⟩ := h
  exact ⟨es, c, h.mod m hs, h2⟩
theorem MapF.below {B : Nat} (h : MapF w r K f) (hb : Below B w w') (hB : r < B) : MapF w' r K f := h.mod (Mod.of_below hb) (Nat.not_le.2 hB)
theorem MapF.drewN (h : MapF w r K f) (q : Nat) : MapF (w.drewN q) r K f := by
  obtain ⟨es, c, h, h2⟩ := h
  exact ⟨es, c, ⟨h.at_, h.keys, h.lt, h.born⟩, h2⟩
theorem MapF.made (w : World) (r : Nat) (hr : w.heap.size = r) (K : κ → Value) : MapF (w.alloc (.map #[] 0)) r K (fun _ => none) := by
  refine ⟨[], 0, ⟨?_, List.nodup_nil, fun e he => absurd he List.not_mem_nil, List.nodup_nil⟩, fun _ => rfl⟩
  rw [← hr]
  exact heap_alloc_new w _
theorem mod_put (w : World) (r : Nat) (o : Go.Obj) : Mod w (w.putObj r o) (fun k => k = r) :=
  ⟨rfl, rfl, rfl, by simp [World.putObj], fun k hk hn => World.putObj_heap_other hn⟩
theorem run_getMap {P : Program} {κ : Type} {w : World} {r : Nat} {K : κ → Value} {es : List (κ × Value × Nat)} {clock : Nat} (h : MapR w r K es clock) : (getObj r).run P w = .ok (.map (es.map (mkE K)).toArray clock) w := MapKept.run_getObj_map h.at_
theorem run_setMap {P : Program} {κ : Type} {w : World} {r : Nat} {K : κ → Value} {es : List (κ × Value × Nat)} {clock : Nat} (h : MapR w r K es clock) (o : Go.Obj) : (setObj r o).run P w = .ok () (w.putObj r o) := MapKept.run_setObj_map o h.at_

theorem MapF.look (k : KeyT P kt K) (ht : P.underlying t = some (.map kt et)) {z : Value} (hz : ∀ w, (zeroValue et).run P w = .ok z w) (h : MapF w r K f) (x : κ) :
    (Instr.lookup t (.map (some r)) (K x) false).run P w = .ok ((f x).getD z) w := by
  obtain ⟨es, c, h, h2⟩ := h
  simp only [Instr.lookup, Sem.run_bind, run_underlying ht, Result.andThen_ok, run_getMap h, Sem.run_pure, k.chk, k.find]
  rw [h2]
  unfold getE
  cases findE x es 0 with
  | none => simp [hz]
  | some p => simp
theorem MapF.look2 (k : KeyT P kt K) (ht : P.underlying t = some (.map kt et)) {z : Value} (hz : ∀ w, (zeroValue et).run P w = .ok z w) (h : MapF w r K f) (x : κ) :
    (Instr.lookup t (.map (some r)) (K x) true).run P w = .ok (.tuple #[(f x).getD z, .bool (f x).isSome]) w := by
  obtain ⟨es, c, h, h2⟩ := h
  simp only [Instr.lookup, Sem.run_bind, run_underlying ht, Result.andThen_ok, run_getMap h, Sem.run_pure, k.chk, k.find]
  rw [h2]
  unfold getE
  cases findE x es 0 with
  | none => simp [hz]
  | some p => simp
/-- A key's element set. -/
def putF (f : κ → Option Value) (x : κ) (v : Value) : κ → Option Value := fun y => if y = x then some v else f y
def delF (f : κ → Option Value) (x : κ) : κ → Option Value := fun y => if y = x then none else f y

theorem map_modify {α β : Type} (g : α → β) (l : List α) (i : Nat) (F : β → β) (G : α → α) (h : ∀ a ∈ l[i]?, F (g a) = g (G a)) : (l.map g).modify i F = (l.modify i G).map g := by
  induction l generalizing i with
  | nil => simp
  | cons a l ih =>
    cases i with
    | zero => simp [h a (by simp)]
    | succ i =>
      rw [List.map_cons, List.modify_succ_cons, List.modify_succ_cons, List.map_cons, ih i (fun b hb => h b (by simpa using hb))]
theorem keys_modify {κ : Type} (es : List (κ × Value × Nat)) (i : Nat) (G : κ × Value × Nat → κ × Value × Nat) (h : ∀ e, (G e).1 = e.1 ∧ (G e).2.2 = e.2.2) : (es.modify i G).map (·.1) = es.map (·.1) ∧ (es.modify i G).map (·.2.2) = es.map (·.2.2) := by
  induction es generalizing i with
  | nil => simp
  | cons a l ih =>
    cases i with
    | zero => simp [h a]
    | succ i => simp [List.modify_succ_cons, (ih i).1, (ih i).2]
theorem getE_modify (es : List (κ × Value × Nat)) (hn : (es.map (·.1)).Nodup) (i : Nat) (x : κ) (v0 v : Value) (b : Nat) (hi : es[i]? = some (x, v0, b)) (y : κ) :
    getE (es.modify i fun e => (e.1, v, e.2.2)) y = if y = x then some v else getE es y := by
  induction es generalizing i with
  | nil => simp at hi
  | cons a l ih =>
    rw [List.map_cons, List.nodup_cons] at hn
    cases i with
    | zero =>
      simp at hi
      subst hi
      rw [List.modify_zero_cons, getE_cons, getE_cons]
      simp only
      by_cases hy : y = x
      · subst hy; simp
      · rw [if_neg (fun e => hy e.symm), if_neg hy, if_neg (fun e => hy e.symm)]
    | succ i =>
      rw [List.getElem?_cons_succ] at hi
      rw [List.modify_succ_cons, getE_cons, getE_cons, ih hn.2 i hi]
      by_cases hy : y = x
      · subst hy
        have : a.1 ≠ y := fun e => hn.1 (by rw [e]; exact List.mem_map.2 ⟨_, List.mem_of_getElem? hi, rfl⟩)
        rw [if_neg this]
        simp
      · simp [hy]
theorem MapF.put (k : KeyT P kt K) (ht : P.underlying t = some (.map kt et)) (h : MapF w r K f) (x : κ) (v : Value) :
    ∃ w', (Instr.mapUpdate t (.map (some r)) (K x) v).run P w = .ok () w' ∧ MapF w' r K (putF f x v) ∧ Mod w w' (fun k => k = r) := by
  obtain ⟨es, c, h, h2⟩ := h
  have hsz := h.size
  cases hf : findE x es 0 with
  | none =>
    refine ⟨w.putObj r (.map ((es ++ [(x, v, c)]).map (mkE K)).toArray (c + 1)), ?_, ⟨es ++ [(x, v, c)], c + 1, ⟨World.putObj_heap_same hsz, ?_, ?_, ?_⟩, fun y => ?_⟩, mod_put _ _ _⟩
    · simp only [Instr.mapUpdate, Sem.run_bind, run_underlying ht, Result.andThen_ok, run_getMap h, k.chk, k.find, hf, run_setMap h]
      simp [mkE]
    · rw [List.map_append, List.nodup_append]
      refine ⟨h.keys, by simp, fun a ha b hb => ?_⟩
      simp at hb
      subst hb
      obtain ⟨e, he, rfl⟩ := List.mem_map.1 ha
      exact findE_none hf e he
    · intro e he
      rcases List.mem_append.1 he with he | he
      · have := h.lt e he; omega
      · simp at he; subst he; simp
    · rw [List.map_append, List.nodup_append]
      refine ⟨h.born, by simp, fun a ha b hb => ?_⟩
      simp at hb
      subst hb
      obtain ⟨e, he, rfl⟩ := List.mem_map.1 ha
      have := h.lt e he
      omega
    · unfold putF
      rw [getE_append, getE_cons]
      by_cases hy : y = x
      · subst hy
        rw [if_pos rfl, if_pos rfl]
        have : getE es y = none := by unfold getE; rw [hf]; rfl
        rw [this]; rfl
      · rw [if_neg hy, if_neg (fun e => hy e.symm), h2]
        simp [getE, findE]
  | some p =>
    obtain ⟨i, v0⟩ := p
    obtain ⟨_, b, hi⟩ := findE_some hf
    rw [Nat.sub_zero] at hi
    have hm := keys_modify es i (fun e => (e.1, v, e.2.2)) (fun e => ⟨rfl, rfl⟩)
    refine ⟨w.putObj r (.map ((es.modify i fun e => (e.1, v, e.2.2)).map (mkE K)).toArray c), ?_, ⟨_, c, ⟨World.putObj_heap_same hsz, by rw [hm.1]; exact h.keys, ?_, by rw [hm.2]; exact h.born⟩, fun y => ?_⟩, mod_put _ _ _⟩
    · have hk : ((es.map (mkE K)).toArray[i]?).map (·.key) = some (K x) := by simp [hi, mkE]
      simp only [Instr.mapUpdate, Sem.run_bind, run_underlying ht, Result.andThen_ok, run_getMap h, k.chk, k.find, hf, hk, Option.getD_some, Instr.keyThatStays, k.same, if_true, Sem.run_pure, run_setMap h]
      congr 3
      rw [List.modify_toArray]
      congr 1
      refine map_modify (mkE K) es i _ (fun e => (e.1, v, e.2.2)) (fun a ha => ?_)
      rw [hi] at ha
      cases ha
      rfl
    · intro e he
      obtain ⟨j, hj⟩ := List.getElem?_of_mem he
      have hb : (es.map (·.2.2))[j]? = some e.2.2 := by rw [← hm.2]; simp [hj]
      rw [List.getElem?_map, Option.map_eq_some_iff] at hb
      obtain ⟨e', he', hb⟩ := hb
      have := h.lt e' (List.mem_of_getElem? he')
      omega
    · unfold putF
      rw [getE_modify es h.keys i x v0 v b hi y, h2]
theorem getE_erase (es : List (κ × Value × Nat)) (hn : (es.map (·.1)).Nodup) (i : Nat) (x : κ) (v0 : Value) (b : Nat) (hi : es[i]? = some (x, v0, b)) (y : κ) :
    getE (es.eraseIdx i) y = if y = x then none else getE es y := by
  induction es generalizing i with
  | nil => simp at hi
  | cons a l ih =>
    rw [List.map_cons, List.nodup_cons] at hn
    cases i with
    | zero =>
      simp at hi
      subst hi
      rw [List.eraseIdx_cons_zero, getE_cons]
      simp only
      by_cases hy : y = x
      · subst hy
        rw [if_pos rfl]
        cases hg : getE l y with
        | none => rfl
        | some v => obtain ⟨b', hb'⟩ := getE_mem hg; exact absurd (List.mem_map.2 ⟨_, hb', rfl⟩) hn.1
      · rw [if_neg hy, if_neg (fun e => hy e.symm)]
    | succ i =>
      rw [List.getElem?_cons_succ] at hi
      rw [List.eraseIdx_cons_succ, getE_cons, getE_cons, ih hn.2 i hi]
      by_cases hy : y = x
      · subst hy
        have : a.1 ≠ y := fun e => hn.1 (by rw [e]; exact List.mem_map.2 ⟨_, List.mem_of_getElem? hi, rfl⟩)
        simp [this]
      · simp [hy]
theorem erase_map {α β : Type} (g : α → β) (l : List α) (i : Nat) : (l.map g).eraseIdx i = (l.eraseIdx i).map g := by
  induction l generalizing i with
  | nil => rfl
  | cons a l ih =>
    cases i with
    | zero => rfl
    | succ i => simp [ih]
theorem MapF.del (k : KeyT P kt K) (ht : P.underlying t = some (.map kt et)) (h : MapF w r K f) (x : κ) (ts : Array TypeId) (hts : ts[0]? = some t) (ty : TypeId) :
    ∃ w', (Builtin.delete_ ts ty #[.map (some r), K x]).run P w = .ok (.tuple #[]) w' ∧ MapF w' r K (delF f x) ∧ Mod w w' (fun k => k = r) := by
  obtain ⟨es, c, h, h2⟩ := h
  have hsz := h.size
  have a0 : (#[Value.map (some r), K x] : Array Value)[0]? = some (.map (some r)) := rfl
  have a1 : (#[Value.map (some r), K x] : Array Value)[1]? = some (K x) := rfl
  cases hf : findE x es 0 with
  | none =>
    refine ⟨w.putObj r (.map (es.map (mkE K)).toArray c), ?_, ⟨es, c, ⟨World.putObj_heap_same hsz, h.keys, h.lt, h.born⟩, fun y => ?_⟩, mod_put _ _ _⟩
    · simp only [Builtin.delete_, a0, a1, hts, Sem.run_bind, run_underlying ht, Result.andThen_ok, run_getMap h, k.chk, k.find, hf, run_setMap h, Sem.run_pure]
    · unfold delF
      by_cases hy : y = x
      · subst hy; rw [if_pos rfl]; unfold getE; rw [hf]; rfl
      · rw [if_neg hy, h2]
  | some p =>
    obtain ⟨i, v0⟩ := p
    obtain ⟨_, b, hi⟩ := findE_some hf
    rw [Nat.sub_zero] at hi
    refine ⟨w.putObj r (.map ((es.eraseIdx i).map (mkE K)).toArray c), ?_, ⟨_, c, ⟨World.putObj_heap_same hsz, ?_, ?_, ?_⟩, fun y => ?_⟩, mod_put _ _ _⟩
    · simp only [Builtin.delete_, a0, a1, hts, Sem.run_bind, run_underlying ht, Result.andThen_ok, run_getMap h, k.chk, k.find, hf, run_setMap h, Sem.run_pure]
      congr 3
      simp [erase_map]
    · rw [← erase_map]; exact h.keys.sublist (List.eraseIdx_sublist _ _)
    · exact fun e he => h.lt e ((List.eraseIdx_sublist _ _).subset he)
    · rw [← erase_map]; exact h.born.sublist (List.eraseIdx_sublist _ _)
    · unfold delF
      rw [getE_erase es h.keys i x v0 b hi y, h2]
end

/-- Whole numbers as keys. -/
def natK (x : Nat) : Value := .int .i64 (x : Int)
theorem natT {P : Program} {kt : TypeId} (hk : P.underlying kt = some (.int .i64)) : KeyT P kt natK where
  chk := fun b x w => by
    unfold Instr.checkKey
    simp [natK, run_underlying hk]
  find := fun x es w => by
    have : ∀ i, Instr.findNow (.int .i64) (natK x) (es.map (mkE natK)) i = some (findE x es i) := by
      intro i
      induction es generalizing i with
      | nil => rfl
      | cons e es ih =>
        simp only [List.map_cons, Instr.findNow, mkE, natK, Instr.sameNow, if_true, findE]
        by_cases he : e.1 = x
        · subst he; simp
        · have : ((x : Int) == (e.1 : Int)) = false := by rw [beq_eq_false_iff_ne]; omega
          rw [this, if_neg he]
          exact ih _
    simp only [Instr.findKey, Sem.run_bind, run_underlying hk, Result.andThen_ok, this, Sem.run_pure]
  same := fun x => by simp [natK, Instr.sameBits]
end Go.Proofs.YtcnjipicifkfjaaGreat

/- Maps whose keys are a mutator and a class; ranges over maps. -/
namespace Go.Proofs.YtcnjipicifkfjaaGreat
open Go.RowKit
set_option linter.unusedVariables false
set_option linter.unusedSimpArgs false

/-- A mutator and a class as a key. -/
def slotK (x : Nat × Nat) : Value := .agg #[.int .i64 (x.1 : Int), .int .i64 (x.2 : Int)]
theorem chk249 (b : Bool) (x : Nat × Nat) (w : World) : (Instr.checkKey b 10000 249 (slotK x)).run Tryz.prog w = .ok () w := by
  obtain ⟨m, k⟩ := x
  unfold slotK
  kernel_rfl
theorem eq249 (x y : Nat × Nat) (w : World) : (Op.equal 249 (slotK x) (slotK y)).run Tryz.prog w = .ok (decide (y = x)) w := by
  have hf : Tryz.prog.fieldsOf 249 = #[{ name := "Mutator", type := 3, offset := 0, embedded := false, tag := "", pkgPath := "", byteOffset := 0 }, { name := "Class", type := 3, offset := 1, embedded := false, tag := "", pkgPath := "", byteOffset := 8 }] := by kernel_rfl
  have h := run_equalIn_struct (P := Tryz.prog) w 9999 249 #[.int .i64 (x.1 : Int), .int .i64 (x.2 : Int)] #[.int .i64 (y.1 : Int), .int .i64 (y.2 : Int)] (by rw [hf]; exact Tryz.underlying249) (by kernel_rfl)
  have h2 : (Op.equal 249 (slotK x) (slotK y)).run Tryz.prog w = (Op.eqFields 9999 #[.int .i64 (x.1 : Int), .int .i64 (x.2 : Int)] #[.int .i64 (y.1 : Int), .int .i64 (y.2 : Int)] (Tryz.prog.fieldsOf 249).toList).run Tryz.prog w := h
  rw [h2, hf]
  have hi : ∀ (a b : Int), (Op.equalIn 9999 3 (.int .i64 a) (.int .i64 b)).run Tryz.prog w = .ok (a == b) w := fun a b => by
    unfold Op.equalIn
    simp [run_underlying Tryz.underlying3]
  have p0 : ∀ (a b : Value), (part 3 #[a, b] 0).run Tryz.prog w = .ok a w := fun a b => by kernel_rfl
  have p1 : ∀ (a b : Value), (part 3 #[a, b] 1).run Tryz.prog w = .ok b w := fun a b => by kernel_rfl
  simp only [Op.eqFields, Sem.run_bind, Sem.run_ite, p0, p1, hi, Result.andThen_ok, Sem.run_pure]
  obtain ⟨a, b⟩ := x
  obtain ⟨c, d⟩ := y
  simp only [ne_eq, String.reduceEq, not_false_eq_true, if_true, Prod.mk.injEq]
  by_cases h1 : a = c
  · subst h1
    by_cases h3 : b = d
    · subst h3; simp
    · have : ¬ d = b := fun e => h3 e.symm
      have h4 : ((b : Int) == (d : Int)) = false := by rw [beq_eq_false_iff_ne]; omega
      simp [this, h4]
  · have : ¬ c = a := fun e => h1 e.symm
    have h4 : ((a : Int) == (c : Int)) = false := by rw [beq_eq_false_iff_ne]; omega
    simp [this, h4]
theorem slotT : KeyT Tryz.prog 249 slotK where
  chk := chk249
  find := fun x es w => by
    have hask : ∀ i, (Instr.findAsking 249 (slotK x) (es.map (mkE slotK)) i).run Tryz.prog w = .ok (findE x es i) w := by
      intro i
      induction es generalizing i with
      | nil => rfl
      | cons e es ih =>
        simp only [List.map_cons, Instr.findAsking, Sem.run_bind, mkE, eq249, Result.andThen_ok, findE]
        by_cases he : e.1 = x
        · rw [decide_eq_true he, if_pos he]
          rfl
        · rw [decide_eq_false he, if_neg he]
          exact ih _
    cases es with
    | nil =>
      simp only [Instr.findKey, Sem.run_bind, run_underlying Tryz.underlying249, Result.andThen_ok, List.map_nil, Instr.findNow, Sem.run_pure, findE]
    | cons e es =>
      have hn : ∀ (d : TypeDesc), Instr.findNow (.struct #[{ name := "Mutator", type := 3, offset := 0, embedded := false, tag := "", pkgPath := "", byteOffset := 0 }, { name := "Class", type := 3, offset := 1, embedded := false, tag := "", pkgPath := "", byteOffset := 8 }]) (slotK x) ((e :: es).map (mkE slotK)) 0 = none := fun _ => rfl
      have h0 := hask 0
      simp only [Instr.findKey, Sem.run_bind, run_underlying Tryz.underlying249, Result.andThen_ok, hn (.int .i64)]
      exact h0
  same := fun x => by simp [slotK, Instr.sameBits]

/-- A range over a map begins. -/
theorem run_range_map {κ : Type} [DecidableEq κ] {P : Program} {w : World} {r kt et t : TypeId} {K : κ → Value} {es : List (κ × Value × Nat)} {clock : Nat} (h : MapR w r K es clock) (ht : P.underlying t = some (.map kt et)) :
    (Instr.range t (.map (some r))).run P w = .ok (.pointer (some ⟨w.heap.size, 0, none⟩)) (w.alloc (.mapIter (some r) clock #[] clock)) := by
  simp only [Instr.range, Sem.run_bind, run_underlying ht, Result.andThen_ok, run_getMap h]
  rfl
/-- A range over a map of no entry. -/
theorem run_next_none {P : Program} {w : World} {r q c : Nat} {ty : TypeId} (h : w.heap[r]? = some (.map #[] c)) (hq : w.heap[q]? = some (.mapIter (some r) c #[] c)) :
    (Instr.next (.pointer (some ⟨q, 0, none⟩)) false ty).run P w = .ok (.tuple #[.bool false]) w := by
  rcases run_next_at (P := P) w ty q r c c #[] #[] c hq h (fun x hx => by simp at hx) (Nat.le_refl _) with ⟨_, h1⟩ | ⟨e, he, _⟩
  · exact h1
  · simp [leftOf] at he
theorem run_next_one {P : Program} {w : World} {r q c : Nat} {e : MapEntry} {ty : TypeId} (h : w.heap[r]? = some (.map #[e] c)) (hb : e.born < c) (hq : w.heap[q]? = some (.mapIter (some r) c #[] c)) :
    ∃ w', (Instr.next (.pointer (some ⟨q, 0, none⟩)) false ty).run P w = .ok (.tuple #[.bool true, e.key, e.val]) w' ∧ w'.heap[q]? = some (.mapIter (some r) c #[e.born] c) ∧ Mod w w' (fun k => k = q) ∧
      (Instr.entry (.pointer (some ⟨q, 0, none⟩))).run P w' = .ok (.tuple #[e.key, e.val]) w' := by
  rcases run_next_at (P := P) w ty q r c c #[] #[e] c hq h (fun x hx => by simp at hx; subst hx; exact hb) (Nat.le_refl _) with ⟨h0, _⟩ | ⟨e', he, w1, hw1, h1⟩
  · simp [leftOf] at h0
  · have : e' = e := by simpa [leftOf] using he
    subst this
    have hrq : r ≠ q := by rintro rfl; rw [h] at hq; cases hq
    have hqs : q < w1.heap.size := by
      have := (Array.getElem?_eq_some_iff.1 hq).1
      rcases hw1 with rfl | rfl <;> exact this
    have hh : (ChangeMaps.setBlock w1 q (.mapIter (some r) c (#[].push e'.born) c)).heap[q]? = some (.mapIter (some r) c (#[].push e'.born) c) := by simp [ChangeMaps.setBlock, hqs]
    have hr : (ChangeMaps.setBlock w1 q (.mapIter (some r) c (#[].push e'.born) c)).heap[r]? = some (.map #[e'] c) := by
      simp only [ChangeMaps.setBlock]
      rw [Array.getElem?_setIfInBounds_ne (fun e => hrq e.symm)]
      rcases hw1 with rfl | rfl <;> exact h
    refine ⟨_, h1, hh, ?_, run_entry_at _ q r c #[] #[e'] c e' hh hr (by simp) (by simp)⟩
    have hm : Mod w1 (ChangeMaps.setBlock w1 q (.mapIter (some r) c (#[].push e'.born) c)) (fun k => k = q) :=
      ⟨rfl, rfl, rfl, by simp [ChangeMaps.setBlock], fun k hk hn => by simp only [ChangeMaps.setBlock]; exact Array.getElem?_setIfInBounds_ne (fun e => hn e.symm)⟩
    rcases hw1 with rfl | rfl
    · exact hm
    · exact ⟨hm.os, hm.tape, hm.output, hm.size, hm.block⟩
theorem run_next_end {P : Program} {w : World} {r q c b : Nat} {e : MapEntry} {ty : TypeId} (h : w.heap[r]? = some (.map #[e] c)) (hb : e.born < c) (hq : w.heap[q]? = some (.mapIter (some r) c #[e.born] c)) :
    (Instr.next (.pointer (some ⟨q, 0, none⟩)) false ty).run P w = .ok (.tuple #[.bool false]) w := by
  rcases run_next_at (P := P) w ty q r c c #[e.born] #[e] c hq h (fun x hx => by simp at hx; subst hx; exact hb) (Nat.le_refl _) with ⟨_, h1⟩ | ⟨e', he, _⟩
  · exact h1
  · simp [leftOf] at he
end Go.Proofs.YtcnjipicifkfjaaGreat

/- runs: New, add, drop. -/
namespace Go.Proofs.YtcnjipicifkfjaaGreat
open Go.RowKit
set_option linter.unusedVariables false
set_option linter.unusedSimpArgs false

/-- What the two maps of free runs tell, if there is one run, or none. -/
def runF (o : Option (Nat × Nat)) (y : Nat) : Option Value := match o with | none => none | some r => if y = r.1 then some (.int .i64 (r.2 : Nat)) else none
def endF (o : Option (Nat × Nat)) (y : Nat) : Option Value := match o with | none => none | some r => if y = r.1 + r.2 then some (.int .i64 (r.1 : Nat)) else none
/-- An index of free runs at block x. -/
def IdxR (w : World) (F : Nat → Prop) (x K : Nat) (o : Option (Nat × Nat)) : Prop :=
  ∃ s e, Blk w x 253 #[.map (some s), .map (some e), .int .i64 K] ∧ MapF w s natK (runF o) ∧ MapF w e natK (endF o) ∧ F x ∧ F s ∧ F e ∧ s ≠ e
theorem key3 : KeyT Tryz.prog 3 natK := natT Tryz.underlying3
theorem MapF.entry {P : Program} {w : World} {r kt et t : TypeId} {κ : Type} [DecidableEq κ] {K : κ → Value} {f : κ → Option Value} (k : KeyT P kt K) (ht : P.underlying t = some (.map kt et)) {z : Value} (hz : ∀ w, (zeroValue et).run P w = .ok z w) (h : MapF w r K f) (x : κ) (hx : f x = none) :
    ∃ (c : Nat) (w1 : World), (Instr.mapEntry t (.map (some r)) (K x)).run P w = .ok (.tuple #[z, .int .i64 (c : Int)]) w1 ∧ Mod w w1 (fun k => k = r) ∧
      ∀ (v : Value) (w2 : World), w2.heap[r]? = w1.heap[r]? → ∃ w3, (Instr.entryStore t (.map (some r)) (.int .i64 (c : Int)) v).run P w2 = .ok () w3 ∧ MapF w3 r K (putF f x v) ∧ Mod w2 w3 (fun k => k = r) := by
  obtain ⟨es, c, h, h2⟩ := h
  have hsz := h.size
  have hf : findE x es 0 = none := by
    have := hx
    rw [h2] at this
    unfold getE at this
    cases hf : findE x es 0 with
    | none => rfl
    | some p => rw [hf] at this; cases this
  have hw1 : (w.putObj r (.map ((es ++ [(x, z, c)]).map (mkE K)).toArray (c + 1))).heap[r]? = some (.map ((es ++ [(x, z, c)]).map (mkE K)).toArray (c + 1)) := World.putObj_heap_same hsz
  refine ⟨c, w.putObj r (.map ((es ++ [(x, z, c)]).map (mkE K)).toArray (c + 1)), ?_, mod_put _ _ _, fun v w2 hw2 => ?_⟩
  · simp only [Instr.mapEntry, Sem.run_bind, run_underlying ht, Result.andThen_ok, run_getMap h, k.chk, k.find, hf, run_setMap h, hz, Sem.run_pure]
    simp [mkE, goInt]
  · rw [hw1] at hw2
    have hr : r < w2.heap.size := (Array.getElem?_eq_some_iff.1 hw2).1
    have hidx : ((es ++ [(x, z, c)]).map (mkE K)).toArray.findIdx? (fun e => (e.born : Int) == (c : Int)) = some es.length := by
      rw [WideElems.findIdx_arr]
      have := WideElems.findIdx_born (l := (es ++ [(x, z, c)]).map (mkE K)) (j := es.length) (e0 := mkE K (x, z, c)) (by
        have e : ((es ++ [(x, z, c)]).map (mkE K)).map (·.born) = (es ++ [(x, z, c)]).map (·.2.2) := by rw [List.map_map]; rfl
        rw [e, List.map_append, List.nodup_append]
        refine ⟨h.born, by simp, fun a ha b hb => ?_⟩
        simp at hb
        subst hb
        obtain ⟨e, he, rfl⟩ := List.mem_map.1 ha
        have := h.lt e he
        omega) (by simp)
      exact this
    refine ⟨w2.putObj r (.map ((es ++ [(x, v, c)]).map (mkE K)).toArray (c + 1)), ?_, ⟨es ++ [(x, v, c)], c + 1, ⟨World.putObj_heap_same hr, ?_, ?_, ?_⟩, fun y => ?_⟩, mod_put _ _ _⟩
    · have hg : (getObj r).run P w2 = .ok (.map ((es ++ [(x, z, c)]).map (mkE K)).toArray (c + 1)) w2 := MapKept.run_getObj_map hw2
      have hs : ∀ o, (setObj r o).run P w2 = .ok () (w2.putObj r o) := fun o => MapKept.run_setObj_map o hw2
      have ha : (asInt (.int .i64 (c : Int))).run P w2 = .ok (c : Int) w2 := rfl
      simp only [Instr.entryStore, Sem.run_bind, Result.andThen_ok, hg, ha, hidx, hs]
      congr 3
      rw [List.modify_toArray]
      congr 1
      rw [List.map_append, List.map_append]
      have := WideElems.modify_last (fun e : MapEntry => { e with val := v }) (mkE K (x, z, c)) (es.map (mkE K))
      rw [List.length_map] at this
      exact this
    · rw [List.map_append, List.nodup_append]
      refine ⟨h.keys, by simp, fun a ha b hb => ?_⟩
      simp at hb
      subst hb
      obtain ⟨e, he, rfl⟩ := List.mem_map.1 ha
      exact findE_none hf e he
    · intro e he
      rcases List.mem_append.1 he with he | he
      · have := h.lt e he; omega
      · simp at he; subst he; simp
    · rw [List.map_append, List.nodup_append]
      refine ⟨h.born, by simp, fun a ha b hb => ?_⟩
      simp at hb
      subst hb
      obtain ⟨e, he, rfl⟩ := List.mem_map.1 ha
      have := h.lt e he
      omega
    · unfold putF
      rw [getE_append, getE_cons]
      by_cases hy : y = x
      · subst hy
        rw [if_pos rfl, if_pos rfl]
        have : getE es y = none := by unfold getE; rw [hf]; rfl
        rw [this]; rfl
      · rw [if_neg hy, if_neg (fun e => hy e.symm), h2]
        simp [getE, findE]
theorem zeroValue3 : ∀ w, (zeroValue 3).run Tryz.prog w = .ok (.int .i64 0) w := fun w => by kernel_rfl
set_option maxRecDepth 100000 in
set_option maxHeartbeats 1000000 in
theorem xadd_any (F : Nat → Prop) (x K st n : Nat) (w : World) (h : IdxR w F x K none) (hst : st ≤ 1000) (hn : n ≤ 1000) :
    Calls Tryz.prog 226 #[.pointer (some ⟨x, 0, none⟩), .int .i64 st, .int .i64 n] w fun e w' => (∃ v, e = .returned v) ∧ IdxR w' F x K (some (st, n)) ∧ Mod w w' F := by
  obtain ⟨s, e, hb, hs, he, f1, f2, f3, hne⟩ := h
  have c0 : w.cell? ⟨x, 0, none⟩ = some (.map (some s)) := hb.cell 0
  have c1 : w.cell? ⟨x, 1, none⟩ = some (.map (some e)) := hb.cell 1
  obtain ⟨ca, w1, r1, m1, k1⟩ := MapF.entry (w := w.drew) key3 Tryz.underlying251 zeroValue3 (hs.drewN 1) st rfl
  obtain ⟨w2, r2, hs2, m2⟩ := k1 (.int .i64 (n : Nat)) w1 rfl
  have he2 : MapF w2 e natK (endF none) := ((he.drewN 1).mod m1 (fun h => hne h.symm)).mod m2 (fun h => hne h.symm)
  obtain ⟨cb, w3, r3, m3, k3⟩ := MapF.entry key3 Tryz.underlying251 zeroValue3 he2 (st + n) rfl
  obtain ⟨w4, r4, he4, m4⟩ := k3 (.int .i64 (st : Nat)) w3 rfl
  have hs4 := (hs2.mod m3 (fun h => hne h)).mod m4 (fun h => hne h)
  have xs : x ≠ s := by
    rintro rfl
    obtain ⟨es, c, hm, _⟩ := hs
    have h1 := hm.at_
    unfold Blk at hb
    rw [hb] at h1; cases h1
  have xe : x ≠ e := by
    rintro rfl
    obtain ⟨es, c, hm, _⟩ := he
    have h1 := hm.at_
    unfold Blk at hb
    rw [hb] at h1; cases h1
  have hb4 := m4.blk (m3.blk (m2.blk (m1.blk (hb.drew) xs) xs) xe) xe
  have HR : Hid (IdxR w4 F x K (some (st, n)) ∧ Mod w w4 F) := by
    refine ⟨⟨s, e, hb4, ?_, ?_, f1, f2, f3, hne⟩, ?_⟩
    · obtain ⟨es, c, hm, h2⟩ := hs4
      exact ⟨es, c, hm, fun y => by rw [← h2 y]; unfold putF runF; simp⟩
    · obtain ⟨es, c, hm, h2⟩ := he4
      exact ⟨es, c, hm, fun y => by rw [← h2 y]; unfold putF endF; simp⟩
    · exact (((((Mod.refl w F).drewN 1).trans m1 (fun _ _ e => by rw [e]; exact f2)).trans m2 (fun _ _ e => by rw [e]; exact f2)).trans m3 (fun _ _ e => by rw [e]; exact f3)).trans m4 (fun _ _ e => by rw [e]; exact f3)
  have r1' : (Instr.mapEntry 251 (.map (some s)) (.int .i64 (st : Nat))).run Tryz.prog w.drew = .ok (.tuple #[.int .i64 0, .int .i64 (ca : Int)]) w1 := r1
  have r3' : (Instr.mapEntry 251 (.map (some e)) (.int .i64 ((st + n : Nat) : Int))).run Tryz.prog w2 = .ok (.tuple #[.int .i64 0, .int .i64 (cb : Int)]) w3 := r3
  have hsum : (st : Int) + (n : Int) = ((st + n : Nat) : Int) := by omega
  obtain ⟨q, Hq⟩ : ∃ q, Hid (st + n = q) := ⟨_, rfl⟩
  rw [Hq.out] at r3' hsum
  have hq : q ≤ 2000 := by rw [← Hq.out]; omega
  have hw : IntKind.i64.wrap (q : Int) = (q : Int) := IntWalk.i64_in _ (by omega)
  clear r1 r3 k1 k3 hs2 he2 he4 hs4 hb4 hs he m1 m2 m3 m4 xs xe hne hb
  go_enter Tryz.func226, Tryz.ntmps226
  go_region
  all_goals
    go_wp2_with fail
    go_end0
    exact ⟨⟨_, rfl⟩, HR.out⟩
end Go.Proofs.YtcnjipicifkfjaaGreat

/- runs: New, drop, Has, Give, Take, Fill. -/
namespace Go.Proofs.YtcnjipicifkfjaaGreat
open Go.RowKit
set_option linter.unusedVariables false
set_option linter.unusedSimpArgs false

section
variable {w w' : World} {F F' S : Nat → Prop} {x K : Nat} {o : Option (Nat × Nat)}
theorem IdxR.mod (h : IdxR w F x K o) (m : Mod w w' S) (hs : ∀ k, F k → ¬ S k) : IdxR w' F x K o := by
  obtain ⟨s, e, hb, h1, h2, f1, f2, f3, hne⟩ := h
  exact ⟨s, e, m.blk hb (hs _ f1), h1.mod m (hs _ f2), h2.mod m (hs _ f3), f1, f2, f3, hne⟩
theorem IdxR.weak (h : IdxR w F x K o) (hF : ∀ k, k < w.heap.size → F k → F' k) : IdxR w F' x K o := by
  obtain ⟨s, e, hb, h1, h2, f1, f2, f3, hne⟩ := h
  exact ⟨s, e, hb, h1, h2, hF _ hb.lt f1, hF _ h1.size f2, hF _ h2.size f3, hne⟩
theorem IdxR.below {B : Nat} (h : IdxR w F x K o) (hb : Below B w w') (hB : w.heap.size ≤ B) : IdxR w' F x K o := by
  have h2 := (h.weak (F' := fun k => F k ∧ k < w.heap.size) (fun k h1 h2 => ⟨h2, h1⟩)).mod (Mod.of_below hb) (fun k hk => Nat.not_le.2 (Nat.lt_of_lt_of_le hk.2 hB))
  exact h2.weak (fun k _ hk => hk.1)
end
theorem step_delete {P : Program} {ops : Array Oper} {o : Oper} {a : Act} {w w' : World} {K : Act → World → Prop} {Q : Exit → Act → World → Prop} {E : Prop} (hgd : o.guard = none) (m x : Operand) (t k : TypeId)
    (ho : o.op = .call { callee := .builtin .delete, args := #[m, x], argTypes := #[t, k] }) (mv xv : Value) (hm : a.eval m = mv) (hx : a.eval x = xv) (hrun : (Builtin.delete_ #[t, k] o.type #[mv, xv]).run P w = .ok (.tuple #[]) w')
    (h : K (a.put o.dst (.tuple #[])) w') : if Region.wanted o (yielded ops a.tmps) = true then Oper.wp P o a w K Q else E := by
  have hw : Region.wanted o (yielded ops a.tmps) = true := by simp [Region.wanted, hgd]
  rw [if_pos hw]
  unfold Oper.wp execOp
  simp only [ho, resolve, invoke, builtin, Sem.run_bind, Sem.run_pure, Result.andThen_ok, List.map_toArray, List.map_cons, List.map_nil, hm, hx, hrun]
  exact h
theorem list_delete {P : Program} {ops : Array Oper} {rest : List Oper} {o : Oper} {a : Act} {w w' : World} {Q : Exit → Act → World → Prop} (hgd : o.guard = none) (m x : Operand) (t k : TypeId)
    (ho : o.op = .call { callee := .builtin .delete, args := #[m, x], argTypes := #[t, k] }) (mv xv : Value) (hm : a.eval m = mv) (hx : a.eval x = xv) (hrun : (Builtin.delete_ #[t, k] o.type #[mv, xv]).run P w = .ok (.tuple #[]) w')
    (h : wpList P ops Q rest (a.put o.dst (.tuple #[])) w') : wpList P ops Q (o :: rest) a w := by
  refine wpList_plain hgd fun K hK => ?_
  unfold Oper.wp execOp
  simp only [ho, resolve, invoke, builtin, Sem.run_bind, Sem.run_pure, Result.andThen_ok, List.map_toArray, List.map_cons, List.map_nil, hm, hx, hrun]
  exact hK _ _ h
theorem runF_at (st n : Nat) : runF (some (st, n)) st = some (.int .i64 (n : Nat)) := by unfold runF; simp
theorem xnew_any (K : Nat) (w : World) (hK : K ≤ 1000) :
    Calls Tryz.prog 185 #[.int .i64 K] w fun e w' => ∃ x, e = .returned (.pointer (some ⟨x, 0, none⟩)) ∧ IdxR w' (fun b => w.heap.size ≤ b) x K none ∧ Below w.heap.size w w' := by
  have hmm := @run_makeMap Tryz.prog
  obtain ⟨q, Hq⟩ : ∃ q, Hid (w.heap.size = q) := ⟨_, rfl⟩
  have HI : Hid (IdxR (((w.alloc (.map #[] 0)).alloc (.map #[] 0)).alloc (.cells #[.map (some q), .map (some (q + 1)), .int .i64 K] 253)) (fun b => q ≤ b) (q + 2) K none) := by
    have h1 : (w.alloc (.map #[] 0)).heap.size = q + 1 := by rw [World.size_alloc, Hq.out]
    have h2 : ((w.alloc (.map #[] 0)).alloc (.map #[] 0)).heap.size = q + 2 := by rw [World.size_alloc, h1]
    have hs := MapF.made w q Hq.out natK
    have he := MapF.made (w.alloc (.map #[] 0)) (q + 1) h1 natK
    refine ⟨q, q + 1, by rw [← h2]; exact Blk.new _ 253 _, (hs.mod ((Mod.refl _ Nob).alloc _) (fun h => h)).mod ((Mod.refl _ Nob).alloc _) (fun h => h), he.mod ((Mod.refl _ Nob).alloc _) (fun h => h), ?_, ?_, ?_, by omega⟩
    · show q ≤ q + 2; omega
    · show q ≤ q; omega
    · show q ≤ q + 1; omega
  have HB : Hid (Below q w (((w.alloc (.map #[] 0)).alloc (.map #[] 0)).alloc (.cells #[.map (some q), .map (some (q + 1)), .int .i64 K] 253))) := by
    rw [← Hq.out]
    exact (((Below.refl _ w).alloc (Nat.le_refl _) _).alloc (by simp) _).alloc (by simp; omega) _
  have hmax : max (K : Int) 0 = (K : Int) := by omega
  go_enter Tryz.func185, Tryz.ntmps185
  go_wp2_with fail
  go_ret
  rw [Hq.out]
  exact ⟨q + 2, rfl, HI.out, HB.out⟩
set_option maxRecDepth 100000 in
set_option maxHeartbeats 1000000 in
theorem xdrop_any (F : Nat → Prop) (x K st n : Nat) (w : World) (h : IdxR w F x K (some (st, n))) (hst : st ≤ 1000) (hn : n ≤ 1000) :
    Calls Tryz.prog 225 #[.pointer (some ⟨x, 0, none⟩), .int .i64 st] w fun e w' => (∃ v, e = .returned v) ∧ IdxR w' F x K none ∧ Mod w w' F := by
  obtain ⟨s, e, hb, hs, he, f1, f2, f3, hne⟩ := h
  have c0 : w.cell? ⟨x, 0, none⟩ = some (.map (some s)) := hb.cell 0
  have c1 : w.cell? ⟨x, 1, none⟩ = some (.map (some e)) := hb.cell 1
  have xs : x ≠ s := by
    rintro rfl
    obtain ⟨es, c, hm, _⟩ := hs
    have h1 := hm.at_
    unfold Blk at hb
    rw [hb] at h1; cases h1
  have xe : x ≠ e := by
    rintro rfl
    obtain ⟨es, c, hm, _⟩ := he
    have h1 := hm.at_
    unfold Blk at hb
    rw [hb] at h1; cases h1
  have hlk : (Instr.lookup 251 (.map (some s)) (.int .i64 (st : Nat)) false).run Tryz.prog w = .ok (.int .i64 (n : Nat)) w := by
    have := hs.look key3 Tryz.underlying251 zeroValue3 st
    rw [runF_at] at this
    exact this
  have hlkd : (Instr.lookup 251 (.map (some s)) (.int .i64 (st : Nat)) false).run Tryz.prog w.drew = .ok (.int .i64 (n : Nat)) w.drew := by
    have := (hs.drewN 1).look key3 Tryz.underlying251 zeroValue3 st
    rw [runF_at] at this
    exact this
  obtain ⟨w1, r1, he1, m1⟩ := MapF.del (w := w.drew) key3 Tryz.underlying251 (he.drewN 1) (st + n) #[251, 3] rfl 0
  obtain ⟨w2, r2, hs2, m2⟩ := MapF.del key3 Tryz.underlying251 ((hs.drewN 1).mod m1 hne) st #[251, 3] rfl 0
  have r1' : (Builtin.delete_ #[251, 3] 0 #[.map (some e), .int .i64 ((st + n : Nat) : Int)]).run Tryz.prog w.drew = .ok (.tuple #[]) w1 := r1
  have r2' : (Builtin.delete_ #[251, 3] 0 #[.map (some s), .int .i64 (st : Nat)]).run Tryz.prog w1 = .ok (.tuple #[]) w2 := r2
  have hb1 := m1.blk hb.drew xe
  have y0 : w1.cell? ⟨x, 0, none⟩ = some (.map (some s)) := hb1.cell 0
  have HR : Hid (IdxR w2 F x K none ∧ Mod w w2 F) := by
    refine ⟨⟨s, e, m2.blk hb1 xs, ?_, ?_, f1, f2, f3, hne⟩, ?_⟩
    · obtain ⟨es, c, hm, h2⟩ := hs2
      exact ⟨es, c, hm, fun y => by rw [← h2 y]; unfold delF runF; simp⟩
    · obtain ⟨es, c, hm, h2⟩ := he1.mod m2 (fun h => hne h.symm)
      exact ⟨es, c, hm, fun y => by rw [← h2 y]; unfold delF endF; simp⟩
    · exact ((((Mod.refl w F).drewN 1).trans m1 (fun _ _ e => by rw [e]; exact f3)).trans m2 (fun _ _ e => by rw [e]; exact f2))
  have R1 := Lib.hid r1'
  have R2 := Lib.hid r2'
  have hsum : (st : Int) + (n : Int) = ((st + n : Nat) : Int) := by omega
  obtain ⟨q, Hq⟩ : ∃ q, Hid (st + n = q) := ⟨_, rfl⟩
  rw [Hq.out] at R1 hsum
  have hq : q ≤ 2000 := by rw [← Hq.out]; omega
  have hw : IntKind.i64.wrap (q : Int) = (q : Int) := IntWalk.i64_in _ (by omega)
  clear r1 r2 r1' r2' hs2 he1 hs he m1 m2 xs xe hne hb hb1
  go_enter Tryz.func225, Tryz.ntmps225
  go_wp2_with fail
  go_region_law ((refine step_delete (by rfl) (.tmp 7) (.tmp 15) 251 3 (by rfl) _ _ (by rfl) (by rfl) R1.out ?_))
  all_goals
    go_wp2_with (refine list_delete rfl (.tmp 19) (.tmp 20) 251 3 rfl _ _ rfl rfl R2.out ?_)
    go_end0
    exact ⟨⟨_, rfl⟩, HR.out⟩
end Go.Proofs.YtcnjipicifkfjaaGreat
