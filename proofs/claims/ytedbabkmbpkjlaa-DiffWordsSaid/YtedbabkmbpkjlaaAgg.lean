/- Whole rows: a struct or an array read out of a block, stored into one; an array's element by value; equality of an array with itself. -/
import Derived.Test.YtedbabkmbpkjlaaMod
import Derived.Laws.CopyRow
import Derived.Laws.StructEq
import Derived.OwnWalk
namespace Go.Proofs.Ytedbabkmbpkjlaa
open Go.RowKit

section
variable {P : Program} {w : World} {g : Nat} {t ty : TypeId} {cs cur : Array Value} {d : TypeDesc}

theorem Blk.setRow (h : Blk w g t cur) (cs : Array Value) : Blk (w.setRow g cs) g t cs := setRow_heap w g cur cs t _ h
theorem mod_setRow (w : World) (g : Nat) (cs : Array Value) : Mod w (w.setRow g cs) (fun k => k = g) :=
  ⟨rfl, rfl, rfl, by simp, fun k _ hk => setRow_other w g k cs (fun e => hk e)⟩

/-- Part of a block, from cell 'o' on, read as a struct or an array. -/
theorem run_load_sub (o n : Nat) (hg : Blk w g t cs) (hu : P.underlying ty = some d) (hd : (match d with | .struct _ | .array _ _ => true | _ => false) = true)
    (hi : (P.info? ty).map (·.size) = some n) (hn : o + n ≤ cs.size) :
    (loadVar ty ⟨g, o, none⟩).run P w = .ok (.agg (cs.extract o (o + n))) w := by
  have hl : (loadCells ⟨g, o, none⟩ (cs.extract o (o + n)).toList.length).run P w = .ok (cs.extract o (o + n)).toList.toArray w :=
    run_loadCells_list (P := P) w ⟨g, o, none⟩ (cs.extract o (o + n)).toList (fun j v hv => by
      have hadd : (⟨g, o, none⟩ : Addr).add j = ⟨g, o + j, none⟩ := by unfold Addr.add; split <;> simp_all
      rw [hadd, hg.cell (o + j)]
      rw [Array.getElem?_toList, Array.getElem?_extract] at hv
      split at hv
      · exact hv
      · cases hv)
  have hsz : (cs.extract o (o + n)).size = n := by rw [Array.size_extract]; omega
  cases hq : P.info? ty with
  | none => simp [hq] at hi
  | some i =>
    have hs : i.size = n := by simpa [hq] using hi
    have hagg : (isAgg ty).run P w = .ok true w := by
      unfold isAgg
      rw [Sem.run_bind, run_underlying hu w]
      cases d <;> simp_all
    simp only [Array.length_toList, Array.toArray_toList, hsz] at hl
    simp [loadVar, Sem.run_bind, hagg, sizeOf, typeInfo, hq, hs, hl]

theorem wpList_load_sub {ops : Array Oper} {rest : List Oper} {op : Oper} {a : Act} {Q : Exit → Act → World → Prop} (hgd : op.guard = none) (x : Operand) (ho : op.op = .load ty x)
    (o n : Nat) (hx : a.eval x = .pointer (some ⟨g, o, none⟩)) (hg : Blk w g t cs) (hu : P.underlying ty = some d) (hd : (match d with | .struct _ | .array _ _ => true | _ => false) = true)
    (hi : (P.info? ty).map (·.size) = some n) (hn : o + n ≤ cs.size) (h : wpList P ops Q rest (a.put op.dst (.agg (cs.extract o (o + n)))) w) : wpList P ops Q (op :: rest) a w := by
  refine wpList_plain hgd fun K hK => ?_
  unfold Oper.wp execOp
  simp only [ho, hx, Instr.loadAt, Instr.sureAddr, Sem.run_bind, Sem.run_pure, Result.andThen_ok, run_load_sub o n hg hu hd hi hn]
  exact hK _ _ h

/-- A whole block stored over. -/
theorem run_store_row (hg : Blk w g t cur) (hi : (P.info? ty).map (·.size) = some cs.size) (hs : cs.size = cur.size) (h1 : ∀ v ∈ cs.toList, v.oneCell' = true) :
    (storeVar ty ⟨g, 0, none⟩ (.agg cs)).run P w = .ok () (w.setRow g cs) := by
  cases hq : P.info? ty with
  | none => simp [hq] at hi
  | some i =>
    have hsz : i.size = cs.size := by simpa [hq] using hi
    have hst := run_storeCells_at P g 0 t cs.toList 0 cur w hg (by simp; omega) h1
    have he : (List.take 0 cur.toList ++ cs.toList ++ List.drop (0 + cs.toList.length) cur.toList).toArray = cs := by
      rw [List.take_zero, List.nil_append, List.drop_of_length_le (by simp; omega), List.append_nil, Array.toArray_toList]
    simp only [Nat.add_zero, Nat.zero_add] at hst he
    rw [he] at hst
    simp [storeVar, Sem.run_bind, sizeOf, typeInfo, hq, hsz, Value.cells, hst]

theorem wpList_store_row {ops : Array Oper} {rest : List Oper} {op : Oper} {a : Act} {Q : Exit → Act → World → Prop} (hgd : op.guard = none) (x y : Operand) (ho : op.op = .store ty x y)
    (hx : a.eval x = .pointer (some ⟨g, 0, none⟩)) (hy : a.eval y = .agg cs) (hg : Blk w g t cur) (hi : (P.info? ty).map (·.size) = some cs.size) (hs : cs.size = cur.size)
    (h1 : ∀ v ∈ cs.toList, v.oneCell' = true) (h : ∀ w', Blk w' g t cs → Mod w w' (fun k => k = g) → wpList P ops Q rest (a.put op.dst undef) w') : wpList P ops Q (op :: rest) a w := by
  refine wpList_plain hgd fun K hK => ?_
  unfold Oper.wp execOp
  simp only [ho, hx, hy, Instr.storeAt, Instr.sureAddr, Sem.run_bind, Sem.run_pure, Result.andThen_ok, run_store_row hg hi hs h1]
  exact hK _ _ (h _ (hg.setRow cs) (mod_setRow w g cs))

/-- An element of an array that is held by value: of several cells. -/
theorem run_index_sub {e : TypeId} {k : IntKind} (len n i : Nat) (ht : P.underlying ty = some (.array len e)) (hu : P.underlying e = some d) (hd : (match d with | .struct _ | .array _ _ => true | _ => false) = true)
    (hi : (P.info? e).map (·.size) = some n) (hlt : i < len) (w : World) : (Instr.index ty (.agg cs) (.int k (i : Int))).run P w = .ok (.agg (cs.extract (i * n) (i * n + n))) w := by
  cases hq : P.info? e with
  | none => simp [hq] at hi
  | some inf =>
    have hs : inf.size = n := by simpa [hq] using hi
    have hagg : ∀ w, (isAgg e).run P w = .ok true w := by
      intro w
      unfold isAgg
      rw [Sem.run_bind, run_underlying hu w]
      cases d <;> simp_all
    have h0 : (0 : Int) ≤ (i : Int) ∧ (i : Int) < (len : Int) := by omega
    simp [Instr.index, asIntOf, Sem.run_bind, run_underlying ht, sizeOf, typeInfo, hq, hs, hlt, part, hagg]
/-- .. of one cell. -/
theorem run_index_one {e : TypeId} {k : IntKind} (len i : Nat) (u : Value) (ht : P.underlying ty = some (.array len e)) (hu : P.underlying e = some d) (hd : (match d with | .struct _ | .array _ _ => true | _ => false) = false)
    (hi : (P.info? e).map (·.size) = some 1) (hlt : i < len) (hc : cs[i]? = some u) (w : World) : (Instr.index ty (.agg cs) (.int k (i : Int))).run P w = .ok u w := by
  cases hq : P.info? e with
  | none => simp [hq] at hi
  | some inf =>
    have hs : inf.size = 1 := by simpa [hq] using hi
    have hagg : ∀ w, (isAgg e).run P w = .ok false w := by
      intro w
      unfold isAgg
      rw [Sem.run_bind, run_underlying hu w]
      cases d <;> simp_all
    simp [Instr.index, asIntOf, Sem.run_bind, run_underlying ht, sizeOf, typeInfo, hq, hs, hlt, part, hagg, hc]

/-- An array is equal to itself where its elements are. -/
theorem eq_array (dp : Nat) (t e : TypeId) (len n : Nat) (xs : Array Value) (ht : P.underlying t = some (.array len e)) (hi : (P.info? e).map (·.size) = some n)
    (h : ∀ i, i < len → ∃ v, (part e xs (i * n)).run P w = .ok v w ∧ (Op.equalIn dp e v v).run P w = .ok true w) :
    (Op.equalIn (dp + 1) t (.agg xs) (.agg xs)).run P w = .ok true w := by
  cases hq : P.info? e with
  | none => simp [hq] at hi
  | some inf =>
    have hs : inf.size = n := by simpa [hq] using hi
    simp only [Op.equalIn, Sem.run_bind, run_underlying ht, Result.andThen_ok, sizeOf, typeInfo, run_program, hq, Sem.run_pure, hs]
    rw [Std.Legacy.Range.forIn_eq_forIn_range']
    have hl : ∀ i, i ∈ List.range' [:len].start [:len].size [:len].step → i < len := by
      intro i hi
      simp [Std.Legacy.Range.size] at hi
      omega
    revert hl
    generalize List.range' [:len].start [:len].size [:len].step = l
    intro hl
    induction l with
    | nil => simp
    | cons i l ih =>
      obtain ⟨v, h1, h2⟩ := h i (hl i (by simp))
      simp only [List.forIn_cons, Sem.run_bind, h1, h2, Result.andThen_ok, Bool.not_true, Bool.false_eq_true, if_false, Sem.run_pure]
      exact ih (fun j hj => hl j (by simp [hj]))

theorem part_sub (e : TypeId) (xs : Array Value) (o n : Nat) (hu : P.underlying e = some d) (hd : (match d with | .struct _ | .array _ _ => true | _ => false) = true)
    (hi : (P.info? e).map (·.size) = some n) : (part e xs o).run P w = .ok (.agg (xs.extract o (o + n))) w := by
  cases hq : P.info? e with
  | none => simp [hq] at hi
  | some inf =>
    have hs : inf.size = n := by simpa [hq] using hi
    have hagg : (isAgg e).run P w = .ok true w := by
      unfold isAgg
      rw [Sem.run_bind, run_underlying hu w]
      cases d <;> simp_all
    simp [part, Sem.run_bind, hagg, sizeOf, typeInfo, hq, hs]

theorem part_one (e : TypeId) (xs : Array Value) (o : Nat) (v : Value) (hu : P.underlying e = some d) (hd : (match d with | .struct _ | .array _ _ => true | _ => false) = false)
    (hv : xs[o]? = some v) : (part e xs o).run P w = .ok v w := by
  have hagg : (isAgg e).run P w = .ok false w := by
    unfold isAgg
    rw [Sem.run_bind, run_underlying hu w]
    cases d <;> simp_all
  simp [part, Sem.run_bind, hagg, hv]
end
end Go.Proofs.Ytedbabkmbpkjlaa
