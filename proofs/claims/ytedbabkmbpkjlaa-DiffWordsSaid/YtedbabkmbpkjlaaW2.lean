/- The walks of Same, few, refs; changes in memory. -/
import Derived.Test.YtedbabkmbpkjlaaW1
import Derived.Deep.RegionHeld3
import Derived.Deep.AppendLies
import Derived.Laws.CopyOwn
namespace Go.Proofs.Ytedbabkmbpkjlaa
open Go.RowKit
set_option linter.unusedVariables false
set_option linter.unusedSimpArgs false

/-- Words' cells. -/
def ucells (l : List Int) : List Value := l.map (Value.int .u64)
theorem ucells_len (l : List Int) : (ucells l).length = l.length := by simp [ucells]
theorem ucells_at (l : List Int) (j : Nat) (h : j < l.length) : (ucells l)[j]? = some (.int .u64 (l.getD j 0)) := by simp [ucells, h, List.getD_eq_getElem?_getD]
theorem ucells_append (l m : List Int) : ucells (l ++ m) = ucells l ++ ucells m := by simp [ucells]
theorem ucells_one {l : List Int} : ∀ u ∈ ucells l, u.oneCell' = true := by
  intro u hu
  simp only [ucells, List.mem_map] at hu
  obtain ⟨_, _, rfl⟩ := hu
  rfl
theorem Rd.ulen {w : World} {A : Option Addr} {n : Nat} {l : List Int} (h : Rd w 1 A n (ucells l)) : l.length = n := by have := h.1; rw [ucells_len] at this; omega
theorem Rd.word {w : World} {A : Option Addr} {n : Nat} {l : List Int} (h : Rd w 1 A n (ucells l)) (hn : 0 < n) : ∃ g off, A = some ⟨g, off, none⟩ ∧ g < w.heap.size ∧ ∀ j, j < n → w.cell? ⟨g, off + j, none⟩ = some (.int .u64 (l.getD j 0)) := by
  obtain ⟨g, off, h1, h2, h3⟩ := h.2 hn
  exact ⟨g, off, h1, h2, fun j hj => h3 j _ (ucells_at l j (by rw [h.ulen]; exact hj))⟩
theorem cell_mod {w w' : World} {S : Nat → Prop} {p : Addr} {v : Value} (m : Mod w w' S) (h : w.cell? p = some v) (hs : ¬ S p.block) : w'.cell? p = some v :=
  (World.cell?_of_block (m.block p.block (cell_lt h) hs)).trans h
/-- 'append(s, x)' at a step of a region that draws its order. -/
theorem step_append_elem {P : Program} {ops : Array Oper} {o : Oper} {a : Act} {w : World} {K : Act → World → Prop} {Q : Exit → Act → World → Prop} {E : Prop} (hgd : o.guard = none) (s x : Operand) (t : TypeId)
    (ho : o.op = .call { callee := .builtin .append, args := #[s, x], argTypes := #[t, t] })
    (base : Nat) (e : TypeId) (i : TypeInfo) (z : Value) (sz bytes : Nat) (ht : P.underlying t = some (.slice e)) (hi : P.info? e = some i) (hz : i.zero = some z)
    (hsize : i.size = sz) (hby : i.bytes = bytes) (hzs : z.cells.size = sz) (hsz : 0 < sz)
    (A : Option Addr) (n cap : Nat) (xs : List Value) (hs : a.eval s = .slice A n cap) (hown : Own w base e sz A n cap xs) (us : List Value) (hus : us.length = sz) (gX : Nat)
    (hx : a.eval x = .slice (some ⟨gX, 0, none⟩) 1 1) (hX : Blk w gX e us.toArray) (h1 : ∀ u ∈ us, u.oneCell' = true)
    (h63 : n + 1 ≤ maxLen) (hbytes : (n + 1) * bytes ≤ 140737488355328) (hbase : base ≤ w.heap.size)
    (h : ∀ A' cap' w', Own w' base e sz A' (n + 1) cap' (xs ++ us) → Mod w w' (fun k => ∃ a, A = some a ∧ a.block = k) →
      (∀ a', A' = some a' → (∃ a, A = some a ∧ a.block = a'.block) ∨ w.heap.size ≤ a'.block) → K (a.put o.dst (.slice A' (n + 1) cap')) w') :
    if Region.wanted o (yielded ops a.tmps) = true then Oper.wp P o a w K Q else E := by
  refine step_append_lies w hgd s x t ho base e i z sz bytes ht hi hz hsize hby hzs hsz (.slice A n cap) n xs hs hown.row ⟨gX, 0, none⟩ 1 1 us hx (by omega) (World.news_of_block hX) h1 (by omega) h63 hbytes hbase w.heap.size rfl ?_
  intro g cap' w' hown' hg hat hlt
  obtain ⟨A', cap2, e2, hown2⟩ := Own.of_row hown'
  cases e2
  refine h _ cap' w' hown2 ?_ ?_
  · refine (Mod.of_grown hg).mono fun k hk hk2 => ?_
    cases A with
    | none => simp [Value.ownBlock] at hk2
    | some a => exact ⟨a, rfl, by simpa [Value.ownBlock] using hk2⟩
  · rintro a' ha
    cases ha
    rcases hat with hat | hat
    · cases A with
      | none => simp [Value.ownBlock] at hat
      | some a => exact .inl ⟨a, rfl, by simpa [Value.ownBlock] using hat⟩
    · exact .inr (Nat.le_of_eq hat.symm)

theorem same_any (A : Option Addr) (n cap : Nat) (A2 : Option Addr) (cap2 : Nat) (l : List Int) (w : World) (hn : n ≤ 100000) (hr : Rd w 1 A n (ucells l)) (hr2 : Rd w 1 A2 n (ucells l)) :
    Calls Try.prog 12 #[.slice A n cap, .slice A2 n cap2] w fun e w' => e = .returned (.bool true) ∧ Below w.heap.size w w' := by
  have Hr := Lib.hid hr
  have Hr2 := Lib.hid hr2
  clear hr hr2
  go_enter Try.func12, Try.ntmps12
  go_wp2_with fail
  go_loopw [5] (fun v3 wr => ∃ i : Nat, v3 = .int .i64 i ∧ i ≤ n ∧ Below w.heap.size w wr) (fun v3 _ => n - (intOf v3).toNat)
  case atStart => exact ⟨0, rfl, Nat.zero_le _, Below.refl _ _⟩
  case round =>
    obtain ⟨i, rfl, hi, hb⟩ := hrel
    have Hb := Lib.hid hb
    clear hb
    by_cases hlt : i < n
    · obtain ⟨g, off, rfl, hg, hc⟩ := Rd.word (Hr.out.below Hb.out (Nat.le_refl _)) (by omega)
      obtain ⟨g2, off2, rfl, hg2, hc2⟩ := Rd.word (Hr2.out.below Hb.out (Nat.le_refl _)) (by omega)
      have c0 := hc i hlt
      have d0 := hc2 i hlt
      clear hc hc2
      generalize l.getD i 0 = x at *
      go_wp2_with fail
      go_quiet (fail)
      go_wp2_with fail
      exact ⟨⟨i + 1, by go_num, by omega, below_drewN Hb.out _⟩, by simp [intOf]; omega⟩
    · go_wp2_with fail
      go_ret
      exact ⟨rfl, Hb.out⟩

/-- A change's slices, as they stand in memory. -/
structure Hd where
  A : Option Addr
  n : Nat
  c : Nat
  A2 : Option Addr
  m : Nat
  c2 : Nat
/-- Changes in memory: where each is, and its slices. -/
def ChRow (w : World) (A : Option Addr) (n : Nat) (pos : Nat → Int) (hd : Nat → Hd) : Prop :=
  0 < n → ∃ g off, A = some ⟨g, off, none⟩ ∧ g < w.heap.size ∧ ∀ j, j < n → w.cell? ⟨g, off + j * 3, none⟩ = some (.int .i64 (pos j)) ∧ w.cell? ⟨g, off + j * 3 + 1, none⟩ = some (.slice (hd j).A (hd j).n (hd j).c) ∧ w.cell? ⟨g, off + j * 3 + 2, none⟩ = some (.slice (hd j).A2 (hd j).m (hd j).c2)
/-- What their slices hold. -/
def ChVals (w : World) (n : Nat) (hd : Nat → Hd) (was now : Nat → List Int) : Prop :=
  ∀ j, j < n → Rd w 1 (hd j).A (hd j).n (ucells (was j)) ∧ Rd w 1 (hd j).A2 (hd j).m (ucells (now j))
theorem ChRow.below {w w' : World} {A : Option Addr} {n B : Nat} {pos : Nat → Int} {hd : Nat → Hd} (h : ChRow w A n pos hd) (hb : Below B w w') (hB : w.heap.size ≤ B) : ChRow w' A n pos hd := fun hn => by
  obtain ⟨g, off, h1, h2, h3⟩ := h hn
  have hg := Nat.lt_of_lt_of_le h2 hB
  exact ⟨g, off, h1, Nat.lt_of_lt_of_le h2 hb.size, fun j hj => ⟨(hb.cell (p := ⟨g, off + j * 3, none⟩) hg).trans (h3 j hj).1, (hb.cell (p := ⟨g, off + j * 3 + 1, none⟩) hg).trans (h3 j hj).2.1, (hb.cell (p := ⟨g, off + j * 3 + 2, none⟩) hg).trans (h3 j hj).2.2⟩⟩
theorem ChVals.below {w w' : World} {n B : Nat} {hd : Nat → Hd} {was now : Nat → List Int} (h : ChVals w n hd was now) (hb : Below B w w') (hB : w.heap.size ≤ B) : ChVals w' n hd was now :=
  fun j hj => ⟨(h j hj).1.below hb hB, (h j hj).2.below hb hB⟩

theorem few_any (A : Option Addr) (n cap : Nat) (pos : Nat → Int) (hd : Nat → Hd) (w : World) (hn : n ≤ cap) (hcap : cap ≤ maxLen) (hr : ChRow w A n pos hd) :
    Calls Try.prog 6 #[.slice A n cap] w fun e w' => (∃ b, e = .returned (.bool b) ∧ (b = true → n ≤ 40)) ∧ Below w.heap.size w w' := by
  unfold maxLen at hcap
  have Hr := Lib.hid hr
  clear hr
  by_cases h40 : 40 < n
  · go_enter Try.func6, Try.ntmps6
    go_wp2_with fail
    go_ret
    exact ⟨⟨false, rfl, by simp⟩, Below.refl _ _⟩
  · go_enter Try.func6, Try.ntmps6
    go_wp2_with fail
    go_loopw [3] (fun v3 wr => ∃ i : Nat, v3 = .int .i64 i ∧ i ≤ n ∧ Below w.heap.size w wr) (fun v3 _ => n - (intOf v3).toNat)
    case atStart => exact ⟨0, rfl, Nat.zero_le _, Below.refl _ _⟩
    case round =>
      obtain ⟨i, rfl, hi, hb⟩ := hrel
      have Hb := Lib.hid hb
      clear hb
      by_cases hlt : i < n
      · obtain ⟨g, off, rfl, hg, hc⟩ := (Hr.out.below Hb.out (Nat.le_refl _)) (by omega)
        obtain ⟨c0, c1, c2⟩ := hc i hlt
        clear hc
        generalize pos i = p at *
        generalize hd i = hh at *
        obtain ⟨A1, n1, k1, A2, n2, k2⟩ := hh
        simp only at c1 c2
        cases d1 : decide ((100 : Int) < (n1 : Int)) with
        | true =>
          go_wp2_with fail
          go_ret
          exact ⟨⟨false, rfl, by simp⟩, Hb.out⟩
        | false =>
        cases d2 : decide ((100 : Int) < (n2 : Int)) with
        | true =>
          go_wp2_with fail
          go_ret
          exact ⟨⟨false, rfl, by simp⟩, Hb.out⟩
        | false =>
        cases d3 : decide ((1099511627776 : Int) < p) with
        | true =>
          go_wp2_with fail
          go_ret
          exact ⟨⟨false, rfl, by simp⟩, Hb.out⟩
        | false =>
          go_wp2_with fail
          exact ⟨⟨i + 1, by go_num, by omega, Hb.out⟩, by simp [intOf]; omega⟩
      · go_wp2_with fail
        go_ret
        exact ⟨⟨true, rfl, fun _ => by omega⟩, Hb.out⟩

/-- The cells of changes. -/
def hcells (pos : Nat → Int) (hd : Nat → Hd) (n : Nat) : List Value := (List.range n).flatMap fun j => [.int .i64 (pos j), .slice (hd j).A (hd j).n (hd j).c, .slice (hd j).A2 (hd j).m (hd j).c2]
theorem hcells_succ (pos : Nat → Int) (hd : Nat → Hd) (n : Nat) : hcells pos hd (n + 1) = hcells pos hd n ++ [.int .i64 (pos n), .slice (hd n).A (hd n).n (hd n).c, .slice (hd n).A2 (hd n).m (hd n).c2] := by
  simp [hcells, List.range_succ]
theorem hcells_len (pos : Nat → Int) (hd : Nat → Hd) (n : Nat) : (hcells pos hd n).length = n * 3 := by
  induction n with
  | zero => rfl
  | succ n ih => rw [hcells_succ, List.length_append, ih]; simp; omega
theorem hcells_at (pos : Nat → Int) (hd : Nat → Hd) (n j : Nat) (h : j < n) : (hcells pos hd n)[j * 3]? = some (.int .i64 (pos j)) ∧ (hcells pos hd n)[j * 3 + 1]? = some (.slice (hd j).A (hd j).n (hd j).c) ∧ (hcells pos hd n)[j * 3 + 2]? = some (.slice (hd j).A2 (hd j).m (hd j).c2) := by
  induction n with
  | zero => omega
  | succ n ih =>
    rw [hcells_succ]
    by_cases hj : j < n
    · obtain ⟨h1, h2, h3⟩ := ih hj
      refine ⟨?_, ?_, ?_⟩
      · rw [List.getElem?_append_left (by rw [hcells_len]; omega)]; exact h1
      · rw [List.getElem?_append_left (by rw [hcells_len]; omega)]; exact h2
      · rw [List.getElem?_append_left (by rw [hcells_len]; omega)]; exact h3
    · obtain rfl : j = n := by omega
      refine ⟨?_, ?_, ?_⟩
      · rw [List.getElem?_append_right (by rw [hcells_len]; omega), hcells_len, Nat.sub_self]; rfl
      · rw [List.getElem?_append_right (by rw [hcells_len]; omega), hcells_len, show j * 3 + 1 - j * 3 = 1 by omega]; rfl
      · rw [List.getElem?_append_right (by rw [hcells_len]; omega), hcells_len, show j * 3 + 2 - j * 3 = 2 by omega]; rfl
theorem Own.chrow {w : World} {B cap n : Nat} {e : TypeId} {A : Option Addr} {pos : Nat → Int} {hd : Nat → Hd} (h : Own w B e 3 A n cap (hcells pos hd n)) : ChRow w A n pos hd := fun hn => by
  obtain ⟨g, rfl, _, hg, _, _, hc, _⟩ := h.at_ hn
  refine ⟨g, 0, rfl, hg, fun j hj => ?_⟩
  obtain ⟨h1, h2, h3⟩ := hcells_at pos hd n j hj
  simp only [Nat.zero_add]
  exact ⟨hc _ _ h1, hc _ _ h2, hc _ _ h3⟩

def CpHead (pos : Nat → Int) (hd : Nat → Hd) (n B : Nat) (w : World) (v2 v3 : Value) (wr : World) : Prop :=
  ∃ (i : Nat) (A : Option Addr) (cap : Nat), v3 = .int .i64 i ∧ i ≤ n ∧ v2 = .slice A i cap ∧ Own wr B 30 3 A i cap (hcells pos hd i) ∧ Below B w wr
theorem info30 : (Try.prog.info? 30).map (fun i => (i.size, i.bytes, i.zero)) = some (3, 56, some (.agg #[.int .i64 0, .slice none 0 0, .slice none 0 0])) := by kernel_rfl
theorem info30s : ∃ i, Try.prog.info? 30 = some i ∧ i.zero = some (.agg #[.int .i64 0, .slice none 0 0, .slice none 0 0]) ∧ i.size = 3 ∧ i.bytes = 56 := by
  obtain ⟨i, hi, hi2⟩ := Option.map_eq_some_iff.1 info30
  simp only [Prod.mk.injEq] at hi2
  exact ⟨i, hi, hi2.2.2, hi2.1, hi2.2.1⟩

set_option maxHeartbeats 1000000 in
theorem refs_any (A : Option Addr) (n cap : Nat) (pos : Nat → Int) (hd : Nat → Hd) (w : World) (hn : n ≤ 100000) (hr : ChRow w A n pos hd) :
    Calls Try.prog 9 #[.slice A n cap] w fun e w' => ∃ A' cap', e = .returned (.slice A' n cap') ∧ ChRow w' A' n pos hd ∧ Below w.heap.size w w' := by
  obtain ⟨i1, hi1, hy0, hy1, hy2⟩ := info30s
  have Hr := Lib.hid hr
  clear hr
  go_enter Try.func9, Try.ntmps9
  go_wp2_with fail
  go_loopw [3, 4] (fun v2 v3 wr => CpHead pos hd n w.heap.size w v2 v3 wr) (fun _ v3 _ => n - (intOf v3).toNat)
  case atStart => exact ⟨0, none, 0, rfl, Nat.zero_le _, rfl, Own.nil _ _ _ _, Below.refl _ _⟩
  case round =>
    obtain ⟨i, A2, cap2, rfl, hi, rfl, hO, hb⟩ := hrel
    have Hb := Lib.hid hb
    have HO := Lib.hid hO
    clear hb hO
    have hBs := Hb.out.size
    by_cases hlt : i < n
    · obtain ⟨g, off, rfl, hg, hc⟩ := Hr.out (by omega)
      obtain ⟨e0, e1, e2⟩ := hc i hlt
      have c0 := (Hb.out.cell (p := ⟨g, off + i * 3, none⟩) hg).trans e0
      have c1 := (Hb.out.cell (p := ⟨g, off + i * 3 + 1, none⟩) hg).trans e1
      have c2 := (Hb.out.cell (p := ⟨g, off + i * 3 + 2, none⟩) hg).trans e2
      have Hne : Hid (¬ ∃ a, A2 = some a ∧ a.block = g) := fun ⟨a, ha, e⟩ => by have := (HO.out.lt a ha).1; omega
      have HT := Lib.hid (hcells_succ pos hd i)
      clear hc e0 e1 e2
      generalize pos i = p at *
      generalize hd i = hh at *
      obtain ⟨B1, n1, k1, B2, n2, k2⟩ := hh
      simp only at c1 c2
      go_wp2_with fail
      go_region_held3 (fun w' => w'.cell? ⟨g, off + i * 3, none⟩ = some (.int .i64 p) ∧ w'.cell? ⟨g, off + i * 3 + 1, none⟩ = some (.slice B1 n1 k1) ∧ w'.cell? ⟨g, off + i * 3 + 2, none⟩ = some (.slice B2 n2 k2))
        (first | go_keep | (go_split_ands; exact ⟨cell_mod hM6 (by assumption) Hne.out, cell_mod hM6 (by assumption) Hne.out, cell_mod hM6 (by assumption) Hne.out⟩))
        ((refine step_append_elem (by rfl) _ _ _ (by rfl) w.heap.size 30 i1 _ 3 56 Try.underlying31 hi1 hy0 hy1 hy2 rfl (by omega) A2 i cap2 _ (by rfl) ((HO.out.alloc _).drewN 1) [.int .i64 p, .slice B1 n1 k1, .slice B2 n2 k2] (by rfl) wr.heap.size (by rfl) ((Blk.new _ _ _).drewN 1) (by simp [Value.oneCell']) (by unfold maxLen; omega) (by omega) (by simp; omega) ?_; intro A6 cap6 w6 hO6 hM6 hat6))
      have HO6 := Lib.hid hO6
      have Hb6 := Lib.hid (Below.mod (below_drewN (Hb.out.alloc hBs _) 1) hM6 (by simp; omega) (fun k _ ⟨a, ha, e⟩ => by rw [← e]; exact (HO.out.lt a ha).1))
      clear hO6 hM6 hat6
      go_wp2_with fail
      exact ⟨⟨i + 1, A6, cap6, by go_num, by omega, rfl, by rw [HT.out]; exact HO6.out, Hb6.out⟩, by simp [intOf]; omega⟩
    · have hje : i = n := by omega
      subst hje
      go_wp2_with fail
      go_ret
      exact ⟨A2, cap2, rfl, HO.out.chrow, Hb.out⟩
end Go.Proofs.Ytedbabkmbpkjlaa
