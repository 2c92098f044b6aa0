/- The walks of few, refs, same, Turns. -/
import Derived.Test.YthpljhkjajaogaaW6
import Derived.StillTailTactics
import Derived.Deep.RegionHeld3
namespace Go.Proofs.Ythpljhkjajaogaa
open Go.RowKit
set_option linter.unusedVariables false
set_option linter.unusedSimpArgs false

def FHead (ls : List Int) (len : Nat) (w : World) (v : Value) (wr : World) : Prop :=
  ∃ j : Nat, v = .int .i64 j ∧ j ≤ len ∧ (∀ i, i < j → ls.getD i 0 ≤ 60) ∧ w = wr

theorem few_any (A : Option Addr) (len cap : Nat) (ls : List Int) (w : World) (hlen : len ≤ cap) (hcap : cap ≤ maxLen)
    (hrow : Row w A len 1 (fun i => [.int .i64 (ls.getD i 0)])) :
    Calls Try.prog 9 #[.slice A len cap] w fun e w' => (∃ b, e = .returned (.bool b) ∧ (b = true → len ≤ 30 ∧ ∀ j, j < len → ls.getD j 0 ≤ 60)) ∧ w = w' := by
  unfold maxLen at hcap
  have Hrow := Lib.hid hrow
  clear hrow
  by_cases h30 : 30 < len
  · go_enter Try.func9, Try.ntmps9
    go_wp2_with fail
    go_ret
    exact ⟨⟨false, rfl, by simp⟩, rfl⟩
  · go_enter Try.func9, Try.ntmps9
    go_wp2_with fail
    go_loopw [3] (fun v2 wr => FHead ls len w v2 wr) (fun v2 _ => len - (intOf v2).toNat)
    case atStart => exact ⟨0, rfl, Nat.zero_le _, fun i hi => absurd hi (by omega), rfl⟩
    case round =>
      obtain ⟨j, rfl, hj, hall, rfl⟩ := hrel
      have Hall := Lib.hid hall
      clear hall
      by_cases hlt : j < len
      · obtain ⟨b, off, rfl, hb, hcell⟩ := Hrow.out (by omega)
        have c0 : w.cell? ⟨b, off + j, none⟩ = some (.int .i64 (ls.getD j 0)) := by
          have := hcell j hlt 0 _ rfl
          simpa using this
        clear hcell
        by_cases h60 : 60 < ls.getD j 0
        · generalize ls.getD j 0 = x at *
          go_wp2_with fail
          go_ret
          exact ⟨⟨false, rfl, by simp⟩, rfl⟩
        · have HN : Hid (∀ i, i < j + 1 → ls.getD i 0 ≤ 60) := by
            intro i hi
            rcases Nat.lt_or_ge i j with h | h
            · exact Hall.out i h
            · obtain rfl : i = j := by omega
              omega
          generalize ls.getD j 0 = x at *
          go_wp2_with fail
          exact ⟨⟨j + 1, by go_num, by omega, HN.out, rfl⟩, by simp [intOf]; omega⟩
      · have hje : j = len := by omega
        have HN : Hid (len ≤ 30 ∧ ∀ i, i < len → ls.getD i 0 ≤ 60) := by rw [← hje]; exact ⟨by omega, Hall.out⟩
        clear hje
        go_wp2_with fail
        go_ret
        exact ⟨⟨true, rfl, fun _ => HN.out⟩, rfl⟩

/-- Things that can be read, one by one. -/
theorem Rd.things {w : World} {A : Option Addr} {n : Nat} {ts : List (Nat × Nat)} (h : Rd w 2 A n (tcells ts)) (hn : 0 < n) :
    ts.length = n ∧ ∃ g off, A = some ⟨g, off, none⟩ ∧ g < w.heap.size ∧ ∀ j, j < n → w.cell? ⟨g, off + j * 2, none⟩ = some (.int .i64 ((ts.getD j (0, 0)).1 : Nat)) ∧ w.cell? ⟨g, off + j * 2 + 1, none⟩ = some (.int .i64 ((ts.getD j (0, 0)).2 : Nat)) := by
  have hl : ts.length = n := by
    have h1 := h.1
    have : (tcells ts).length = ts.length * 2 := by
      clear h h1 hn
      unfold tcells
      induction ts with
      | nil => rfl
      | cons a l ih => rw [List.flatMap_cons, List.length_append, ih, List.length_cons]; simp only [List.length_cons, List.length_nil]; omega
    omega
  refine ⟨hl, ?_⟩
  obtain ⟨g, off, rfl, hg, hc⟩ := h.2 hn
  refine ⟨g, off, rfl, hg, fun j hj => ?_⟩
  have key : ∀ (l : List (Nat × Nat)) (j : Nat), j < l.length → (tcells l)[j * 2]? = some (.int .i64 ((l.getD j (0, 0)).1 : Nat)) ∧ (tcells l)[j * 2 + 1]? = some (.int .i64 ((l.getD j (0, 0)).2 : Nat)) := by
    intro l
    induction l with
    | nil => intro j hj; simp at hj
    | cons a l ih =>
      intro j hj
      cases j with
      | zero => simp [tcells]
      | succ j =>
        obtain ⟨h1, h2⟩ := ih j (by simpa using hj)
        have e1 : (j + 1) * 2 = j * 2 + 2 := by omega
        have e : tcells (a :: l) = .int .i64 (a.1 : Nat) :: .int .i64 (a.2 : Nat) :: tcells l := by simp [tcells]
        rw [e1, e]
        simp only [List.getD_cons_succ]
        exact ⟨h1, h2⟩
  obtain ⟨h1, h2⟩ := key ts j (by omega)
  exact ⟨hc _ _ h1, by rw [Nat.add_assoc]; exact hc _ _ h2⟩

/-- How often another strand comes, in the first j + 1 things. -/
def turnsTo (ts : List (Nat × Nat)) : Nat → Nat
  | 0 => 0
  | j + 1 => turnsTo ts j + if (ts.getD (j + 1) (0, 0)).1 = (ts.getD j (0, 0)).1 then 0 else 1
theorem turnsTo_le (ts : List (Nat × Nat)) (j : Nat) : turnsTo ts j ≤ j := by
  induction j with
  | zero => exact Nat.le_refl _
  | succ j ih => rw [turnsTo]; split <;> omega
theorem turnsTo_same {ts : List (Nat × Nat)} {i : Nat} (hi : 1 ≤ i) (h : (ts.getD i (0, 0)).1 = (ts.getD (i - 1) (0, 0)).1) : turnsTo ts (i + 1 - 1) = turnsTo ts (i - 1) := by
  obtain ⟨j, rfl⟩ : ∃ j, i = j + 1 := ⟨i - 1, by omega⟩
  simp only [Nat.add_sub_cancel] at h ⊢
  rw [turnsTo, if_pos h]
  rfl
theorem turnsTo_turn {ts : List (Nat × Nat)} {i : Nat} (hi : 1 ≤ i) (h : ¬ (ts.getD i (0, 0)).1 = (ts.getD (i - 1) (0, 0)).1) : turnsTo ts (i + 1 - 1) = turnsTo ts (i - 1) + 1 := by
  obtain ⟨j, rfl⟩ : ∃ j, i = j + 1 := ⟨i - 1, by omega⟩
  simp only [Nat.add_sub_cancel] at h ⊢
  rw [turnsTo, if_neg h]

/-- What holds where turns are counted: the first i things are. -/
def THead (ts : List (Nat × Nat)) (n B : Nat) (w : World) (v2 v3 : Value) (wr : World) : Prop :=
  ∃ i : Nat, v3 = .int .i64 i ∧ 1 ≤ i ∧ (i ≤ n ∨ i = 1) ∧ v2 = .int .i64 (turnsTo ts (i - 1) : Nat) ∧ Below B w wr

set_option maxHeartbeats 1000000 in
theorem turns_any (A : Option Addr) (n cap : Nat) (ts : List (Nat × Nat)) (w : World) (hn : n ≤ 100000) (hr : Rd w 2 A n (tcells ts)) :
    Calls Try.prog 15 #[.slice A n cap] w fun e w' => e = .returned (.int .i64 (turnsTo ts (n - 1) : Nat)) ∧ Below w.heap.size w w' := by
  have Hr := Lib.hid hr
  clear hr
  go_enter Try.func15, Try.ntmps15
  go_wp2_with fail
  go_loopw [3, 4] (fun v2 v3 wr => THead ts n w.heap.size w v2 v3 wr) (fun _ v3 _ => n + 1 - (intOf v3).toNat)
  case atStart => exact ⟨1, rfl, Nat.le_refl _, .inr rfl, rfl, Below.refl _ _⟩
  case round =>
    obtain ⟨i, rfl, hi, hin, rfl, hb⟩ := hrel
    have Hb := Lib.hid hb
    clear hb
    have hle := turnsTo_le ts (i - 1)
    by_cases hlt : i < n
    · obtain ⟨_, g, off, rfl, hg, hc⟩ := Rd.things (Hr.out.below Hb.out (Nat.le_refl _)) (by omega)
      have c0 := (hc i hlt).1
      have c1 := (hc (i - 1) (by omega)).1
      clear hc hin
      by_cases he : (ts.getD i (0, 0)).1 = (ts.getD (i - 1) (0, 0)).1
      · have HE := Lib.hid (turnsTo_same hi he)
        rw [← he] at c1
        clear he
        generalize (ts.getD i (0, 0)).1 = x at *
        generalize turnsTo ts (i - 1) = q at *
        go_wp2_with fail
        go_quiet (fail)
        go_wp2_with fail
        exact ⟨⟨i + 1, by go_num, by omega, .inl (by omega), by rw [HE.out], below_drewN Hb.out _⟩, by simp [intOf]; omega⟩
      · have HE := Lib.hid (turnsTo_turn hi he)
        have hne : ((((ts.getD i (0, 0)).1 : Nat) : Int) == (((ts.getD (i - 1) (0, 0)).1 : Nat) : Int)) = false := by rw [beq_eq_false_iff_ne]; omega
        clear he
        generalize (ts.getD i (0, 0)).1 = x at *
        generalize (ts.getD (i - 1) (0, 0)).1 = y at *
        generalize turnsTo ts (i - 1) = q at *
        go_wp2_with fail
        go_quiet (fail)
        go_wp2_with fail
        exact ⟨⟨i + 1, by go_num, by omega, .inl (by omega), by rw [HE.out]; go_num, below_drewN Hb.out _⟩, by simp [intOf]; omega⟩
    · have HE : Hid (n - 1 = i - 1) := by show n - 1 = i - 1; omega
      go_wp2_with fail
      go_ret
      rw [HE.out]
      exact ⟨rfl, Hb.out⟩

theorem cell_mod {w w' : World} {S : Nat → Prop} {p : Addr} {v : Value} (m : Mod w w' S) (h : w.cell? p = some v) (hs : ¬ S p.block) : w'.cell? p = some v :=
  (World.cell?_of_block (m.block p.block (cell_lt h) hs)).trans h
/-- 'append(s, x)' at a step of a region that draws its order. -/
theorem step_append_elem {P : Program} {ops : Array Oper} {o : Oper} {a : Act} {w : World} {K : Act → World → Prop} {Q : Exit → Act → World → Prop} {E : Prop} (hgd : o.guard = none) (s x : Operand) (t : TypeId)
    (ho : o.op = .call { callee := .builtin .append, args := #[s, x], argTypes := #[t, t] })
    (base : Nat) (e : TypeId) (i : TypeInfo) (z : Value) (sz bytes : Nat) (ht : P.underlying t = some (.slice e)) (hi : P.info? e = some i) (hz : i.zero = some z)
    (hsize : i.size = sz) (hby : i.bytes = bytes) (hzs : z.cells.size = sz) (hsz : 0 < sz)
    (A : Option Addr) (n cap : Nat) (xs : List Value) (hs : a.eval s = .slice A n cap) (hown : Own w base e sz A n cap xs) (us : List Value) (hus : us.length = sz) (gX : Nat)
    (hx : a.eval x = .slice (some ⟨gX, 0, none⟩) 1 1) (hX : Blk w gX e us.toArray) (h1 : ∀ u ∈ us, u.oneCell' = true)
    (h63 : n + 1 ≤ maxLen) (hbytes : (n + 1) * bytes ≤ 140737488355328) (hbase : base ≤ w.heap.size)
    (h : ∀ A' cap' w', Own w' base e sz A' (n + 1) cap' (xs ++ us) → Mod w w' (fun k => ∃ a, A = some a ∧ a.block = k) →
      (∀ a', A' = some a' → (∃ a, A = some a ∧ a.block = a'.block) ∨ w.heap.size ≤ a'.block) → K (a.put o.dst (.slice A' (n + 1) cap')) w') :
    if Region.wanted o (yielded ops a.tmps) = true then Oper.wp P o a w K Q else E := by
  refine step_append_lies w hgd s x t ho base e i z sz bytes ht hi hz hsize hby hzs hsz (.slice A n cap) n xs hs hown.row ⟨gX, 0, none⟩ 1 1 us hx (by omega) (World.news_of_block hX) h1 (by omega) h63 hbytes hbase w.heap.size rfl ?_
  intro g cap' w' hown' hg hat hlt
  obtain ⟨A', cap2, e2, hown2⟩ := Own.of_row hown'
  cases e2
  refine h _ cap' w' hown2 ?_ ?_
  · refine (Mod.of_grown hg).mono fun k hk hk2 => ?_
    cases A with
    | none => simp [Value.ownBlock] at hk2
    | some a => exact ⟨a, rfl, by simpa [Value.ownBlock] using hk2⟩
  · rintro a' ha
    cases ha
    rcases hat with hat | hat
    · cases A with
      | none => simp [Value.ownBlock] at hat
      | some a => exact .inl ⟨a, rfl, by simpa [Value.ownBlock] using hat⟩
    · exact .inr (Nat.le_of_eq hat.symm)

/-- What is copied: the first i things. -/
def CpHead (ts : List (Nat × Nat)) (n B : Nat) (w : World) (v2 v3 : Value) (wr : World) : Prop :=
  ∃ (i : Nat) (A : Option Addr) (cap : Nat), v3 = .int .i64 i ∧ i ≤ n ∧ v2 = .slice A i cap ∧ Own wr B 49 2 A i cap (tcells (ts.take i)) ∧ Below B w wr
theorem tcells_take (ts : List (Nat × Nat)) (i : Nat) (h : i < ts.length) : tcells (ts.take (i + 1)) = tcells (ts.take i) ++ [.int .i64 ((ts.getD i (0, 0)).1 : Nat), .int .i64 ((ts.getD i (0, 0)).2 : Nat)] := by
  rw [List.take_add_one, List.getElem?_eq_getElem h, List.getD_eq_getElem?_getD, List.getElem?_eq_getElem h, Option.toList_some, tcells_snoc]
  rfl
theorem info49 : (Try.prog.info? 49).map (fun i => (i.size, i.bytes, i.zero)) = some (2, 16, some (.agg #[.int .i64 0, .int .i64 0])) := by kernel_rfl
theorem info49s : ∃ i, Try.prog.info? 49 = some i ∧ i.zero = some (.agg #[.int .i64 0, .int .i64 0]) ∧ i.size = 2 ∧ i.bytes = 16 := by
  obtain ⟨i, hi, hi2⟩ := Option.map_eq_some_iff.1 info49
  simp only [Prod.mk.injEq] at hi2
  exact ⟨i, hi, hi2.2.2, hi2.1, hi2.2.1⟩

set_option maxHeartbeats 1000000 in
theorem refs_any (A : Option Addr) (n cap : Nat) (ts : List (Nat × Nat)) (w : World) (hn : n ≤ 100000) (hl : ts.length = n) (hr : Rd w 2 A n (tcells ts)) :
    Calls Try.prog 12 #[.slice A n cap] w fun e w' => ∃ A' cap', e = .returned (.slice A' n cap') ∧ Own w' w.heap.size 49 2 A' n cap' (tcells ts) ∧ Below w.heap.size w w' := by
  obtain ⟨i1, hi1, hy0, hy1, hy2⟩ := info49s
  have Hr := Lib.hid hr
  have Hl := Lib.hid hl
  clear hr hl
  go_enter Try.func12, Try.ntmps12
  go_wp2_with fail
  go_loopw [3, 4] (fun v2 v3 wr => CpHead ts n w.heap.size w v2 v3 wr) (fun _ v3 _ => n - (intOf v3).toNat)
  case atStart => exact ⟨0, none, 0, rfl, Nat.zero_le _, rfl, Own.nil _ _ _ _, Below.refl _ _⟩
  case round =>
    obtain ⟨i, A2, cap2, rfl, hi, rfl, hO, hb⟩ := hrel
    have Hb := Lib.hid hb
    have HO := Lib.hid hO
    clear hb hO
    have hBs := Hb.out.size
    by_cases hlt : i < n
    · obtain ⟨_, g, off, rfl, hg, hc⟩ := Rd.things Hr.out (by omega)
      have c0 := (Hb.out.cell (p := ⟨g, off + i * 2, none⟩) hg).trans (hc i hlt).1
      have c1 := (Hb.out.cell (p := ⟨g, off + i * 2 + 1, none⟩) hg).trans (hc i hlt).2
      have Hne : Hid (¬ ∃ a, A2 = some a ∧ a.block = g) := fun ⟨a, ha, e⟩ => by have := (HO.out.lt a ha).1; omega
      have HT := Lib.hid (tcells_take ts i (by rw [Hl.out]; exact hlt))
      clear hc
      generalize (ts.getD i (0, 0)).1 = x at *
      generalize (ts.getD i (0, 0)).2 = y at *
      go_wp2_with fail
      go_region_held3 (fun w' => w'.cell? ⟨g, off + i * 2, none⟩ = some (.int .i64 (x : Nat)) ∧ w'.cell? ⟨g, off + i * 2 + 1, none⟩ = some (.int .i64 (y : Nat)))
        (first | go_keep | (go_split_ands; exact ⟨cell_mod hM6 (by assumption) Hne.out, cell_mod hM6 (by assumption) Hne.out⟩))
        ((refine step_append_elem (by rfl) _ _ _ (by rfl) w.heap.size 49 i1 _ 2 16 Try.underlying33 hi1 hy0 hy1 hy2 rfl (by omega) A2 i cap2 _ (by rfl) ((HO.out.alloc _).drewN 1) [.int .i64 (x : Nat), .int .i64 (y : Nat)] (by rfl) wr.heap.size (by rfl) ((Blk.new _ _ _).drewN 1) (by simp [Value.oneCell']) (by unfold maxLen; omega) (by omega) (by simp; omega) ?_; intro A6 cap6 w6 hO6 hM6 hat6))
      have HO6 := Lib.hid hO6
      have Hb6 := Lib.hid (Below.mod (below_drewN (Hb.out.alloc hBs _) 1) hM6 (by simp; omega) (fun k _ ⟨a, ha, e⟩ => by rw [← e]; exact (HO.out.lt a ha).1))
      clear hO6 hM6 hat6
      go_wp2_with fail
      exact ⟨⟨i + 1, A6, cap6, by go_num, by omega, rfl, by rw [HT.out]; exact HO6.out, Hb6.out⟩, by simp [intOf]; omega⟩
    · 
      have hje : i = n := by omega
      have htk : ts.take i = ts := List.take_of_length_le (by rw [Hl.out]; omega)
      rw [htk] at HO
      subst hje
      clear htk
      go_wp2_with fail
      go_ret
      exact ⟨A2, cap2, rfl, HO.out, Hb.out⟩

set_option maxHeartbeats 1000000 in
theorem same_any (A : Option Addr) (n cap : Nat) (A2 : Option Addr) (cap2 : Nat) (ts : List (Nat × Nat)) (w : World) (hn : n ≤ 100000) (hr : Rd w 2 A n (tcells ts)) (hr2 : Rd w 2 A2 n (tcells ts)) :
    Calls Try.prog 11 #[.slice A n cap, .slice A2 n cap2] w fun e w' => e = .returned (.bool true) ∧ Below w.heap.size w w' := by
  have Hr := Lib.hid hr
  have Hr2 := Lib.hid hr2
  clear hr hr2
  go_enter Try.func11, Try.ntmps11
  go_wp2_with fail
  go_loopw [5] (fun v3 wr => ∃ i : Nat, v3 = .int .i64 i ∧ i ≤ n ∧ Below w.heap.size w wr) (fun v3 _ => n - (intOf v3).toNat)
  case atStart => exact ⟨0, rfl, Nat.zero_le _, Below.refl _ _⟩
  case round =>
    obtain ⟨i, rfl, hi, hb⟩ := hrel
    have Hb := Lib.hid hb
    clear hb
    by_cases hlt : i < n
    · obtain ⟨_, g, off, rfl, hg, hc⟩ := Rd.things (Hr.out.below Hb.out (Nat.le_refl _)) (by omega)
      obtain ⟨_, g2, off2, rfl, hg2, hc2⟩ := Rd.things (Hr2.out.below Hb.out (Nat.le_refl _)) (by omega)
      have c0 := (hc i hlt).1
      have c1 := (hc i hlt).2
      have d0 := (hc2 i hlt).1
      have d1 := (hc2 i hlt).2
      clear hc hc2
      generalize (ts.getD i (0, 0)).1 = x at *
      generalize (ts.getD i (0, 0)).2 = y at *
      go_wp2_with fail
      go_quiet (fail)
      go_wp2_with fail
      exact ⟨⟨i + 1, by go_num, by omega, below_drewN Hb.out _⟩, by simp [intOf]; omega⟩
    · go_wp2_with fail
      go_ret
      exact ⟨rfl, Hb.out⟩
end Go.Proofs.Ythpljhkjajaogaa
