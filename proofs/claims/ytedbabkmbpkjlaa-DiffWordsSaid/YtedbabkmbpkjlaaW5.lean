/- The walk of diff's Words. -/
import Derived.Test.YtedbabkmbpkjlaaW0
import Derived.StillTailTactics
namespace Go.Proofs.Ytedbabkmbpkjlaa
open Go.RowKit
set_option linter.unusedVariables false
set_option linter.unusedSimpArgs false

def WHead (B : Nat) (was now : List Int) (gap : Int) (m : Nat) (w0 : World) (v6 v7 v : Value) (wr : World) : Prop :=
  ∃ (i : Nat) (A : Option Addr) (cap : Nat) (bl : Nat → Bl), v = .int .i64 i ∧ i ≤ m ∧ v6 = .slice A (segs was now gap i).length cap ∧ v7 = .int .i64 (endOf (segs was now gap i) : Nat) ∧ WCore B was now (segs was now gap i) (segs was now gap i) (segs was now gap i).length A cap bl w0 wr

theorem blk3 (w : World) (o1 o2 : Obj) (cs : Array Value) (t : TypeId) : Blk (((w.alloc o1).alloc o2).alloc (.cells cs t)) (w.heap.size + 1 + 1) t cs := by
  have := Blk.new ((w.alloc o1).alloc o2) t cs
  simpa using this
theorem blk2 (w : World) (o1 o3 : Obj) (cs : Array Value) (t : TypeId) : Blk (((w.alloc o1).alloc (.cells cs t)).alloc o3) (w.heap.size + 1) t cs := by
  have := (Blk.new (w.alloc o1) t cs).alloc o3
  simpa using this
theorem blk1 (w : World) (o2 o3 : Obj) (cs : Array Value) (t : TypeId) : Blk (((w.alloc (.cells cs t)).alloc o2).alloc o3) w.heap.size t cs := ((Blk.new w t cs).alloc o2).alloc o3
theorem below3 (w : World) (o1 o2 o3 : Obj) : Below w.heap.size w (((w.alloc o1).alloc o2).alloc o3) :=
  (((Below.refl _ w).alloc (Nat.le_refl _) o1).alloc (by simp) o2).alloc (by simp; omega) o3
theorem keep1 {w : World} {o : Obj} {p : Addr} {v : Value} (h : w.drew.cell? p = some v) : (w.alloc o).drew.cell? p = some v :=
  (World.cell?_alloc_lt w o p (cell_lt (w := w) h)).trans h
theorem info27 : (Try.prog.info? 27).map (fun i => (i.size, i.bytes, i.zero)) = some (3, 56, some (.agg #[.int .i64 0, .slice none 0 0, .slice none 0 0])) := by kernel_rfl
theorem info27s : ∃ i, Try.prog.info? 27 = some i ∧ i.zero = some (.agg #[.int .i64 0, .slice none 0 0, .slice none 0 0]) ∧ i.size = 3 ∧ i.bytes = 56 := by
  obtain ⟨i, hi, hi2⟩ := Option.map_eq_some_iff.1 info27
  simp only [Prod.mk.injEq] at hi2
  exact ⟨i, hi, hi2.2.2, hi2.1, hi2.2.1⟩
theorem run_slice_sub {P : Program} (t e : TypeId) (ht : P.underlying t = some (.slice e)) (hs : (P.info? e).map (·.size) = some 1) (g o n cap l h : Nat) (h1 : l ≤ h) (h2 : h ≤ cap) (h3 : l < cap) (L H : Int) (hL : L = l) (hH : H = h) (w : World) :
    (Instr.slice t (.slice (some ⟨g, o, none⟩) n cap) (some (.int .i64 L)) (some (.int .i64 H)) none).run P w = .ok (.slice (some ⟨g, o + l, none⟩) (h - l) (cap - l)) w := by
  subst hL hH
  have he : P.elem t = e := by simp [Program.elem, ht]
  cases hq : P.info? e with
  | none => simp [hq] at hs
  | some i =>
    have hsz : i.size = 1 := by simpa [hq] using hs
    rw [run_slice_lh w t _ n cap (by rw [he]; exact ht) .i64 .i64 l h (by omega) (by omega) (by omega), he]
    simp only [sizeOf, typeInfo, Sem.run_bind, run_program, Result.andThen_ok, hq, Sem.run_pure, hsz, sliced, Int.toNat_natCast, Nat.mul_one, Option.map_some]
    rw [if_neg (by omega)]
    have hadd : (⟨g, o, none⟩ : Addr).add l = ⟨g, o + l, none⟩ := by unfold Addr.add; split <;> simp_all
    rw [hadd]
/-- 'append(s, x...)' at a step of a region that draws its order. -/
theorem step_append_rd {P : Program} {ops : Array Oper} {o : Oper} {a : Act} {w : World} {K : Act → World → Prop} {Q : Exit → Act → World → Prop} {E : Prop} (hgd : o.guard = none) (s x : Operand) (t : TypeId)
    (ho : o.op = .call { callee := .builtin .append, args := #[s, x], argTypes := #[t, t] })
    (base : Nat) (e : TypeId) (i : TypeInfo) (z : Value) (sz bytes : Nat) (ht : P.underlying t = some (.slice e)) (hi : P.info? e = some i) (hz : i.zero = some z)
    (hsize : i.size = sz) (hby : i.bytes = bytes) (hzs : z.cells.size = sz) (hsz : 0 < sz)
    (A : Option Addr) (n cap : Nat) (xs : List Value) (hs : a.eval s = .slice A n cap) (hown : Own w base e sz A n cap xs)
    (A2 : Option Addr) (m c2 : Nat) (vs : List Value) (hx : a.eval x = .slice A2 m c2) (hr : Rd w sz A2 m vs) (h1 : ∀ u ∈ vs, u.oneCell' = true)
    (h63 : n + m ≤ maxLen) (hbytes : (n + m) * bytes ≤ 140737488355328) (hbase : base ≤ w.heap.size)
    (h : ∀ A' cap' w', Own w' base e sz A' (n + m) cap' (xs ++ vs) → Mod w w' (fun k => ∃ a, A = some a ∧ a.block = k) →
      (∀ a', A' = some a' → (∃ a, A = some a ∧ a.block = a'.block) ∨ w.heap.size ≤ a'.block) → K (a.put o.dst (.slice A' (n + m) cap')) w') :
    if Region.wanted o (yielded ops a.tmps) = true then Oper.wp P o a w K Q else E := by
  have hw : Region.wanted o (yielded ops a.tmps) = true := by simp [Region.wanted, hgd]
  rw [if_pos hw]
  obtain ⟨A', cap', w', hrun, h2, h3, h4⟩ := run_append_rd (P := P) base t o.type e i z sz bytes ht hi hz hsize hby hzs hsz hown A2 m c2 vs hr h1 h63 hbytes hbase
  unfold Oper.wp execOp
  simp only [ho, resolve, invoke, builtin, Sem.run_bind, Sem.run_pure, Result.andThen_ok, List.map_toArray, List.map_cons, List.map_nil, hs, hx, hrun]
  exact h A' cap' w' h2 h3 h4
theorem Rd.sub {w : World} {g o m e f : Nat} {l : List Int} (h : Rd w 1 (some ⟨g, o, none⟩) m (ucells l)) (he : e ≤ f) (hf : f ≤ m) : Rd w 1 (some ⟨g, o + e, none⟩) (f - e) (ucells (sub l e f)) := by
  have hl := h.ulen
  refine ⟨by rw [ucells_len, sub_len _ _ _ (by omega)]; omega, fun h0 => ?_⟩
  obtain ⟨g', o', e1, hg, hc⟩ := h.word (by omega)
  cases e1
  refine ⟨g, o + e, rfl, hg, fun j u hu => ?_⟩
  have hj : j < f - e := by
    have := (List.getElem?_eq_some_iff.1 hu).1
    rw [ucells_len, sub_len _ _ _ (by omega)] at this
    exact this
  rw [ucells_at _ _ (by rw [sub_len _ _ _ (by omega)]; exact hj), sub_getD _ _ _ _ hj] at hu
  rw [Nat.add_assoc, hc (e + j) (by omega)]
  exact hu
set_option maxRecDepth 100000 in
set_option maxHeartbeats 2000000 in
theorem words_any (A1 A2 : Option Addr) (m cap1 cap2 : Nat) (was now : List Int) (gap : Int) (w : World) (hm : m ≤ 1000) (hg0 : -9223372036854775808 ≤ gap) (hg1 : gap ≤ 9223372036854775807) (hc1 : m ≤ cap1) (hc2 : m ≤ cap2)
    (hw : Rd w 1 A1 m (ucells was)) (hw2 : Rd w 1 A2 m (ucells now)) :
    Calls Try.prog 13 #[.slice A1 m cap1, .slice A2 m cap2, .int .i64 gap] w fun e w' => ∃ A cap bl, e = .returned (.tuple #[.slice A (segs was now gap m).length cap, .int .i64 0]) ∧ WCore w.heap.size was now (segs was now gap m) (segs was now gap m) (segs was now gap m).length A cap bl w w' := by
  obtain ⟨i1, hi1, hy0, hy1, hy2⟩ := info46s
  obtain ⟨i2, hi2, hx0, hx1, hx2⟩ := info27s
  have Hw := Lib.hid hw
  have Hw2 := Lib.hid hw2
  clear hw hw2
  go_enter Try.func13, Try.ntmps13
  go_wp2_with fail
  go_loopw [8, 9, 20] (fun v8 v9 v20 wr => WHead w.heap.size was now gap m w v8 v9 v20 wr) (fun _ _ v20 _ => m - (intOf v20).toNat)
  case atStart => exact ⟨0, none, 0, fun _ => ⟨0, 0, 0, 0⟩, rfl, Nat.zero_le _, rfl, rfl, ⟨Own.nil _ _ _ _, fun j hj => absurd hj (Nat.not_lt_zero _), fun j hj => absurd hj (Nat.not_lt_zero _), fun j l _ h => by simp [segs] at h, fun l h => by simp [segs] at h, Below.refl _ _⟩⟩
  case round =>
    obtain ⟨i, A, cap, bl, rfl, hi, rfl, rfl, hc⟩ := hrel
    have HC := Lib.hid hc
    have hBs := hc.b.size
    clear hc
    have hsl := segs_le was now gap i
    by_cases hlt : i < m
    · obtain ⟨g1, o1, rfl, hg1', hc1'⟩ := Hw.out.word (by omega)
      obtain ⟨g2, o2, rfl, hg2', hc2'⟩ := Hw2.out.word (by omega)
      have c0 := (HC.out.b.cell (p := ⟨g1, o1 + i, none⟩) hg1').trans (hc1' i hlt)
      have d0 := (HC.out.b.cell (p := ⟨g2, o2 + i, none⟩) hg2').trans (hc2' i hlt)
      clear hc1' hc2'
      by_cases hy : was.getD i 0 = now.getD i 0
      · have HS := Lib.hid (segs_same (gap := gap) hy)
        rw [← hy] at d0
        clear hy
        generalize was.getD i 0 = y at *
        go_wp2_with fail
        go_quiet (fail)
        go_wp2_with fail
        refine ⟨⟨i + 1, A, cap, bl, by go_num, by omega, ?_, ?_, ?_⟩, by simp [intOf]; omega⟩
        · rw [HS.out]
        · rw [HS.out]
        · rw [HS.out]; exact HC.out.drewN nq
      · have HSm := Lib.hid (fun hn hg => segs_more (gap := gap) hy hn hg)
        have HSn := Lib.hid (fun hg => segs_new (gap := gap) hy hg)
        have HR := Lib.hid (segs_rise was now gap i)
        have hyb : (was.getD i 0 == now.getD i 0) = false := by rw [beq_eq_false_iff_ne]; exact hy
        have Ho1 := Lib.hid (sub_one was i (by rw [Hw.out.ulen]; exact hlt))
        have Ho2 := Lib.hid (sub_one now i (by rw [Hw2.out.ulen]; exact hlt))
        clear hy
        generalize was.getD i 0 = y at *
        generalize now.getD i 0 = z at *
        generalize segs was now gap i = ss at *
        go_wp2_with fail
        go_quiet (fail)
        have HCq := Lib.hid (HC.out.drewN nq)
        have c1 : (wr.drewN nq).cell? ⟨g1, o1 + i, none⟩ = some (.int .u64 y) := c0
        have d1 : (wr.drewN nq).cell? ⟨g2, o2 + i, none⟩ = some (.int .u64 z) := d0
        have hBq : w.heap.size ≤ (wr.drewN nq).heap.size := hBs
        generalize wr.drewN nq = wq at *
        clear c0 d0 HC hBs
        have hel := HR.out.last
        obtain ⟨n, Hn⟩ : ∃ n, Hid (ss.length = n) := ⟨_, rfl⟩
        obtain ⟨E, HE⟩ : ∃ E, Hid (endOf ss = E) := ⟨_, rfl⟩
        simp only [Hn.out, HE.out] at hsl hel HSm HSn ⊢
        by_cases hx : n ≠ 0 ∧ (i = E ∨ (i : Int) - E < gap)
        · obtain ⟨hn0, hx2⟩ := hx
          have HSN := Lib.hid (HSm.out hn0 hx2)
          have hn1 : 0 < n := by omega
          have hcase : (((i : Int) == (E : Int)) = true ∧ (i == E) = true) ∨ (((i : Int) == (E : Int)) = false ∧ (i == E) = false ∧ decide ((i : Int) - (E : Int) < gap) = true) := by
            by_cases h0 : i = E
            · exact .inl ⟨by subst h0; simp, by simpa using h0⟩
            · right
              refine ⟨by rw [beq_eq_false_iff_ne]; omega, by rw [beq_eq_false_iff_ne]; omega, ?_⟩
              rw [decide_eq_true_eq]
              rcases hx2 with h | h
              · exact absurd h h0
              · exact h
          clear hx2 HSm HSn hn0
          obtain ⟨go, hA, hgo, hgolt, hnc, hcm, hco, hfo⟩ := HCq.out.out.at_ (by rw [Hn.out]; exact hn1)
          subst hA
          obtain ⟨l, Hl⟩ : ∃ l, Hid (n = l + 1) := ⟨n - 1, by show n = _; omega⟩
          have hl := Hl.out
          subst hl
          have k0 := hco (l * 3) _ (hcells_at _ _ _ l (by rw [Hn.out]; omega)).1
          have k1 := hco (l * 3 + 1) _ (hcells_at _ _ _ l (by rw [Hn.out]; omega)).2.1
          have k2 := hco (l * 3 + 2) _ (hcells_at _ _ _ l (by rw [Hn.out]; omega)).2.2
          have f1 := hfo (l * 3 + 1)
          have f2 := hfo (l * 3 + 2)
          unfold hdOf at k1 k2
          simp only at k1 k2
          clear hco hfo
          have HVa := Lib.hid (HCq.out.va l (by rw [Hn.out]; omega))
          have HVb := Lib.hid (HCq.out.vb l (by rw [Hn.out]; omega))
          have Hs1 : Hid ((seg ss l).1 < (seg ss l).2) := HR.out.one l (by rw [Hn.out]; omega)
          have Hs2 : Hid ((seg ss l).2 = E) := by
            show _ = E
            rw [← HE.out, endOf_last (by rw [Hn.out]; omega), Hn.out]
            rfl
          rw [Hs2.out] at k1 k2 HVa HVb Hs1
          obtain ⟨s0, Hs0⟩ : ∃ s0, Hid ((seg ss l).1 = s0) := ⟨_, rfl⟩
          rw [Hs0.out] at k1 k2 HVa HVb Hs1
          have hs1 := Hs1.out
          obtain ⟨ba, Hba⟩ : ∃ b, Hid ((bl l).a = b) := ⟨_, rfl⟩
          obtain ⟨bb, Hbb⟩ : ∃ b, Hid ((bl l).b = b) := ⟨_, rfl⟩
          rw [Hba.out] at k1 HVa
          rw [Hbb.out] at k2 HVb
          generalize (bl l).ca = ca at *
          generalize (bl l).cb = cb at *
          have Hgo1 : Hid (¬ ∃ a : Addr, some (⟨ba, 0, none⟩ : Addr) = some a ∧ a.block = go) := fun ⟨a, ha, e⟩ => HVa.out.apart HCq.out.out (by decide) a ha _ rfl e
          have HRs := Lib.hid (Hw.out.below HCq.out.b (Nat.le_refl _))
          have HRs2 := Lib.hid (Hw2.out.below HCq.out.b (Nat.le_refl _))
          have q1 : (0 : Int) ≤ (E : Int) := by omega
          have q2 : (E : Int) ≤ (i : Int) + 1 := by omega
          have q3 : (i : Int) + 1 ≤ (cap1 : Int) := by omega
          have q4 : (i : Int) + 1 ≤ (cap2 : Int) := by omega
          have q5 : ¬ cap1 = E := by omega
          have q6 : ¬ cap2 = E := by omega
          have s1 : ∀ w, (Instr.slice 22 (.slice (some ⟨g1, o1, none⟩) m cap1) (some (.int .i64 (E : Int))) (some (.int .i64 ((i : Int) + 1))) none).run Try.prog w = .ok (.slice (some ⟨g1, o1 + E, none⟩) (i + 1 - E) (cap1 - E)) w :=
            run_slice_sub 22 46 Try.underlying22 size46 g1 o1 m cap1 E (i + 1) (by omega) (by omega) (by omega) _ _ rfl (by omega)
          have s2 : ∀ w, (Instr.slice 22 (.slice (some ⟨g2, o2, none⟩) m cap2) (some (.int .i64 (E : Int))) (some (.int .i64 ((i : Int) + 1))) none).run Try.prog w = .ok (.slice (some ⟨g2, o2 + E, none⟩) (i + 1 - E) (cap2 - E)) w :=
            run_slice_sub 22 46 Try.underlying22 size46 g2 o2 m cap2 E (i + 1) (by omega) (by omega) (by omega) _ _ rfl (by omega)
          have hwr : IntKind.i64.wrap ((i : Int) + 1) = (i : Int) + 1 := by rw [IntKind.wrap_i64]; omega
          clear q1 q2 q3 q4
          rcases hcase with ⟨e0, e1⟩ | ⟨e0, e1, e2⟩
          all_goals
            go_wp2_with fail
            have k1' : wq.drew.cell? ⟨go, l * 3 + 1, none⟩ = some (.slice (some ⟨ba, 0, none⟩) (E - s0) ca) := k1
            have f1' : wq.drew.frozen? ⟨go, l * 3 + 1, none⟩ = false := f1
            go_region_law ((refine step_append_rd (by rfl) _ _ _ (by rfl) w.heap.size 46 i1 _ 1 8 Try.underlying22 hi1 hy0 hy1 hy2 rfl (by omega) (some ⟨ba, 0, none⟩) (E - s0) ca _ (by rfl) (HVa.out.drewN 1) (some ⟨g1, o1 + E, none⟩) (i + 1 - E) (cap1 - E) _ (by rfl) ((HRs.out.drewN 1).sub (by omega) (by omega)) ucells_one (by unfold maxLen; omega) (by omega) (by simp; omega) ?_; intro A6 cap6 w6 hO6 hM6 hat6; have y1 := cell_mod hM6 k1' Hgo1.out; have y2 := frozen_mod hM6 hgolt f1' Hgo1.out))
            obtain ⟨ga, hA6, _⟩ := hO6.at_ (by omega)
            subst hA6
            rw [← ucells_append, sub_join _ _ _ _ (by omega) (by omega)] at hO6
            have hC1 := WCore.moreA (wr := wq.drew) (w6 := w6) (l := l) (go := go) (s0 := s0) (f := i + 1) (n6 := E - s0 + (i + 1 - E)) (c6 := cap6) (ga := ga) (by rw [← Hn.out]; exact HCq.out.drewN 1) (by rw [Hn.out]; omega) Hs0.out hO6 (by omega) (by rw [Hba.out]; exact hM6)
              (by rw [Hba.out]; rcases hat6 _ rfl with ⟨a, ha, e⟩ | h; · left; cases ha; exact e.symm
                  · right; exact h)
            have HC1 := Lib.hid hC1
            obtain ⟨go', hA', _, hgolt', _, _, hco, hfo⟩ := hC1.out.at_ (by omega)
            cases hA'
            have m2 := hco (l * 3 + 2) _ (hcells_at _ _ _ l (by omega)).2.2
            have n2 := hfo (l * 3 + 2)
            unfold hdOf at m2
            simp only [if_true] at m2
            have HVb1 := Lib.hid (hC1.vb l (by omega))
            simp only [if_true] at HVb1
            rw [Hs2.out, Hs0.out, Hbb.out] at HVb1 m2
            have HRs3 := Lib.hid (Hw2.out.below hC1.b (Nat.le_refl _))
            have hs7 := hC1.b.size
            have Hgo2 : Hid (¬ ∃ a : Addr, some (⟨bb, 0, none⟩ : Addr) = some a ∧ a.block = go) := fun ⟨a, ha, e⟩ => HVb1.out.apart hC1.out (by decide) a ha _ rfl e
            clear hC1 hO6 hM6 hat6 hco hfo y1 y2 k1' f1' k0 k1 k2 f1 f2 HVa HVb HRs HRs2 HCq hgolt c1 d1
            generalize w6.setCell _ _ = w7 at *
            have hwr2 := hwr
            go_wp2_with fail
            have m2' : w7.drew.cell? ⟨go, l * 3 + 2, none⟩ = _ := m2
            have n2' : w7.drew.frozen? ⟨go, l * 3 + 2, none⟩ = false := n2
            go_region_law ((refine step_append_rd (by rfl) _ _ _ (by rfl) w.heap.size 46 i1 _ 1 8 Try.underlying22 hi1 hy0 hy1 hy2 rfl (by omega) (some ⟨bb, 0, none⟩) (E - s0) _ _ (by rfl) (HVb1.out.drewN 1) (some ⟨g2, o2 + E, none⟩) (i + 1 - E) (cap2 - E) _ (by rfl) ((HRs3.out.drewN 1).sub (by omega) (by omega)) ucells_one (by unfold maxLen; omega) (by omega) (by simp; omega) ?_; intro A7 cap7 w8 hO8 hM8 hat8; have y1 := cell_mod hM8 m2' Hgo2.out; have y2 := frozen_mod hM8 hgolt' n2' Hgo2.out))
            obtain ⟨gb, hA7, _⟩ := hO8.at_ (by omega)
            subst hA7
            rw [← ucells_append, sub_join _ _ _ _ (by omega) (by omega)] at hO8
            have hC2 := WCore.moreB (wr := w7.drew) (w6 := w8) (l := l) (go := go) (s0 := s0) (f := i + 1) (n6 := E - s0 + (i + 1 - E)) (c6 := cap7) (gb := gb) (HC1.out.drewN 1) (by rw [Hn.out]; omega) Hs0.out hO8 (by omega) (by simp only [if_true]; rw [Hbb.out]; exact hM8)
              (by simp only [if_true]; rw [Hbb.out]; rcases hat8 _ rfl with ⟨a, ha, e⟩ | h; · left; cases ha; exact e.symm
                  · right; exact h)
            obtain ⟨bl2, hC3⟩ : ∃ bl2, WCore w.heap.size was now (ss.take l ++ [(s0, i + 1)]) (ss.take l ++ [(s0, i + 1)]) (l + 1) (some ⟨go, 0, none⟩) cap bl2 w _ := ⟨_, hC2⟩
            have HC2 := Lib.hid hC3
            have HSS : Hid (segs was now gap (i + 1) = ss.take l ++ [(s0, i + 1)]) := by
              show segs was now gap (i + 1) = _
              rw [HSN.out]
              simp only [Nat.add_sub_cancel]
              rw [← Hs0.out]
              rfl
            have HSL : Hid ((segs was now gap (i + 1)).length = l + 1) := by
              show (segs was now gap (i + 1)).length = _
              rw [HSS.out, List.length_append, List.length_take, Hn.out]
              simp
            have HSE : Hid (endOf (segs was now gap (i + 1)) = i + 1) := by
              show endOf (segs was now gap (i + 1)) = _
              rw [HSS.out, endOf_snoc]
            clear hC2 hC3 hO8 hM8 hat8 y1 y2 m2' n2' m2 n2 HVb1 HRs3 HC1 hgolt'
            generalize w8.setCell _ _ = w9 at *
            go_wp2_with fail
            refine ⟨⟨i + 1, some ⟨go, 0, none⟩, cap, bl2, by go_num, by omega, ?_, ?_, ?_⟩, by simp [intOf]; omega⟩
            · rw [HSL.out]
            · rw [HSE.out]; go_num
            · rw [HSL.out, HSS.out]; exact HC2.out
        · have HSN := Lib.hid (HSn.out hx)
          have hcase : n = 0 ∨ (0 < n ∧ ((i : Int) == (E : Int)) = false ∧ (i == E) = false ∧ decide ((i : Int) - (E : Int) < gap) = false) := by
            by_cases h0 : n = 0
            · exact .inl h0
            · right
              refine ⟨by omega, ?_, ?_, ?_⟩
              · rw [beq_eq_false_iff_ne]; intro h; exact hx ⟨h0, .inl (by omega)⟩
              · rw [beq_eq_false_iff_ne]; intro h; exact hx ⟨h0, .inl (by omega)⟩
              · rw [decide_eq_false_iff_not]; intro h; exact hx ⟨h0, .inr h⟩
          clear hx HSm HSn
          have HOn : Hid (Own wq w.heap.size 27 3 A n cap (hcells (posOf ss) (hdOf ss ss bl) n)) := by rw [← Hn.out]; exact HCq.out.out
          have hpush : ∀ (ga gb : Nat) (wX w6 : World) (A' : Option Addr) (cap' : Nat), wq.heap.size ≤ ga → wq.heap.size ≤ gb → ga ≠ gb → Below wq.heap.size wq wX → Blk wX ga 46 #[.int .u64 y] → Blk wX gb 46 #[.int .u64 z] →
              Own w6 w.heap.size 27 3 A' (n + 1) cap' (hcells (posOf ss) (hdOf ss ss bl) n ++ [.int .i64 (i : Nat), .slice (some ⟨ga, 0, none⟩) 1 1, .slice (some ⟨gb, 0, none⟩) 1 1]) →
              Mod wX w6 (fun k => ∃ a, A = some a ∧ a.block = k) → ∃ bl2, WCore w.heap.size was now (segs was now gap (i + 1)) (segs was now gap (i + 1)) (segs was now gap (i + 1)).length A' cap' bl2 w w6 := by
            intro ga gb wX w6 A' cap' h1 h2 h3 h4 h5 h6 h7 h8
            rw [HSN.out, List.length_append, Hn.out]
            exact ⟨_, WCore.push (by rw [← Hn.out]; exact HCq.out) Hn.out hBq h1 h2 h3 h4 h5 h6 Ho1.out Ho2.out h7 h8⟩
          have Hpush := Lib.hid hpush
          clear hpush
          have HSL : Hid ((segs was now gap (i + 1)).length = n + 1) := by
            show (segs was now gap (i + 1)).length = _
            rw [HSN.out, List.length_append, Hn.out]
            rfl
          have HSE : Hid (endOf (segs was now gap (i + 1)) = i + 1) := by
            show endOf (segs was now gap (i + 1)) = _
            rw [HSN.out, endOf_snoc]
          have Hne1 : Hid (¬ ∃ a, A = some a ∧ a.block = g1) := fun ⟨a, ha, e⟩ => by have := (HOn.out.lt a ha).1; omega
          have Hne2 : Hid (¬ ∃ a, A = some a ∧ a.block = g2) := fun ⟨a, ha, e⟩ => by have := (HOn.out.lt a ha).1; omega
          have q1 : (0 : Int) ≤ (i : Int) := by omega
          have q2 : (i : Int) < (m : Int) := by omega
          have hg1q : g1 < wq.heap.size := by omega
          have hg2q : g2 < wq.heap.size := by omega
          have hfin : ∀ (w6 : World) (A' : Option Addr) (cap' : Nat), (∃ bl2, WCore w.heap.size was now (segs was now gap (i + 1)) (segs was now gap (i + 1)) (segs was now gap (i + 1)).length A' cap' bl2 w w6) →
              WHead w.heap.size was now gap m w (.slice A' (n + 1) cap') (.int .i64 ((i : Int) + 1)) (.int .i64 ((i : Int) + 1)) w6 := by
            rintro w6 A' cap' ⟨bl2, hC⟩
            refine ⟨i + 1, A', cap', bl2, by go_num, by omega, ?_, ?_, hC⟩
            · rw [HSL.out]
            · rw [HSE.out]; go_num
          have Hfin := Lib.hid hfin
          clear hfin HSL HSE
          rcases hcase with e0 | ⟨e0, e1, e2, e3⟩
          · subst e0
            go_wp2_with fail
            go_region_held3 (fun w' => w'.cell? ⟨g1, o1 + i, none⟩ = some (.int .u64 y) ∧ w'.cell? ⟨g2, o2 + i, none⟩ = some (.int .u64 z))
              (first | (exact ⟨c1, d1⟩) | (go_split_ands; exact ⟨keep1 (by assumption), keep1 (by assumption)⟩) | (go_split_ands; exact ⟨cell_mod hM6 (by assumption) Hne1.out, cell_mod hM6 (by assumption) Hne2.out⟩) | go_keep)
              (first
                | ((refine step_append_elem (by rfl) _ _ _ (by rfl) w.heap.size 27 i2 _ 3 56 Try.underlying23 hi2 hx0 hx1 hx2 rfl (by omega) A 0 cap _ (by rfl) ((((HOn.out.alloc (.cells #[.int .u64 y] 46)).alloc (.cells #[.int .u64 z] 46)).alloc _).drewN 1) [.int .i64 i, .slice (some ⟨wq.heap.size, 0, none⟩) 1 1, .slice (some ⟨wq.heap.size + 1, 0, none⟩) 1 1] (by rfl) (wq.heap.size + 1 + 1) (by rfl) ((blk3 wq _ _ _ _).drewN 1) (by simp [Value.oneCell']) (by unfold maxLen; omega) (by omega) (by simp; omega) ?_; intro A6 cap6 w6 hO6 hM6 hat6;
                     have hP := Hpush.out wq.heap.size (wq.heap.size + 1) _ w6 A6 cap6 (Nat.le_refl _) (by omega) (by omega) (below_drewN (below3 wq (.cells #[.int .u64 y] 46) (.cells #[.int .u64 z] 46) _) 1) ((blk1 wq _ _ _ _).drewN 1) ((blk2 wq _ _ _ _).drewN 1) hO6 hM6))
                | ((refine step_append_elem (by rfl) _ _ _ (by rfl) w.heap.size 27 i2 _ 3 56 Try.underlying23 hi2 hx0 hx1 hx2 rfl (by omega) A 0 cap _ (by rfl) ((((HOn.out.alloc (.cells #[.int .u64 z] 46)).alloc (.cells #[.int .u64 y] 46)).alloc _).drewN 1) [.int .i64 i, .slice (some ⟨wq.heap.size + 1, 0, none⟩) 1 1, .slice (some ⟨wq.heap.size, 0, none⟩) 1 1] (by rfl) (wq.heap.size + 1 + 1) (by rfl) ((blk3 wq _ _ _ _).drewN 1) (by simp [Value.oneCell']) (by unfold maxLen; omega) (by omega) (by simp; omega) ?_; intro A6 cap6 w6 hO6 hM6 hat6;
                     have hP := Hpush.out (wq.heap.size + 1) wq.heap.size _ w6 A6 cap6 (by omega) (Nat.le_refl _) (by omega) (below_drewN (below3 wq (.cells #[.int .u64 z] 46) (.cells #[.int .u64 y] 46) _) 1) ((blk2 wq _ _ _ _).drewN 1) ((blk1 wq _ _ _ _).drewN 1) hO6 hM6)))
            all_goals
              have HP := Lib.hid (Hfin.out w6 A6 cap6 hP)
              clear hP hO6 hM6 hat6
              go_wp2_with fail
              exact ⟨HP.out, by simp [intOf]; omega⟩
          · go_wp2_with fail
            go_region_held3 (fun w' => w'.cell? ⟨g1, o1 + i, none⟩ = some (.int .u64 y) ∧ w'.cell? ⟨g2, o2 + i, none⟩ = some (.int .u64 z))
              (first | (exact ⟨c1, d1⟩) | (go_split_ands; exact ⟨keep1 (by assumption), keep1 (by assumption)⟩) | (go_split_ands; exact ⟨cell_mod hM6 (by assumption) Hne1.out, cell_mod hM6 (by assumption) Hne2.out⟩) | go_keep)
              (first
                | ((refine step_append_elem (by rfl) _ _ _ (by rfl) w.heap.size 27 i2 _ 3 56 Try.underlying23 hi2 hx0 hx1 hx2 rfl (by omega) A n cap _ (by rfl) ((((HOn.out.alloc (.cells #[.int .u64 y] 46)).alloc (.cells #[.int .u64 z] 46)).alloc _).drewN 1) [.int .i64 i, .slice (some ⟨wq.heap.size, 0, none⟩) 1 1, .slice (some ⟨wq.heap.size + 1, 0, none⟩) 1 1] (by rfl) (wq.heap.size + 1 + 1) (by rfl) ((blk3 wq _ _ _ _).drewN 1) (by simp [Value.oneCell']) (by unfold maxLen; omega) (by omega) (by simp; omega) ?_; intro A6 cap6 w6 hO6 hM6 hat6;
                     have hP := Hpush.out wq.heap.size (wq.heap.size + 1) _ w6 A6 cap6 (Nat.le_refl _) (by omega) (by omega) (below_drewN (below3 wq (.cells #[.int .u64 y] 46) (.cells #[.int .u64 z] 46) _) 1) ((blk1 wq _ _ _ _).drewN 1) ((blk2 wq _ _ _ _).drewN 1) hO6 hM6))
                | ((refine step_append_elem (by rfl) _ _ _ (by rfl) w.heap.size 27 i2 _ 3 56 Try.underlying23 hi2 hx0 hx1 hx2 rfl (by omega) A n cap _ (by rfl) ((((HOn.out.alloc (.cells #[.int .u64 z] 46)).alloc (.cells #[.int .u64 y] 46)).alloc _).drewN 1) [.int .i64 i, .slice (some ⟨wq.heap.size + 1, 0, none⟩) 1 1, .slice (some ⟨wq.heap.size, 0, none⟩) 1 1] (by rfl) (wq.heap.size + 1 + 1) (by rfl) ((blk3 wq _ _ _ _).drewN 1) (by simp [Value.oneCell']) (by unfold maxLen; omega) (by omega) (by simp; omega) ?_; intro A6 cap6 w6 hO6 hM6 hat6;
                     have hP := Hpush.out (wq.heap.size + 1) wq.heap.size _ w6 A6 cap6 (by omega) (Nat.le_refl _) (by omega) (below_drewN (below3 wq (.cells #[.int .u64 z] 46) (.cells #[.int .u64 y] 46) _) 1) ((blk2 wq _ _ _ _).drewN 1) ((blk1 wq _ _ _ _).drewN 1) hO6 hM6)))
            all_goals
              have HP := Lib.hid (Hfin.out w6 A6 cap6 hP)
              clear hP hO6 hM6 hat6
              go_wp2_with fail
              exact ⟨HP.out, by simp [intOf]; omega⟩
    · have hie : i = m := by omega
      subst hie
      go_wp2_with fail
      go_ret2
      exact ⟨A, cap, bl, rfl, HC.out⟩
end Go.Proofs.Ytedbabkmbpkjlaa
