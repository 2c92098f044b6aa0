/- nvm: part, Flush, Fence, Persist. -/
import Derived.Test.YtcnjipicifkfjaaGreatRm05

namespace Go.Proofs.YtcnjipicifkfjaaGreat
open Go.RowKit
set_option linter.unusedVariables false
set_option linter.unusedSimpArgs false

theorem cell_mod {w w' : World} {S : Nat → Prop} {p : Addr} {v : Value} (m : Mod w w' S) (h : w.cell? p = some v) (hs : ¬ S p.block) : w'.cell? p = some v :=
  (World.cell?_of_block (m.block p.block (cell_lt h) hs)).trans h
theorem frozen_mod {w w' : World} {S : Nat → Prop} {p : Addr} (m : Mod w w' S) (hlt : p.block < w.heap.size) (h : w.frozen? p = false) (hs : ¬ S p.block) : w'.frozen? p = false :=
  (World.frozen?_of_block (m.block p.block hlt hs)).trans h
theorem run_slice_sub {P : Program} (t e : TypeId) (ht : P.underlying t = some (.slice e)) (hs : (P.info? e).map (·.size) = some 1) (g o n cap l h : Nat) (h1 : l ≤ h) (h2 : h ≤ cap) (h3 : l < cap) (L H : Int) (hL : L = l) (hH : H = h) (w : World) :
    (Instr.slice t (.slice (some ⟨g, o, none⟩) n cap) (some (.int .i64 L)) (some (.int .i64 H)) none).run P w = .ok (.slice (some ⟨g, o + l, none⟩) (h - l) (cap - l)) w := by
  subst hL hH
  have he : P.elem t = e := by simp [Program.elem, ht]
  cases hq : P.info? e with
  | none => simp [hq] at hs
  | some i =>
    have hsz : i.size = 1 := by simpa [hq] using hs
    rw [run_slice_lh w t _ n cap (by rw [he]; exact ht) .i64 .i64 l h (by omega) (by omega) (by omega), he]
    simp only [sizeOf, typeInfo, Sem.run_bind, run_program, Result.andThen_ok, hq, Sem.run_pure, hsz, sliced, Int.toNat_natCast, Nat.mul_one, Option.map_some]
    rw [if_neg (by omega)]
    have hadd : (⟨g, o, none⟩ : Addr).add l = ⟨g, o + l, none⟩ := by unfold Addr.add; split <;> simp_all
    rw [hadd]
theorem size28 : (Tryz.prog.info? 28).map (·.size) = some 1 := by kernel_rfl
theorem part_any (p : Value) (g n cap l : Nat) (w : World) (h1 : 8 * l + 8 ≤ n) (h2 : n ≤ cap) (h3 : cap ≤ maxLen) (h4 : l ≤ 1000000) :
    Calls Tryz.prog 91 #[p, .slice (some ⟨g, 0, none⟩) n cap, .int .i64 l] w fun e w' => e = .returned (.slice (some ⟨g, 8 * l, none⟩) 8 (cap - 8 * l)) ∧ w = w' := by
  unfold maxLen at h3
  have hs : ∀ w, (Instr.slice 22 (.slice (some ⟨g, 0, none⟩) n cap) (some (.int .i64 ((l : Int) * 8))) (some (.int .i64 (((l : Int) + 1) * 8))) none).run Tryz.prog w = .ok (.slice (some ⟨g, 8 * l, none⟩) 8 (cap - 8 * l)) w := by
    intro w
    have := run_slice_sub 22 28 Tryz.underlying22 size28 g 0 n cap (8 * l) (8 * l + 8) (by omega) (by omega) (by omega) ((l : Int) * 8) (((l : Int) + 1) * 8) (by omega) (by omega) w
    rw [this, Nat.zero_add, show 8 * l + 8 - 8 * l = 8 by omega]
  obtain ⟨r, Hr⟩ : ∃ r, Hid (8 * l = r) := ⟨_, rfl⟩
  rw [Hr.out] at hs ⊢
  clear h1 h2
  go_enter Tryz.func91, Tryz.ntmps91
  go_wp2_with fail
  go_ret
  exact ⟨rfl, rfl⟩

theorem splice_take (L cs : List Value) (k n : Nat) (h : k + cs.length ≤ n) : (splice L k cs).take n = splice (L.take n) k cs := by
  unfold splice
  apply List.ext_getElem?
  intro i
  simp only [List.getElem?_take, List.getElem?_append, List.length_take, List.getElem?_drop]
  by_cases h1 : i < min k L.length
  · rw [if_pos (by omega), if_pos h1, if_pos (by omega), if_pos (by omega), if_pos (by omega), if_pos (by omega)]
  · rw [if_neg h1, if_neg (by omega : ¬ i < min k (min n L.length))]
    by_cases hk : k ≤ L.length
    · rw [Nat.min_eq_left hk, Nat.min_eq_left (by omega : k ≤ min n L.length)]
      by_cases h2 : i - k < cs.length
      · rw [if_pos h2, if_pos h2, if_pos (by omega)]
      · rw [if_neg h2, if_neg h2]
        by_cases h3 : i < n
        · rw [if_pos h3, if_pos (by omega)]
        · rw [if_neg h3, if_neg (by omega)]
    · rw [Nat.min_eq_right (by omega : L.length ≤ k), Nat.min_eq_right (by omega : min n L.length ≤ k), Nat.min_eq_right (by omega : L.length ≤ n)]
      by_cases h2 : i - L.length < cs.length
      · rw [if_pos h2, if_pos h2, if_pos (by omega)]
      · rw [if_neg h2, if_neg h2, List.getElem?_eq_none (by omega)]
        simp
/-- 'copy(a row's part, cells)' at a step of a region that draws its order. -/
theorem step_copy_rd {P : Program} {ops : Array Oper} {o : Oper} {a : Act} {w : World} {K : Act → World → Prop} {Q : Exit → Act → World → Prop} {E : Prop} (hgd : o.guard = none) (d s : Operand) (dT sT : TypeId)
    (ho : o.op = .call { callee := .builtin .copy, args := #[d, s], argTypes := #[dT, sT] }) (elem : TypeId) (hu : P.underlying dT = some (.slice elem)) (hsz : (P.info? elem).map (·.size) = some 1)
    (B g k n cap dLen dCap : Nat) (xs : List Value) (hd : a.eval d = .slice (some ⟨g, k, none⟩) dLen dCap) (hown : Own w B elem 1 (some ⟨g, 0, none⟩) n cap xs)
    (gs os m c2 : Nat) (vs : List Value) (hs : a.eval s = .slice (some ⟨gs, os, none⟩) m c2) (hr : Rd w 1 (some ⟨gs, os, none⟩) m vs) (hm0 : 0 < m) (hm : m ≤ dLen) (hfit : k + m ≤ n) (h1 : ∀ v ∈ vs, v.oneCell' = true)
    (h : ∀ w', Own w' B elem 1 (some ⟨g, 0, none⟩) n cap (splice xs k vs) → Mod w w' (fun b => b = g) → K (a.put o.dst (goInt m)) w') :
    if Region.wanted o (yielded ops a.tmps) = true then Oper.wp P o a w K Q else E := by
  have hw : Region.wanted o (yielded ops a.tmps) = true := by simp [Region.wanted, hgd]
  rw [if_pos hw]
  have hlen : vs.length = m := by have := hr.1; omega
  obtain ⟨_, _, e, _, hc⟩ := hr.2 hm0
  cases e
  have hl := hown.len
  rcases hown.form with ⟨h2, _⟩ | ⟨g', cur, e, hB, hblk, h3, h4, h5, h6⟩
  · cases h2
  · cases e
    have hcl : cur.toList.length = cap := by rw [Array.length_toList, h5, Nat.mul_one]
    have hrun := run_copy_row (P := P) w dT sT o.type elem g k dLen dCap ⟨gs, os, none⟩ m c2 cur elem vs hu hsz hblk (by rw [hlen]; exact (Nat.min_eq_left hm).symm)
      (fun j u hu => by
        have hadd : (⟨gs, os, none⟩ : Addr).add j = ⟨gs, os + j, none⟩ := by unfold Addr.add; split <;> simp_all
        rw [hadd]
        exact hc j u hu) (by rw [hlen, h5]; omega) h1
    unfold Oper.wp
    simp [execOp, ho, resolve, invoke, builtin, hd, hs, hrun, Result.andThen]
    rw [hlen]
    refine h _ ⟨?_, .inr ⟨g, _, rfl, hB, hblk.setRow _, h3, h4, ?_, ?_⟩⟩ (mod_setRow w g _)
    · rw [length_splice _ _ _ (by omega)]; exact hl
    · have := length_splice cur.toList k vs (by omega)
      unfold splice at this
      rw [hlen] at this
      rw [List.size_toArray, this, hcl, Nat.mul_one]
    · have := splice_take cur.toList vs k (n * 1) (by omega)
      rw [h6] at this
      unfold splice at this ⊢
      rw [hlen] at this ⊢
      exact this

theorem lineOf_len (l : List Nat) (i m : Nat) (h : l.length = 8 * m) (hi : i < m) : (lineOf l i).length = 8 := by
  unfold lineOf
  rw [List.length_take, List.length_drop]
  omega
theorem Own.line {B : Nat} {w : World} {g n cap m : Nat} {l : List Nat} (h : Own w B 28 1 (some ⟨g, 0, none⟩) n cap (wcells l)) (i : Nat) (hn : n = 8 * m) (hi : i < m) : Rd w 1 (some ⟨g, 8 * i, none⟩) 8 (wcells (lineOf l i)) := by
  have hl : l.length = 8 * m := by have := h.len; rw [wcells_len] at this; omega
  obtain ⟨_, e, _, hg, _, _, hx, _⟩ := h.at_ (by omega)
  cases e
  refine ⟨by rw [wcells_len, lineOf_len l i m hl hi], fun _ => ⟨g, 8 * i, rfl, hg, fun j u hu => hx _ u ?_⟩⟩
  unfold lineOf wcells at hu
  rw [List.map_take, List.map_drop, List.getElem?_take, List.getElem?_drop] at hu
  split at hu
  · exact hu
  · cases hu
theorem wcells_one {l : List Nat} : ∀ u ∈ wcells l, u.oneCell' = true := by
  intro u hu
  simp only [wcells, List.mem_map] at hu
  obtain ⟨_, _, rfl⟩ := hu
  rfl
theorem wcells_splice (l m : List Nat) (k : Nat) : splice (wcells l) k (wcells m) = wcells (splice l k m) := by
  unfold wcells splice
  simp [List.map_take, List.map_drop]

theorem Dev.flush {B : Nat} {w w1 w2 : World} {b : DB} {m : Nat} {s : DS} {l : Nat} (h : Dev B w b m s) (hl : l < m) (hD : s.D.getD l false = true) (h1 : w1 = w.setCell ⟨b.gp, l, none⟩ (.bool true))
    (hO : Own w2 B 28 1 (some ⟨b.gf, 0, none⟩) (8 * m) b.cf (splice (wcells s.F) (8 * l) (wcells (lineOf s.C l)))) (hM : Mod w1 w2 (fun k => k = b.gf)) : Dev B w2 b m (Step.run s (.fl l)) := by
  obtain ⟨n1, n2, n3, n4, n5, n6, n7, n8, n9, n10, n11⟩ := h.nd
  obtain ⟨e1, e2, e3, e4⟩ := h.ne
  have hm1 : Mod w w1 (fun k => k = b.gp) := by rw [h1]; exact (Mod.refl w (fun k => k = b.gp)).cell l _
  have one : ∀ {e : TypeId} {n c g : Nat} {xs : List Value}, Own w B e 1 (some ⟨g, 0, none⟩) n c xs → g ≠ b.gp → g ≠ b.gf → Own w2 B e 1 (some ⟨g, 0, none⟩) n c xs :=
    fun ho h1 h2 => (ho.mod hm1 (fun a ha => by cases ha; exact h1)).mod hM (fun a ha => by cases ha; exact h2)
  have hr : Step.run s (.fl l) = { s with P := s.P.set l true, F := splice s.F (8 * l) (lineOf s.C l) } := by show (if _ then _ else _) = _; rw [if_pos hD]
  rw [hr]
  refine ⟨hM.blk (hm1.blk h.o (fun e => n5 e.symm)) (fun e => n3 e.symm), one h.l n7 e2, one h.c n9 e3, ?_, one h.d (fun e => e4 e) (fun e => n10 e.symm), ?_, h.ne, h.hB⟩
  · rw [wcells_splice] at hO; exact hO
  · have := h.p.set_ (j := l) (by omega) (.bool true)
    rw [blcells_set] at this
    rw [← h1] at this
    exact this.mod hM (fun a ha => by cases ha; exact fun e => n11 e.symm)

set_option maxRecDepth 100000 in
set_option maxHeartbeats 2000000 in
theorem flush_any (B : Nat) (b : DB) (m : Nat) (s : DS) (l : Nat) (w : World) (h : Dev B w b m s) (hl : l < m) (hm : m ≤ 100000) :
    Calls Tryz.prog 167 #[.pointer (some ⟨b.d, 0, none⟩), .int .i64 l] w fun e w' => e = .returned (.int .i64 (ecode (exec s [.fl l]).2)) ∧ Dev B w' b m (exec s [.fl l]).1 ∧ Mod w w' b.has := by
  obtain ⟨_, _, _, c3, _⟩ := h.cells
  have H := Lib.hid h
  have HE : Hid (exec s [.fl l] = if s.can then (Step.run s.tick (.fl l), true) else (s.die, false)) := rfl
  clear h
  obtain ⟨E, He⟩ : ∃ E, Hid (exec s [.fl l] = E) := ⟨_, rfl⟩
  rw [He.out] at HE ⊢
  go_enter Tryz.func167, Tryz.ntmps167
  go_wp2_with fail
  refine (step_any B b m s w H.out).mono ?_
  rintro e w1 ⟨rfl, hd, hm1⟩
  have HM1 := Lib.hid hm1
  cases hcan : s.can with
  | false =>
    rw [hcan] at hd HE
    have HD := Lib.hid hd
    have HE2 : Hid (E = (s.die, false)) := HE.out
    clear hd hm1 hcan HE c3
    go_wp2_with fail
    go_ret
    rw [HE2.out]
    exact ⟨rfl, HD.out, HM1.out.mono (fun k _ hk => .inl hk)⟩
  | true =>
    rw [hcan] at hd HE
    have HD : Hid (Dev B w1 b m s.tick) := hd
    have HE2 : Hid (E = (Step.run s.tick (.fl l), true)) := HE.out
    clear hd hm1 hcan HE c3
    obtain ⟨_, d1, d2, d3, d4, _⟩ := HD.out.cells
    obtain ⟨_, e, _, _, _, _, hy, _⟩ := HD.out.d.at_ (by omega)
    cases e
    have y0 := hy l _ (blcells_at _ l (by rw [HD.out.fits.d]; exact hl))
    clear hy
    obtain ⟨t, Ht⟩ : ∃ t, Hid (s.tick = t) := ⟨_, rfl⟩
    rw [Ht.out] at HD HE2 y0
    cases hDl : t.D.getD l false with
    | false =>
      have HE3 : Hid (E = (t, true)) := by show E = _; rw [HE2.out]; simp only [Step.run]; rw [if_neg (by rw [hDl]; simp)]
      rw [hDl] at y0
      clear hDl HE2
      go_wp2_with fail
      go_ret
      rw [HE3.out]
      exact ⟨rfl, HD.out, HM1.out.mono (fun k _ hk => .inl hk)⟩
    | true =>
      rw [hDl] at y0
      have HDl := Lib.hid hDl
      clear hDl
      obtain ⟨_, e, _, hgp, _, _, hz, hfz⟩ := HD.out.p.at_ (by omega)
      cases e
      have z0 := hz l _ (blcells_at _ l (by rw [HD.out.fits.p]; exact hl))
      have z1 := hfz l
      obtain ⟨_, e, _, hgf, hf1, hf2, _⟩ := HD.out.f.at_ (by omega)
      cases e
      obtain ⟨_, e, _, hgc, hc1, hc2, _⟩ := HD.out.c.at_ (by omega)
      cases e
      have ne5 : ¬ b.gp = b.d := HD.out.nd.2.2.2.2.1
      have ne6 : ¬ b.d = b.gp := fun e => ne5 e.symm
      have ne7 : ¬ b.gf = b.gp := HD.out.nd.2.2.2.2.2.2.2.2.2.2
      have ne8 : ¬ b.gc = b.gp := HD.out.nd.2.2.2.2.2.2.2.2.1
      have ne9 : ¬ b.gf = b.d := HD.out.nd.2.2.1
      clear hz hfz
      go_wp2_with fail
      obtain ⟨w2, Hw2⟩ : ∃ w2, Hid (w1.setCell ⟨b.gp, l, none⟩ (.bool true) = w2) := ⟨_, rfl⟩
      have hm2 : Mod w1 w2 (fun k => k = b.gp) := by rw [← Hw2.out]; exact (Mod.refl w1 (fun k => k = b.gp)).cell l _
      have HM2 := Lib.hid hm2
      have k10 : w2.cell? ⟨b.d, 1, none⟩ = some (.slice (some ⟨b.gc, 0, none⟩) (8 * m) b.cc) := cell_mod hm2 d1 ne6
      have k1 : w2.drew.cell? ⟨b.d, 1, none⟩ = some (.slice (some ⟨b.gc, 0, none⟩) (8 * m) b.cc) := k10
      have k20 : w2.cell? ⟨b.d, 2, none⟩ = some (.slice (some ⟨b.gf, 0, none⟩) (8 * m) b.cf) := cell_mod hm2 d2 ne6
      have k2 : w2.drew.cell? ⟨b.d, 2, none⟩ = some (.slice (some ⟨b.gf, 0, none⟩) (8 * m) b.cf) := k20
      have HF2 : Hid (Own w2.drew B 28 1 (some ⟨b.gf, 0, none⟩) (8 * m) b.cf (wcells t.F)) := (HD.out.f.mod hm2 (fun a ha => by cases ha; exact ne7)).drewN 1
      have HC2 : Hid (Rd w2.drew 1 (some ⟨b.gc, 8 * l, none⟩) 8 (wcells (lineOf t.C l))) := ((HD.out.c.mod hm2 (fun a ha => by cases ha; exact ne8)).line l rfl hl).drewN 1
      rw [Hw2.out]
      clear hm2 d1 d2 d3 d4 y0 z0 z1 k10 k20
      have Hpart : Hid (∀ (w : World) (p : Value) (g cap : Nat), 8 * m ≤ cap → cap ≤ maxLen → Calls Tryz.prog 91 #[p, .slice (some ⟨g, 0, none⟩) (8 * m) cap, .int .i64 l] w fun e w' => e = .returned (.slice (some ⟨g, 8 * l, none⟩) 8 (cap - 8 * l)) ∧ w = w') :=
        fun w p g cap h1 h2 => part_any p g (8 * m) cap l w (by omega) h1 h2 (by omega)
      go_region_held3 (fun w' => w'.cell? ⟨b.d, 1, none⟩ = some (.slice (some ⟨b.gc, 0, none⟩) (8 * m) b.cc) ∧ w'.cell? ⟨b.d, 2, none⟩ = some (.slice (some ⟨b.gf, 0, none⟩) (8 * m) b.cf))
        (first | exact ⟨k1, k2⟩ | exact ⟨cell_mod hM3 k1 (fun e => ne9 e.symm), cell_mod hM3 k2 (fun e => ne9 e.symm)⟩)
        (first
          | (go_at_call 91; refine (Hpart.out _ _ _ _ (by assumption) (by assumption)).mono ?_; rintro e w' ⟨rfl, rfl⟩)
          | (refine step_copy_rd (by rfl) _ _ 22 22 (by rfl) 28 Tryz.underlying22 size28 B b.gf (8 * l) (8 * m) b.cf 8 _ _ (by rfl) HF2.out b.gc (8 * l) 8 _ _ (by rfl) HC2.out (by omega) (by omega) (by omega) wcells_one ?_; intro w3 hO3 hM3))
      have HD3 := Lib.hid (HD.out.flush hl HDl.out Hw2.out.symm hO3 ⟨hM3.os, hM3.tape, hM3.output, hM3.size, hM3.block⟩)
      have HM3 : Hid (Mod w1 w3 b.has) := (HM2.out.mono (S' := b.has) (fun k _ hk => .inr (.inr (.inr (.inr (.inr hk)))))).trans (⟨hM3.os, hM3.tape, hM3.output, hM3.size, hM3.block⟩ : Mod w2 w3 (fun k => k = b.gf)) (fun k _ hk => .inr (.inr (.inr (.inl hk))))
      clear hO3 hM3
      go_wp2_with fail
      go_ret
      rw [HE2.out]
      exact ⟨rfl, HD3.out, (HM1.out.mono (S' := b.has) (fun k _ hk => .inl hk)).trans HM3.out (fun k _ hk => hk)⟩

theorem equal_any (A1 A2 : Option Addr) (n c1 c2 : Nat) (l1 l2 : List Nat) (w : World) (hn : n ≤ 1000) (h1 : Rd w 1 A1 n (wcells l1)) (h2 : Rd w 1 A2 n (wcells l2)) :
    Calls Tryz.prog 214 #[.slice A1 n c1, .slice A2 n c2] w fun e w' => e = .returned (.bool (decide (l1 = l2))) ∧ ∃ q, w' = w.drewN q := by
  have H1 := Lib.hid h1
  have H2 := Lib.hid h2
  have Hl1 : Hid (l1.length = n) := by have := h1.1; rw [wcells_len] at this; show _ = _; omega
  have Hl2 : Hid (l2.length = n) := by have := h2.1; rw [wcells_len] at this; show _ = _; omega
  clear h1 h2
  go_enter Tryz.func214, Tryz.ntmps214
  go_wp2_with fail
  go_loopw [13] (fun v13 wr => ∃ i q : Nat, v13 = .int .i64 i ∧ i ≤ n ∧ (∀ j, j < i → l1.getD j 0 = l2.getD j 0) ∧ wr = w.drewN q) (fun v13 _ => n - (intOf v13).toNat)
  case atStart => exact ⟨0, 0, rfl, Nat.zero_le _, fun j hj => absurd hj (Nat.not_lt_zero _), rfl⟩
  case round =>
    obtain ⟨i, q, rfl, hi, hall, hwr⟩ := hrel
    have Hall := Lib.hid hall
    have Hwr := Lib.hid hwr
    clear hall hwr
    by_cases hin : i < n
    · obtain ⟨g1, o1, rfl, hg1, hx1⟩ := H1.out.2 (by omega)
      obtain ⟨g2, o2, rfl, hg2, hx2⟩ := H2.out.2 (by omega)
      have y1 : wr.cell? ⟨g1, o1 + i, none⟩ = some (.int .u64 (l1.getD i 0 : Nat)) := by rw [Hwr.out]; exact hx1 i _ (wcells_at l1 i (by rw [Hl1.out]; exact hin))
      have y2 : wr.cell? ⟨g2, o2 + i, none⟩ = some (.int .u64 (l2.getD i 0 : Nat)) := by rw [Hwr.out]; exact hx2 i _ (wcells_at l2 i (by rw [Hl2.out]; exact hin))
      clear hx1 hx2
      by_cases hy : l1.getD i 0 = l2.getD i 0
      · have HN : Hid (∀ j, j < i + 1 → l1.getD j 0 = l2.getD j 0) := by
          intro j hj
          rcases Nat.lt_or_ge j i with h | h
          · exact Hall.out j h
          · obtain rfl : j = i := by omega
            exact hy
        rw [← hy] at y2
        clear hy
        generalize l1.getD i 0 = y at *
        go_wp2_with fail
        go_quiet (fail)
        go_wp2_with fail
        exact ⟨⟨i + 1, q + nq, by go_num, by omega, HN.out, by rw [Hwr.out]; exact World.drewN_drewN _ _ _⟩, by simp [intOf]; omega⟩
      · have HN : Hid (decide (l1 = l2) = false) := by show _ = _; rw [decide_eq_false_iff_not]; intro h; exact hy (by rw [h])
        have hyb : ((l1.getD i 0 : Int) == (l2.getD i 0 : Int)) = false := by rw [beq_eq_false_iff_ne]; omega
        have hyb2 : (l1.getD i 0 == l2.getD i 0) = false := by rw [beq_eq_false_iff_ne]; omega
        clear hy
        generalize l1.getD i 0 = y at *
        generalize l2.getD i 0 = z at *
        go_wp2_with fail
        go_quiet (fail)
        go_wp2_with fail
        go_ret
        rw [HN.out]
        exact ⟨rfl, q + nq, by rw [Hwr.out]; exact World.drewN_drewN _ _ _⟩
    · obtain rfl : i = n := by omega
      have HN : Hid (decide (l1 = l2) = true) := by
        show _ = _
        rw [decide_eq_true_eq]
        apply List.ext_getElem (by rw [Hl1.out, Hl2.out])
        intro j a b
        have := Hall.out j (by rw [Hl1.out] at a; exact a)
        simpa [List.getD_eq_getElem?_getD, a, b] using this
      go_wp2_with fail
      go_ret
      rw [HN.out]
      exact ⟨rfl, q, Hwr.out⟩
end Go.Proofs.YtcnjipicifkfjaaGreat

/- nvm: Fence, Persist. -/
namespace Go.Proofs.YtcnjipicifkfjaaGreat
open Go.RowKit
set_option linter.unusedVariables false
set_option linter.unusedSimpArgs false

section
variable {B : Nat} {w w' : World} {b : DB} {m : Nat} {s : DS}
theorem Dev.withL (h : Dev B w b m s) {L : List Nat} (hO : Own w' B 28 1 (some ⟨b.gl, 0, none⟩) (8 * m) b.cl (wcells L)) (hM : Mod w w' (fun k => k = b.gl)) : Dev B w' b m { s with L := L } := by
  obtain ⟨n1, n2, n3, n4, n5, n6, n7, n8, n9, n10, n11⟩ := h.nd
  obtain ⟨e1, e2, e3, e4⟩ := h.ne
  exact ⟨hM.blk h.o (fun e => n1 e.symm), hO, h.c.mod hM (fun a ha => by cases ha; exact fun e => e1 e.symm), h.f.mod hM (fun a ha => by cases ha; exact fun e => e2 e.symm), h.d.mod hM (fun a ha => by cases ha; exact fun e => n6 e.symm), h.p.mod hM (fun a ha => by cases ha; exact fun e => n7 e.symm), h.ne, h.hB⟩
theorem Dev.withP (h : Dev B w b m s) (i : Nat) (hi : i < m) (v : Bool) : Dev B (w.setCell ⟨b.gp, i, none⟩ (.bool v)) b m { s with P := s.P.set i v } := by
  obtain ⟨n1, n2, n3, n4, n5, n6, n7, n8, n9, n10, n11⟩ := h.nd
  obtain ⟨e1, e2, e3, e4⟩ := h.ne
  have hM : Mod w (w.setCell ⟨b.gp, i, none⟩ (.bool v)) (fun k => k = b.gp) := (Mod.refl w (fun k => k = b.gp)).cell i _
  refine ⟨hM.blk h.o (fun e => n5 e.symm), h.l.mod hM (fun a ha => by cases ha; exact n7), h.c.mod hM (fun a ha => by cases ha; exact n9), h.f.mod hM (fun a ha => by cases ha; exact n11), h.d.mod hM (fun a ha => by cases ha; exact e4), ?_, h.ne, h.hB⟩
  have := h.p.set_ (j := i) (by omega) (.bool v)
  rw [blcells_set] at this
  exact this
theorem Dev.withD (h : Dev B w b m s) (i : Nat) (hi : i < m) (v : Bool) : Dev B (w.setCell ⟨b.gd, i, none⟩ (.bool v)) b m { s with D := s.D.set i v } := by
  obtain ⟨n1, n2, n3, n4, n5, n6, n7, n8, n9, n10, n11⟩ := h.nd
  obtain ⟨e1, e2, e3, e4⟩ := h.ne
  have hM : Mod w (w.setCell ⟨b.gd, i, none⟩ (.bool v)) (fun k => k = b.gd) := (Mod.refl w (fun k => k = b.gd)).cell i _
  refine ⟨hM.blk h.o (fun e => n4 e.symm), h.l.mod hM (fun a ha => by cases ha; exact n6), h.c.mod hM (fun a ha => by cases ha; exact n8), h.f.mod hM (fun a ha => by cases ha; exact n10), ?_, h.p.mod hM (fun a ha => by cases ha; exact fun e => e4 e.symm), h.ne, h.hB⟩
  have := h.d.set_ (j := i) (by omega) (.bool v)
  rw [blcells_set] at this
  exact this
end
theorem DB.has_gl (b : DB) : b.has b.gl := .inr (.inl rfl)
theorem DB.has_gd (b : DB) : b.has b.gd := .inr (.inr (.inr (.inr (.inl rfl))))
theorem DB.has_gp (b : DB) : b.has b.gp := .inr (.inr (.inr (.inr (.inr rfl))))
theorem fenceOne_no {s : DS} {i : Nat} (h : s.P.getD i false = false) : fenceOne s i = s := by
  unfold fenceOne
  rw [h]
  rfl
theorem fenceOne_yes {s : DS} {i : Nat} (h : s.P.getD i false = true) : fenceOne s i = { s with L := splice s.L (8 * i) (lineOf s.F i), P := s.P.set i false, D := s.D.set i (decide (lineOf (splice s.L (8 * i) (lineOf s.F i)) i ≠ lineOf s.C i)) } := by
  unfold fenceOne
  rw [h]
  rfl

set_option maxRecDepth 100000 in
set_option maxHeartbeats 2000000 in
theorem fence_any (B : Nat) (b : DB) (m : Nat) (s : DS) (w : World) (h : Dev B w b m s) (hm : m ≤ 100000) :
    Calls Tryz.prog 168 #[.pointer (some ⟨b.d, 0, none⟩)] w fun e w' => e = .returned (.int .i64 (ecode (exec s [.fe]).2)) ∧ Dev B w' b m (exec s [.fe]).1 ∧ Mod w w' b.has := by
  have H := Lib.hid h
  have HE : Hid (exec s [.fe] = if s.can then (Step.run s.tick .fe, true) else (s.die, false)) := rfl
  clear h
  obtain ⟨E, He⟩ : ∃ E, Hid (exec s [.fe] = E) := ⟨_, rfl⟩
  rw [He.out] at HE ⊢
  go_enter Tryz.func168, Tryz.ntmps168
  go_wp2_with fail
  refine (step_any B b m s w H.out).mono ?_
  rintro e w1 ⟨rfl, hd, hm1⟩
  have HM1 := Lib.hid hm1
  cases hcan : s.can with
  | false =>
    rw [hcan] at hd HE
    have HD := Lib.hid hd
    have HE2 : Hid (E = (s.die, false)) := HE.out
    clear hd hm1 hcan HE
    go_wp2_with fail
    go_ret
    rw [HE2.out]
    exact ⟨rfl, HD.out, HM1.out.mono (fun k _ hk => .inl hk)⟩
  | true =>
    rw [hcan] at hd HE
    have HD : Hid (Dev B w1 b m s.tick) := hd
    have HE2 : Hid (E = (Step.run s.tick .fe, true)) := HE.out
    clear hd hm1 hcan HE
    obtain ⟨t, Ht⟩ : ∃ t, Hid (s.tick = t) := ⟨_, rfl⟩
    rw [Ht.out] at HD HE2
    have HE3 : Hid (E = (fenceTo t m, true)) := by show E = _; rw [HE2.out]; simp only [Step.run]; rw [HD.out.fits.p]
    obtain ⟨_, _, _, _, d4, _⟩ := HD.out.cells
    clear HE2
    go_wp2_with fail
    go_loopw [13] (fun v13 wr => ∃ i : Nat, v13 = .int .i64 i ∧ i ≤ m ∧ Dev B wr b m (fenceTo t i) ∧ Mod w1 wr b.has) (fun v13 _ => m - (intOf v13).toNat)
    case atStart => exact ⟨0, rfl, Nat.zero_le _, HD.out, Mod.refl _ _⟩
    case round =>
      clear d4
      obtain ⟨i, rfl, hi, hd, hmr⟩ := hrel
      have HDr := Lib.hid hd
      have HMr := Lib.hid hmr
      clear hd hmr
      by_cases him : i < m
      · obtain ⟨_, e, _, hgp, _, _, hz, hfz⟩ := HDr.out.p.at_ (by omega)
        cases e
        have z0 := hz i _ (blcells_at _ i (by rw [HDr.out.fits.p]; exact him))
        have z1 := hfz i
        clear hz hfz
        have HS : Hid (fenceTo t (i + 1) = fenceOne (fenceTo t i) i) := rfl
        obtain ⟨u, Hu⟩ : ∃ u, Hid (fenceTo t i = u) := ⟨_, rfl⟩
        rw [Hu.out] at HDr HS z0
        cases hP : u.P.getD i false with
        | false =>
          rw [fenceOne_no hP] at HS
          rw [hP] at z0
          clear hP
          go_wp2_with fail
          exact ⟨⟨i + 1, by go_num, by omega, by rw [HS.out]; exact HDr.out, HMr.out⟩, by simp [intOf]; omega⟩
        | true =>
          rw [fenceOne_yes hP] at HS
          rw [hP] at z0
          clear hP
          have ht8 : i ≤ 1000000 := by omega
          have hi8 : 8 * i + 8 ≤ 8 * m := by omega
          go_wp2_with fail
          obtain ⟨d0, d1, d2, d3, d4, _⟩ := HDr.out.cells
          have nd := HDr.out.nd
          have ne := HDr.out.ne
          have na1 : ¬ b.d = b.gl := fun e => nd.1 e.symm
          have na2 : ¬ b.gp = b.gl := fun e => nd.2.2.2.2.2.2.1 e.symm
          have na3 : ¬ b.gc = b.gl := fun e => ne.1 e.symm
          have na4 : ¬ b.d = b.gp := fun e => nd.2.2.2.2.1 e.symm
          have na5 : ¬ b.gp = b.d := nd.2.2.2.2.1
          have na6 : ¬ b.gd = b.gp := ne.2.2.2
          have na7 : ¬ b.gp = b.gd := fun e => ne.2.2.2 e.symm
          have na8 : ¬ b.gd = b.d := nd.2.2.2.1
          have na9 : ¬ b.d = b.gd := fun e => nd.2.2.2.1 e.symm
          clear nd ne
          obtain ⟨_, e, _, _, hl1, hl2, _⟩ := HDr.out.l.at_ (by omega)
          cases e
          obtain ⟨_, e, _, _, hf1, hf2, _⟩ := HDr.out.f.at_ (by omega)
          cases e
          obtain ⟨_, e, _, _, hc1, hc2, _⟩ := HDr.out.c.at_ (by omega)
          cases e
          have Hpart : Hid (∀ (w : World) (p : Value) (g cap : Nat), 8 * m ≤ cap → cap ≤ maxLen → Calls Tryz.prog 91 #[p, .slice (some ⟨g, 0, none⟩) (8 * m) cap, .int .i64 i] w fun e w' => e = .returned (.slice (some ⟨g, 8 * i, none⟩) 8 (cap - 8 * i)) ∧ w = w') :=
            fun w p g cap h1 h2 => part_any p g (8 * m) cap i w hi8 h1 h2 ht8
          have HL0 : Hid (Own wr.drew B 28 1 (some ⟨b.gl, 0, none⟩) (8 * m) b.cl (wcells u.L)) := HDr.out.l.drewN 1
          have HF0 : Hid (Rd wr.drew 1 (some ⟨b.gf, 8 * i, none⟩) 8 (wcells (lineOf u.F i))) := (HDr.out.f.line i rfl him).drewN 1
          have k0 : wr.drew.cell? ⟨b.d, 0, none⟩ = some (.slice (some ⟨b.gl, 0, none⟩) (8 * m) b.cl) := d0
          have k2 : wr.drew.cell? ⟨b.d, 2, none⟩ = some (.slice (some ⟨b.gf, 0, none⟩) (8 * m) b.cf) := d2
          go_region_held3 (fun w' => w'.cell? ⟨b.d, 0, none⟩ = some (.slice (some ⟨b.gl, 0, none⟩) (8 * m) b.cl) ∧ w'.cell? ⟨b.d, 2, none⟩ = some (.slice (some ⟨b.gf, 0, none⟩) (8 * m) b.cf))
            (first | exact ⟨k0, k2⟩ | exact ⟨cell_mod hM3 k0 na1, cell_mod hM3 k2 na1⟩)
            (first
              | (go_at_call 91; refine (Hpart.out _ _ _ _ (by assumption) (by assumption)).mono ?_; rintro e w' ⟨rfl, rfl⟩)
              | (refine step_copy_rd (by rfl) _ _ 22 22 (by rfl) 28 Tryz.underlying22 size28 B b.gl (8 * i) (8 * m) b.cl 8 _ _ (by rfl) HL0.out b.gf (8 * i) 8 _ _ (by rfl) HF0.out (by omega) (by omega) (by omega) wcells_one ?_; intro w3 hO3 hM3))
          have hM3' : Mod wr w3 (fun k => k = b.gl) := ⟨hM3.os, hM3.tape, hM3.output, hM3.size, hM3.block⟩
          rw [wcells_splice] at hO3
          have HD3 := Lib.hid (HDr.out.withL hO3 hM3')
          have HM3 : Hid (Mod wr w3 b.has) := hM3'.mono (fun k _ hk => by rw [hk]; exact b.has_gl)
          clear hO3 hM3 hM3' d0 d1 d2 d3 d4 k0 k2 z0 z1 HL0 HF0
          obtain ⟨d0, d1, d2, d3, d4, _⟩ := HD3.out.cells
          obtain ⟨_, e, _, hgp3, _, _, hz, hfz⟩ := HD3.out.p.at_ (by omega)
          cases e
          have z0 := hz i _ (blcells_at _ i (by rw [HD3.out.fits.p]; exact him))
          have z1 := hfz i
          clear hz hfz
          go_wp2_with fail
          obtain ⟨w4, Hw4⟩ : ∃ w4, Hid (w3.setCell ⟨b.gp, i, none⟩ (.bool false) = w4) := ⟨_, rfl⟩
          have HD4 : Hid (Dev B w4 b m { u with L := splice u.L (8 * i) (lineOf u.F i), P := u.P.set i false }) := by rw [← Hw4.out]; exact HD3.out.withP i him false
          have HM4 : Hid (Mod w3 w4 b.has) := by rw [← Hw4.out]; exact Mod.set (p := ⟨b.gp, i, none⟩) (Mod.refl w3 b.has) (.inr b.has_gp) _
          rw [Hw4.out]
          clear d0 d1 d2 d3 d4 z0 z1 HD3
          obtain ⟨d0, d1, d2, d3, d4, _⟩ := HD4.out.cells
          have k0 : w4.drew.cell? ⟨b.d, 0, none⟩ = some (.slice (some ⟨b.gl, 0, none⟩) (8 * m) b.cl) := d0
          have k1 : w4.drew.cell? ⟨b.d, 1, none⟩ = some (.slice (some ⟨b.gc, 0, none⟩) (8 * m) b.cc) := d1
          have k3 : w4.drew.cell? ⟨b.d, 3, none⟩ = some (.slice (some ⟨b.gd, 0, none⟩) m b.cd) := d3
          obtain ⟨_, e, _, hgd4, _, _, hz, hfz⟩ := HD4.out.d.at_ (by omega)
          cases e
          obtain ⟨x, Hx⟩ : ∃ x, Hid (u.D.getD i false = x) := ⟨_, rfl⟩
          have z0 : w4.drew.cell? ⟨b.gd, i, none⟩ = some (.bool x) := by rw [← Hx.out]; exact hz i _ (blcells_at _ i (by rw [HD4.out.fits.d]; exact him))
          have z1 : w4.drew.frozen? ⟨b.gd, i, none⟩ = false := hfz i
          obtain ⟨L2, HL2⟩ : ∃ L2, Hid (splice u.L (8 * i) (lineOf u.F i) = L2) := ⟨_, rfl⟩
          rw [HL2.out] at HD4 HS
          have HL4 : Hid (Rd w4.drew 1 (some ⟨b.gl, 8 * i, none⟩) 8 (wcells (lineOf L2 i))) := (HD4.out.l.line i rfl him).drewN 1
          have HC4 : Hid (Rd w4.drew 1 (some ⟨b.gc, 8 * i, none⟩) 8 (wcells (lineOf u.C i))) := (HD4.out.c.line i rfl him).drewN 1
          obtain ⟨v, Hv⟩ : ∃ v, Hid (decide (lineOf L2 i = lineOf u.C i) = v) := ⟨_, rfl⟩
          have HEq : Hid (∀ c1 c2, Calls Tryz.prog 214 #[.slice (some ⟨b.gl, 8 * i, none⟩) 8 c1, .slice (some ⟨b.gc, 8 * i, none⟩) 8 c2] w4.drew fun e w' => e = .returned (.bool v) ∧ ∃ q, w' = w4.drewN q) := by
            intro c1 c2
            refine (equal_any _ _ 8 c1 c2 _ _ _ (by omega) HL4.out HC4.out).mono ?_
            rintro e w' ⟨rfl, q, rfl⟩
            rw [Hv.out]
            exact ⟨rfl, 1 + q, World.drewN_drewN _ 1 q⟩
          clear d0 d1 d2 d3 d4 hz hfz
          go_region_held3 (fun w' => w'.cell? ⟨b.d, 0, none⟩ = some (.slice (some ⟨b.gl, 0, none⟩) (8 * m) b.cl) ∧ w'.cell? ⟨b.d, 1, none⟩ = some (.slice (some ⟨b.gc, 0, none⟩) (8 * m) b.cc) ∧ w'.cell? ⟨b.d, 3, none⟩ = some (.slice (some ⟨b.gd, 0, none⟩) m b.cd))
            (first | exact ⟨k0, k1, k3⟩ | (rw [Hq.out]; exact ⟨k0, k1, k3⟩) | go_keep)
            (first
              | (go_at_call 91; refine (Hpart.out _ _ _ _ (by assumption) (by assumption)).mono ?_; rintro e w' ⟨rfl, rfl⟩)
              | (go_at_call 214; refine (HEq.out _ _).mono ?_; rintro e w5 ⟨rfl, q, hq⟩; have Hq := Lib.hid hq; clear hq; have z2 : w5.cell? ⟨b.gd, i, none⟩ = some (.bool x) := (by rw [Hq.out]; exact z0); have z3 : w5.frozen? ⟨b.gd, i, none⟩ = false := (by rw [Hq.out]; exact z1)))
          have HD5 : Hid (Dev B w5 b m { u with L := L2, P := u.P.set i false }) := by rw [Hq.out]; exact HD4.out.drewN q
          have HD6 := Lib.hid (HD5.out.withD i him (!v))
          have hdv : decide (lineOf L2 i ≠ lineOf u.C i) = !v := by rw [← Hv.out]; simp
          have HS2 : Hid (fenceTo t (i + 1) = { u with L := L2, P := u.P.set i false, D := u.D.set i (!v) }) := by show _ = _; rw [HS.out, hdv]
          have HM5 : Hid (Mod w4 w5 b.has) := by rw [Hq.out]; exact (Mod.refl w4 b.has).drewN q
          have HM6 : Hid (Mod wr (w5.setCell ⟨b.gd, i, none⟩ (.bool !v)) b.has) :=
            Mod.set (p := ⟨b.gd, i, none⟩) (((HM3.out.trans HM4.out (fun k _ hk => hk)).trans HM5.out (fun k _ hk => hk))) (.inr b.has_gd) _
          clear hdv
          go_wp2_with fail
          exact ⟨⟨i + 1, by go_num, by omega, by rw [HS2.out]; exact HD6.out, HMr.out.trans HM6.out (fun k _ hk => hk)⟩, by simp [intOf]; omega⟩
      · obtain rfl : i = m := by omega
        go_wp2_with fail
        go_ret
        rw [HE3.out]
        exact ⟨rfl, HDr.out, (HM1.out.mono (S' := b.has) (fun k _ hk => .inl hk)).trans HMr.out (fun k _ hk => hk)⟩

/-- The steps of Persist: lines flushed, then a fence. -/
def flushes (l : Nat) : Nat → List Step
  | 0 => []
  | n + 1 => .fl l :: flushes (l + 1) n
def persistS (a n : Nat) : List Step := flushes (a / 8) ((a + n - 1) / 8 + 1 - a / 8) ++ [.fe]
theorem flushes_snoc (l n : Nat) : flushes l (n + 1) = flushes l n ++ [.fl (l + n)] := by
  induction n generalizing l with
  | zero => simp [flushes]
  | succ n ih =>
    rw [flushes, ih (l + 1), flushes]
    simp [Nat.add_comm, Nat.add_left_comm]
theorem flushes_split (l a c : Nat) : flushes l (a + c) = flushes l a ++ flushes (l + a) c := by
  induction a generalizing l with
  | zero => simp [flushes]
  | succ a ih =>
    rw [show a + 1 + c = (a + c) + 1 by omega]
    simp only [flushes, List.cons_append]
    rw [ih (l + 1), show l + 1 + a = l + (a + 1) by omega]
/-- What comes behind a failure doesn't count. -/
theorem exec_fail {s : DS} {a : List Step} (h : (exec s a).2 = false) (c : List Step) : exec s (a ++ c) = exec s a := by rw [exec_append, h]; rfl
theorem exec_ok {s : DS} {a : List Step} (h : (exec s a).2 = true) (c : List Step) : exec s (a ++ c) = exec (exec s a).1 c := by rw [exec_append, h]; rfl
set_option maxHeartbeats 1000000 in
theorem persist_any (B : Nat) (b : DB) (m : Nat) (s : DS) (a n : Nat) (w : World) (h : Dev B w b m s) (hn : 0 < n) (han : a + n ≤ 8 * m) (hm : m ≤ 100000) :
    Calls Tryz.prog 118 #[.pointer (some ⟨b.d, 0, none⟩), .int .i64 a, .int .i64 n] w fun e w' => e = .returned (.int .i64 (ecode (exec s (persistS a n)).2)) ∧ Dev B w' b m (exec s (persistS a n)).1 ∧ Mod w w' b.has := by
  have H := Lib.hid h
  have Hlen := Lib.hid (len_any B b m s w h)
  clear h
  obtain ⟨W, HW⟩ : ∃ W, Hid (8 * m = W) := ⟨_, rfl⟩
  have hW : W ≤ 800000 := by rw [← HW.out]; omega
  have han2 : a + n ≤ W := by rw [← HW.out]; exact han
  rw [HW.out] at Hlen
  obtain ⟨l0, Hl0⟩ : ∃ l0, Hid (a / 8 = l0) := ⟨_, rfl⟩
  obtain ⟨l1, Hl1⟩ : ∃ l1, Hid ((a + n - 1) / 8 = l1) := ⟨_, rfl⟩
  have hl0 : (a : Int) / 8 = (l0 : Int) := by rw [← Hl0.out]; omega
  have hl1 : ((a : Int) + (n : Int) - 1) / 8 = (l1 : Int) := by rw [← Hl1.out]; omega
  have hl01 : l0 ≤ l1 := by rw [← Hl0.out, ← Hl1.out]; omega
  have hl1m : l1 < m := by rw [← Hl1.out]; omega
  have HP : Hid (persistS a n = flushes l0 (l1 + 1 - l0) ++ [.fe]) := by show _ = _; unfold persistS; rw [Hl0.out, Hl1.out]
  rw [HP.out]
  clear han
  have q1 : decide ((a : Int) < 0) = false := by rw [decide_eq_false_iff_not]; omega
  have q2 : decide ((n : Int) < 0) = false := by rw [decide_eq_false_iff_not]; omega
  have q3 : decide (W < a) = false := by rw [decide_eq_false_iff_not]; omega
  have q4 : decide ((W : Int) - (a : Int) < (n : Int)) = false := by rw [decide_eq_false_iff_not]; omega
  go_enter Tryz.func118, Tryz.ntmps118
  go_wp2_with fail
  refine Hlen.out.mono ?_
  rintro e w' ⟨rfl, rfl⟩
  go_wp2_with fail
  refine Hlen.out.mono ?_
  rintro e w' ⟨rfl, rfl⟩
  go_wp2_with fail
  go_loopw [7] (fun v7 wr => ∃ r : Nat, v7 = .int .i64 r ∧ r ≤ l1 + 1 ∧ l0 ≤ r ∧ (exec s (flushes l0 (r - l0))).2 = true ∧ Dev B wr b m (exec s (flushes l0 (r - l0))).1 ∧ Mod w wr b.has) (fun v7 _ => l1 + 1 - (intOf v7).toNat)
  case atStart => exact ⟨l0, rfl, by omega, Nat.le_refl _, by rw [Nat.sub_self]; rfl, by rw [Nat.sub_self]; exact H.out, Mod.refl _ _⟩
  case round =>
    obtain ⟨r, rfl, hr1, hr0, hok, hd, hmr⟩ := hrel
    obtain ⟨k, Hk⟩ : ∃ k, Hid (r - l0 = k) := ⟨_, rfl⟩
    rw [Hk.out] at hok hd
    have Hok := Lib.hid hok
    have HD := Lib.hid hd
    have HM := Lib.hid hmr
    clear hok hd hmr
    have HS := Lib.hid (flushes_snoc l0 k)
    rw [show l0 + k = r by have := Hk.out; omega] at HS
    by_cases hlt : r ≤ l1
    · have hk2 : k + 1 ≤ l1 + 1 - l0 := by have := Hk.out; omega
      obtain ⟨u, Hu⟩ : ∃ u, Hid ((exec s (flushes l0 k)).1 = u) := ⟨_, rfl⟩
      rw [Hu.out] at HD
      have HX : Hid (exec s (flushes l0 (k + 1)) = exec u [.fl r]) := by show _ = _; rw [HS.out, exec_ok Hok.out, Hu.out]
      go_wp2_with fail
      refine (flush_any B b m u r wr HD.out (by omega) hm).mono ?_
      rintro e w2 ⟨rfl, hd2, hm2⟩
      rw [← HX.out] at hd2 ⊢
      have HD2 := Lib.hid hd2
      have HM2 := Lib.hid (HM.out.trans hm2 (fun k _ hk => hk))
      clear hd2 hm2
      cases hb : (exec s (flushes l0 (k + 1))).2 with
      | false =>
        have HF : Hid (exec s (flushes l0 (l1 + 1 - l0) ++ [.fe]) = exec s (flushes l0 (k + 1))) := by
          show _ = _
          obtain ⟨c, hc⟩ : ∃ c, l1 + 1 - l0 = (k + 1) + c := ⟨l1 + 1 - l0 - (k + 1), by omega⟩
          rw [hc, flushes_split, List.append_assoc, exec_fail hb]
        have Hb := Lib.hid hb
        clear hb
        have he3 : ecode false = 3 := rfl
        rw [he3]
        go_wp2_with fail
        go_ret
        rw [HF.out, Hb.out]
        exact ⟨rfl, HD2.out, HM2.out⟩
      | true =>
        have Hb := Lib.hid hb
        clear hb
        have he0 : ecode true = 0 := rfl
        rw [he0]
        go_wp2_with fail
        have Hk1 : Hid (r + 1 - l0 = k + 1) := by have := Hk.out; show _ = _; omega
        exact ⟨⟨r + 1, by go_num, by omega, by omega, by rw [Hk1.out]; exact Hb.out, by rw [Hk1.out]; exact HD2.out, HM2.out⟩, by simp [intOf]; omega⟩
    · have hke : k = l1 + 1 - l0 := by have := Hk.out; omega
      obtain ⟨u, Hu⟩ : ∃ u, Hid ((exec s (flushes l0 k)).1 = u) := ⟨_, rfl⟩
      rw [Hu.out] at HD
      have HX : Hid (exec s (flushes l0 (l1 + 1 - l0) ++ [.fe]) = exec u [.fe]) := by show _ = _; rw [← hke, exec_ok Hok.out, Hu.out]
      go_wp2_with fail
      refine (fence_any B b m u wr HD.out hm).mono ?_
      rintro e w2 ⟨rfl, hd2, hm2⟩
      rw [← HX.out] at hd2 ⊢
      have HD2 := Lib.hid hd2
      have HM2 := Lib.hid (HM.out.trans hm2 (fun k _ hk => hk))
      clear hd2 hm2
      go_wp2_with fail
      go_ret
      exact ⟨rfl, HD2.out, HM2.out⟩
end Go.Proofs.YtcnjipicifkfjaaGreat
