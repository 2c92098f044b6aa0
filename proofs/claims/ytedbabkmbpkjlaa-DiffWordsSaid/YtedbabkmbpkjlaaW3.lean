/- The walk of diff's Apply. -/
import Derived.Test.YtedbabkmbpkjlaaW2
import Derived.StillTailTactics
namespace Go.Proofs.Ytedbabkmbpkjlaa
open Go.RowKit
set_option linter.unusedVariables false
set_option linter.unusedSimpArgs false

theorem splice_take (L cs : List Value) (k n : Nat) (h : k + cs.length ≤ n) : (splice L k cs).take n = splice (L.take n) k cs := by
  unfold splice
  apply List.ext_getElem?
  intro i
  simp only [List.getElem?_take, List.getElem?_append, List.length_take, List.getElem?_drop]
  by_cases h1 : i < min k L.length
  · rw [if_pos (by omega), if_pos h1, if_pos (by omega), if_pos (by omega), if_pos (by omega), if_pos (by omega)]
  · rw [if_neg h1, if_neg (by omega : ¬ i < min k (min n L.length))]
    by_cases hk : k ≤ L.length
    · rw [Nat.min_eq_left hk, Nat.min_eq_left (by omega : k ≤ min n L.length)]
      by_cases h2 : i - k < cs.length
      · rw [if_pos h2, if_pos h2, if_pos (by omega)]
      · rw [if_neg h2, if_neg h2]
        by_cases h3 : i < n
        · rw [if_pos h3, if_pos (by omega)]
        · rw [if_neg h3, if_neg (by omega)]
    · rw [Nat.min_eq_right (by omega : L.length ≤ k), Nat.min_eq_right (by omega : min n L.length ≤ k), Nat.min_eq_right (by omega : L.length ≤ n)]
      by_cases h2 : i - L.length < cs.length
      · rw [if_pos h2, if_pos h2, if_pos (by omega)]
      · rw [if_neg h2, if_neg h2, List.getElem?_eq_none (by omega)]
        simp
/-- 'copy(out[k:], src)', out a row that the call owns. -/
theorem wpList_copy_rd {P : Program} {w : World} {ops : Array Oper} {rest : List Oper} {o : Oper} {a : Act} {Q : Exit → Act → World → Prop} (hgd : o.guard = none) (d s : Operand) (dT sT : TypeId)
    (ho : o.op = .call { callee := .builtin .copy, args := #[d, s], argTypes := #[dT, sT] }) (elem : TypeId) (hu : P.underlying dT = some (.slice elem)) (hsz : (P.info? elem).map (·.size) = some 1)
    (B g k n cap dLen dCap : Nat) (xs : List Value) (hd : a.eval d = .slice (some ⟨g, k, none⟩) dLen dCap) (hown : Own w B elem 1 (some ⟨g, 0, none⟩) n cap xs)
    (A2 : Option Addr) (m c2 : Nat) (vs : List Value) (hs : a.eval s = .slice A2 m c2) (hr : Rd w 1 A2 m vs) (hm : m ≤ dLen) (hfit : k + m ≤ n) (h1 : ∀ v ∈ vs, v.oneCell' = true)
    (h : ∀ w', Own w' B elem 1 (some ⟨g, 0, none⟩) n cap (splice xs k vs) → Mod w w' (fun b => b = g) → wpList P ops Q rest (a.put o.dst (goInt m)) w') : wpList P ops Q (o :: rest) a w := by
  have hlen : vs.length = m := by have := hr.1; omega
  rcases Nat.eq_zero_or_pos m with h0 | h0
  · subst h0
    obtain rfl : vs = [] := List.eq_nil_of_length_eq_zero hlen
    refine wpList_copy_nothing hgd d s dT sT ho elem hu hsz _ _ dLen dCap 0 c2 hd hs (by simp) ?_
    exact h w (by simpa [splice] using hown) (Mod.refl w _)
  · obtain ⟨gs, os, rfl, _, hc⟩ := hr.2 h0
    have hl := hown.len
    rcases hown.form with ⟨h2, _⟩ | ⟨g', cur, e, hB, hblk, h3, h4, h5, h6⟩
    · cases h2
    · cases e
      have hcl : cur.toList.length = cap := by rw [Array.length_toList, h5, Nat.mul_one]
      refine wpList_copy_own hgd d s dT sT ho elem hu hsz g k dLen dCap ⟨gs, os, none⟩ m c2 hd hs cur elem hblk vs (by rw [hlen]; exact (Nat.min_eq_left hm).symm)
        (fun j u hu => by
          have hadd : (⟨gs, os, none⟩ : Addr).add j = ⟨gs, os + j, none⟩ := by unfold Addr.add; split <;> simp_all
          rw [hadd]
          exact hc j u hu) (by rw [hlen, h5]; omega) h1 ?_
      rw [hlen]
      refine h _ ⟨?_, .inr ⟨g, _, rfl, hB, hblk.setRow _, h3, h4, ?_, ?_⟩⟩ (mod_setRow w g _)
      · rw [length_splice _ _ _ (by omega)]; exact hl
      · have := length_splice cur.toList k vs (by omega)
        unfold splice at this
        rw [hlen] at this
        rw [List.size_toArray, this, hcl, Nat.mul_one]
      · have := splice_take cur.toList vs k (n * 1) (by omega)
        rw [h6] at this
        unfold splice at this ⊢
        rw [hlen] at this ⊢
        exact this
/-- What was is there. -/
def hits (out : List Int) (a : Nat) (ws : List Int) : Prop := ∀ i, i < ws.length → out.getD (a + i) 0 = ws.getD i 0
instance (out : List Int) (a : Nat) (ws : List Int) : Decidable (hits out a ws) := by unfold hits; infer_instance

/-- The row behind j changes; 1, 2: what is wrong. -/
def apl (words : List Int) (pos : Nat → Int) (was now : Nat → List Int) : Nat → Nat × List Int
  | 0 => (0, words)
  | j + 1 =>
    let s := apl words pos was now j
    if s.1 = 0 then
      if okCh (pos j) (was j).length (now j).length s.2.length then
        if hits s.2 (pos j).toNat (was j) then (0, splice s.2 (pos j).toNat (now j)) else (2, s.2)
      else (1, s.2)
    else s
theorem apl_stop {words : List Int} {pos : Nat → Int} {was now : Nat → List Int} {j n : Nat} (h : (apl words pos was now j).1 ≠ 0) (hj : j ≤ n) : (apl words pos was now n).1 = (apl words pos was now j).1 := by
  induction n with
  | zero => obtain rfl : j = 0 := by omega
            rfl
  | succ n ih =>
    by_cases hjn : j = n + 1
    · subst hjn; rfl
    · have := ih (by omega)
      simp only [apl]
      rw [if_neg (by rw [this]; exact h)]
      exact this
theorem apl_range {words : List Int} {pos : Nat → Int} {was now : Nat → List Int} {j : Nat} (h : (apl words pos was now j).1 = 0) (hk : ¬ okCh (pos j) (was j).length (now j).length (apl words pos was now j).2.length) : (apl words pos was now (j + 1)).1 = 1 := by
  simp only [apl]
  rw [if_pos h, if_neg hk]
theorem apl_miss {words : List Int} {pos : Nat → Int} {was now : Nat → List Int} {j : Nat} (h : (apl words pos was now j).1 = 0) (hk : okCh (pos j) (was j).length (now j).length (apl words pos was now j).2.length) (hh : ¬ hits (apl words pos was now j).2 (pos j).toNat (was j)) : (apl words pos was now (j + 1)).1 = 2 := by
  simp only [apl]
  rw [if_pos h, if_pos hk, if_neg hh]
theorem apl_done {words : List Int} {pos : Nat → Int} {was now : Nat → List Int} {j : Nat} (h : (apl words pos was now j).1 = 0) (hk : okCh (pos j) (was j).length (now j).length (apl words pos was now j).2.length) (hh : hits (apl words pos was now j).2 (pos j).toNat (was j)) :
    apl words pos was now (j + 1) = (0, splice (apl words pos was now j).2 (pos j).toNat (now j)) := by
  simp only [apl]
  rw [if_pos h, if_pos hk, if_pos hh]
theorem apl_len (words : List Int) (pos : Nat → Int) (was now : Nat → List Int) (j : Nat) : (apl words pos was now j).2.length = words.length := by
  induction j with
  | zero => rfl
  | succ j ih =>
    simp only [apl]
    split
    · split
      · rename_i hk
        split
        · rw [length_splice, ih]
          unfold okCh at hk
          omega
        · exact ih
      · exact ih
    · exact ih

/-- What Apply answers. -/
def acode (c : Nat) : Int := if c = 0 then 0 else if c = 1 then 26 else 42
/-- What Apply hands back: the row, if nothing is wrong. -/
def AOut (w' : World) (B : Nat) (n : Nat) (r : Nat × List Int) (v : Value) : Prop :=
  (r.1 = 0 ∧ ∃ A cap, v = .slice A n cap ∧ Own w' B 46 1 A n cap (ucells r.2)) ∨ (r.1 ≠ 0 ∧ v = .slice none 0 0)
theorem info46 : (Try.prog.info? 46).map (fun i => (i.size, i.bytes, i.zero)) = some (1, 8, some (.int .u64 0)) := by kernel_rfl
theorem info46s : ∃ i, Try.prog.info? 46 = some i ∧ i.zero = some (.int .u64 0) ∧ i.size = 1 ∧ i.bytes = 8 := by
  obtain ⟨i, hi, hi2⟩ := Option.map_eq_some_iff.1 info46
  simp only [Prod.mk.injEq] at hi2
  exact ⟨i, hi, hi2.2.2, hi2.1, hi2.2.1⟩

theorem size46 : (Try.prog.info? 46).map (·.size) = some 1 := by kernel_rfl
theorem ucells_splice (l m : List Int) (k : Nat) : ucells (splice l k m) = splice (ucells l) k (ucells m) := by
  unfold ucells splice
  simp [List.map_take, List.map_drop]
def IHit (out : List Int) (q : Nat) (ws : List Int) (n : Nat) (w : World) (v : Value) (wx : World) : Prop :=
  ∃ i : Nat, v = .int .i64 i ∧ i ≤ n ∧ (∀ k, k < i → out.getD (q + k) 0 = ws.getD k 0) ∧ w = wx
def ApHead (words : List Int) (pos : Nat → Int) (was now : Nat → List Int) (n m B : Nat) (w : World) (A : Option Addr) (cap : Nat) (v : Value) (wr : World) : Prop :=
  ∃ j : Nat, v = .int .i64 j ∧ j ≤ n ∧ (apl words pos was now j).1 = 0 ∧ Own wr B 46 1 A m cap (ucells (apl words pos was now j).2) ∧ Below B w wr

set_option maxRecDepth 100000 in
set_option maxHeartbeats 2000000 in
theorem apply_any (A1 : Option Addr) (m cap1 : Nat) (words : List Int) (A : Option Addr) (n cap : Nat) (pos : Nat → Int) (hd : Nat → Hd) (was now : Nat → List Int) (w : World) (hm : m ≤ 1000) (hn : n ≤ 100000)
    (hw : Rd w 1 A1 m (ucells words)) (hr : ChRow w A n pos hd) (hv : ChVals w n hd was now) :
    Calls Try.prog 10 #[.slice A1 m cap1, .slice A n cap] w fun e w' => ∃ v, e = .returned (.tuple #[v, .int .i64 (acode (apl words pos was now n).1)]) ∧ AOut w' w.heap.size m (apl words pos was now n) v ∧ Below w.heap.size w w' := by
  obtain ⟨i1, hi1, hy0, hy1, hy2⟩ := info46s
  have Hw := Lib.hid hw
  have Hr := Lib.hid hr
  have Hv := Lib.hid hv
  clear hw hr hv
  go_enter Try.func10, Try.ntmps10
  go_wp2_with (at_builtin; (refine append_rd rfl (.tmp 11) (.tmp 12) 22 rfl w.heap.size 46 i1 _ 1 8 Try.underlying22 hi1 hy0 hy1 hy2 rfl (by omega) (some ⟨w.heap.size, 0, none⟩) 0 0 [] rfl (Own.empty w w.heap.size 46 1 w.heap.size rfl (Nat.le_refl _)) A1 m cap1 (ucells words) rfl (Hw.out.alloc _) ucells_one m (by omega) (ucells words) rfl (by unfold maxLen; omega) (by omega) (by simp) ?_))
  intro A5 cap5 w5 hO5 hM5 hat5
  have HO5 := Lib.hid hO5
  have Hb5 := Lib.hid (Below.mod ((Below.refl _ w).alloc (Nat.le_refl _) (.cells #[] 46)) hM5 (by simp) (fun k _ h => by first | omega | (obtain ⟨a, ha, e⟩ := h; cases ha; omega)))
  clear hO5 hM5 hat5
  have hs5 := Hb5.out.size
  go_wp2_with fail
  go_loopw [16] (fun v16 wr => ApHead words pos was now n m w.heap.size w A5 cap5 v16 wr) (fun v16 _ => n - (intOf v16).toNat)
  case atStart => exact ⟨0, rfl, Nat.zero_le _, rfl, HO5.out, Hb5.out⟩
  case round =>
    clear HO5 Hb5 hs5
    obtain ⟨j, rfl, hj, h0, hO, hb⟩ := hrel
    have H0 := Lib.hid h0
    have HO := Lib.hid hO
    have Hb := Lib.hid hb
    have hBs := hb.size
    clear h0 hO hb
    by_cases hlt : j < n
    · obtain ⟨g, off, rfl, hg, hc⟩ := Hr.out (by omega)
      obtain ⟨e0, e1, e2⟩ := hc j hlt
      obtain ⟨hV1, hV2⟩ := Hv.out j hlt
      have c0 := (Hb.out.cell (p := ⟨g, off + j * 3, none⟩) hg).trans e0
      have c1 := (Hb.out.cell (p := ⟨g, off + j * 3 + 1, none⟩) hg).trans e1
      have c2 := (Hb.out.cell (p := ⟨g, off + j * 3 + 2, none⟩) hg).trans e2
      have HV1 := Lib.hid (hV1.below Hb.out (Nat.le_refl _))
      have HV2 := Lib.hid (hV2.below Hb.out (Nat.le_refl _))
      have Hlo := Lib.hid (apl_len words pos was now j)
      clear hc e0 e1 e2 hV1 hV2
      have Hst1 := Lib.hid (fun h => apl_range (words := words) (pos := pos) (was := was) (now := now) (j := j) H0.out h)
      have Hst2 := Lib.hid (fun h => apl_miss (words := words) (pos := pos) (was := was) (now := now) (j := j) H0.out h)
      have Hst3 := Lib.hid (fun h => apl_done (words := words) (pos := pos) (was := was) (now := now) (j := j) H0.out h)
      obtain ⟨out, Hout⟩ : ∃ out, Hid ((apl words pos was now j).2 = out) := ⟨_, rfl⟩
      rw [Hout.out] at HO Hlo Hst1 Hst2 Hst3
      generalize pos j = p at *
      generalize was j = ws at *
      generalize now j = ns at *
      generalize hd j = hh at *
      obtain ⟨B1, n1, k1, B2, n2, k2⟩ := hh
      simp only at c1 c2 HV1 HV2
      have Hl1 := Lib.hid HV1.out.ulen
      have Hl2 := Lib.hid HV2.out.ulen
      have hm' : Hid (words.length = m) := Hw.out.ulen
      go_wp2_with fail
      obtain ⟨N, HNN⟩ : ∃ N, Hid (wr.heap.size = N) := ⟨_, rfl⟩
      have HX := Lib.hid (Blk.new wr 27 #[.int .i64 p, .slice B1 n1 k1, .slice B2 n2 k2])
      have HO6 := Lib.hid (HO.out.alloc (.cells #[.int .i64 p, .slice B1 n1 k1, .slice B2 n2 k2] 27))
      have Hb6 := Lib.hid (Hb.out.alloc hBs (.cells #[.int .i64 p, .slice B1 n1 k1, .slice B2 n2 k2] 27))
      have HV3 := Lib.hid (HV1.out.alloc (.cells #[.int .i64 p, .slice B1 n1 k1, .slice B2 n2 k2] 27))
      have HV4 := Lib.hid (HV2.out.alloc (.cells #[.int .i64 p, .slice B1 n1 k1, .slice B2 n2 k2] 27))
      have hgN : g < N := by rw [← HNN.out]; exact Nat.lt_of_lt_of_le hg hBs
      have hBN : w.heap.size ≤ N := by rw [← HNN.out]; exact hBs
      rw [HNN.out] at HX
      rw [HNN.out]
      clear HNN c0 c1 c2 HO Hb HV1 HV2 hBs
      generalize wr.alloc _ = w6 at *
      refine (right_any p B1 B2 n1 k1 n2 k2 m w6 (by omega)).mono ?_
      rintro e w7 ⟨rfl, hb7⟩
      have Hb7 := Lib.hid (Hb6.out.trans (hb7.mono Hb6.out.size))
      have HO7 := Lib.hid (HO6.out.below hb7 (Nat.le_refl _))
      have HX7 := Lib.hid (HX.out.below hb7 HX.out.lt)
      have HV5 := Lib.hid (HV3.out.below hb7 (Nat.le_refl _))
      have HV6 := Lib.hid (HV4.out.below hb7 (Nat.le_refl _))
      clear hb7 Hb6 HO6 HX HV3 HV4
      have Hol : Hid (out.length = m) := by show out.length = m; rw [Hlo.out, hm'.out]
      rw [Hl1.out, Hl2.out, Hol.out] at Hst1 Hst2 Hst3
      by_cases hk : okCh p n1 n2 m
      · rw [decide_eq_true hk]
        have HK := Lib.hid hk
        have hk' := hk
        unfold okCh at hk'
        obtain ⟨k1', k2', k3', k4', k5'⟩ := hk'
        clear hk
        have x0 := HX7.out.cell 0
        have x1 := HX7.out.cell 1
        have x2 := HX7.out.cell 2
        simp only [List.getElem?_toArray, List.getElem?_cons_zero, List.getElem?_cons_succ] at x0 x1 x2
        subst k2'
        obtain ⟨q, rfl⟩ := Int.eq_ofNat_of_zero_le k1'
        have hqm : q + n2 ≤ m := by omega
        clear k1' k4' k5'
        go_wp2_with fail
        obtain ⟨g5, hA5, hg5, hg5lt, hmc, _, hc5, hf5⟩ := HO7.out.at_ (by omega)
        have Hc5 : Hid (∀ k, k < m → w7.cell? ⟨g5, k, none⟩ = some (.int .u64 (out.getD k 0))) := fun k hk => hc5 k _ (ucells_at out k (by rw [Hol.out]; exact hk))
        clear hc5
        go_loopw [28] (fun v28 wx => IHit out q ws n2 w7 v28 wx) (fun v28 _ => n2 - (intOf v28).toNat)
        case atStart => exact ⟨0, rfl, Nat.zero_le _, fun k hk => absurd hk (by omega), rfl⟩
        case round =>
          obtain ⟨i, rfl, hi, hall, rfl⟩ := hrel
          have Hall := Lib.hid hall
          clear hall
          subst hA5
          by_cases hltn : i < n2
          · have y0 := Hc5.out (q + i) (by omega)
            obtain ⟨gw, ow, rfl, hgw, hcw⟩ := HV5.out.word (by omega)
            have y1 := hcw i hltn
            clear hcw
            by_cases hy : out.getD (q + i) 0 = ws.getD i 0
            · have HN : Hid (∀ k, k < i + 1 → out.getD (q + k) 0 = ws.getD k 0) := by
                intro k hk
                rcases Nat.lt_or_ge k i with h | h
                · exact Hall.out k h
                · obtain rfl : k = i := by omega
                  exact hy
              rw [hy] at y0
              clear hy
              generalize ws.getD i 0 = y at *
              go_wp2_with fail
              exact ⟨⟨i + 1, by go_num, by omega, HN.out, by trivial⟩, by simp [intOf]; omega⟩
            · have HE : Hid (acode (apl words pos was now n).1 = 42 ∧ (apl words pos was now n).1 ≠ 0) := by
                have h1 := Hst2.out HK.out (fun h => hy (by have := h i (by rw [Hl1.out]; exact hltn); simpa using this))
                have h2 := apl_stop (n := n) (by rw [h1]; decide) (by omega : j + 1 ≤ n)
                rw [h1] at h2
                rw [h2]
                exact ⟨rfl, by decide⟩
              have hyb : (out.getD (q + i) 0 == ws.getD i 0) = false := by rw [beq_eq_false_iff_ne]; exact hy
              clear hy
              generalize ws.getD i 0 = y at *
              generalize out.getD (q + i) 0 = z at *
              go_wp2_with fail
              go_ret2
              rw [HE.out.1]
              exact ⟨_, rfl, .inr ⟨HE.out.2, rfl⟩, Hb7.out⟩
          · have Hh : Hid (hits out q ws) := fun k hk => Hall.out k (by rw [Hl1.out] at hk; omega)
            go_wp2_with fail
            have HA : Hid (apl words pos was now (j + 1) = (0, splice out q ns)) := Hst3.out HK.out Hh.out
            have hq1 : (q : Int) ≤ (m : Int) := by omega
            have hq2 : (m : Int) ≤ (cap5 : Int) := by omega
            have hq3 : ¬ cap5 = q := by omega
            go_still_tail 6, (by kernel_rfl)
            have HOq := Lib.hid (HO7.out.drewN 1)
            have HVq := Lib.hid (HV6.out.drewN 1)
            have Hbq := Lib.hid (below_drewN Hb7.out 1)
            change wpList _ _ _ _ _ (w7.drewN 1)
            generalize w7.drewN 1 = w8 at *
            clear x0 x1 x2
            refine wpList_copy_rd (by rfl) (.tmp 46) (.tmp 48) 22 22 (by rfl) 46 Try.underlying22 size46 w.heap.size g5 q m cap5 (m - q) (cap5 - q) (ucells out) (by rfl) HOq.out B2 n2 k2 (ucells ns) (by rfl) HVq.out (by omega) (by omega) ucells_one ?_
            intro w9 hO9 hM9
            have HO9 := Lib.hid hO9
            have Hb9 := Lib.hid (Below.mod Hbq.out hM9 Hbq.out.size (fun k _ h => by rw [h]; exact hg5))
            clear hO9 hM9
            go_wp2_with fail
            exact ⟨⟨j + 1, by go_num, by omega, by rw [HA.out], by rw [HA.out, ucells_splice]; exact HO9.out, Hb9.out⟩, by simp [intOf]; omega⟩
      · rw [decide_eq_false hk]
        have HE : Hid (acode (apl words pos was now n).1 = 26 ∧ (apl words pos was now n).1 ≠ 0) := by
          have h1 := Hst1.out hk
          have h2 := apl_stop (n := n) (by rw [h1]; decide) (by omega : j + 1 ≤ n)
          rw [h1] at h2
          rw [h2]
          exact ⟨rfl, by decide⟩
        clear hk
        go_wp2_with fail
        go_ret2
        rw [HE.out.1]
        exact ⟨_, rfl, .inr ⟨HE.out.2, rfl⟩, Hb7.out⟩
    · have hje : j = n := by omega
      subst hje
      have HE : Hid (acode (apl words pos was now j).1 = 0) := by show acode _ = 0; rw [H0.out]; rfl
      go_wp2_with fail
      go_ret2
      rw [HE.out]
      exact ⟨_, rfl, .inl ⟨H0.out, _, _, rfl, HO.out⟩, Hb.out⟩
end Go.Proofs.Ytedbabkmbpkjlaa
