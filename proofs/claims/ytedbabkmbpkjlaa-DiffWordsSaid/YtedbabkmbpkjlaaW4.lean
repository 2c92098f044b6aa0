/- The walk of the reference's Apply. -/
import Derived.Test.YtedbabkmbpkjlaaW3
import Derived.StillTailTactics
namespace Go.Proofs.Ytedbabkmbpkjlaa
open Go.RowKit
set_option linter.unusedVariables false
set_option linter.unusedSimpArgs false

theorem Rd.far {w : World} {sz n : Nat} {A : Option Addr} {vs : List Value} (h : Rd w sz A n vs) (hn : 0 < n) : ∀ a, A = some a → a.block < w.heap.size := by
  rintro a rfl
  obtain ⟨g, off, e, hg, _⟩ := h.2 hn
  cases e
  exact hg
def IHit2 (out : List Int) (q : Nat) (ws : List Int) (n : Nat) (w : World) (v : Value) (wx : World) : Prop :=
  ∃ i : Nat, v = .int .i64 i ∧ i ≤ n ∧ (∀ k, k < i → out.getD (q + k) 0 = ws.getD k 0) ∧ Below w.heap.size w wx
/-- The row while the k-th word is put: the first k are. -/
def IPut (B : Nat) (out : List Int) (q : Nat) (ns : List Int) (n m : Nat) (A : Option Addr) (cap : Nat) (w : World) (v : Value) (wx : World) : Prop :=
  ∃ k : Nat, v = .int .i64 k ∧ k ≤ n ∧ Own wx B 46 1 A m cap (ucells (splice out q (ns.take k))) ∧ Mod w wx (fun b => ∃ a, A = some a ∧ a.block = b)
theorem splice_set (out ns : List Int) (q k : Nat) (hk : k < ns.length) (h : q + ns.length ≤ out.length) : (splice out q (ns.take k)).set (q + k) (ns.getD k 0) = splice out q (ns.take (k + 1)) := by
  unfold splice
  apply List.ext_getElem?
  intro i
  simp only [List.getElem?_set, List.getElem?_append, List.length_append, List.length_take, List.length_drop, List.getElem?_take, List.getElem?_drop, List.getD_eq_getElem?_getD]
  rw [Nat.min_eq_left (by omega : k ≤ ns.length), Nat.min_eq_left (by omega : k + 1 ≤ ns.length), Nat.min_eq_left (by omega : q ≤ out.length)]
  by_cases h1 : i < q
  · rw [if_neg (by omega : ¬ q + k = i)]
    simp only [if_pos h1]
  · rw [if_neg h1, if_neg h1]
    by_cases h2 : q + k = i
    · subst h2
      rw [if_pos rfl, if_pos (by omega), if_pos (by omega), if_pos (by omega), Nat.add_sub_cancel_left, List.getElem?_eq_getElem hk]
      rfl
    · rw [if_neg h2]
      by_cases h3 : i - q < k
      · rw [if_pos h3, if_pos h3, if_pos (by omega), if_pos (by omega)]
      · rw [if_neg h3, if_neg (by omega)]
        congr 1
        omega

set_option maxRecDepth 100000 in
set_option maxHeartbeats 2000000 in
theorem refapply_any (A1 : Option Addr) (m cap1 : Nat) (words : List Int) (A : Option Addr) (n cap : Nat) (pos : Nat → Int) (hd : Nat → Hd) (was now : Nat → List Int) (w : World) (hm : m ≤ 1000) (hn : n ≤ 100000)
    (hw : Rd w 1 A1 m (ucells words)) (hr : ChRow w A n pos hd) (hv : ChVals w n hd was now) :
    Calls Try.prog 11 #[.slice A1 m cap1, .slice A n cap] w fun e w' => ∃ v, e = .returned (.tuple #[v, .int .i64 (apl words pos was now n).1]) ∧ AOut w' w.heap.size m (apl words pos was now n) v ∧ Below w.heap.size w w' := by
  obtain ⟨i1, hi1, hy0, hy1, hy2⟩ := info46s
  have Hw := Lib.hid hw
  have Hr := Lib.hid hr
  have Hv := Lib.hid hv
  clear hw hr hv
  go_enter Try.func11, Try.ntmps11
  go_wp2_with (at_builtin; (refine append_rd rfl (.tmp 10) (.tmp 11) 22 rfl w.heap.size 46 i1 _ 1 8 Try.underlying22 hi1 hy0 hy1 hy2 rfl (by omega) (some ⟨w.heap.size, 0, none⟩) 0 0 [] rfl (Own.empty w w.heap.size 46 1 w.heap.size rfl (Nat.le_refl _)) A1 m cap1 (ucells words) rfl (Hw.out.alloc _) ucells_one m (by omega) (ucells words) rfl (by unfold maxLen; omega) (by omega) (by simp) ?_))
  intro A5 cap5 w5 hO5 hM5 hat5
  have HO5 := Lib.hid hO5
  have Hb5 := Lib.hid (Below.mod ((Below.refl _ w).alloc (Nat.le_refl _) (.cells #[] 46)) hM5 (by simp) (fun k _ h => by first | omega | (obtain ⟨a, ha, e⟩ := h; cases ha; omega)))
  clear hO5 hM5 hat5
  have hs5 := Hb5.out.size
  go_wp2_with fail
  go_loopw [7] (fun v7 wr => ApHead words pos was now n m w.heap.size w A5 cap5 v7 wr) (fun v7 _ => n - (intOf v7).toNat)
  case atStart => exact ⟨0, rfl, Nat.zero_le _, rfl, HO5.out, Hb5.out⟩
  case round =>
    clear HO5 Hb5 hs5
    obtain ⟨j, rfl, hj, h0, hO, hb⟩ := hrel
    have H0 := Lib.hid h0
    have HO := Lib.hid hO
    have Hb := Lib.hid hb
    have hBs := hb.size
    clear h0 hO hb
    by_cases hlt : j < n
    · obtain ⟨g, off, rfl, hg, hc⟩ := Hr.out (by omega)
      obtain ⟨e0, e1, e2⟩ := hc j hlt
      obtain ⟨hV1, hV2⟩ := Hv.out j hlt
      have Hlt2 := Lib.hid hV2.far
      have c0 := (Hb.out.cell (p := ⟨g, off + j * 3, none⟩) hg).trans e0
      have c1 := (Hb.out.cell (p := ⟨g, off + j * 3 + 1, none⟩) hg).trans e1
      have c2 := (Hb.out.cell (p := ⟨g, off + j * 3 + 2, none⟩) hg).trans e2
      have HV1 := Lib.hid (hV1.below Hb.out (Nat.le_refl _))
      have HV2 := Lib.hid (hV2.below Hb.out (Nat.le_refl _))
      have Hlo := Lib.hid (apl_len words pos was now j)
      clear hc e0 e1 e2 hV1 hV2
      have Hst1 := Lib.hid (fun h => apl_range (words := words) (pos := pos) (was := was) (now := now) (j := j) H0.out h)
      have Hst2 := Lib.hid (fun h => apl_miss (words := words) (pos := pos) (was := was) (now := now) (j := j) H0.out h)
      have Hst3 := Lib.hid (fun h => apl_done (words := words) (pos := pos) (was := was) (now := now) (j := j) H0.out h)
      obtain ⟨out, Hout⟩ : ∃ out, Hid ((apl words pos was now j).2 = out) := ⟨_, rfl⟩
      rw [Hout.out] at HO Hlo Hst1 Hst2 Hst3
      generalize pos j = p at *
      generalize was j = ws at *
      generalize now j = ns at *
      generalize hd j = hh at *
      obtain ⟨B1, n1, k1, B2, n2, k2⟩ := hh
      simp only at c1 c2 HV1 HV2 Hlt2
      have Hl1 := Lib.hid HV1.out.ulen
      have Hl2 := Lib.hid HV2.out.ulen
      have hm' : Hid (words.length = m) := Hw.out.ulen
      go_wp2_with fail
      refine (refright_any p B1 B2 n1 k1 n2 k2 m wr (by omega)).mono ?_
      rintro e w7 ⟨rfl, hb7⟩
      have Hb7 := Lib.hid (Hb.out.trans (hb7.mono Hb.out.size))
      have HO7 := Lib.hid (HO.out.below hb7 (Nat.le_refl _))
      have HV5 := Lib.hid (HV1.out.below hb7 (Nat.le_refl _))
      have HV6 := Lib.hid (HV2.out.below hb7 (Nat.le_refl _))
      have hgr : g < wr.heap.size := Nat.lt_of_lt_of_le hg hBs
      have x0 := (hb7.cell (p := ⟨g, off + j * 3, none⟩) hgr).trans c0
      have x1 := (hb7.cell (p := ⟨g, off + j * 3 + 1, none⟩) hgr).trans c1
      have x2 := (hb7.cell (p := ⟨g, off + j * 3 + 2, none⟩) hgr).trans c2
      clear hb7 Hb HO HV1 HV2 c0 c1 c2
      have Hol : Hid (out.length = m) := by show out.length = m; rw [Hlo.out, hm'.out]
      rw [Hl1.out, Hl2.out, Hol.out] at Hst1 Hst2 Hst3
      by_cases hk : okCh p n1 n2 m
      · rw [decide_eq_true hk]
        have HK := Lib.hid hk
        have hk' := hk
        unfold okCh at hk'
        obtain ⟨k1', k2', k3', k4', k5'⟩ := hk'
        clear hk
        subst k2'
        obtain ⟨q, rfl⟩ := Int.eq_ofNat_of_zero_le k1'
        have hqm : q + n2 ≤ m := by omega
        clear k1' k4' k5'
        go_wp2_with fail
        obtain ⟨g5, hA5, hg5, hg5lt, hmc, _, hc5, hf5⟩ := HO7.out.at_ (by omega)
        have Hc5 : Hid (∀ k, k < m → w7.cell? ⟨g5, k, none⟩ = some (.int .u64 (out.getD k 0))) := fun k hk => hc5 k _ (ucells_at out k (by rw [Hol.out]; exact hk))
        clear hc5 hf5
        have hb7s : g < w7.heap.size := Nat.lt_of_lt_of_le hg Hb7.out.size
        go_loopw [8] (fun v8 wx => IHit2 out q ws n2 w7 v8 wx) (fun v8 _ => n2 - (intOf v8).toNat)
        case atStart => exact ⟨0, rfl, Nat.zero_le _, fun k hk => absurd hk (by omega), Below.refl _ _⟩
        case round =>
          obtain ⟨i, rfl, hi, hall, hb8⟩ := hrel
          have Hall := Lib.hid hall
          have Hb8 := Lib.hid hb8
          clear hall hb8
          have hg7 := hb7s
          have c0 := (Hb8.out.cell (p := ⟨g, off + j * 3, none⟩) hg7).trans x0
          have c1 := (Hb8.out.cell (p := ⟨g, off + j * 3 + 1, none⟩) hg7).trans x1
          subst hA5
          by_cases hltn : i < n2
          · have y0 := (Hb8.out.cell (p := ⟨g5, q + i, none⟩) hg5lt).trans (Hc5.out (q + i) (by omega))
            obtain ⟨gw, ow, rfl, hgw, hcw⟩ := HV5.out.word (by omega)
            have y1 := (Hb8.out.cell (p := ⟨gw, ow + i, none⟩) hgw).trans (hcw i hltn)
            clear hcw
            by_cases hy : out.getD (q + i) 0 = ws.getD i 0
            · have HN : Hid (∀ k, k < i + 1 → out.getD (q + k) 0 = ws.getD k 0) := by
                intro k hk
                rcases Nat.lt_or_ge k i with h | h
                · exact Hall.out k h
                · obtain rfl : k = i := by omega
                  exact hy
              rw [hy] at y0
              clear hy x0 x1 x2
              generalize ws.getD i 0 = y at *
              go_wp2_with fail
              go_quiet (fail)
              go_wp2_with fail
              exact ⟨⟨i + 1, by go_num, by omega, HN.out, below_drewN Hb8.out _⟩, by simp [intOf]; omega⟩
            · have HE : Hid ((apl words pos was now n).1 = 2) := by
                have h1 := Hst2.out HK.out (fun h => hy (by have := h i (by rw [Hl1.out]; exact hltn); simpa using this))
                have h2 := apl_stop (n := n) (by rw [h1]; decide) (by omega : j + 1 ≤ n)
                rw [h1] at h2
                exact h2
              have hyb : (out.getD (q + i) 0 == ws.getD i 0) = false := by rw [beq_eq_false_iff_ne]; exact hy
              clear hy x0 x1 x2
              generalize ws.getD i 0 = y at *
              generalize out.getD (q + i) 0 = z at *
              go_wp2_with fail
              go_quiet (fail)
              go_wp2_with fail
              go_ret2
              rw [HE.out]
              exact ⟨_, rfl, .inr ⟨by rw [HE.out]; decide, rfl⟩, below_drewN (Hb7.out.trans (Hb8.out.mono Hb7.out.size)) _⟩
          · have Hh : Hid (hits out q ws) := fun k hk => Hall.out k (by rw [Hl1.out] at hk; omega)
            have c2 := (Hb8.out.cell (p := ⟨g, off + j * 3 + 2, none⟩) hg7).trans x2
            have HO8 := Lib.hid (HO7.out.below Hb8.out (Nat.le_refl _))
            have HV8 := Lib.hid (HV6.out.below Hb8.out (Nat.le_refl _))
            have Hbw := Lib.hid (Hb7.out.trans (Hb8.out.mono Hb7.out.size))
            clear x0 x1 x2 HO7 HV5 HV6 Hb8 Hb7 Hc5 Hall
            go_wp2_with fail
            have Hne : Hid (g ≠ g5) := by show g ≠ g5; omega
            have HS0 : Hid (Own wr w.heap.size 46 1 (some ⟨g5, 0, none⟩) m cap5 (ucells (splice out q (ns.take 0)))) := by
              have e : splice out q (ns.take 0) = out := by simp [splice]
              rw [e]
              exact HO8.out
            go_loopw [9] (fun v9 wx => IPut w.heap.size out q ns n2 m (some ⟨g5, 0, none⟩) cap5 wr v9 wx) (fun v9 _ => n2 - (intOf v9).toNat)
            case atStart => exact ⟨0, rfl, Nat.zero_le _, HS0.out, Mod.refl _ _⟩
            case round =>
              clear HS0
              obtain ⟨k, rfl, hk, hO9, hM9⟩ := hrel
              have HO9 := Lib.hid hO9
              have HM9 := Lib.hid hM9
              clear hO9 hM9
              have Hf : Hid (¬ ∃ a : Addr, some (⟨g5, 0, none⟩ : Addr) = some a ∧ a.block = g) := fun ⟨a, ha, e⟩ => by cases ha; exact Hne.out e.symm
              have d0 := cell_mod HM9.out c0 Hf.out
              have d2 := cell_mod HM9.out c2 Hf.out
              by_cases hltk : k < n2
              · obtain ⟨gn, on, hBn, hgn, hcn⟩ := HV8.out.word (by omega)
                have hgn5 := Hlt2.out (by omega) _ hBn
                subst hBn
                simp only at hgn5
                have d3 := cell_mod HM9.out (hcn k hltk) (fun ⟨a, ha, e⟩ => by cases ha; simp only at e; omega)
                obtain ⟨g6, hA6, _, hg6, _, _, hc6, hf6⟩ := HO9.out.at_ (by omega)
                cases hA6
                have d4 := hc6 (q + k) _ (List.getElem?_eq_getElem (by rw [ucells_len, length_splice _ _ _ (by rw [List.length_take, Hol.out]; omega), Hol.out]; omega))
                have d5 := hf6 (q + k)
                have HS := Lib.hid (splice_set out ns q k (by rw [Hl2.out]; exact hltk) (by rw [Hl2.out, Hol.out]; exact hqm))
                clear hcn hc6 hf6 c0 c1 c2
                generalize ns.getD k 0 = y at *
                generalize (ucells (splice out q (ns.take k)))[q + k]'_ = old at *
                go_wp2_with fail
                go_still_tail 16, (by kernel_rfl)
                have HOq := Lib.hid (HO9.out.drewN 1)
                have HMq := Lib.hid (HM9.out.drewN 1)
                have f4 : (wr.drewN 1).cell? ⟨g5, q + k, none⟩ = some old := d4
                have f5 : (wr.drewN 1).frozen? ⟨g5, q + k, none⟩ = false := d5
                change wpList _ _ _ _ _ (wr.drewN 1)
                generalize wr.drewN 1 = w8 at *
                clear d0 d2 d3 d4 d5 HO9 HM9
                have HO10 := Lib.hid (HOq.out.set_ (j := q + k) (by omega) (.int .u64 y))
                have HM10 := Lib.hid (HMq.out.set (p := ⟨g5, q + k, none⟩) (.inr ⟨_, rfl, rfl⟩) (.int .u64 y))
                go_wp2_with fail
                refine ⟨⟨k + 1, by go_num, by omega, ?_, HM10.out⟩, by simp [intOf]; omega⟩
                rw [← HS.out]
                have e : ucells ((splice out q (ns.take k)).set (q + k) y) = (ucells (splice out q (ns.take k))).set (q + k) (.int .u64 y) := by simp [ucells, List.map_set]
                rw [e]
                exact HO10.out
              · have hke : k = n2 := by omega
                have htk : ns.take k = ns := List.take_of_length_le (by rw [Hl2.out]; omega)
                rw [htk] at HO9
                have HA : Hid (apl words pos was now (j + 1) = (0, splice out q ns)) := Hst3.out HK.out Hh.out
                have Hb10 := Lib.hid (Below.mod Hbw.out HM9.out Hbw.out.size (fun b _ ⟨a, ha, e⟩ => by cases ha; simp only at e; omega))
                go_wp2_with fail
                exact ⟨⟨j + 1, by go_num, by omega, by rw [HA.out], by rw [HA.out]; exact HO9.out, Hb10.out⟩, by simp [intOf]; omega⟩
      · rw [decide_eq_false hk]
        have HE : Hid ((apl words pos was now n).1 = 1) := by
          have h1 := Hst1.out hk
          have h2 := apl_stop (n := n) (by rw [h1]; decide) (by omega : j + 1 ≤ n)
          rw [h1] at h2
          exact h2
        clear hk
        go_wp2_with fail
        go_ret2
        rw [HE.out]
        exact ⟨_, rfl, .inr ⟨by rw [HE.out]; decide, rfl⟩, Hb7.out⟩
    · have hje : j = n := by omega
      subst hje
      go_wp2_with fail
      go_ret2
      rw [H0.out]
      exact ⟨_, rfl, .inl ⟨H0.out, _, _, rfl, HO.out⟩, Hb.out⟩
end Go.Proofs.Ytedbabkmbpkjlaa
