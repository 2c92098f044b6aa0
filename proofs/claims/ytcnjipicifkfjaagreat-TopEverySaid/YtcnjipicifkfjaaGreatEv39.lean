/- ref01.Same. -/
import Derived.Test.YtcnjipicifkfjaaGreatEv04
import Derived.Test.YtcnjipicifkfjaaGreatEv38
import Derived.Test.YtcnjipicifkfjaaGreatEv01

namespace Go.Proofs.YtcnjipicifkfjaaGreat
open Go.RowKit
set_option linter.unusedVariables false
set_option linter.unusedSimpArgs false

theorem same_eq (A1 A2 : Option Addr) (n c1 c2 : Nat) (l1 l2 : List Nat) (w : World) (hn : n ≤ 1000) (h1 : Rd w 1 A1 n (wcells l1)) (h2 : Rd w 1 A2 n (wcells l2)) :
    Calls Tryz.prog 14 #[.slice A1 n c1, .slice A2 n c2] w fun e w' => e = .returned (.bool (decide (l1 = l2))) ∧ ∃ q, w' = w.drewN q := by
  have H1 := Lib.hid h1
  have H2 := Lib.hid h2
  have Hl1 : Hid (l1.length = n) := by have := h1.1; rw [wcells_len] at this; show _ = _; omega
  have Hl2 : Hid (l2.length = n) := by have := h2.1; rw [wcells_len] at this; show _ = _; omega
  clear h1 h2
  go_enter Tryz.func14, Tryz.ntmps14
  go_wp2_with fail
  go_loopw [5] (fun v13 wr => ∃ i q : Nat, v13 = .int .i64 i ∧ i ≤ n ∧ (∀ j, j < i → l1.getD j 0 = l2.getD j 0) ∧ wr = w.drewN q) (fun v13 _ => n - (intOf v13).toNat)
  case atStart => exact ⟨0, 0, rfl, Nat.zero_le _, fun j hj => absurd hj (Nat.not_lt_zero _), rfl⟩
  case round =>
    obtain ⟨i, q, rfl, hi, hall, hwr⟩ := hrel
    have Hall := Lib.hid hall
    have Hwr := Lib.hid hwr
    clear hall hwr
    by_cases hin : i < n
    · obtain ⟨g1, o1, rfl, hg1, hx1⟩ := H1.out.2 (by omega)
      obtain ⟨g2, o2, rfl, hg2, hx2⟩ := H2.out.2 (by omega)
      have y1 : wr.cell? ⟨g1, o1 + i, none⟩ = some (.int .u64 (l1.getD i 0 : Nat)) := by rw [Hwr.out]; exact hx1 i _ (wcells_at l1 i (by rw [Hl1.out]; exact hin))
      have y2 : wr.cell? ⟨g2, o2 + i, none⟩ = some (.int .u64 (l2.getD i 0 : Nat)) := by rw [Hwr.out]; exact hx2 i _ (wcells_at l2 i (by rw [Hl2.out]; exact hin))
      clear hx1 hx2
      by_cases hy : l1.getD i 0 = l2.getD i 0
      · have HN : Hid (∀ j, j < i + 1 → l1.getD j 0 = l2.getD j 0) := by
          intro j hj
          rcases Nat.lt_or_ge j i with h | h
          · exact Hall.out j h
          · obtain rfl : j = i := by omega
            exact hy
        rw [← hy] at y2
        clear hy
        generalize l1.getD i 0 = y at *
        go_wp2_with fail
        go_quiet (fail)
        go_wp2_with fail
        exact ⟨⟨i + 1, q + nq, by go_num, by omega, HN.out, by rw [Hwr.out]; exact World.drewN_drewN _ _ _⟩, by simp [intOf]; omega⟩
      · have HN : Hid (decide (l1 = l2) = false) := by show _ = _; rw [decide_eq_false_iff_not]; intro h; exact hy (by rw [h])
        have hyb : ((l1.getD i 0 : Int) == (l2.getD i 0 : Int)) = false := by rw [beq_eq_false_iff_ne]; omega
        have hyb2 : (l1.getD i 0 == l2.getD i 0) = false := by rw [beq_eq_false_iff_ne]; omega
        clear hy
        generalize l1.getD i 0 = y at *
        generalize l2.getD i 0 = z at *
        go_wp2_with fail
        go_quiet (fail)
        go_wp2_with fail
        go_ret
        rw [HN.out]
        exact ⟨rfl, q + nq, by rw [Hwr.out]; exact World.drewN_drewN _ _ _⟩
    · obtain rfl : i = n := by omega
      have HN : Hid (decide (l1 = l2) = true) := by
        show _ = _
        rw [decide_eq_true_eq]
        apply List.ext_getElem (by rw [Hl1.out, Hl2.out])
        intro j a b
        have := Hall.out j (by rw [Hl1.out] at a; exact a)
        simpa [List.getD_eq_getElem?_getD, a, b] using this
      go_wp2_with fail
      go_ret
      rw [HN.out]
      exact ⟨rfl, q, Hwr.out⟩
theorem same_any (A1 A2 : Option Addr) (n1 n2 c1 c2 : Nat) (l1 l2 : List Nat) (w : World) (hn : n1 ≤ 1000) (h1 : Rd w 1 A1 n1 (wcells l1)) (h2 : Rd w 1 A2 n2 (wcells l2)) :
    Calls Tryz.prog 14 #[.slice A1 n1 c1, .slice A2 n2 c2] w fun e w' => e = .returned (.bool (decide (l1 = l2))) ∧ ∃ q, w' = w.drewN q := by
  by_cases hne : n1 = n2
  · subst hne
    exact same_eq A1 A2 n1 c1 c2 l1 l2 w hn h1 h2
  · have hl1 := h1.1
    have hl2 := h2.1
    rw [wcells_len] at hl1 hl2
    have HN : Hid (decide (l1 = l2) = false) := by
      show _ = _
      rw [decide_eq_false_iff_not]
      intro e
      rw [e] at hl1
      omega
    rw [HN.out]
    have hb : ((n1 : Int) == (n2 : Int)) = false := by rw [beq_eq_false_iff_ne]; omega
    have hb2 : (n1 == n2) = false := by rw [beq_eq_false_iff_ne]; omega
    clear h1 h2 hl1 hl2 hne
    go_enter Tryz.func14, Tryz.ntmps14
    go_wp2_with fail
    go_ret
    exact ⟨rfl, 0, rfl⟩
end Go.Proofs.YtcnjipicifkfjaaGreat

/- taproottop: TopEvery, the walk. -/
namespace Go.Proofs.YtcnjipicifkfjaaGreat
open Go.RowKit
set_option linter.unusedVariables false
set_option linter.unusedSimpArgs false

theorem new_pile (wr : World) : Calls Tryz.prog 6 #[.agg #[.int .i64 4, .int .u64 1, .int .i64 3]] wr fun e w' => ∃ hp d, e = .returned (.tuple #[.pointer (some ⟨hp, 0, none⟩), .int .i64 0]) ∧
    (∀ W pp, Below w'.heap.size w' W → w'.heap.size ≤ pp → Blk W pp 68 #[.pointer (some ⟨hp, 0, none⟩), .int .i64 (0 : Nat)] → PileS wr.heap.size W.heap.size W hp pp d [] true) ∧ Below wr.heap.size wr w' :=
  (hnewh_any 4 1 3 1 1 wr (fmt_open 4 1 1 (by omega) (by omega) (by omega)) AN.ob0 (by omega) (by omega) (by omega)).mono (by
    rintro e w' ⟨b, hp, rfl, h1, h2⟩
    exact ⟨hp, b.d, rfl, fun W pp hW hpp hP => pile_start h1 hW hpp hP, h2⟩)
theorem own_one (w : World) (B g : Nat) (e : TypeId) (v : Value) (hg : w.heap.size = g) (hB : B ≤ g) : Own (w.alloc (.cells #[v] e)) B e 1 (some ⟨g, 0, none⟩) 1 1 [v] := by
  subst hg
  exact ⟨rfl, .inr ⟨_, #[v], rfl, hB, Blk.new w e _, Nat.le_refl _, by unfold maxLen; omega, rfl, rfl⟩⟩
theorem Stopped.cell {w : World} {hp d v : Nat} {vs : List Nat} (h : Stopped w hp d vs v) : w.cell? ⟨hp, 0, none⟩ = some (.pointer (some ⟨d, 0, none⟩)) := by
  obtain ⟨B, b, s, h1, h2, h3, h4, h5⟩ := h
  exact h3
set_option maxRecDepth 100000 in
set_option maxHeartbeats 4000000 in
theorem every_any (A : Option Addr) (n cap f mst : Nat) (ws : List Nat) (w : World) (hf : f < 256) (hm : mst < 256) (hn : n ≤ maxLen) (hr : Rd w 1 A n (wcells ws)) :
    Calls Tryz.prog 3 #[.slice A n cap, .int .u8 f, .int .u8 mst] w fun e w' => e = .returned (.bool true) ∧ Below w.heap.size w w' := by
  have HR := Lib.hid hr
  have hl : ws.length = n := by have := hr.1; rw [wcells_len] at this; omega
  have Hl := Lib.hid hl
  clear hr hl
  unfold maxLen at hn
  go_enter Tryz.func3, Tryz.ntmps3
  go_wp2_with fail
  refine (awake_any w).mono ?_
  rintro e w1 ⟨rfl, hb1⟩
  have HB1 := Lib.hid hb1
  clear hb1
  by_cases hlo : n < 1
  · have hd : decide ((n : Int) < 1) = true := decide_eq_true (by omega)
    go_wp2_with omega
    go_ret
    exact ⟨rfl, HB1.out⟩
  by_cases hhi : 30 < n
  · have hd : decide ((n : Int) < 1) = false := decide_eq_false (by omega)
    have hd2 : decide (30 < (n : Int)) = true := decide_eq_true (by omega)
    go_wp2_with omega
    go_ret
    exact ⟨rfl, HB1.out⟩
  obtain ⟨g, o, rfl, hg, hx⟩ := HR.out.2 (by omega)
  have Hx : Hid (∀ i, i < n → ∀ W, Below w.heap.size w W → W.cell? ⟨g, o + i, none⟩ = some (.int .u64 (ws.getD i 0 : Nat))) := fun i hi W hW =>
    (hW.cell (p := ⟨g, o + i, none⟩) hg).trans (hx i _ (wcells_at ws i (by rw [Hl.out]; exact hi)))
  clear hx HR
  obtain ⟨m, Hmn⟩ : ∃ m, Hid (n = m + 1) := ⟨n - 1, by show _ = _; omega⟩
  have hd : decide ((n : Int) < 1) = false := decide_eq_false (by omega)
  have hd2 : decide (30 < (n : Int)) = false := decide_eq_false (by omega)
  have hwm : IntKind.i64.wrap ((n : Int) - 1) = (m : Int) := by have := Hmn.out; exact (congrArg IntKind.i64.wrap (by omega)).trans (IntWalk.i64_in _ (by omega))
  have hm30 : m < 30 := by have := Hmn.out; omega
  have hmlt : m < n := by have := Hmn.out; omega
  go_wp2_with omega
  refine (new_pile w1).mono ?_
  rintro e w2 ⟨hp, d, rfl, hP2, hb2⟩
  have HP2 := Lib.hid hP2
  have HB2 := Lib.hid hb2
  clear hP2 hb2
  go_wp2_with omega
  refine (popen_any hp 0 w2 (by omega)).mono ?_
  rintro e w3 ⟨pp, rfl, hpp, hP, hb3⟩
  have HP3 := Lib.hid (HP2.out w3 pp hb3 hpp hP)
  have HB3 : Hid (Below w1.heap.size w1 w3) := HB2.out.trans (hb3.mono HB2.out.size)
  clear hpp hP hb3 HP2 HB2
  go_wp2_with omega
  clear hlo hhi
  go_loopw [10] (fun v10 wr => ∃ i : Nat, v10 = .int .i64 i ∧ i ≤ m ∧ PileS w1.heap.size wr.heap.size wr hp pp d (ws.take i) true ∧ Below w1.heap.size w1 wr) (fun v10 _ => m - (intOf v10).toNat)
  case atStart => exact ⟨0, rfl, Nat.zero_le _, HP3.out, HB3.out⟩
  case round =>
    clear HP3 HB3
    obtain ⟨i, rfl, hi, hP, hB⟩ := hrel
    have HP := Lib.hid hP
    have HB := Lib.hid hB
    clear hP hB
    obtain ⟨wo, rfl⟩ : ∃ wo, wo = wr := ⟨wr, rfl⟩
    by_cases him : i < m
    · have x0 := Hx.out i (by omega) wo (HB1.out.trans (HB.out.mono HB1.out.size))
      have Htk : Hid (ws.take (i + 1) = ws.take i ++ [ws.getD i 0]) := by
        show _ = _
        rw [List.take_add_one, List.getElem?_eq_getElem (by rw [Hl.out]; omega), List.getD_eq_getElem?_getD, List.getElem?_eq_getElem (by rw [Hl.out]; omega)]
        rfl
      obtain ⟨v, Hv⟩ : ∃ v, Hid (ws.getD i 0 = v) := ⟨_, rfl⟩
      rw [Hv.out] at x0 Htk
      have Hpu := Lib.hid (pile_push w1.heap.size wo.heap.size wo hp pp d v (ws.take i) HP.out (by rw [List.length_take]; omega))
      go_wp2_with omega
      refine Hpu.out.mono ?_
      rintro e w4 ⟨rfl, hp4, hb4⟩
      rw [← Htk.out] at hp4
      have HP4 := Lib.hid hp4
      have HB4 : Hid (Below w1.heap.size w1 w4) := HB.out.trans hb4
      clear hp4 hb4 HB HP x0 Hpu
      go_wp2_with omega
      exact ⟨⟨i + 1, by go_num, by omega, HP4.out, HB4.out⟩, by simp [intOf]; omega⟩
    · obtain rfl : i = m := by omega
      go_wp2_with omega
      obtain ⟨us, Hus⟩ : ∃ us, Hid (ws.take i = us) := ⟨_, rfl⟩
      obtain ⟨v, Hv⟩ : ∃ v, Hid (ws.getD i 0 = v) := ⟨_, rfl⟩
      rw [Hus.out] at HP
      have Hul : Hid (us.length = i) := by show _ = _; rw [← Hus.out, List.length_take, Hl.out]; omega
      have Hli := Lib.hid (pile_list w1.heap.size wo.heap.size wo hp pp d us true HP.out (by rw [Hul.out]; omega))
      rw [Hul.out] at Hli
      refine Hli.out.mono ?_
      rintro e w4 ⟨A4, cap4, rfl, hO4, hb4⟩
      have HO4 := Lib.hid hO4
      have HP4 := Lib.hid (HP.out.below hb4)
      have HB4 : Hid (Below w1.heap.size w1 w4) := HB.out.trans (hb4.mono HB.out.size)
      clear hO4 hb4 HB HP Hli
      obtain ⟨r, Hr⟩ : ∃ r, Hid (f % 40 = r) := ⟨_, rfl⟩
      have hr : Int.tmod (f : Int) 40 = (r : Int) := by rw [← Hr.out]; exact Int.tmod_eq_emod_of_nonneg (by omega)
      have hr40 : r < 40 := by have := Hr.out; omega
      go_wp2_with omega
      refine (hdev_any hp d w4 HP4.out.dev).mono ?_
      rintro e w5 ⟨rfl, rfl⟩
      go_wp2_with omega
      refine (pile_arm w1.heap.size wo.heap.size w4 hp pp d r us true HP4.out (by omega)).mono ?_
      rintro e w5 ⟨⟨va, rfl⟩, hp5, hm5⟩
      have HP5 := Lib.hid hp5
      have HO5 : Hid (Own w5 wo.heap.size 28 1 A4 i cap4 (wcells us.reverse)) := HO4.out.mod hm5 (fun a ha h => by have := (HO4.out.lt a ha).1; omega)
      have HB5 : Hid (Below w1.heap.size w1 w5) := Below.mod HB4.out hm5 HB4.out.size (fun k _ h => h.1)
      clear hp5 hm5 HP4 HO4 HB4
      have x0 := Hx.out i hmlt w5 (HB1.out.trans (HB5.out.mono HB1.out.size))
      rw [Hv.out] at x0
      go_wp2_with omega
      refine (pile_last w1.heap.size wo.heap.size w5 hp pp d v us false HP5.out (by rw [Hul.out]; omega)).mono ?_
      rintro e w6 ⟨⟨vb, rfl⟩, hs6, hm6⟩
      have HS6 := Lib.hid hs6
      have HO6 : Hid (Own w6 wo.heap.size 28 1 A4 i cap4 (wcells us.reverse)) := HO5.out.mod hm6 (fun a ha h => by have := (HO5.out.lt a ha).1; omega)
      have HB6 : Hid (Below w1.heap.size w1 w6) := Below.mod HB5.out hm6 HB5.out.size (fun k _ h => h.1)
      clear hs6 hm6 HP5 HO5 HB5 x0
      have x0 := Hx.out i hmlt w6 (HB1.out.trans (HB6.out.mono HB1.out.size))
      rw [Hv.out] at x0
      obtain ⟨ity, hi0, hzz, hz1, hz2⟩ := info28s
      have hn30 : (n : Int) ≤ 31 := by have := Hmn.out; omega
      go_wp2_with (at_builtin; (refine append_rd rfl (.tmp 92) (.tmp 93) 22 rfl w6.heap.size 28 ity _ 1 8 Tryz.underlying22 hi0 hzz hz1 hz2 rfl (by omega) (some ⟨w6.heap.size, 0, none⟩) 1 1 [.int .u64 v] rfl (own_one w6 w6.heap.size w6.heap.size 28 _ rfl (Nat.le_refl _)) A4 i cap4 (wcells us.reverse) rfl (HO6.out.rd.alloc _) wcells_one (i + 1) (by omega) (wcells (v :: us.reverse)) rfl (by unfold maxLen; omega) (by omega) (by simp) ?_))
      intro A7 cap7 w7 hO7 hM7 hat7
      have Hb67 : Hid (Below w6.heap.size w6 w7) := Below.mod ((Below.refl _ w6).alloc (Nat.le_refl _) _) hM7 (by simp) (fun k _ e => Nat.le_of_eq e)
      have HO7 := Lib.hid hO7
      have HW7 : Hid (Own w7 wo.heap.size 28 1 A4 i cap4 (wcells us.reverse)) := HO6.out.below Hb67.out (Nat.le_refl _)
      have HS7 := Lib.hid (HS6.out.below Hb67.out)
      have HB7 : Hid (Below w1.heap.size w1 w7) := HB6.out.trans (Hb67.out.mono HB6.out.size)
      clear hO7 hM7 hat7 Hb67 HS6 HO6 HB6 x0 hi0 hzz hz1 hz2
      go_wp2_with omega
      refine (hdev_any hp d w7 HS7.out.cell).mono ?_
      rintro e w8 ⟨rfl, rfl⟩
      go_wp2_with omega
      refine (stop_states w7 hp d v mst us HS7.out (by omega)).mono ?_
      rintro e w8 ⟨A8, cap8, bs, rfl, hbs, hO8, hI8, hb8⟩
      obtain ⟨N, Hbl⟩ : ∃ N, Hid (bs.length = N) := ⟨_, rfl⟩
      rw [Hbl.out] at hbs hO8 ⊢
      have HO8 := Lib.hid hO8
      have HI8 := Lib.hid hI8
      have HB8 := Lib.hid hb8
      clear hO8 hI8 hb8 HS7
      have hd3 : decide (256 < (N : Int)) = false := decide_eq_false (by omega)
      go_wp2_with omega
      go_loopw [15] (fun v15 wr => ∃ k : Nat, v15 = .int .i64 k ∧ k ≤ N ∧ ImgsR wr w7.heap.size us v (bs.drop k) ∧ Own wr w7.heap.size 37 1 A8 N cap8 (pcells bs) ∧ Below w7.heap.size w7 wr) (fun v15 _ => N - (intOf v15).toNat)
      case atStart => exact ⟨0, rfl, Nat.zero_le _, HI8.out, HO8.out, HB8.out⟩
      case round =>
        clear HI8 HO8 HB8
        obtain ⟨k, rfl, hk, hI, hO, hB⟩ := hrel
        have HI := Lib.hid hI
        have HO := Lib.hid hO
        have HB := Lib.hid hB
        clear hI hO hB
        obtain ⟨wa, rfl⟩ : ∃ wa, wa = wr := ⟨wr, rfl⟩
        by_cases hkn : k < N
        · obtain ⟨g8, rfl, hlo8, _, _, _, hz, hfz⟩ := HO.out.at_ (by omega)
          have hkb : k < bs.length := by rw [Hbl.out]; exact hkn
          obtain ⟨x, hxb⟩ : ∃ x, bs[k] = x := ⟨_, rfl⟩
          have Hxb := Lib.hid hxb
          clear hxb
          have Hdr : Hid (bs.drop k = x :: bs.drop (k + 1)) := by show _ = _; rw [List.drop_eq_getElem_cons hkb, Hxb.out]
          have z0 : wa.cell? ⟨g8, k, none⟩ = some (.pointer (some ⟨x.d, 0, none⟩)) := hz k _ (by simp [pcells, hkb, Hxb.out])
          rw [Hdr.out] at HI
          clear hz hfz Hxb
          have Hsz : Hid (w7.heap.size ≤ wa.heap.size) := HB.out.size
          go_wp2_with omega
          refine (img_open wa w7.heap.size v us x (bs.drop (k + 1)) HI.out Hsz.out).mono ?_
          rintro e wb ⟨hq, l, rfl, hop, hl, hI2, hb2, hxl, hm2⟩
          have HOp := Lib.hid hop
          have HL : Hid (l.length ≤ 200 ∧ (l = us.reverse ∨ l = v :: us.reverse)) := ⟨by
            have h := Hul.out
            rcases hl with rfl | rfl
            · rw [List.length_reverse]; omega
            · rw [List.length_cons, List.length_reverse]; omega, hl⟩
          have HI2 := Lib.hid hI2
          have HO2 : Hid (Own wb w7.heap.size 37 1 (some ⟨g8, 0, none⟩) N cap8 (pcells bs)) := HO.out.mod hm2 (imgs_apart HI.out HO.out)
          have HB2 : Hid (Below w7.heap.size w7 wb) := HB.out.trans hb2
          clear hop hl hI2 hb2 hxl hm2 HI HO HB z0 Hdr
          go_wp2_with omega
          refine (popen_any hq 0 wb (by omega)).mono ?_
          rintro e wc ⟨pq, rfl, hpq, hP, hb3⟩
          have HPc := Lib.hid hP
          have HOp3 := Lib.hid (HOp.out.below hb3)
          have HI3 := Lib.hid (HI2.out.below hb3)
          have HO3 : Hid (Own wc w7.heap.size 37 1 (some ⟨g8, 0, none⟩) N cap8 (pcells bs)) := HO2.out.below hb3 (Nat.le_refl _)
          have HB3 : Hid (Below w7.heap.size w7 wc) := HB2.out.trans (hb3.mono HB2.out.size)
          clear hpq hP hb3 HOp HI2 HO2 HB2
          go_wp2_with omega
          refine (opened_list wc hq pq l HOp3.out HL.out.1 HPc.out).mono ?_
          rintro e wd ⟨A9, cap9, rfl, hO9, hb4⟩
          obtain ⟨q, Hlq⟩ : ∃ q, Hid (l.length = q) := ⟨_, rfl⟩
          rw [Hlq.out] at hO9 ⊢
          have HO9 := Lib.hid hO9
          have HI4 := Lib.hid (HI3.out.below hb4)
          have HO4 : Hid (Own wd w7.heap.size 37 1 (some ⟨g8, 0, none⟩) N cap8 (pcells bs)) := HO3.out.below hb4 (Nat.le_refl _)
          have HB4 : Hid (Below w7.heap.size w7 wd) := HB3.out.trans (hb4.mono HB3.out.size)
          have HWs : Hid (Rd wd 1 A4 i (wcells us.reverse)) := (HW7.out.below HB4.out (Nat.le_refl _)).rd
          have HNw : Hid (Rd wd 1 A7 (i + 1) (wcells (v :: us.reverse))) := (HO7.out.below HB4.out (Nat.le_refl _)).rd
          have hq2 : q ≤ 200 := by rw [← Hlq.out]; exact HL.out.1
          clear hO9 hb4 HOp3 HI3 HO3 HB3 HPc
          rcases HL.out.2 with hl | hl
          · have Hsm : Hid (Calls Tryz.prog 14 #[.slice A9 q cap9, .slice A4 i cap4] wd fun e w' => e = .returned (.bool true) ∧ ∃ q, w' = wd.drewN q) := by
              have := same_any A9 A4 q i cap9 cap4 l us.reverse wd (by omega) HO9.out.rd HWs.out
              rw [hl, decide_eq_true rfl] at this
              exact this
            clear hl
            go_wp2_with omega
            refine Hsm.out.mono ?_
            rintro e we ⟨rfl, q5, hwe⟩
            have HIe : Hid (ImgsR we w7.heap.size us v (bs.drop (k + 1))) := by rw [hwe]; exact HI4.out.below (below_drewN (Below.refl _ _) q5)
            have HOe : Hid (Own we w7.heap.size 37 1 (some ⟨g8, 0, none⟩) N cap8 (pcells bs)) := by rw [hwe]; exact HO4.out.drewN q5
            have HBe : Hid (Below w7.heap.size w7 we) := by rw [hwe]; exact below_drewN HB4.out q5
            clear hwe HI4 HO4 HB4
            go_wp2_with omega
            exact ⟨⟨k + 1, by go_num, by omega, HIe.out, HOe.out, HBe.out⟩, by simp [intOf]; omega⟩
          · have Hsm : Hid (Calls Tryz.prog 14 #[.slice A9 q cap9, .slice A4 i cap4] wd fun e w' => e = .returned (.bool false) ∧ ∃ q, w' = wd.drewN q) := by
              have := same_any A9 A4 q i cap9 cap4 l us.reverse wd (by omega) HO9.out.rd HWs.out
              rw [hl, decide_eq_false (fun h => by have := congrArg List.length h; rw [List.length_cons] at this; omega)] at this
              exact this
            have Hsm2 : Hid (∀ we, (∃ q, we = wd.drewN q) → Calls Tryz.prog 14 #[.slice A9 q cap9, .slice A7 (i + 1) cap7] we fun e w' => e = .returned (.bool true) ∧ ∃ q, w' = we.drewN q) := by
              rintro we ⟨q5, rfl⟩
              have := same_any A9 A7 q (i + 1) cap9 cap7 l (v :: us.reverse) (wd.drewN q5) (by omega) (HO9.out.rd.drewN q5) (HNw.out.drewN q5)
              rw [hl, decide_eq_true rfl] at this
              exact this
            clear hl
            go_wp2_with omega
            refine Hsm.out.mono ?_
            rintro e we ⟨rfl, q5, hwe⟩
            have Hwe := Lib.hid hwe
            clear hwe
            go_wp2_with omega
            refine (Hsm2.out we ⟨q5, Hwe.out⟩).mono ?_
            rintro e wf ⟨rfl, q6, hwf⟩
            have HIe : Hid (ImgsR wf w7.heap.size us v (bs.drop (k + 1))) := by rw [hwf, Hwe.out]; exact HI4.out.below (below_drewN (below_drewN (Below.refl _ _) q5) q6)
            have HOe : Hid (Own wf w7.heap.size 37 1 (some ⟨g8, 0, none⟩) N cap8 (pcells bs)) := by rw [hwf, Hwe.out]; exact (HO4.out.drewN q5).drewN q6
            have HBe : Hid (Below w7.heap.size w7 wf) := by rw [hwf, Hwe.out]; exact below_drewN (below_drewN HB4.out q5) q6
            clear hwf HI4 HO4 HB4
            go_wp2_with omega
            exact ⟨⟨k + 1, by go_num, by omega, HIe.out, HOe.out, HBe.out⟩, by simp [intOf]; omega⟩
        · obtain rfl : k = N := by omega
          go_wp2_with omega
          go_ret
          exact ⟨rfl, HB1.out.trans ((HB7.out.trans (HB.out.mono HB7.out.size)).mono HB1.out.size)⟩
end Go.Proofs.YtcnjipicifkfjaaGreat

/- TopEvery on arguments as they come. -/
namespace Go.Proofs.YtcnjipicifkfjaaGreat
open Go.RowKit
set_option linter.unusedVariables false

theorem rd_words {w : World} {A : Option Addr} {n : Nat} {zs : List Int} (hl : zs.length = n) (hw : ∀ i, (Lit.int .u64 (zs.getD i 0)).wf = true) (h : Row w A n 1 (fun i => [.int .u64 (zs.getD i 0)])) : Rd w 1 A n (wcells (zs.map Int.toNat)) := by
  refine ⟨by rw [wcells_len, List.length_map]; omega, fun hn => ?_⟩
  obtain ⟨b, off, rfl, hb, hc⟩ := h hn
  refine ⟨b, off, rfl, hb, fun j u hu => ?_⟩
  have hj : j < (zs.map Int.toNat).length := by
    have := (List.getElem?_eq_some_iff.1 hu).1
    rwa [wcells_len] at this
  rw [wcells_at _ _ hj] at hu
  rw [List.length_map] at hj
  have hz : (((zs.map Int.toNat).getD j 0 : Nat) : Int) = zs.getD j 0 := by
    have h1 := (bounds_u64 (hw j)).1
    rw [List.getD_eq_getElem?_getD, List.getElem?_map, List.getElem?_eq_getElem hj]
    rw [List.getD_eq_getElem?_getD, List.getElem?_eq_getElem hj] at h1 ⊢
    exact Int.toNat_of_nonneg h1
  rw [hz] at hu
  have := hc j (by omega) 0 u (by simpa using hu)
  simpa using this
theorem every_args (A : Option Addr) (n cap : Nat) (zs : List Int) (f m : Int) (w : World) (hn : n ≤ cap) (hc : cap ≤ maxLen) (hl : zs.length = n) (hr : Row w A n 1 (fun i => [.int .u64 (zs.getD i 0)])) (hw : ∀ i, (Lit.int .u64 (zs.getD i 0)).wf = true)
    (hf : (Lit.int .u8 f).wf = true) (hm : (Lit.int .u8 m).wf = true) : Calls Tryz.prog 3 #[.slice A n cap, .int .u8 f, .int .u8 m] w fun e w' => e = .returned (.bool true) ∧ Below w.heap.size w w' := by
  obtain ⟨f0, f1⟩ := bounds_u8 hf
  obtain ⟨m0, m1⟩ := bounds_u8 hm
  obtain ⟨f', rfl⟩ := Int.eq_ofNat_of_zero_le f0
  obtain ⟨m', rfl⟩ := Int.eq_ofNat_of_zero_le m0
  exact every_any A n cap f' m' _ w (by omega) (by omega) (by omega) (rd_words hl hw hr)
end Go.Proofs.YtcnjipicifkfjaaGreat
