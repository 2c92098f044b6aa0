/- The walk of RegsApart. -/
import Derived.Test.YtebdnggcnoaieaaW3
import Derived.StillTailTactics
namespace Go.Proofs.Ytebdnggcnoaieaa
open Go.RowKit
set_option linter.unusedVariables false
set_option linter.unusedSimpArgs false

/-- What holds at the first loop's head. -/
def LHead (g B len : Nat) (w0 : World) (v8 : Value) (wr : World) : Prop :=
  ∃ (i : Nat) (fs : List Int), v8 = .int .i64 i ∧ i ≤ len ∧ fs.length = 32 ∧ Below B w0 wr ∧ Blk wr g 30 (fcells fs)

theorem size30 : (Try.prog.info? 30).map (·.size) = some 32 := by kernel_rfl

theorem eq_file (fs : List Int) (hf : fs.length = 32) (w : World) : (Op.equalIn 10000 30 (.agg (fcells fs)) (.agg (fcells fs))).run Try.prog w = .ok true w := by
  have hs : (fcells fs).size = 32 := (fcells_size fs).trans hf
  have hc : ∀ j, j < 32 → (fcells fs)[j]? = some (.int .i64 (fs.getD j 0)) := fun j hj => fcells_at fs j (by omega)
  generalize fcells fs = C at *
  have e32 : C.extract 0 (0 + 32) = C := by rw [Nat.zero_add, ← hs]; exact Array.extract_size
  have h28 : (Op.equalIn 9999 28 (.agg C) (.agg C)).run Try.prog w = .ok true w := by
    refine eq_array 9998 28 27 4 8 C Try.underlying28 size27 (fun i hi => ⟨_, part_sub 27 C (i * 8) 8 Try.underlying27 rfl size27, ?_⟩)
    refine eq_array 9997 27 3 8 1 _ Try.underlying27 size3 (fun j hj => ⟨_, part_one 3 _ (j * 1) (.int .i64 (fs.getD (i * 8 + j) 0)) Try.underlying3 rfl ?_, ?_⟩)
    · rw [Nat.mul_one, Array.getElem?_extract, if_pos (by omega)]
      exact hc _ (by omega)
    · rw [run_equalIn_int w 9996 3 .i64 .i64 _ _ Try.underlying3]
      simp
  have ht : Try.prog.underlying 30 = some (.struct (Try.prog.fieldsOf 30)) := by unfold Program.fieldsOf; rw [Try.underlying30]
  rw [run_equalIn_agg w 9999 30 C C ht (by kernel_rfl)]
  unfold Program.fieldsOf
  rw [Try.underlying30]
  simp only [Op.eqFields, Sem.run_ite, Sem.run_bind]
  have hp : (part 28 C 0).run Try.prog w = .ok (.agg C) w := by
    rw [part_sub 28 C 0 32 Try.underlying28 rfl size28, e32]
  rw [if_pos (by decide)]
  simp only [hp, Result.andThen_ok, h28, Bool.not_true, Bool.false_eq_true, if_false, Sem.run_pure]

theorem get_set (fs : List Int) (a c m k : Nat) (x : Int) (h : a * 8 + c < fs.length) (hk : k < 8) (hc : c < 8) :
    (fs.set (a * 8 + c) x).getD (m * 8 + k) 0 = if m = a ∧ k = c then x else fs.getD (m * 8 + k) 0 := by
  rw [List.getD_eq_getElem?_getD, List.getD_eq_getElem?_getD, List.getElem?_set]
  by_cases he : m = a ∧ k = c
  · obtain ⟨rfl, rfl⟩ := he
    simp [h]
  · rw [if_neg he, if_neg (by omega)]

/-- A counter that is at most n. -/
def Upto_ (n : Nat) (v : Value) : Prop := ∃ k : Nat, v = .int .i64 k ∧ k ≤ n

/-- What the last loops leave as it is. -/
structure Keep (w0 w : World) (g g2 : Nat) (fs fs' : List Int) (nm nr : Int) : Prop where
  b : Below w0.heap.size w0 w
  f : Blk w g 30 (fcells fs')
  was : Blk w g2 30 (fcells fs)
  n : Blk w w0.heap.size 24 #[.int .i64 nm, .int .i64 nr]
theorem Keep.below {w0 w w' : World} {g g2 B : Nat} {fs fs' : List Int} {nm nr : Int} (h : Keep w0 w g g2 fs fs' nm nr) (hb : Below B w w') (hB : w.heap.size ≤ B) : Keep w0 w' g g2 fs fs' nm nr :=
  ⟨h.b.trans (hb.mono (Nat.le_trans h.b.size hB)), h.f.below hb (Nat.lt_of_lt_of_le h.f.lt hB), h.was.below hb (Nat.lt_of_lt_of_le h.was.lt hB), h.n.below hb (Nat.lt_of_lt_of_le h.n.lt hB)⟩
theorem Keep.alloc {w0 w : World} {g g2 : Nat} {fs fs' : List Int} {nm nr : Int} (h : Keep w0 w g g2 fs fs' nm nr) (o : Obj) : Keep w0 (w.alloc o) g g2 fs fs' nm nr :=
  h.below ((Below.refl w.heap.size w).alloc (Nat.le_refl _) o) (Nat.le_refl _)

set_option maxRecDepth 100000 in
set_option maxHeartbeats 2000000 in
theorem ra_any (A : Option Addr) (len cap : Nat) (zs : List (Int × Int × Int × Int)) (nm nr x : Int) (w : World) (hx : 0 ≤ x) (hx1 : x ≤ 65535)
    (hlen : len ≤ cap) (hcap : cap ≤ maxLen) (hrow : Row w A len 4 (fun i => opCells (zs.getD i (0, 0, 0, 0)))) :
    Calls Try.prog 3 #[.slice A len cap, .agg #[.int .i64 nm, .int .i64 nr], .int .u16 x] w fun e w' => e = .returned (.bool true) ∧ Below w.heap.size w w' := by
  unfold maxLen at hcap
  have Hrow := Lib.hid hrow
  clear hrow
  go_enter Try.func3, Try.ntmps3
  go_wp2_with fail
  refine (awake_any _).mono ?_
  rintro e w1 ⟨rfl, hb1⟩
  have Hb1 := Lib.hid (((Below.refl _ w).alloc (Nat.le_refl _) _).trans (hb1.mono (by simp)))
  have HN1 := Lib.hid (((Blk.new w 24 #[.int .i64 nm, .int .i64 nr])).below hb1 (by simp))
  clear hb1
  go_wp2_with fail
  obtain ⟨g, Hg⟩ : ∃ g, Hid (w1.heap.size = g) := ⟨_, rfl⟩
  have hg : w.heap.size < g := by rw [← Hg.out]; exact HN1.out.lt
  have HS : Hid (LHead g w.heap.size len w (.int .i64 0) (w1.alloc (.cells (fcells (List.replicate 32 0)) 30))) := by
    refine ⟨0, List.replicate 32 0, rfl, Nat.zero_le _, by simp, Hb1.out.alloc Hb1.out.size _, ?_⟩
    rw [← Hg.out]
    exact Blk.new _ _ _
  have HN2 := Lib.hid (HN1.out.alloc (.cells (fcells (List.replicate 32 0)) 30))
  rw [Hg.out]
  rw [fcells_zero] at HS HN2
  generalize w1.alloc _ = w2 at *
  clear Hg HN1 Hb1
  go_loopw [8] (fun v8 wr => LHead g w.heap.size len w v8 wr ∧ Blk wr w.heap.size 24 #[.int .i64 nm, .int .i64 nr]) (fun v8 _ => (len - (intOf v8).toNat))
  case atStart => exact ⟨HS.out, HN2.out⟩
  case round =>
    clear HS HN2
    obtain ⟨⟨i, fs, rfl, hi1, hf, hbel, hB⟩, hN⟩ := hrel
    have Hbel := Lib.hid hbel
    have HB := Lib.hid hB
    have HN := Lib.hid hN
    have Hf := Lib.hid hf
    clear hbel hB hN hf
    by_cases hlt : i < len ∧ i < 100
    · obtain ⟨hlt, h100⟩ := hlt
      obtain ⟨b, off, hA, hb, hcell⟩ := Hrow.out (by omega)
      subst hA
      have x1 : wr.cell? ⟨b, off + i * 4 + 1, none⟩ = some _ := (Hbel.out.cell (p := ⟨b, off + i * 4 + 1, none⟩) hb).trans (hcell i hlt 1 _ rfl)
      have x2 : wr.cell? ⟨b, off + i * 4 + 2, none⟩ = some _ := (Hbel.out.cell (p := ⟨b, off + i * 4 + 2, none⟩) hb).trans (hcell i hlt 2 _ rfl)
      have x3 : wr.cell? ⟨b, off + i * 4 + 3, none⟩ = some _ := (Hbel.out.cell (p := ⟨b, off + i * 4 + 3, none⟩) hb).trans (hcell i hlt 3 _ rfl)
      clear hcell
      generalize (zs.getD i (0, 0, 0, 0)).2.1 = m at *
      generalize (zs.getD i (0, 0, 0, 0)).2.2.1 = r at *
      generalize (zs.getD i (0, 0, 0, 0)).2.2.2 = y at *
      go_wp2_with fail
      go_still_tail 10, (by kernel_rfl)
      have HB1 := Lib.hid (HB.out.drewN 1)
      have Hbel1 := Lib.hid (below_drewN Hbel.out 1)
      have HN1 := Lib.hid (HN.out.drewN 1)
      change wpList _ _ _ _ _ (wr.drewN 1)
      generalize wr.drewN 1 = w3 at *
      clear x1 x2 x3
      go_wp2_with fail
      refine (set_any g m r y fs w3 Hf.out HB1.out).mono ?_
      rintro e w4 ⟨rfl, hB4, hM4⟩
      have HB4 := Lib.hid hB4
      have Hb4 := Lib.hid (Below.mod Hbel1.out hM4 Hbel1.out.size (fun k _ hk => by rw [hk]; omega))
      have HN4 := Lib.hid (hM4.blk HN1.out (by omega))
      clear hB4 hM4
      go_wp2_with fail
      exact ⟨⟨⟨i + 1, _, by go_num, by omega, (setf_length fs m r y).trans Hf.out, Hb4.out, HB4.out⟩, HN4.out⟩, by simp [intOf]; omega⟩
    · have hex : ¬ i < len ∨ (i < len ∧ ¬ i < 100) := by omega
      have HFs : Hid ((fcells fs).size = 32) := (fcells_size fs).trans Hf.out
      have HF1 : Hid (∀ v ∈ (fcells fs).toList, v.oneCell' = true) := by
        intro v hv
        simp only [fcells, List.toList_toArray, List.mem_map] at hv
        obtain ⟨_, _, rfl⟩ := hv
        rfl
      clear hlt
      rcases hex with hex | ⟨hex1, hex2⟩
      all_goals
        go_wp2_with (first | (refine wpList_load_row rfl 30 (.tmp 7) rfl g rfl 30 (fcells fs) (0, 0) _ HB.out Try.underlying30 rfl (by rw [HFs.out]; exact size30) ?_) | (refine wpList_store_row rfl (.tmp 9) (.tmp 40) rfl rfl rfl (Blk.new _ _ _) (by rw [HFs.out]; exact size30) (by rw [HFs.out]; rfl) HF1.out ?_))
        intro w5 hB5 hM5
        obtain ⟨g2, Hg2⟩ : ∃ g2, Hid (wr.heap.size = g2) := ⟨_, rfl⟩
        have hg2 : g < g2 := by rw [← Hg2.out]; exact HB.out.lt
        have HB5 := Lib.hid hB5
        have HA5 := Lib.hid (hM5.blk (HB.out.alloc _) (by have := HB.out.lt; omega))
        have HN5 := Lib.hid (hM5.blk (HN.out.alloc _) (by have := HN.out.lt; omega))
        have Hb5 := Lib.hid (Below.mod (Hbel.out.alloc Hbel.out.size _) hM5 (by simp; exact Nat.le_succ_of_le Hbel.out.size) (fun k _ hk => by rw [hk]; exact Hbel.out.size))
        rw [Hg2.out] at HB5
        rw [Hg2.out]
        clear hB5 hM5 HB HN Hbel Hg2
        have n0 := HN5.out.cell 0
        have n1 := HN5.out.cell 1
        simp only [List.getElem?_toArray, List.getElem?_cons_zero, List.getElem?_cons_succ] at n0 n1
        go_wp2_with fail
        refine (set_any g nm nr x fs w5 Hf.out HA5.out).mono ?_
        rintro e w6 ⟨rfl, hB6, hM6⟩
        have HA6 := Lib.hid hB6
        have HB6 := Lib.hid (hM6.blk HB5.out (by omega))
        have HN6 := Lib.hid (hM6.blk HN5.out (by omega))
        have Hb6 := Lib.hid (Below.mod Hb5.out hM6 Hb5.out.size (fun k _ hk => by rw [hk]; omega))
        clear hB6 hM6 HA5 HB5 HN5 Hb5 n0 n1
        have n0 := HN6.out.cell 0
        have n1 := HN6.out.cell 1
        simp only [List.getElem?_toArray, List.getElem?_cons_zero, List.getElem?_cons_succ] at n0 n1
        by_cases hok : okName nm nr
        · have e1 : setk nm nr x = 0 := by unfold setk; rw [if_pos ⟨hok, hx⟩]
          rw [e1]
          obtain ⟨a, rfl⟩ : ∃ a : Nat, nm = a := ⟨nm.toNat, by have := hok.1; omega⟩
          obtain ⟨c, rfl⟩ : ∃ c : Nat, nr = c := ⟨nr.toNat, by have := hok.2.2.1; omega⟩
          have ha : a < 4 := by have := hok.2.1; omega
          have hc : c < 8 := by have := hok.2.2.2; omega
          have e2 : setf fs a c x = fs.set (a * 8 + c) x := by unfold setf; rw [if_pos ⟨hok, hx⟩, Int.toNat_natCast, Int.toNat_natCast]
          rw [e2] at HA6
          have HK : Hid (Keep w w6 g g2 fs (fs.set (a * 8 + c) x) a c) := ⟨Hb6.out, HA6.out, HB6.out, HN6.out⟩
          have Hfs' : Hid ((fs.set (a * 8 + c) x).length = 32) := (List.length_set ..).trans Hf.out
          clear e1 e2 hok HA6 HB6 HN6 Hb6 Hrow
          go_wp2_with fail
          clear n0 n1
          go_loopw [10] (fun v10 wr => Upto_ 4 v10 ∧ Keep w wr g g2 fs (fs.set (a * 8 + c) x) a c) (fun v10 _ => 4 - (intOf v10).toNat)
          case atStart => exact ⟨⟨0, rfl, by omega⟩, HK.out⟩
          case round =>
            clear HK
            obtain ⟨⟨m, rfl, hm⟩, hK⟩ := hrel
            have HK := Lib.hid hK
            clear hK
            by_cases hlt : m < 4
            · have hd4 : decide ((m : Int) < 4) = true := by simp; omega
              go_wp2_with fail
              go_loopw [11] (fun v11 wr => Upto_ 8 v11 ∧ Keep w wr g g2 fs (fs.set (a * 8 + c) x) a c) (fun v11 _ => 8 - (intOf v11).toNat)
              case atStart => exact ⟨⟨0, rfl, by omega⟩, HK.out⟩
              case round =>
                clear HK
                obtain ⟨⟨k, rfl, hk⟩, hK⟩ := hrel
                have HK := Lib.hid hK
                clear hK
                by_cases hltk : k < 8
                · go_wp2_with fail
                  obtain ⟨p, Hp⟩ : ∃ p, Hid ((fs.set (a * 8 + c) x).getD (m * 8 + k) 0 = p) := ⟨_, rfl⟩
                  obtain ⟨z, Hz⟩ : ∃ z, Hid (fs.getD (m * 8 + k) 0 = z) := ⟨_, rfl⟩
                  have Hgs : Hid (p = if m = a ∧ k = c then x else z) := by
                    have := get_set fs a c m k x (by rw [Hf.out]; omega) hltk hc
                    rw [Hp.out, Hz.out] at this
                    exact this
                  refine (get_yes g m k _ _ hlt hltk Hfs'.out (HK.out.alloc _).f).mono ?_
                  rintro e w7 ⟨rfl, hb7⟩
                  rw [Hp.out]
                  obtain ⟨gx, Hgx⟩ : ∃ gx, Hid (wr.heap.size = gx) := ⟨_, rfl⟩
                  have HX7 := Lib.hid ((Blk.new wr 24 #[.int .i64 m, .int .i64 k]).below hb7 (by simp))
                  have HK7 := Lib.hid ((HK.out.alloc (.cells #[.int .i64 m, .int .i64 k] 24)).below hb7 (Nat.le_refl _))
                  rw [Hgx.out] at HX7
                  rw [Hgx.out]
                  clear hb7 HK Hgx
                  have y0 := HX7.out.cell 0
                  have y1 := HX7.out.cell 1
                  simp only [List.getElem?_toArray, List.getElem?_cons_zero, List.getElem?_cons_succ] at y0 y1
                  go_wp2_with fail
                  refine (get_yes g2 m k fs _ hlt hltk Hf.out HK7.out.was).mono ?_
                  rintro e w8 ⟨rfl, hb8⟩
                  rw [Hz.out]
                  have HX8 := Lib.hid (HX7.out.below hb8 HX7.out.lt)
                  have HK8 := Lib.hid (HK7.out.below hb8 (Nat.le_refl _))
                  clear hb8 HK7 HX7 y0 y1
                  have y0 := HX8.out.cell 0
                  have y1 := HX8.out.cell 1
                  have n0 := HK8.out.n.cell 0
                  have n1 := HK8.out.n.cell 1
                  simp only [List.getElem?_toArray, List.getElem?_cons_zero, List.getElem?_cons_succ] at y0 y1 n0 n1
                  have hgs := Hgs.out
                  clear Hgs Hp Hz
                  by_cases hma : m = a
                  · subst hma
                    by_cases hkc : k = c
                    · subst hkc
                      rw [if_pos ⟨rfl, rfl⟩] at hgs
                      subst hgs
                      go_wp2_with fail
                      exact ⟨⟨⟨k + 1, by go_num, by omega⟩, HK8.out⟩, by simp [intOf]; omega⟩
                    · rw [if_neg (fun h => hkc h.2)] at hgs
                      subst hgs
                      have hb : ((k : Int) == (c : Int)) = false := by simp; omega
                      have hb2 : (k == c) = false := by simpa using hkc
                      go_wp2_with fail
                      exact ⟨⟨⟨k + 1, by go_num, by omega⟩, HK8.out⟩, by simp [intOf]; omega⟩
                  · rw [if_neg (fun h => hma h.1)] at hgs
                    subst hgs
                    have hb : ((m : Int) == (a : Int)) = false := by simp; omega
                    have hb2 : (m == a) = false := by simpa using hma
                    go_wp2_with fail
                    exact ⟨⟨⟨k + 1, by go_num, by omega⟩, HK8.out⟩, by simp [intOf]; omega⟩
                · go_wp2_with fail
                  exact ⟨⟨⟨m + 1, by go_num, by omega⟩, HK.out⟩, by simp [intOf]; omega⟩
            · go_wp2_with fail
              go_ret
              exact ⟨rfl, HK.out.b⟩
        · have e1 : setk nm nr x = 1 := by unfold setk; rw [if_neg (fun h => hok h.1)]
          have e2 : setf fs nm nr x = fs := by unfold setf; rw [if_neg (fun h => hok h.1)]
          rw [e1]
          rw [e2] at HA6
          have Hok := Lib.hid hok
          clear e1 e2 hok
          have hEq : ∀ w, Sem.run Try.prog (Op.equalIn 10000 30 (.agg (fcells fs)) (.agg (fcells fs))) w = .ok true w := fun w => eq_file fs Hf.out w
          go_wp2_with (first | (refine wpList_load_row rfl 30 (.tmp 7) rfl g rfl 30 (fcells fs) (0, 0) _ HA6.out Try.underlying30 rfl (by rw [HFs.out]; exact size30) ?_) | (refine wpList_load_row rfl 30 (.tmp 9) rfl g2 rfl 30 (fcells fs) (0, 0) _ HB6.out Try.underlying30 rfl (by rw [HFs.out]; exact size30) ?_))
          refine (right_no nm nr w6 Hok.out).mono ?_
          rintro e w7 ⟨rfl, hb7⟩
          have Hb7 := Lib.hid (Hb6.out.trans (hb7.mono Hb6.out.size))
          clear hb7
          go_wp2_with fail
          go_ret
          exact ⟨rfl, Hb7.out⟩
end Go.Proofs.Ytebdnggcnoaieaa
