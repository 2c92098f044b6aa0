/- The walk of WearCounts. -/
import Derived.Test.YtpflhgidcjlcjaaC1
namespace Go.Proofs.Ytpflhgidcjlcjaa
open Go.RowKit
set_option linter.unusedVariables false
set_option linter.unusedSimpArgs false

/-- What is counted of n lines behind i stores, the next one tried at the first k lines. -/
def cntk (zs : List Int) (n i k : Nat) : List Nat := (List.range n).map fun j => if j < k then cnt zs j (i + 1) else cnt zs j i
theorem cntk_zero (zs : List Int) (n i : Nat) : cntk zs n i 0 = cnts zs n i := by
  unfold cntk cnts
  apply List.map_congr_left
  intro j _
  rw [if_neg (by omega)]
theorem cntk_all (zs : List Int) (n i : Nat) : cntk zs n i n = cnts zs n (i + 1) := by
  unfold cntk cnts
  apply List.map_congr_left
  intro j hj
  rw [List.mem_range] at hj
  rw [if_pos hj]
theorem cntk_len (zs : List Int) (n i k : Nat) : (cntk zs n i k).length = n := by simp [cntk]
theorem cntk_getD (zs : List Int) (n i k : Nat) (h : k < n) : (cntk zs n i k).getD k 0 = cnt zs k i := by simp [cntk, List.getD_eq_getElem?_getD, h]
theorem cntk_hit (zs : List Int) (n i k : Nat) (hk : k < n) (h : 8 * (k : Int) ≤ zs.getD i 0 ∧ zs.getD i 0 < 8 * (k : Int) + 8) : cntk zs n i (k + 1) = bump (cntk zs n i k) k := by
  apply List.ext_getElem?
  intro j
  unfold bump
  rw [cntk_getD _ _ _ _ hk]
  simp only [List.getElem?_set]
  by_cases hj : j < n
  · have e1 : (cntk zs n i (k + 1))[j]? = some (if j < k + 1 then cnt zs j (i + 1) else cnt zs j i) := by simp [cntk, hj]
    have e2 : (cntk zs n i k)[j]? = some (if j < k then cnt zs j (i + 1) else cnt zs j i) := by simp [cntk, hj]
    rw [e1, e2, cntk_len]
    by_cases hkq : k = j
    · subst hkq
      rw [if_pos rfl, if_pos (by omega), if_pos hk, cnt, if_pos h]
    · rw [if_neg hkq]
      by_cases hlt : j < k
      · rw [if_pos hlt, if_pos (by omega)]
      · rw [if_neg hlt, if_neg (by omega)]
  · rw [List.getElem?_eq_none (by rw [cntk_len]; omega), List.getElem?_eq_none (by rw [cntk_len]; omega), if_neg (by omega)]
theorem cntk_miss (zs : List Int) (n i k : Nat) (h : ¬ (8 * (k : Int) ≤ zs.getD i 0 ∧ zs.getD i 0 < 8 * (k : Int) + 8)) : cntk zs n i (k + 1) = cntk zs n i k := by
  unfold cntk
  apply List.map_congr_left
  intro j _
  by_cases hkq : j = k
  · subst hkq
    rw [if_pos (by omega), if_neg (by omega), cnt, if_neg h]
    rfl
  · by_cases hlt : j < k
    · rw [if_pos hlt, if_pos (by omega)]
    · rw [if_neg hlt, if_neg (by omega)]

theorem row_below {w w' : World} {A : Option Addr} {n sz B : Nat} {V : Nat → List Value} (h : Row w A n sz V) (hb : Below B w w') (hB : w.heap.size ≤ B) : Row w' A n sz V := fun hn => by
  obtain ⟨b, off, hA, hbl, hc⟩ := h hn
  exact ⟨b, off, hA, Nat.lt_of_lt_of_le hbl hb.size, fun i hi j u hu => (hb.cell (p := ⟨b, off + i * sz + j, none⟩) (Nat.lt_of_lt_of_le hbl hB)).trans (hc i hi j u hu)⟩

def KHead (zs : List Int) (n i gw B : Nat) (w : World) (v : Value) (wr : World) : Prop :=
  ∃ k : Nat, v = .int .i64 k ∧ k ≤ n ∧ Blk wr gw 3 (icells (cntk zs n i k)).toArray ∧ Below B w wr

theorem wc_skip (x : Int) (A : Option Addr) (m cap : Nat) (w : World) (hm : m ≤ 9223372036854775807) (h : 300 < x ∧ x ≤ 65536 ∨ 300 < m) :
    Calls Try.prog 4 #[.int .i64 x, .slice A m cap] w fun e w' => e = .returned (.bool true) ∧ Below w.heap.size w w' := by
  by_cases h1 : 300 < x ∧ x ≤ 65536
  · obtain ⟨h1, h2⟩ := h1
    clear h
    go_enter Try.func4, Try.ntmps4
    go_wp2_with fail
    refine (awake_any _).mono ?_
    rintro e w1 ⟨rfl, hb1⟩
    have Hb1 := Lib.hid hb1
    clear hb1
    go_wp2_with fail
    go_ret
    exact ⟨rfl, Hb1.out⟩
  · have hm3 : 300 < m := by omega
    clear h
    have h2 : x ≤ 300 ∨ (300 < x ∧ 65536 < x) := by omega
    clear h1
    rcases h2 with h2 | ⟨h2, h3⟩
    all_goals
      go_enter Try.func4, Try.ntmps4
      go_wp2_with fail
      refine (awake_any _).mono ?_
      rintro e w1 ⟨rfl, hb1⟩
      have Hb1 := Lib.hid hb1
      clear hb1
      go_wp2_with fail
      go_ret
      exact ⟨rfl, Hb1.out⟩

theorem wc_out (x : Int) (A : Option Addr) (m cap : Nat) (w : World) (hm : m ≤ 300) (h : x < 0 ∨ 65536 < x) :
    Calls Try.prog 4 #[.int .i64 x, .slice A m cap] w fun e w' => e = .returned (.bool true) ∧ Below w.heap.size w w' := by
  have HN : Hid (∀ w, Calls Try.prog 15 #[.int .i64 x, .slice A m cap] w fun e w' => e = .returned (.slice none 0 0) ∧ w = w') := fun w => count_no x A m cap w h
  have h2 : (x ≤ 300 ∧ x < 0) ∨ (300 < x ∧ 65536 < x ∧ 0 ≤ x) := by omega
  clear h
  rcases h2 with ⟨h2, h3⟩ | ⟨h2, h3, h4⟩
  all_goals
    go_enter Try.func4, Try.ntmps4
    go_wp2_with fail
    refine (awake_any _).mono ?_
    rintro e w1 ⟨rfl, hb1⟩
    have Hb1 := Lib.hid hb1
    clear hb1
    go_wp2_with fail
    refine (HN.out _).mono ?_
    rintro e w2 ⟨rfl, rfl⟩
    go_wp2_with fail
    go_ret
    exact ⟨rfl, Hb1.out⟩

set_option maxRecDepth 100000 in
set_option maxHeartbeats 2000000 in
theorem wc_in (n : Nat) (A : Option Addr) (m cap : Nat) (zs : List Int) (w : World) (hn : n ≤ 300) (hm : m ≤ 300) (hz : ∀ i, i < m → -9223372036854775808 ≤ zs.getD i 0 ∧ zs.getD i 0 ≤ 9223372036854775807) (hrow : Row w A m 1 (fun i => [.int .i64 (zs.getD i 0)])) :
    Calls Try.prog 4 #[.int .i64 n, .slice A m cap] w fun e w' => e = .returned (.bool true) ∧ Below w.heap.size w w' := by
  have Hrow := Lib.hid hrow
  have Hz := Lib.hid hz
  clear hrow hz
  have hmk := mk31 n n rfl (by omega)
  go_enter Try.func4, Try.ntmps4
  go_wp2_with fail
  refine (awake_any _).mono ?_
  rintro e w1 ⟨rfl, hb1⟩
  have Hb1 := Lib.hid hb1
  have Hrow1 := Lib.hid (row_below Hrow.out hb1 (Nat.le_refl _))
  clear hb1 Hrow
  go_wp2_with fail
  refine (count_any n A m cap zs w1 (by omega) (by omega) Hz.out Hrow1.out).mono ?_
  rintro e w2 ⟨gl, rfl, hB2, hb2⟩
  have Hb2 := Lib.hid (Hb1.out.trans (hb2.mono Hb1.out.size))
  have Hrow2 := Lib.hid (row_below Hrow1.out hb2 (Nat.le_refl _))
  have HL2 := Lib.hid hB2
  have hgl := hB2.lt
  clear hb2 hB2 Hrow1 Hb1
  go_wp2_with fail
  obtain ⟨gw, Hg⟩ : ∃ g, Hid (w2.heap.size = g) := ⟨_, rfl⟩
  have hglw : gl < gw := by rw [← Hg.out]; exact hgl
  have HH : Hid (Blk (w2.alloc (.cells (madeCells #[.int .i64 0] n) 3)) gw 3 (icells (cnts zs n 0)).toArray ∧ Below gw w2 (w2.alloc (.cells (madeCells #[.int .i64 0] n) 3))) := by
    refine ⟨?_, ?_⟩
    · rw [← Hg.out, cnts_zero, ← made_zero]
      exact Blk.new _ _ _
    · rw [← Hg.out]
      exact (Below.refl _ _).alloc (Nat.le_refl _) _
  rw [Hg.out]
  generalize w2.alloc _ = w3 at *
  clear hmk hgl
  go_loopw [7] (fun v7 wr => CHead zs n m gw gw w2 v7 wr) (fun v7 _ => m - (intOf v7).toNat)
  case atStart => exact ⟨0, rfl, Nat.zero_le _, HH.out.1, HH.out.2⟩
  case round =>
    clear HH
    obtain ⟨i, rfl, hi, hB, hb⟩ := hrel
    have HB := Lib.hid hB
    have Hb := Lib.hid hb
    clear hB hb
    by_cases hlt : i < m
    · go_wp2_with fail
      have HS : Hid (KHead zs n i gw gw w2 (.int .i64 0) wr) := ⟨0, rfl, Nat.zero_le _, by rw [cntk_zero]; exact HB.out, Hb.out⟩
      clear HB Hb
      go_loopw [8] (fun v8 wr => KHead zs n i gw gw w2 v8 wr) (fun v8 _ => n - (intOf v8).toNat)
      case atStart => exact HS.out
      case round =>
        clear HS
        obtain ⟨k, rfl, hk, hB, hb⟩ := hrel
        have HB := Lib.hid hB
        have Hb := Lib.hid hb
        clear hB hb
        by_cases hkn : k < n
        · obtain ⟨b, off, hA, hbl, hcell⟩ := Hrow2.out (by omega)
          subst hA
          have x0 : wr.cell? ⟨b, off + i, none⟩ = some _ := (Hb.out.cell (p := ⟨b, off + i, none⟩) (by rw [← Hg.out]; exact hbl)).trans (by have := hcell i hlt 0 _ rfl; rwa [Nat.mul_one, Nat.add_zero] at this)
          clear hcell
          have hz0 := Hz.out i hlt
          have Hhit : Hid ((8 * (k : Int) ≤ zs.getD i 0 ∧ zs.getD i 0 < 8 * (k : Int) + 8) → cntk zs n i (k + 1) = bump (cntk zs n i k) k) := cntk_hit zs n i k hkn
          have Hmiss : Hid (¬ (8 * (k : Int) ≤ zs.getD i 0 ∧ zs.getD i 0 < 8 * (k : Int) + 8) → cntk zs n i (k + 1) = cntk zs n i k) := cntk_miss zs n i k
          generalize zs.getD i 0 = x at *
          by_cases h1 : 8 * (k : Int) ≤ x
          · by_cases h2 : x < 8 * (k : Int) + 8
            · have e := Lib.hid (Hhit.out ⟨h1, h2⟩)
              have hc : (cntk zs n i k).getD k 0 ≤ i := by rw [cntk_getD _ _ _ _ hkn]; exact cnt_le _ _ _
              have y0 : wr.cell? ⟨gw, k, none⟩ = some (.int .i64 ((cntk zs n i k).getD k 0 : Nat)) := by
                rw [HB.out.cell k, List.getElem?_toArray]
                exact icells_at _ _ (by rw [cntk_len]; exact hkn)
              have hfr := HB.out.frozen k
              have hgwl := HB.out.lt
              have hgw2 : gw ≤ gw := Nat.le_refl _
              obtain ⟨y, Hy⟩ : ∃ y, Hid ((cntk zs n i k).getD k 0 = y) := ⟨_, rfl⟩
              have HE : Hid (∀ v : Int, v = (y : Int) + 1 → (icells (cntk zs n i k)).toArray.setIfInBounds k (.int .i64 v) = (icells (cntk zs n i (k + 1))).toArray) := by
                intro v hv
                rw [e.out]
                exact icells_bump _ _ (by rw [Hy.out]; exact hv)
              rw [Hy.out] at y0 hc
              clear Hy e
              generalize icells (cntk zs n i k) = C0 at *
              go_wp2_with fail
              exact ⟨⟨k + 1, by go_num, by omega, Blk.conv (HB.out.set_ k _) (HE.out _ rfl), Hb.out.setCell hgw2 _⟩, by simp [intOf]; omega⟩
            · have e := Lib.hid (Hmiss.out (fun h => h2 h.2))
              go_wp2_with fail
              exact ⟨⟨k + 1, by go_num, by omega, by rw [e.out]; exact HB.out, Hb.out⟩, by simp [intOf]; omega⟩
          · have e := Lib.hid (Hmiss.out (fun h => h1 h.1))
            go_wp2_with fail
            exact ⟨⟨k + 1, by go_num, by omega, by rw [e.out]; exact HB.out, Hb.out⟩, by simp [intOf]; omega⟩
        · obtain rfl : k = n := by omega
          go_wp2_with fail
          exact ⟨⟨i + 1, by go_num, by omega, by rw [← cntk_all]; exact HB.out, Hb.out⟩, by simp [intOf]; omega⟩
    · obtain rfl : i = m := by omega
      have HL3 := Lib.hid (HL2.out.below Hb.out hglw)
      have Hb3 := Lib.hid (Hb2.out.trans (Hb.out.mono (by rw [← Hg.out]; exact Hb2.out.size)))
      have HR1 : Hid (Rd wr 1 (some ⟨gl, 0, none⟩) n (icells (cnts zs n i))) :=
        ⟨by rw [icells_len, cnts_len]; omega, fun _ => ⟨gl, 0, rfl, HL3.out.lt, fun j u hu => by rw [Nat.zero_add, HL3.out.cell j]; simpa using hu⟩⟩
      have HR2 : Hid (Rd wr 1 (some ⟨gw, 0, none⟩) n (icells (cnts zs n i))) :=
        ⟨by rw [icells_len, cnts_len]; omega, fun _ => ⟨gw, 0, rfl, HB.out.lt, fun j u hu => by rw [Nat.zero_add, HB.out.cell j]; simpa using hu⟩⟩
      go_wp2_with fail
      refine (ints_any _ _ n n n _ wr (by omega) HR1.out HR2.out).mono ?_
      rintro e w4 ⟨rfl, hb4⟩
      have Hb4 := Lib.hid (Hb3.out.trans (hb4.mono Hb3.out.size))
      clear hb4
      go_wp2_with fail
      go_ret
      exact ⟨rfl, Hb4.out⟩

theorem wc_any (x : Int) (A : Option Addr) (m cap : Nat) (zs : List Int) (w : World) (hmc : m ≤ 9223372036854775807) (hx : -9223372036854775808 ≤ x ∧ x ≤ 9223372036854775807) (hz : ∀ i, i < m → -9223372036854775808 ≤ zs.getD i 0 ∧ zs.getD i 0 ≤ 9223372036854775807) (hrow : Row w A m 1 (fun i => [.int .i64 (zs.getD i 0)])) :
    Calls Try.prog 4 #[.int .i64 x, .slice A m cap] w fun e w' => e = .returned (.bool true) ∧ Below w.heap.size w w' := by
  by_cases h : 300 < x ∧ x ≤ 65536 ∨ 300 < m
  · exact wc_skip x A m cap w hmc h
  · by_cases h2 : x < 0 ∨ 65536 < x
    · exact wc_out x A m cap w (by omega) h2
    · obtain ⟨n, rfl⟩ : ∃ n : Nat, x = n := ⟨x.toNat, by omega⟩
      exact wc_in n A m cap zs w (by omega) (by omega) hz hrow
end Go.Proofs.Ytpflhgidcjlcjaa
