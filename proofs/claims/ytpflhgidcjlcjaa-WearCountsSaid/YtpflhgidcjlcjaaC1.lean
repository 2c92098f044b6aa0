/- The walks of Count and of WearCounts. -/
import Derived.Test.YtpflhgidcjlcjaaW3
namespace Go.Proofs.Ytpflhgidcjlcjaa
open Go.RowKit
set_option linter.unusedVariables false
set_option linter.unusedSimpArgs false

/-- How often the first i stores write line k. -/
def cnt (zs : List Int) (k : Nat) : Nat → Nat
  | 0 => 0
  | i + 1 => cnt zs k i + if 8 * (k : Int) ≤ zs.getD i 0 ∧ zs.getD i 0 < 8 * (k : Int) + 8 then 1 else 0
/-- What is counted of n lines. -/
def cnts (zs : List Int) (n i : Nat) : List Nat := (List.range n).map fun k => cnt zs k i
theorem cnts_len (zs : List Int) (n i : Nat) : (cnts zs n i).length = n := by simp [cnts]
theorem cnts_getD (zs : List Int) (n i k : Nat) (h : k < n) : (cnts zs n i).getD k 0 = cnt zs k i := by simp [cnts, List.getD_eq_getElem?_getD, h]
theorem cnt_le (zs : List Int) (k i : Nat) : cnt zs k i ≤ i := by
  induction i with
  | zero => exact Nat.le_refl _
  | succ i ih => rw [cnt]; split <;> omega
theorem cnts_zero (zs : List Int) (n : Nat) : cnts zs n 0 = List.replicate n 0 := by
  unfold cnts
  simp only [cnt]
  rw [List.map_const', List.length_range]
/-- A store into line q. -/
theorem cnts_hit (zs : List Int) (n i q : Nat) (hq : q < n) (h1 : 8 * (q : Int) ≤ zs.getD i 0) (h2 : zs.getD i 0 < 8 * (q : Int) + 8) : cnts zs n (i + 1) = bump (cnts zs n i) q := by
  apply List.ext_getElem?
  intro k
  unfold bump
  rw [cnts_getD _ _ _ _ hq]
  simp only [List.getElem?_set]
  by_cases hk : k < n
  · have e1 : (cnts zs n (i + 1))[k]? = some (cnt zs k (i + 1)) := by simp [cnts, hk]
    have e2 : (cnts zs n i)[k]? = some (cnt zs k i) := by simp [cnts, hk]
    rw [e1, e2, cnts_len, cnt]
    by_cases hkq : q = k
    · subst hkq
      rw [if_pos rfl, if_pos hq, if_pos ⟨h1, h2⟩]
    · rw [if_neg hkq, if_neg (by omega)]
      rfl
  · rw [List.getElem?_eq_none (by rw [cnts_len]; omega), List.getElem?_eq_none (by rw [cnts_len]; omega), if_neg (by omega)]
theorem cnts_miss (zs : List Int) (n i : Nat) (h : zs.getD i 0 < 0 ∨ 8 * (n : Int) ≤ zs.getD i 0) : cnts zs n (i + 1) = cnts zs n i := by
  unfold cnts
  apply List.map_congr_left
  intro k hk
  rw [List.mem_range] at hk
  rw [cnt, if_neg (by omega)]
  rfl

def CHead (zs : List Int) (n m gw B : Nat) (w : World) (v : Value) (wr : World) : Prop :=
  ∃ i : Nat, v = .int .i64 i ∧ i ≤ m ∧ Blk wr gw 3 (icells (cnts zs n i)).toArray ∧ Below B w wr

theorem count_no (x : Int) (A : Option Addr) (m cap : Nat) (w : World) (h : x < 0 ∨ 65536 < x) :
    Calls Try.prog 15 #[.int .i64 x, .slice A m cap] w fun e w' => e = .returned (.slice none 0 0) ∧ w = w' := by
  by_cases h1 : x < 0
  · clear h
    go_enter Try.func15, Try.ntmps15
    go_wp2_with fail
    go_ret
    exact ⟨rfl, rfl⟩
  · have h2 : 65536 < x := by omega
    clear h
    go_enter Try.func15, Try.ntmps15
    go_wp2_with fail
    go_ret
    exact ⟨rfl, rfl⟩

set_option maxHeartbeats 1000000 in
theorem count_any (n : Nat) (A : Option Addr) (m cap : Nat) (zs : List Int) (w : World) (hn : n ≤ 65536) (hm : m ≤ 1000000) (hz : ∀ i, i < m → -9223372036854775808 ≤ zs.getD i 0 ∧ zs.getD i 0 ≤ 9223372036854775807) (hrow : Row w A m 1 (fun i => [.int .i64 (zs.getD i 0)])) :
    Calls Try.prog 15 #[.int .i64 n, .slice A m cap] w fun e w' => ∃ gw, e = .returned (.slice (some ⟨gw, 0, none⟩) n n) ∧ Blk w' gw 3 (icells (cnts zs n m)).toArray ∧ Below w.heap.size w w' := by
  have Hrow := Lib.hid hrow
  have Hz := Lib.hid hz
  clear hrow hz
  have hmk := mk31 n n rfl (by omega)
  go_enter Try.func15, Try.ntmps15
  go_wp2_with fail
  obtain ⟨gw, Hg⟩ : ∃ g, Hid (w.heap.size = g) := ⟨_, rfl⟩
  have HH : Hid (Blk (w.alloc (.cells (madeCells #[.int .i64 0] n) 3)) gw 3 (icells (cnts zs n 0)).toArray ∧ Below gw w (w.alloc (.cells (madeCells #[.int .i64 0] n) 3))) := by
    refine ⟨?_, ?_⟩
    · rw [← Hg.out, cnts_zero, ← made_zero]
      exact Blk.new _ _ _
    · rw [← Hg.out]
      exact (Below.refl _ _).alloc (Nat.le_refl _) _
  rw [Hg.out]
  generalize w.alloc _ = w1 at *
  clear hmk
  go_loopw [18] (fun v18 wr => CHead zs n m gw gw w v18 wr) (fun v18 _ => m - (intOf v18).toNat)
  case atStart => exact ⟨0, rfl, Nat.zero_le _, HH.out.1, HH.out.2⟩
  case round =>
    clear HH
    obtain ⟨i, rfl, hi, hB, hb⟩ := hrel
    have HB := Lib.hid hB
    have Hb := Lib.hid hb
    clear hB hb
    by_cases hlt : i < m
    · obtain ⟨b, off, hA, hbl, hcell⟩ := Hrow.out (by omega)
      subst hA
      have hz0 := Hz.out i hlt
      have Hhit : Hid (∀ q, q < n → 8 * (q : Int) ≤ zs.getD i 0 → zs.getD i 0 < 8 * (q : Int) + 8 → cnts zs n (i + 1) = bump (cnts zs n i) q) := fun q h h1 h2 => cnts_hit zs n i q h h1 h2
      have Hmiss : Hid ((zs.getD i 0 < 0 ∨ 8 * (n : Int) ≤ zs.getD i 0) → cnts zs n (i + 1) = cnts zs n i) := cnts_miss zs n i
      have x0 : wr.cell? ⟨b, off + i, none⟩ = some _ := (Hb.out.cell (p := ⟨b, off + i, none⟩) (by rw [← Hg.out]; exact hbl)).trans (by have := hcell i hlt 0 _ rfl; rwa [Nat.mul_one, Nat.add_zero] at this)
      clear hcell
      generalize zs.getD i 0 = x at *
      by_cases hneg : x < 0
      · have e := Lib.hid (Hmiss.out (.inl hneg))
        have hd : decide (0 ≤ x) = false := by simp; omega
        go_wp2_with fail
        exact ⟨⟨i + 1, by go_num, by omega, by rw [e.out]; exact HB.out, Hb.out⟩, by simp [intOf]; omega⟩
      · obtain ⟨X, rfl⟩ : ∃ X : Nat, x = X := ⟨x.toNat, by omega⟩
        obtain ⟨q, hq⟩ : ∃ q, q = X / 8 := ⟨_, rfl⟩
        have hq0 : (X : Int).tdiv 8 = (q : Int) := by rw [hq]; rfl
        have hq1 : 8 * q ≤ X := by omega
        have hq2 : X < 8 * q + 8 := by omega
        clear hq
        by_cases hqn : q < n
        · have e := Lib.hid (Hhit.out q hqn (by omega) (by omega))
          have hc : (cnts zs n i).getD q 0 ≤ i := by rw [cnts_getD _ _ _ _ hqn]; exact cnt_le _ _ _
          have y0 : wr.cell? ⟨gw, q, none⟩ = some (.int .i64 ((cnts zs n i).getD q 0 : Nat)) := by
            rw [HB.out.cell q, List.getElem?_toArray]
            exact icells_at _ _ (by rw [cnts_len]; exact hqn)
          have hfr := HB.out.frozen q
          have hgwl := HB.out.lt
          have hgw2 : gw ≤ gw := Nat.le_refl _
          obtain ⟨y, Hy⟩ : ∃ y, Hid ((cnts zs n i).getD q 0 = y) := ⟨_, rfl⟩
          have HE : Hid (∀ v : Int, v = (y : Int) + 1 → (icells (cnts zs n i)).toArray.setIfInBounds q (.int .i64 v) = (icells (cnts zs n (i + 1))).toArray) := by
            intro v hv
            rw [e.out]
            exact icells_bump _ _ (by rw [Hy.out]; exact hv)
          rw [Hy.out] at y0 hc
          clear Hy e
          generalize icells (cnts zs n i) = C0 at *
          go_wp2_with fail
          exact ⟨⟨i + 1, by go_num, by omega, Blk.conv (HB.out.set_ q _) (HE.out _ (by go_num)), Hb.out.setCell hgw2 _⟩, by simp [intOf]; omega⟩
        · have e := Lib.hid (Hmiss.out (.inr (by omega)))
          go_wp2_with fail
          exact ⟨⟨i + 1, by go_num, by omega, by rw [e.out]; exact HB.out, Hb.out⟩, by simp [intOf]; omega⟩
    · obtain rfl : i = m := by omega
      go_wp2_with fail
      go_ret
      exact ⟨gw, rfl, HB.out, by rw [Hg.out]; exact Hb.out⟩
end Go.Proofs.Ytpflhgidcjlcjaa
