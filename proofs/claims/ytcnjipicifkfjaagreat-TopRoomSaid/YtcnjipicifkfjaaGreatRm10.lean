/- Bits of words, in plain words; sets of addresses. -/
import Derived.Test.YtcnjipicifkfjaaGreatRm07
import Derived.Test.YtcnjipicifkfjaaGreatRm01
import Derived.Test.YtcnjipicifkfjaaGreatRm09
import Derived.Test.YtcnjipicifkfjaaGreatRm06

namespace Go.Proofs.YtcnjipicifkfjaaGreat
open Go.RowKit
set_option linter.unusedVariables false
set_option linter.unusedSimpArgs false

theorem bits_and64 (a b : Nat) (ha : a < 18446744073709551616) (hb : b < 18446744073709551616) : bits .and .u64 a b = ((a &&& b : Nat) : Int) := (bits_nat .u64 64 (by decide) wraps_u64 a b ha hb).1
theorem bits_or64 (a b : Nat) (ha : a < 18446744073709551616) (hb : b < 18446744073709551616) : bits .or .u64 a b = ((a ||| b : Nat) : Int) := (bits_nat .u64 64 (by decide) wraps_u64 a b ha hb).2
theorem bits_andNot64 (a b : Nat) (ha : a < 18446744073709551616) (hb : b < 18446744073709551616) : bits .andNot .u64 a b = ((a &&& (18446744073709551615 - b) : Nat) : Int) := by
  have ha' : a % 18446744073709551616 = a := Nat.mod_eq_of_lt ha
  have hb' : b % 18446744073709551616 = b := Nat.mod_eq_of_lt hb
  have e : IntKind.u64.bits = 64 := rfl
  simp only [bits, BitVec.ofInt_natCast, BitVec.toNat_and, BitVec.toNat_not, BitVec.toNat_ofNat]
  simp only [e, Nat.reducePow, ha', hb']
  exact wraps_u64 _ (Int.natCast_nonneg _) (by exact_mod_cast Nat.lt_of_le_of_lt Nat.and_le_left ha)

/-- Is an address in the set of these words? -/
def bitAt (L : List Nat) (i : Nat) : Bool := (L.getD (i / 64) 0).testBit (i % 64)
theorem getD_set_eq (L : List Nat) (i v d : Nat) (h : i < L.length) : (L.set i v).getD i d = v := by
  simp [List.getD_eq_getElem?_getD, h]
theorem getD_set_ne (L : List Nat) (i j v d : Nat) (h : i ≠ j) : (L.set i v).getD j d = L.getD j d := by
  simp [List.getD_eq_getElem?_getD, List.getElem?_set_ne h]
theorem bitAt_add (L : List Nat) (i j : Nat) (h : i / 64 < L.length) : bitAt (L.set (i / 64) (L.getD (i / 64) 0 ||| 2 ^ (i % 64))) j = (decide (j = i) || bitAt L j) := by
  unfold bitAt
  by_cases hd : i / 64 = j / 64
  · rw [hd, getD_set_eq _ _ _ _ (by rw [← hd]; exact h), Nat.testBit_or, Nat.testBit_two_pow, Bool.or_comm]
    congr 1
    rw [decide_eq_decide]
    omega
  · rw [getD_set_ne _ _ _ _ _ hd]
    have : decide (j = i) = false := by rw [decide_eq_false_iff_not]; rintro rfl; exact hd rfl
    rw [this, Bool.false_or]
theorem bitAt_drop (L : List Nat) (i j : Nat) (h : i / 64 < L.length) (hl : L.getD (i / 64) 0 < 18446744073709551616) : bitAt (L.set (i / 64) (L.getD (i / 64) 0 &&& (18446744073709551615 - 2 ^ (i % 64)))) j = (!decide (j = i) && bitAt L j) := by
  unfold bitAt
  by_cases hd : i / 64 = j / 64
  · have hp : 2 ^ (i % 64) < 2 ^ 64 := Nat.pow_lt_pow_right (by decide) (Nat.mod_lt _ (by decide))
    have e : 18446744073709551615 - 2 ^ (i % 64) = 2 ^ 64 - (2 ^ (i % 64) + 1) := by omega
    have hj : decide (j % 64 < 64) = true := by rw [decide_eq_true_eq]; exact Nat.mod_lt _ (by decide)
    rw [hd, getD_set_eq _ _ _ _ (by rw [← hd]; exact h), Nat.testBit_and, e, Nat.testBit_two_pow_sub_succ hp, Nat.testBit_two_pow, hj, Bool.true_and, Bool.and_comm]
    congr 2
    rw [decide_eq_decide]
    omega
  · rw [getD_set_ne _ _ _ _ _ hd]
    have : decide (j = i) = false := by rw [decide_eq_false_iff_not]; rintro rfl; exact hd rfl
    rw [this, Bool.not_false, Bool.true_and]
theorem shl1_u64 (r : Nat) (h : r < 64) : IntKind.u64.wrap (1 * 2 ^ r) = ((2 ^ r : Nat) : Int) := by
  have hp : 2 ^ r < 2 ^ 64 := Nat.pow_lt_pow_right (by decide) h
  have hp2 : ((2 ^ r : Nat) : Int) < ((18446744073709551616 : Nat) : Int) := Int.ofNat_lt.2 hp
  rw [IntKind.wrap_u64, show (1 : Int) * 2 ^ r = ((2 ^ r : Nat) : Int) by rw [Int.one_mul, Int.natCast_pow]; rfl]
  exact Int.emod_eq_of_lt (Int.natCast_nonneg _) hp2
theorem shr_bit (x r : Nat) : (x / 2 ^ r &&& 1 = 1) ↔ x.testBit r = true := by
  rw [Nat.testBit_eq_decide_div_mod_eq, decide_eq_true_eq, Nat.and_one_is_mod]
theorem or_lt64 (a b : Nat) (ha : a < 18446744073709551616) (hb : b < 18446744073709551616) : a ||| b < 18446744073709551616 := Nat.or_lt_two_pow (n := 64) ha hb

/-- The least one of a word that isn't nought. -/
theorem low_form : ∀ n : Nat, 0 < n → ∃ i q, n = 2 ^ i * (2 * q + 1) := by
  intro n
  induction n using Nat.strongRecOn with
  | ind n ih =>
    intro h0
    rcases Nat.mod_two_eq_zero_or_one n with h | h
    · obtain ⟨i, q, e⟩ := ih (n / 2) (by omega) (by omega)
      refine ⟨i + 1, q, ?_⟩
      rw [Nat.pow_succ]
      have : n = 2 * (n / 2) := by omega
      rw [this, e, Nat.mul_comm (2 ^ i) 2, Nat.mul_assoc]
    · exact ⟨0, n / 2, by rw [Nat.pow_zero]; omega⟩
theorem low_bits (i q j : Nat) : (2 ^ i * (2 * q + 1)).testBit j = (decide (i ≤ j) && (2 * q + 1).testBit (j - i)) := by
  rw [Nat.testBit_two_pow_mul]
theorem low_at (i q : Nat) : (2 ^ i * (2 * q + 1)).testBit i = true := by
  rw [low_bits]; simp
theorem low_before (i q j : Nat) (h : j < i) : (2 ^ i * (2 * q + 1)).testBit j = false := by
  rw [low_bits, decide_eq_false (by omega), Bool.false_and]
theorem low_lt (i q : Nat) (h : 2 ^ i * (2 * q + 1) < 18446744073709551616) : i < 64 ∧ 2 ^ i < 18446744073709551616 := by
  have h2 : 2 ^ i * 1 ≤ 2 ^ i * (2 * q + 1) := Nat.mul_le_mul_left _ (by omega)
  have h3 : 2 ^ i < 2 ^ 64 := by omega
  exact ⟨(Nat.pow_lt_pow_iff_right (by decide)).1 h3, h3⟩
theorem low_and (i q : Nat) (h : 2 ^ i * (2 * q + 1) < 18446744073709551616) : 2 ^ i * (2 * q + 1) &&& (18446744073709551616 - 2 ^ i * (2 * q + 1)) = 2 ^ i := by
  obtain ⟨hi, _⟩ := low_lt i q h
  have h0 : 0 < 2 ^ i * (2 * q + 1) := Nat.mul_pos (Nat.two_pow_pos i) (by omega)
  have e : 18446744073709551616 - 2 ^ i * (2 * q + 1) = 2 ^ 64 - ((2 ^ i * (2 * q + 1) - 1) + 1) := by omega
  have e2 : 2 ^ i * (2 * q + 1) - 1 = 2 ^ i * (2 * q) + (2 ^ i - 1) := by
    have := Nat.two_pow_pos i
    rw [Nat.mul_add, Nat.mul_one]
    omega
  apply Nat.eq_of_testBit_eq
  intro j
  rw [e, Nat.testBit_and, Nat.testBit_two_pow_sub_succ (by omega), e2, Nat.testBit_two_pow, low_bits]
  have hlt : 2 ^ i - 1 < 2 ^ i := by have := Nat.two_pow_pos i; omega
  rw [Nat.testBit_two_pow_mul_add _ hlt]
  rcases Nat.lt_trichotomy j i with hj | hj | hj
  · rw [decide_eq_false (by omega : ¬ i ≤ j), decide_eq_false (by omega : ¬ i = j)]; simp
  · subst hj; simp; omega
  · rw [decide_eq_false (by omega : ¬ i = j), if_neg (by omega)]
    obtain ⟨k, hk⟩ : ∃ k, j - i = k + 1 := ⟨j - i - 1, by omega⟩
    rw [hk]
    have h1 : (2 * q + 1).testBit (k + 1) = q.testBit k := by rw [Nat.testBit_succ]; congr 1; omega
    have h2 : (2 * q).testBit (k + 1) = q.testBit k := by rw [Nat.testBit_succ]; congr 1; omega
    rw [h1, h2]
    cases q.testBit k <;> simp
theorem neg_u64 (x : Nat) (h0 : 0 < x) (h : x < 18446744073709551616) : IntKind.u64.wrap (-(x : Int)) = ((18446744073709551616 - x : Nat) : Int) := by
  rw [IntKind.wrap_u64]; omega

/-- The masked word: what is ahead of a bit is gone. -/
theorem mask_bit (x r j : Nat) : (x / 2 ^ r * 2 ^ r).testBit j = (decide (r ≤ j) && x.testBit j) := by
  rw [Nat.testBit_mul_two_pow]
  by_cases h : r ≤ j
  · rw [Nat.testBit_div_two_pow]
    congr 2
    omega
  · rw [decide_eq_false h]; simp
theorem mask_lt (x r : Nat) (h : x < 18446744073709551616) : x / 2 ^ r * 2 ^ r < 18446744073709551616 := Nat.lt_of_le_of_lt (Nat.div_mul_le_self _ _) h
theorem mask_u64 (x r : Nat) (h : x < 18446744073709551616) : IntKind.u64.wrap ((x : Int) / 2 ^ r * 2 ^ r) = ((x / 2 ^ r * 2 ^ r : Nat) : Int) := by
  have := mask_lt x r h
  rw [show (x : Int) / 2 ^ r * 2 ^ r = ((x / 2 ^ r * 2 ^ r : Nat) : Int) by simp, IntKind.wrap_u64]
  omega

/-- The least one of a set from an address on. -/
def NextS (s : Nat → Bool) (a x : Nat) (ok : Bool) : Prop :=
  (ok = true ∧ a ≤ x ∧ s x = true ∧ ∀ j, a ≤ j → j < x → s j = false) ∨ (ok = false ∧ x = 0 ∧ ∀ j, a ≤ j → s j = false)
theorem bitAt_out (L : List Nat) (i : Nat) (h : L.length * 64 ≤ i) : bitAt L i = false := by
  unfold bitAt
  rw [List.getD_eq_getElem?_getD, List.getElem?_eq_none (by omega)]
  simp
end Go.Proofs.YtcnjipicifkfjaaGreat

/- bitmap: New, in, Has, Add, Drop, Clear, Len. -/
namespace Go.Proofs.YtcnjipicifkfjaaGreat
open Go.RowKit
set_option linter.unusedVariables false
set_option linter.unusedSimpArgs false

/-- A set of addresses at block p: n words; s tells which are in it; its blocks are of F. -/
def SetR (w : World) (F : Nat → Prop) (p n : Nat) (s : Nat → Bool) : Prop :=
  ∃ (g cap : Nat) (L : List Nat) (many : Int), Blk w p 155 #[.slice (some ⟨g, 0, none⟩) n cap, .int .i64 ((64 * n : Nat) : Int), .int .i64 many] ∧ Own w 0 28 1 (some ⟨g, 0, none⟩) n cap (wcells L) ∧ lt64 L ∧ (∀ i, s i = bitAt L i) ∧ F p ∧ F g
section
variable {w w' : World} {F F' S : Nat → Prop} {p n : Nat} {s s' : Nat → Bool}
theorem SetR.mod (h : SetR w F p n s) (m : Mod w w' S) (hs : ∀ k, F k → ¬ S k) : SetR w' F p n s := by
  obtain ⟨g, cap, L, many, hb, ho, h1, h2, h3, h4⟩ := h
  exact ⟨g, cap, L, many, m.blk hb (hs _ h3), ho.mod m (fun a ha => by cases ha; exact hs _ h4), h1, h2, h3, h4⟩
theorem SetR.weak (h : SetR w F p n s) (hF : ∀ k, k < w.heap.size → F k → F' k) : SetR w F' p n s := by
  obtain ⟨g, cap, L, many, hb, ho, h1, h2, h3, h4⟩ := h
  exact ⟨g, cap, L, many, hb, ho, h1, h2, hF _ hb.lt h3, hF _ (ho.lt _ rfl).2 h4⟩
theorem SetR.below {B : Nat} (h : SetR w F p n s) (hb : Below B w w') (hB : w.heap.size ≤ B) : SetR w' F p n s := by
  obtain ⟨g, cap, L, many, hb0, ho, h1, h2, h3, h4⟩ := h
  exact ⟨g, cap, L, many, hb0.below hb (Nat.lt_of_lt_of_le hb0.lt hB), ho.below hb hB, h1, h2, h3, h4⟩
theorem SetR.drewN (h : SetR w F p n s) (q : Nat) : SetR (w.drewN q) F p n s := by
  obtain ⟨g, cap, L, many, hb, ho, h1⟩ := h
  exact ⟨g, cap, L, many, hb, ho.drewN q, h1⟩
theorem SetR.out (h : SetR w F p n s) (i : Nat) (hi : 64 * n ≤ i) : s i = false := by
  obtain ⟨g, cap, L, many, hb, ho, h1, h2, h3, h4⟩ := h
  rw [h2]
  exact bitAt_out L i (by have := ho.len; rw [wcells_len] at this; omega)
theorem SetR.conv (h : SetR w F p n s) (e : ∀ i, s i = s' i) : SetR w F p n s' := by
  obtain ⟨g, cap, L, many, hb, ho, h1, h2, h3, h4⟩ := h
  exact ⟨g, cap, L, many, hb, ho, h1, fun i => (e i).symm.trans (h2 i), h3, h4⟩
end

theorem in_any (F : Nat → Prop) (p n at_ : Nat) (s : Nat → Bool) (w : World) (h : SetR w F p n s) (hn : n ≤ 100000) :
    Calls Tryz.prog 101 #[.pointer (some ⟨p, 0, none⟩), .int .i64 at_] w fun e w' => e = .returned (.bool (decide (at_ < 64 * n))) ∧ w = w' := by
  obtain ⟨g, cap, L, many, hb, ho, _⟩ := h
  have c1 : w.cell? ⟨p, 1, none⟩ = some (.int .i64 ((64 * n : Nat) : Int)) := hb.cell 1
  clear hb ho
  obtain ⟨q, Hq⟩ : ∃ q, Hid (64 * n = q) := ⟨_, rfl⟩
  rw [Hq.out] at c1 ⊢
  have h0 : decide ((at_ : Int) ≥ 0) = true := by rw [decide_eq_true_eq]; omega
  by_cases hlt : at_ < q
  · have e : decide (at_ < q) = true := decide_eq_true hlt
    rw [e]
    go_enter Tryz.func101, Tryz.ntmps101
    go_wp2_with fail
    go_ret
    exact ⟨rfl, rfl⟩
  · have e : decide (at_ < q) = false := decide_eq_false hlt
    rw [e]
    go_enter Tryz.func101, Tryz.ntmps101
    go_wp2_with fail
    go_ret
    exact ⟨rfl, rfl⟩

theorem bhas_any (F : Nat → Prop) (p n at_ : Nat) (s : Nat → Bool) (w : World) (h : SetR w F p n s) (hn : n ≤ 100000) (ha : at_ ≤ 1000000000000000) :
    Calls Tryz.prog 102 #[.pointer (some ⟨p, 0, none⟩), .int .i64 at_] w fun e w' => e = .returned (.bool (s at_)) ∧ w = w' := by
  have Hin := Lib.hid (in_any F p n at_ s w h hn)
  have hout := h.out at_
  obtain ⟨g, cap, L, many, hb, ho, hlt, hs, _⟩ := h
  have c0 : w.cell? ⟨p, 0, none⟩ = some (.slice (some ⟨g, 0, none⟩) n cap) := hb.cell 0
  have hl : L.length = n := by have := ho.len; rw [wcells_len] at this; omega
  by_cases hlt2 : at_ < 64 * n
  · have hx : w.cell? ⟨g, at_ / 64, none⟩ = some (.int .u64 (L.getD (at_ / 64) 0 : Nat)) := by
      obtain ⟨_, e, _, _, _, _, hx, _⟩ := ho.at_ (by omega)
      cases e
      exact hx _ _ (wcells_at L _ (by omega))
    have hd : at_ / 64 < n := by omega
    have hv := hlt (at_ / 64)
    have e : decide (at_ < 64 * n) = true := decide_eq_true hlt2
    rw [e] at Hin
    have hS : s at_ = (L.getD (at_ / 64) 0).testBit (at_ % 64) := hs at_
    have hr : at_ % 64 < 64 := Nat.mod_lt _ (by decide)
    have hbit := shr_bit (L.getD (at_ / 64) 0) (at_ % 64)
    have hand := bits_and64 (L.getD (at_ / 64) 0 / 2 ^ (at_ % 64)) 1 (Nat.lt_of_le_of_lt (Nat.div_le_self _ _) hv) (by omega)
    generalize L.getD (at_ / 64) 0 = v at *
    have hquo : (at_ : Int) / 64 = ((at_ / 64 : Nat) : Int) := by omega
    have hrem : (at_ : Int) % 64 = ((at_ % 64 : Nat) : Int) := by omega
    generalize at_ / 64 = d at *
    generalize at_ % 64 = r at *
    rw [show (((v / 2 ^ r : Nat) : Int)) = (v : Int) / 2 ^ r by simp] at hand
    have hand : bits .and .u64 ((v : Int) / 2 ^ r) 1 = ((v / 2 ^ r &&& 1 : Nat) : Int) := hand
    rw [hS]
    have hw : IntKind.u64.wrap (r : Int) = (r : Int) := by rw [IntKind.wrap_u64]; omega
    have hfin : (((v / 2 ^ r &&& 1 : Nat) : Int) == 1) = v.testBit r := by
      rw [Bool.eq_iff_iff, ← hbit, beq_iff_eq]
      omega
    have Hfin := Lib.hid hfin
    have Hand := Lib.hid hand
    clear hb ho hs hlt hout hbit hlt2 hl hfin hand hS e
    go_enter Tryz.func102, Tryz.ntmps102
    go_wp2_with (go_at_call 101; refine Hin.out.mono ?_; rintro e w' ⟨rfl, rfl⟩)
    go_ret
    exact ⟨ret_bool (by rw [Hand.out]; exact Hfin.out), rfl⟩
  · have e : decide (at_ < 64 * n) = false := decide_eq_false hlt2
    rw [e] at Hin
    rw [hout (by omega)]
    clear hb ho hs hlt hout hlt2 e
    go_enter Tryz.func102, Tryz.ntmps102
    go_wp2_with (go_at_call 101; refine Hin.out.mono ?_; rintro e w' ⟨rfl, rfl⟩)
    go_ret
    exact ⟨rfl, rfl⟩

theorem len_set (F : Nat → Prop) (p n : Nat) (s : Nat → Bool) (w : World) (h : SetR w F p n s) :
    Calls Tryz.prog 125 #[.pointer (some ⟨p, 0, none⟩)] w fun e w' => (∃ k : Int, e = .returned (.int .i64 k)) ∧ w = w' := by
  obtain ⟨g, cap, L, many, hb, ho, _⟩ := h
  have c2 : w.cell? ⟨p, 2, none⟩ = some (.int .i64 many) := hb.cell 2
  clear hb ho
  go_enter Tryz.func125, Tryz.ntmps125
  go_wp2_with fail
  go_ret
  exact ⟨⟨_, rfl⟩, rfl⟩
/-- A word and the count of a set stored over. -/
theorem SetR.put {w : World} {F : Nat → Prop} {p n : Nat} {s' : Nat → Bool} {g cap : Nat} {L : List Nat} {many : Int} (hb : Blk w p 155 #[.slice (some ⟨g, 0, none⟩) n cap, .int .i64 ((64 * n : Nat) : Int), .int .i64 many])
    (ho : Own w 0 28 1 (some ⟨g, 0, none⟩) n cap (wcells L)) (hlt : lt64 L) (hp : F p) (hg : F g) (d v : Nat) (hd : d < n) (hv : v < 18446744073709551616) (k : Int) (hs : ∀ i, s' i = bitAt (L.set d v) i) :
    SetR ((w.setCell ⟨g, d, none⟩ (.int .u64 (v : Nat))).setCell ⟨p, 2, none⟩ (.int .i64 k)) F p n s' ∧ Mod w ((w.setCell ⟨g, d, none⟩ (.int .u64 (v : Nat))).setCell ⟨p, 2, none⟩ (.int .i64 k)) F := by
  have hne : ∀ a, some (⟨g, 0, none⟩ : Addr) = some a → a.block ≠ p := ho.ne hb (by decide)
  have hgp : g ≠ p := hne _ rfl
  have m1 : Mod w (w.setCell ⟨g, d, none⟩ (.int .u64 (v : Nat))) (fun k => k = g) := Mod.set (p := ⟨g, d, none⟩) (Mod.refl w (fun k => k = g)) (.inr rfl) _
  have m2 : Mod (w.setCell ⟨g, d, none⟩ (.int .u64 (v : Nat))) ((w.setCell ⟨g, d, none⟩ (.int .u64 (v : Nat))).setCell ⟨p, 2, none⟩ (.int .i64 k)) (fun k => k = p) := Mod.set (p := ⟨p, 2, none⟩) (Mod.refl _ (fun k => k = p)) (.inr rfl) _
  refine ⟨⟨g, cap, L.set d v, k, ?_, ?_, hlt.set d hv, hs, hp, hg⟩, ?_⟩
  · exact Blk.conv ((m1.blk hb (fun e => hgp e.symm)).set_ 2 (.int .i64 k)) (by simp)
  · have := ho.set_ (j := d) (by omega) (.int .u64 (v : Nat))
    rw [wcells_set] at this
    exact this.mod m2 (fun a ha => by cases ha; exact hgp)
  · exact (m1.mono (S' := F) (fun k _ e => by rw [e]; exact hg)).trans m2 (fun k _ e => by rw [e]; exact hp)

theorem badd_any (F : Nat → Prop) (p n at_ : Nat) (s : Nat → Bool) (w : World) (h : SetR w F p n s) (hn : n ≤ 100000) (ha : at_ ≤ 1000000000000000) :
    Calls Tryz.prog 47 #[.pointer (some ⟨p, 0, none⟩), .int .i64 at_] w fun e w' => e = .returned (.bool (decide (at_ < 64 * n) && !s at_)) ∧ SetR w' F p n (fun i => s i || (decide (i = at_) && decide (at_ < 64 * n))) ∧ Mod w w' F := by
  have Hin := Lib.hid (in_any F p n at_ s w h hn)
  have Hhas := Lib.hid (bhas_any F p n at_ s w h hn ha)
  by_cases hlt2 : at_ < 64 * n
  · have e : decide (at_ < 64 * n) = true := decide_eq_true hlt2
    rw [e] at Hin ⊢
    cases hsa : s at_ with
    | true =>
      rw [hsa] at Hhas
      have HR : Hid (SetR w F p n (fun i => s i || (decide (i = at_) && true))) := h.conv (fun i => by by_cases hi : i = at_ <;> simp [hi, hsa])
      clear h hsa hlt2 e
      go_enter Tryz.func47, Tryz.ntmps47
      go_wp2_with (first
        | (go_at_call 101; refine Hin.out.mono ?_; rintro e w' ⟨rfl, rfl⟩)
        | (go_at_call 102; refine Hhas.out.mono ?_; rintro e w' ⟨rfl, rfl⟩))
      go_ret
      exact ⟨rfl, HR.out, Mod.refl _ _⟩
    | false =>
      rw [hsa] at Hhas
      obtain ⟨g, cap, L, many, hb, ho, hlt, hs, hF1, hF2⟩ := h
      have c0 : w.cell? ⟨p, 0, none⟩ = some (.slice (some ⟨g, 0, none⟩) n cap) := hb.cell 0
      have c2 : w.cell? ⟨p, 2, none⟩ = some (.int .i64 many) := hb.cell 2
      have f2 := hb.frozen 2
      have hl : L.length = n := by have := ho.len; rw [wcells_len] at this; omega
      obtain ⟨_, e2, _, _, _, _, hx, hfz⟩ := ho.at_ (by omega)
      cases e2
      have x0 := hx (at_ / 64) _ (wcells_at L _ (by omega))
      have x1 := hfz (at_ / 64)
      have hv := hlt (at_ / 64)
      have hr : at_ % 64 < 64 := Nat.mod_lt _ (by decide)
      have hpow : 2 ^ (at_ % 64) < 18446744073709551616 := (Nat.pow_lt_pow_right (by decide) hr : 2 ^ (at_ % 64) < 2 ^ 64)
      have HR := Lib.hid (SetR.put (s' := fun i => s i || (decide (i = at_) && true)) hb ho hlt hF1 hF2 (at_ / 64) (L.getD (at_ / 64) 0 ||| 2 ^ (at_ % 64)) (by omega) (or_lt64 _ _ hv hpow) (wrap64 (many + 1)) (fun i => by
        rw [bitAt_add L at_ i (by omega), hs i, Bool.and_true, Bool.or_comm]))
      have hd : at_ / 64 < n := by omega
      have hquo : (at_ : Int) / 64 = ((at_ / 64 : Nat) : Int) := by omega
      have hrem : (at_ : Int) % 64 = ((at_ % 64 : Nat) : Int) := by omega
      have hgp : ¬ g = p := ho.ne hb (by decide) _ rfl
      have hpg : ¬ p = g := fun e => hgp e.symm
      have hor := bits_or64 (L.getD (at_ / 64) 0) (2 ^ (at_ % 64)) hv hpow
      generalize L.getD (at_ / 64) 0 = v at *
      generalize at_ / 64 = d at *
      have hw : IntKind.u64.wrap ((at_ % 64 : Nat) : Int) = ((at_ % 64 : Nat) : Int) := by rw [IntKind.wrap_u64]; omega
      have hsh := shl1_u64 (at_ % 64) hr
      rw [Int.one_mul] at hsh
      generalize at_ % 64 = r at *
      generalize 2 ^ r = pw at *
      have hcap : n ≤ cap := by
        rcases ho.form with ⟨h0, _⟩ | ⟨_, _, e, _, _, h3, _⟩
        · cases h0
        · exact h3
      clear hb ho hlt hs hsa e hlt2 hx hfz
      go_enter Tryz.func47, Tryz.ntmps47
      go_wp2_with (first
        | (go_at_call 101; refine Hin.out.mono ?_; rintro e w' ⟨rfl, rfl⟩)
        | (go_at_call 102; refine Hhas.out.mono ?_; rintro e w' ⟨rfl, rfl⟩))
      go_ret
      exact ⟨rfl, HR.out⟩
  · have e : decide (at_ < 64 * n) = false := decide_eq_false hlt2
    rw [e] at Hin ⊢
    have HR : Hid (SetR w F p n (fun i => s i || (decide (i = at_) && false))) := h.conv (fun i => by simp)
    clear h hlt2 e
    go_enter Tryz.func47, Tryz.ntmps47
    go_wp2_with (go_at_call 101; refine Hin.out.mono ?_; rintro e w' ⟨rfl, rfl⟩)
    go_ret
    exact ⟨by simp, HR.out, Mod.refl _ _⟩

theorem bdrop_any (F : Nat → Prop) (p n at_ : Nat) (s : Nat → Bool) (w : World) (h : SetR w F p n s) (hn : n ≤ 100000) (ha : at_ ≤ 1000000000000000) :
    Calls Tryz.prog 62 #[.pointer (some ⟨p, 0, none⟩), .int .i64 at_] w fun e w' => e = .returned (.bool (s at_)) ∧ SetR w' F p n (fun i => !decide (i = at_) && s i) ∧ Mod w w' F := by
  have Hhas := Lib.hid (bhas_any F p n at_ s w h hn ha)
  have hout := h.out at_
  cases hsa : s at_ with
  | false =>
    rw [hsa] at Hhas
    have HR : Hid (SetR w F p n (fun i => !decide (i = at_) && s i)) := h.conv (fun i => by by_cases hi : i = at_ <;> simp [hi, hsa])
    clear h hsa hout
    go_enter Tryz.func62, Tryz.ntmps62
    go_wp2_with (go_at_call 102; refine Hhas.out.mono ?_; rintro e w' ⟨rfl, rfl⟩)
    go_ret
    exact ⟨rfl, HR.out, Mod.refl _ _⟩
  | true =>
    rw [hsa] at Hhas
    have hlt2 : at_ < 64 * n := by
      rcases Nat.lt_or_ge at_ (64 * n) with h1 | h1
      · exact h1
      · rw [hout h1] at hsa; cases hsa
    obtain ⟨g, cap, L, many, hb, ho, hlt, hs, hF1, hF2⟩ := h
    have c0 : w.cell? ⟨p, 0, none⟩ = some (.slice (some ⟨g, 0, none⟩) n cap) := hb.cell 0
    have c2 : w.cell? ⟨p, 2, none⟩ = some (.int .i64 many) := hb.cell 2
    have f2 := hb.frozen 2
    have hl : L.length = n := by have := ho.len; rw [wcells_len] at this; omega
    obtain ⟨_, e2, _, _, _, _, hx, hfz⟩ := ho.at_ (by omega)
    cases e2
    have x0 := hx (at_ / 64) _ (wcells_at L _ (by omega))
    have x1 := hfz (at_ / 64)
    have hv := hlt (at_ / 64)
    have hr : at_ % 64 < 64 := Nat.mod_lt _ (by decide)
    have hpow : 2 ^ (at_ % 64) < 18446744073709551616 := (Nat.pow_lt_pow_right (by decide) hr : 2 ^ (at_ % 64) < 2 ^ 64)
    have HR := Lib.hid (SetR.put (s' := fun i => !decide (i = at_) && s i) hb ho hlt hF1 hF2 (at_ / 64) (L.getD (at_ / 64) 0 &&& (18446744073709551615 - 2 ^ (at_ % 64))) (by omega) (Nat.lt_of_le_of_lt Nat.and_le_left hv) (wrap64 (many - 1)) (fun i => by
      rw [bitAt_drop L at_ i (by omega) hv, hs i]))
    have hd : at_ / 64 < n := by omega
    have hquo : (at_ : Int) / 64 = ((at_ / 64 : Nat) : Int) := by omega
    have hrem : (at_ : Int) % 64 = ((at_ % 64 : Nat) : Int) := by omega
    have hgp : ¬ g = p := ho.ne hb (by decide) _ rfl
    have hpg : ¬ p = g := fun e => hgp e.symm
    have hor := bits_andNot64 (L.getD (at_ / 64) 0) (2 ^ (at_ % 64)) hv hpow
    generalize L.getD (at_ / 64) 0 = v at *
    generalize at_ / 64 = d at *
    have hw : IntKind.u64.wrap ((at_ % 64 : Nat) : Int) = ((at_ % 64 : Nat) : Int) := by rw [IntKind.wrap_u64]; omega
    have hsh := shl1_u64 (at_ % 64) hr
    rw [Int.one_mul] at hsh
    generalize at_ % 64 = r at *
    generalize 2 ^ r = pw at *
    generalize v &&& (18446744073709551615 - pw) = nv at *
    have hcap : n ≤ cap := by
      rcases ho.form with ⟨h0, _⟩ | ⟨_, _, e, _, _, h3, _⟩
      · cases h0
      · exact h3
    clear hb ho hlt hs hsa hlt2 hx hfz hout
    go_enter Tryz.func62, Tryz.ntmps62
    go_wp2_with (go_at_call 102; refine Hhas.out.mono ?_; rintro e w' ⟨rfl, rfl⟩)
    go_ret
    exact ⟨rfl, HR.out⟩

theorem bnew_any (n : Nat) (w : World) (hn0 : 0 < n) (hn : n ≤ 10000) :
    Calls Tryz.prog 42 #[.int .i64 ((64 * n : Nat) : Int)] w fun e w' => ∃ p, e = .returned (.pointer (some ⟨p, 0, none⟩)) ∧ SetR w' (fun k => w.heap.size ≤ k) p n (fun _ => false) ∧ Below w.heap.size w w' := by
  have hup := up_pos (64 * n) 64
  have e1 : (64 * n - 1) / 64 + 1 = n := by omega
  rw [e1] at hup
  have Hup := Lib.hid (fun w => hup w (by omega) (by omega) (by omega) (by omega))
  have hmk := mk22 n (by omega)
  obtain ⟨g, Hg⟩ : ∃ g, Hid (w.heap.size = g) := ⟨_, rfl⟩
  have L1 := Lib.hid ((Loc.nil Nob w).alloc (.cells (madeCells #[.int .u64 0] n) 28))
  have HO1 := Lib.hid ((own_madeW w 0 n g Hg.out (Nat.zero_le _) (by omega)).base_ (Nat.zero_le _))
  clear hup e1
  have HR : Hid (∀ w1 q, w1.heap.size = q → g < q → Own w1 0 28 1 (some ⟨g, 0, none⟩) n n (wcells (zerosN n)) → SetR (w1.alloc (.cells #[.slice (some ⟨g, 0, none⟩) n n, .int .i64 ((64 * n : Nat) : Int), .int .i64 0] 155)) (fun k => g ≤ k) q n (fun _ => false)) := by
    intro w1 q hq hgq hO
    refine ⟨g, n, zerosN n, 0, by rw [← hq]; exact Blk.new w1 155 _, hO.alloc _, lt64.zeros n, fun i => ?_, Nat.le_of_lt hgq, Nat.le_refl _⟩
    unfold bitAt zerosN
    rw [List.getD_eq_getElem?_getD, List.getElem?_replicate]
    split <;> simp
  have hmax : max (((64 * n : Nat) : Int)) 0 = ((64 * n : Nat) : Int) := by omega
  generalize 64 * n = N at *
  go_enter Tryz.func42, Tryz.ntmps42
  go_wp2_with (go_at_call 67; refine (Hup.out _).mono ?_; rintro e w' ⟨rfl, rfl⟩)
  go_ret
  have hs1 : (w.alloc (.cells (madeCells #[.int .u64 0] n) 28)).heap.size = g + 1 := by rw [World.size_alloc, Hg.out]
  refine ⟨_, rfl, ?_, ?_⟩
  · have := HR.out _ (g + 1) hs1 (by omega) HO1.out
    rw [Hg.out]
    exact this
  · exact (L1.out.alloc _).below
end Go.Proofs.YtcnjipicifkfjaaGreat

/- free: New; cells: Address, At; alloc: carve. -/
namespace Go.Proofs.YtcnjipicifkfjaaGreat
open Go.RowKit
set_option linter.unusedVariables false
set_option linter.unusedSimpArgs false

theorem fcells_nil (k mb : Nat) : fcells k (.slice none 0 0) mb = ((List.replicate 32 (Value.slice none 0 0)) ++ [Value.map (some mb)]).toArray := by
  unfold fcells
  have h : (fun j => if j = k then Value.slice none 0 0 else Value.slice none 0 0) = fun _ => Value.slice none 0 0 := by funext j; simp
  rw [h]
  rfl
set_option maxRecDepth 100000 in
theorem fnew_any (k : Nat) (w : World) (hk : k < 32) :
    Calls Tryz.prog 140 #[] w fun e w' => ∃ f, e = .returned (.pointer (some ⟨f, 0, none⟩)) ∧ FreeR w' (fun b => w.heap.size ≤ b) f k [] (fun _ => []) ∧ Below w.heap.size w w' := by
  have hmm := @run_makeMap Tryz.prog
  obtain ⟨q, Hq⟩ : ∃ q, Hid (w.heap.size = q) := ⟨_, rfl⟩
  have HM := Lib.hid (MapF.made w q Hq.out slotK)
  have HB := Lib.hid ((Below.refl w.heap.size w).alloc (Nat.le_refl _) (.map #[] 0))
  have HF : Hid (FreeR ((w.alloc (.map #[] 0)).alloc (.cells (fcells k (.slice none 0 0) q) 238)) (fun b => q ≤ b) (q + 1) k [] (fun _ => [])) := by
    have hs : (w.alloc (.map #[] 0)).heap.size = q + 1 := by rw [World.size_alloc, Hq.out]
    refine ⟨q, none, 0, fun _ => none, fun _ => none, fun _ => 0, hk, by rw [← hs]; exact Blk.new _ 238 _, Own.nil _ _ _ _, (HM.out).mod ((Mod.refl _ Nob).alloc _) (fun h => h), fun m => .inl ⟨rfl, rfl, rfl, rfl⟩, fun _ _ _ => rfl, fun a m b h => (by cases h), fun m m' a b _ h => (by cases h), ?_, ?_, fun a h => (by cases h), fun m a h => (by cases h)⟩
    · show q ≤ q + 1; omega
    · show q ≤ q; omega
  have HE : Hid (fcells k (.slice none 0 0) q = ((List.replicate 32 (Value.slice none 0 0)) ++ [Value.map (some q)]).toArray) := fcells_nil k q
  go_enter Tryz.func140, Tryz.ntmps140
  go_wp2_with fail
  go_ret
  rw [HE.out] at HF
  rw [Hq.out]
  exact ⟨q + 1, rfl, HF.out, Hq.out ▸ HB.out.alloc HB.out.size _⟩

set_option maxRecDepth 100000 in
set_option maxHeartbeats 1000000 in
theorem caddr_any (K k b i : Nat) (w : World) (hK : K ≤ 200) (hk : k < 32) (hb0 : 1 ≤ b) (hb : b < K) (hi : i < ccells k) :
    Calls Tryz.prog 189 #[.agg #[.int .i64 K], .int .i64 k, .agg #[.int .i64 b, .int .i64 i]] w fun e w' => e = .returned (.int .i64 ((b * 512 + i * csize k : Nat) : Int)) ∧ Below w.heap.size w w' := by
  have Hr := Lib.hid (fun w => cright_yes k w hk)
  have Hc := Lib.hid (fun w => ccells_any k w hk)
  have Hw := Lib.hid (fun w => cwords'_any k w hk)
  have Hf := Lib.hid (fun w => gfirst_any K b w hb (by omega))
  obtain ⟨cs1, cs2⟩ := csize_pos k hk
  have hcc : ccells k ≤ 256 := by unfold ccells; exact Nat.le_trans (Nat.div_le_div_left cs1 (by omega)) (by omega)
  have hmul : i * csize k ≤ 65536 := Nat.le_trans (Nat.mul_le_mul (show i ≤ 256 by omega) cs2) (by omega)
  have hm : (i : Int) * (csize k : Int) = ((i * csize k : Nat) : Int) := by simp
  obtain ⟨p, Hp⟩ : ∃ p, Hid (i * csize k = p) := ⟨_, rfl⟩
  rw [Hp.out] at hmul hm ⊢
  obtain ⟨a, Ha⟩ : ∃ a, Hid (b * 512 = a) := ⟨_, rfl⟩
  have ha : a ≤ 200000 := by rw [← Ha.out]; omega
  rw [Ha.out] at Hf ⊢
  generalize csize k = c at *
  generalize ccells k = cc at *
  have hw1 : IntKind.i64.wrap (p : Int) = (p : Int) := IntWalk.i64_in _ (by omega)
  have hw2 : IntKind.i64.wrap ((a : Int) + (p : Int)) = (a : Int) + (p : Int) := IntWalk.i64_in _ (by omega)
  obtain ⟨n1, Hn1⟩ : ∃ n, Hid (w.heap.size = n) := ⟨_, rfl⟩
  obtain ⟨n2, Hn2⟩ : ∃ n, Hid (w.heap.size + 1 = n) := ⟨_, rfl⟩
  have L1 := Lib.hid (((Loc.nil Nob w).box 64 #[.int .i64 K] n1 Hn1.out).box 242 #[.int .i64 b, .int .i64 i] n2 (by rw [World.size_alloc]; exact Hn2.out))
  have t1 : decide ((b : Int) < 1) = false := by rw [decide_eq_false_iff_not]; omega
  have t2 : decide ((K : Int) ≤ (b : Int)) = false := by rw [decide_eq_false_iff_not]; omega
  have t3 : decide ((i : Int) < 0) = false := by rw [decide_eq_false_iff_not]; omega
  have t4 : decide ((cc : Int) ≤ (i : Int)) = false := by rw [decide_eq_false_iff_not]; omega
  have t5 : decide (K ≤ b) = false := by rw [decide_eq_false_iff_not]; omega
  have t6 : decide (cc ≤ i) = false := by rw [decide_eq_false_iff_not]; omega
  go_enter Tryz.func189, Tryz.ntmps189
  go_wp2_with fail
  rw [Hn2.out, Hn1.out]
  generalize (w.alloc _).alloc _ = w1 at *
  have LC := Lib.hid L1.out.drew
  clear L1
  go_region_held3 (fun w' => w'.cell? ⟨n2, 0, none⟩ = some (.int .i64 b) ∧ w'.cell? ⟨n2, 1, none⟩ = some (.int .i64 i) ∧ w'.cell? ⟨n1, 0, none⟩ = some (.int .i64 K))
    (exact ⟨LC.out.b0.cell 0, LC.out.b0.cell 1, LC.out.b1.cell 0⟩)
    (first
      | (go_at_call 105; refine (Hr.out _).mono ?_; rintro e w' ⟨rfl, rfl⟩)
      | (go_at_call 108; refine (Hc.out _).mono ?_; rintro e w' ⟨rfl, hb⟩; replace LC := Lib.hid (LC.out.call hb (Nat.le_refl _)); clear hb))
  go_wp2_with fail
  replace LC := Lib.hid LC.out.drew
  go_region_held3 (fun w' => w'.cell? ⟨n2, 0, none⟩ = some (.int .i64 b) ∧ w'.cell? ⟨n2, 1, none⟩ = some (.int .i64 i) ∧ w'.cell? ⟨n1, 0, none⟩ = some (.int .i64 K))
    (exact ⟨LC.out.b0.cell 0, LC.out.b0.cell 1, LC.out.b1.cell 0⟩)
    (first
      | (go_at_call 158; refine (Hf.out _).mono ?_; rintro e w' ⟨rfl, hb⟩; replace LC := Lib.hid (LC.out.call hb (Nat.le_refl _)); clear hb)
      | (go_at_call 146; refine (Hw.out _).mono ?_; rintro e w' ⟨rfl, hb⟩; replace LC := Lib.hid (LC.out.call hb (Nat.le_refl _)); clear hb))
  all_goals
    go_wp2_with fail
    go_ret
    exact ⟨by first | exact ret_int (by omega) | (simp; done) | (simp; omega), LC.out.below⟩
end Go.Proofs.YtcnjipicifkfjaaGreat

/- object: Head, field, Ptr, SetPtr, Data, SetData. -/
namespace Go.Proofs.YtcnjipicifkfjaaGreat
open Go.RowKit
set_option linter.unusedVariables false
set_option linter.unusedSimpArgs false

/-- An object's header lies at an address. -/
structure ObjAt (s : DS) (m a p d : Nat) : Prop where
  o : Obj p d
  w : s.C.getD a 0 = oword a p d
  le : a + (1 + p + d) ≤ 8 * m

set_option maxRecDepth 100000 in
set_option maxHeartbeats 1000000 in
theorem head_any (B : Nat) (b : DB) (m : Nat) (s : DS) (a p d : Nat) (w : World) (h : Dev B w b m s) (ho : ObjAt s m a p d) (hm : m ≤ 10000) :
    Calls Tryz.prog 127 #[.pointer (some ⟨b.d, 0, none⟩), .int .i64 a] w fun e w' => e = .returned (.tuple #[.agg #[.int .i64 p, .int .i64 d], .int .i64 0]) ∧ Below w.heap.size w w' := by
  obtain ⟨ho1, ho2, ho3⟩ := ho
  obtain ⟨hp, hd, _⟩ := ho1.le
  have Hn : Hid (∀ w', Hid (Below w.heap.size w w') → Calls Tryz.prog 43 #[.pointer (some ⟨b.d, 0, none⟩)] w' fun e w'' => e = .returned (.int .i64 ((8 * m : Nat) : Int)) ∧ w' = w'') := fun w' hb => len_any B b m s w' (h.below hb.out (Nat.le_refl _))
  have Hg : Hid (∀ w', Hid (Below w.heap.size w w') → Calls Tryz.prog 123 #[.pointer (some ⟨b.d, 0, none⟩), .int .i64 a] w' fun e w'' => e = .returned (.int .u64 (oword a p d : Nat)) ∧ w' = w'') := fun w' hb => by
    have := get_yes B b m s a w' (h.below hb.out (Nat.le_refl _)) (by omega) (by omega)
    rw [ho2] at this
    exact this
  have Hd := Lib.hid (fun w => odec_any a p d w ho1 (by omega))
  have Hs := Lib.hid (fun w => osize_any p d w (by omega) (by omega))
  obtain ⟨N, HN⟩ : ∃ N, Hid (8 * m = N) := ⟨_, rfl⟩
  rw [HN.out] at Hn ho3
  have hN : N ≤ 80000 := by rw [← HN.out]; omega
  obtain ⟨q, Hq⟩ : ∃ q, Hid (1 + p + d = q) := ⟨_, rfl⟩
  rw [Hq.out] at Hs ho3
  have hq0 : 1 ≤ q := by rw [← Hq.out]; omega
  obtain ⟨n1, Hn1⟩ : ∃ n, Hid (w.heap.size = n) := ⟨_, rfl⟩
  have L1 := Lib.hid ((Loc.nil Nob w).box 51 #[.int .i64 0, .int .i64 0] n1 Hn1.out)
  have HB1 := Lib.hid L1.out.below
  clear h ho2 ho1
  generalize oword a p d = v at *
  go_enter Tryz.func127, Tryz.ntmps127
  go_wp2_with (first
    | (go_at_call 43; refine (Hn.out _ (by assumption)).mono ?_; rintro e w' ⟨rfl, rfl⟩)
    | (go_at_call 123; refine (Hg.out _ (by assumption)).mono ?_; rintro e w' ⟨rfl, rfl⟩))
  rw [Hn1.out]
  generalize w.alloc _ = w1 at *
  refine (Hd.out _).mono ?_
  rintro e w2 ⟨rfl, hb2⟩
  have L2 := Lib.hid (L1.out.call hb2 (Nat.le_refl _))
  clear hb2 L1 HB1
  obtain ⟨n2, Hn2⟩ : ∃ n, Hid (w2.heap.size = n) := ⟨_, rfl⟩
  have L3 := Lib.hid (L2.out.box 51 #[.int .i64 p, .int .i64 d] n2 Hn2.out)
  go_wp2_with fail
  rw [Hn2.out]
  generalize w2.alloc _ = w3 at *
  refine (Hs.out _).mono ?_
  rintro e w4 ⟨rfl, hb4⟩
  have L4 := Lib.hid (L3.out.call hb4 (Nat.le_refl _))
  have HB4 := Lib.hid L4.out.below
  have x0 : w4.cell? ⟨n2, 0, none⟩ = some (.int .i64 p) := L4.out.b0.cell 0
  have x1 : w4.cell? ⟨n2, 1, none⟩ = some (.int .i64 d) := L4.out.b0.cell 1
  have y0 : w4.cell? ⟨n1, 0, none⟩ = some (.int .i64 0) := L4.out.b1.cell 0
  have y1 : w4.cell? ⟨n1, 1, none⟩ = some (.int .i64 0) := L4.out.b1.cell 1
  have f0 := L4.out.b1.frozen 0
  have f1 := L4.out.b1.frozen 1
  clear hb4 L3 L2
  go_wp2_with (first
    | (go_at_call 43; refine (Hn.out _ (by assumption)).mono ?_; rintro e w' ⟨rfl, rfl⟩))
  have L5 := ((L4.out.swap.set 0 (.int .i64 p)).set 1 (.int .i64 d))
  have z0 := L5.b0.cell 0
  have z1 := L5.b0.cell 1
  simp at z0 z1
  refine bodyPost_ret (v := .tuple #[.agg #[.int .i64 p, .int .i64 d], .int .i64 0]) (by simp [results, Tryz.results127, go_sem, z0, z1]) rfl ?_
  exact ⟨rfl, L5.below⟩

set_option maxRecDepth 100000 in
set_option maxHeartbeats 1000000 in
theorem field_any (B : Nat) (b : DB) (m : Nat) (s : DS) (a : Nat) (data : Bool) (w : World) (h : Dev B w b m s) (ho : ObjAt s m a 1 1) (hm : m ≤ 10000) :
    Calls Tryz.prog 122 #[.pointer (some ⟨b.d, 0, none⟩), .int .i64 a, .int .i64 0, .bool data] w fun e w' => e = .returned (.tuple #[.int .i64 ((a + (if data then 2 else 1) : Nat) : Int), .int .i64 0]) ∧ Below w.heap.size w w' := by
  have hle := ho.le
  have Hh := Lib.hid (head_any B b m s a 1 1 w h ho hm)
  have Hp := Lib.hid (fun w => optr_any 1 1 0 w (by omega) (by omega))
  have Hd := Lib.hid (fun w => odata_any 1 1 0 w (by omega) (by omega) (by omega))
  have ha : a ≤ 80000 := by omega
  clear h ho hle hm
  go_enter Tryz.func122, Tryz.ntmps122
  go_wp2_with fail
  refine Hh.out.mono ?_
  rintro e w1 ⟨rfl, hb1⟩
  have L1 := Lib.hid ((Loc.nil Nob w).call hb1 (Nat.le_refl _))
  clear hb1
  obtain ⟨n1, Hn1⟩ : ∃ n, Hid (w1.heap.size = n) := ⟨_, rfl⟩
  have L2 := Lib.hid (L1.out.box 51 #[.int .i64 ((1 : Nat) : Int), .int .i64 ((1 : Nat) : Int)] n1 Hn1.out)
  go_wp2_with fail
  rw [Hn1.out]
  generalize w1.alloc _ = w2 at *
  refine (Hp.out _).mono ?_
  rintro e w3 ⟨rfl, hb3⟩
  have L3 := Lib.hid (L2.out.call hb3 (Nat.le_refl _))
  have x0 : w3.cell? ⟨n1, 0, none⟩ = some (.int .i64 1) := L3.out.b0.cell 0
  have x1 : w3.cell? ⟨n1, 1, none⟩ = some (.int .i64 1) := L3.out.b0.cell 1
  clear hb3 L2 L1
  cases data with
  | false =>
    go_wp2_with fail
    go_ret2
    exact ⟨by simp, L3.out.below⟩
  | true =>
    go_wp2_with fail
    refine (Hd.out _).mono ?_
    rintro e w4 ⟨rfl, hb4⟩
    have L4 := Lib.hid (L3.out.call hb4 (Nat.le_refl _))
    clear hb4
    go_wp2_with fail
    go_ret2
    exact ⟨by simp, L4.out.below⟩
set_option maxHeartbeats 1000000 in
theorem optrOf_any (B : Nat) (b : DB) (m : Nat) (s : DS) (a v : Nat) (w : World) (h : Dev B w b m s) (ho : ObjAt s m a 1 1) (hv : s.C.getD (a + 1) 0 = v) (hv2 : v ≤ 1099511627776) (hm : m ≤ 10000) :
    Calls Tryz.prog 76 #[.pointer (some ⟨b.d, 0, none⟩), .int .i64 a, .int .i64 0] w fun e w' => e = .returned (.tuple #[.int .i64 v, .int .i64 0]) ∧ Below w.heap.size w w' := by
  have hle := ho.le
  have Hf := Lib.hid (field_any B b m s a false w h ho hm)
  have Hg : Hid (∀ w', Below w.heap.size w w' → Calls Tryz.prog 123 #[.pointer (some ⟨b.d, 0, none⟩), .int .i64 (a + 1 : Nat)] w' fun e w'' => e = .returned (.int .u64 v) ∧ w' = w'') := fun w' hb => by
    have := get_yes B b m s (a + 1) w' (h.below hb (Nat.le_refl _)) (by omega) (by omega)
    rw [hv] at this
    exact this
  have ha : a ≤ 80000 := by omega
  have hmin : min (v : Int) 1099511627776 = (v : Int) := by omega
  clear h ho hle hm hv
  simp only [Bool.false_eq_true, if_false] at Hf
  generalize a + 1 = q at *
  go_enter Tryz.func76, Tryz.ntmps76
  go_wp2_with fail
  refine Hf.out.mono ?_
  rintro e w1 ⟨rfl, hb1⟩
  have Hb1 := Lib.hid hb1
  clear hb1
  go_wp2_with fail
  refine (Hg.out _ Hb1.out).mono ?_
  rintro e w2 ⟨rfl, rfl⟩
  go_wp2_with fail
  go_ret2
  exact ⟨by simp, Hb1.out⟩
theorem mod_new {w w1 w2 : World} {S : Nat → Prop} (hb : Below w.heap.size w w1) (hm : Mod w1 w2 S) : Mod w w2 S :=
  ((Mod.of_below hb).mono (S' := S) (fun k hk hk2 => by omega)).trans hm (fun k _ hk => hk)
end Go.Proofs.YtcnjipicifkfjaaGreat
