/- alloc: room, where a free block is taken. -/
import Derived.Test.YtcnjipicifkfjaaGreatRm17
import Derived.Test.YtcnjipicifkfjaaGreatRm16
import Derived.Deep.LoopGhost
import Derived.Test.YtcnjipicifkfjaaGreatRm10
import Derived.Test.YtcnjipicifkfjaaGreatRm05

namespace Go.Proofs.YtcnjipicifkfjaaGreat
open Go.RowKit
set_option linter.unusedVariables false
set_option linter.unusedSimpArgs false

theorem AllocX.bman {w w' : World} {col : Nat → Nat} {ap d mp us fr : Nat} {S : AS} {b : DB} (h : AllocX w col ap d mp us fr S) (hdv : ∀ k, b.has k → col k = 0) (m : Mod w w' (fun k => b.has k ∨ col k = 1)) {hs : List (Nat × Nat)} {o : Option (Nat × Nat)} (hf : BmanR w' (fun k => col k = 1) mp d S.K hs o) :
    AllocX w' col ap d mp us fr { S with hs := hs, o := o } :=
  ⟨m.blk h.b (by rintro (h1 | h1); have := hdv _ h1; have := h.c; omega; have := h.c; omega), hf, h.u.mod m (by rintro k hk (h1 | h1); have := hdv _ h1; omega; omega), h.f.mod m (by rintro k hk (h1 | h1); have := hdv _ h1; omega; omega), h.c⟩
theorem AllocX.freeSame {w w' : World} {col : Nat → Nat} {ap d mp us fr : Nat} {S : AS} (h : AllocX w col ap d mp us fr S) (hf : FreeR w' (GrowF (fun k => col k = 3) w) fr S.k S.glob S.cs) (hM : Mod w w' (fun k => col k = 3)) :
    AllocX w' (colW col w 3) ap d mp us fr S := by
  have h1 := (h.recol (colW_lt col w 3))
  have hM2 : Mod w w' (fun k => colW col w 3 k = 3) := hM.mono (fun k hk h => by rw [colW_lt _ _ _ _ hk]; exact h)
  exact h1.free hM2 (hf.weak (fun k hk h => h.elim (fun h => by
    by_cases hkw : k < w.heap.size
    · rw [colW_lt _ _ _ _ hkw]; exact h
    · exact colW_ge _ _ _ _ (by omega)) (fun h => colW_ge _ _ _ _ h)))
theorem exec_left {s : DS} {a c : List Step} (h : (exec s (a ++ c)).2 = true) : (exec s a).2 = true := by
  cases hb : (exec s a).2 with
  | true => rfl
  | false => rw [exec_fail hb, hb] at h; exact h
def AS.small (S : AS) (st n : Nat) : AS := { S with hs := S.hs.set st (1, S.k), o := restO st n, glob := S.glob ++ carveL S.used S.k st (ccells S.k) }
set_option maxRecDepth 100000 in
set_option maxHeartbeats 2000000 in
theorem room_small (B : Nat) (b : DB) (m : Nat) (s : DS) (col : Nat → Nat) (ap mp us fr mu p dd st n : Nat) (S : AS) (w : World) (h : Dev B w b m s) (hdv : ∀ k, b.has k → col k = 0) (hA : AllocX w col ap b.d mp us fr S) (hmu : mu < 4) (hp : p ≤ 63) (hd : 1 + p + dd ≤ 256) (hk : cof (1 + p + dd) = S.k)
    (hm : m = S.K * 64) (hK : S.K ≤ 150) (hcs : S.cs mu = []) (hgl : S.glob = []) (ho : S.o = some (st, n)) (hst : 1 ≤ st) (hn : 1 ≤ n) (hle : st + n ≤ S.K) (hc : ∀ m, (S.cs m).length ≤ 1000) (hno : ∀ m x, x ∈ S.cs m → x / 512 ≠ st) (hcv : carveL S.used S.k st (ccells S.k) ≠ []) :
    Calls Tryz.prog 112 #[.pointer (some ⟨ap, 0, none⟩), .int .i64 mu, .agg #[.int .i64 p, .int .i64 dd]] w fun e w' =>
      e = .returned (.tuple #[.int .i64 (if (exec s (putS st 1 S.k)).2 then takeA (S.small st n).glob S.cs mu else 0 : Nat), .int .i64 (ecode (exec s (putS st 1 S.k)).2)]) ∧ Dev B w' b m (exec s (putS st 1 S.k)).1 ∧
      ((exec s (putS st 1 S.k)).2 = true → ∃ col', (∀ k, k < w.heap.size → col' k = col k) ∧ AllocX w' col' ap b.d mp us fr ((S.small st n).take mu)) ∧ Mod w w' (fun k => b.has k ∨ col k = 1 ∨ col k = 3) := by
  have hk32 : S.k < 32 := by rw [← hk]; exact cof_lt _ hd
  have hcc := ccells_pos S.k hk32
  obtain ⟨w0, Hw0⟩ : ∃ w0, Hid (w = w0) := ⟨_, rfl⟩
  have Hs := Lib.hid (fun w => osmall_any p dd w hp hd)
  rw [hk] at Hs
  have Hft : Hid (∀ F w, FreeR w F fr S.k S.glob S.cs → Calls Tryz.prog 159 #[.pointer (some ⟨fr, 0, none⟩), .int .i64 mu, .int .i64 S.k] w fun e w' => e = .returned (.tuple #[.int .i64 0, .int .i64 4]) ∧ FreeR w' (GrowF F w) fr S.k S.glob S.cs ∧ Mod w w' F) :=
    fun F w h => ftake_none F fr S.k mu S.glob S.cs w h (by rw [hgl]; simp) hc hmu hcs hgl
  have Hsm : Hid (∀ (F : Nat → Prop) w, Dev B w b m s → BmanR w F mp b.d S.K S.hs (some (st, n)) → (∀ k, F k → ¬ b.has k) → Calls Tryz.prog 160 #[.pointer (some ⟨mp, 0, none⟩), .int .i64 S.k] w fun e w' => e = .returned (.tuple #[.int .i64 (if (exec s (putS st 1 S.k)).2 then st else 0 : Nat), .int .i64 (ecode (exec s (putS st 1 S.k)).2)]) ∧ Dev B w' b m (exec s (putS st 1 S.k)).1 ∧
      BmanR w' F mp b.d S.K (if (exec s [.st (256 + st) (hword st 1 S.k)]).2 then S.hs.set st (1, S.k) else S.hs) (restO st n) ∧ Mod w w' (fun k => b.has k ∨ F k)) :=
    fun F w h hM hD => bmsmall_any B b m s F mp S.K S.k st n S.hs w h hM hD (.inr ⟨rfl, hk32⟩) hst hn hle hK hm
  have Hcar : Hid (∀ col w, AllocX w col ap b.d mp us fr { S with hs := S.hs.set st (1, S.k), o := restO st n } → Calls Tryz.prog 143 #[.pointer (some ⟨ap, 0, none⟩), .int .i64 st, .int .i64 S.k] w fun e w' => (∃ v, e = .returned v) ∧ AllocX w' (colW col w 3) ap b.d mp us fr (S.small st n) ∧ Mod w w' (fun k => col k = 3)) :=
    fun col w hX => carve_any col ap b.d mp us fr st { S with hs := S.hs.set st (1, S.k), o := restO st n } w hX hk32 hst (by show st < S.K; omega) hK (by
      rintro x (hx | ⟨mm, _, hx⟩)
      · simp only [hgl] at hx; cases hx
      · exact hno mm x hx) (by simp only [hgl, List.length_nil]; omega) hc
  have Hft2 : Hid (∀ F w, FreeR w F fr S.k (S.small st n).glob S.cs → Calls Tryz.prog 159 #[.pointer (some ⟨fr, 0, none⟩), .int .i64 mu, .int .i64 S.k] w fun e w' => e = .returned (.tuple #[.int .i64 (takeA (S.small st n).glob S.cs mu : Nat), .int .i64 0]) ∧ FreeR w' (GrowF F w) fr S.k (takeG (S.small st n).glob S.cs mu) (takeC (S.small st n).glob S.cs mu) ∧ Mod w w' F) := by
    intro F w h
    refine ftake_yes F fr S.k mu (S.small st n).glob S.cs w h ?_ hc hmu (.inr ?_)
    · have := carveL_len S.used S.k st (ccells S.k)
      simp only [AS.small, hgl, List.nil_append]
      omega
    · simp only [AS.small, hgl, List.nil_append]
      exact hcv
  have HX1 : Hid ((exec s (putS st 1 S.k)).2 = true → (if (exec s [.st (256 + st) (hword st 1 S.k)]).2 then S.hs.set st (1, S.k) else S.hs) = S.hs.set st (1, S.k)) := by
    intro he
    rw [if_pos (exec_left he)]
  obtain ⟨hs', Hhs⟩ : ∃ hs', Hid ((if (exec s [.st (256 + st) (hword st 1 S.k)]).2 then S.hs.set st (1, S.k) else S.hs) = hs') := ⟨_, rfl⟩
  rw [Hhs.out] at Hsm HX1
  obtain ⟨R, HR⟩ : ∃ R, Hid (exec s (putS st 1 S.k) = R) := ⟨_, rfl⟩
  rw [HR.out] at Hsm HX1 ⊢
  obtain ⟨v, Hv⟩ : ∃ v, Hid ((if R.2 then st else 0) = v) := ⟨_, rfl⟩
  rw [Hv.out] at Hsm
  obtain ⟨ta, Hta⟩ : ∃ ta, Hid (takeA (S.small st n).glob S.cs mu = ta) := ⟨_, rfl⟩
  rw [Hta.out] at Hft2 ⊢
  obtain ⟨va, Hva⟩ : ∃ v, Hid ((if R.2 then ta else 0) = v) := ⟨_, rfl⟩
  rw [Hva.out]
  obtain ⟨n1, Hn1⟩ : ∃ n, Hid (w.heap.size = n) := ⟨_, rfl⟩
  have L1 := Lib.hid ((Loc.nil Nob w).box 51 #[.int .i64 p, .int .i64 dd] n1 Hn1.out)
  have HA : Hid (AllocX w (colW col w0 9) ap b.d mp us fr S) := Hw0.out ▸ (hA.recol (colW_lt col w 9))
  have Hlt := Lib.hid h.lt
  have HDV : Hid (∀ k, b.has k → colW col w0 9 k = 0 ∧ k < w.heap.size) := fun k hk => ⟨by rw [← Hw0.out, colW_lt _ _ _ _ (h.lt k hk).2]; exact hdv k hk, (h.lt k hk).2⟩
  have HCW : Hid (∀ k, k < w.heap.size → colW col w0 9 k = col k) := fun k hk => by rw [← Hw0.out, colW_lt _ _ _ _ hk]
  have HD := Lib.hid h
  have Hso := Lib.hid ho
  clear h hA hk hc hcs hgl ho hst hn hle hno hcv hdv hm
  generalize colW col w0 9 = col1 at *
  go_enter Tryz.func112, Tryz.ntmps112
  go_wp2_with fail
  rw [Hn1.out]
  generalize w.alloc _ = w1 at *
  refine (Hs.out _).mono ?_
  rintro e w2 ⟨rfl, hb2⟩
  have L2 := Lib.hid (L1.out.call hb2 (Nat.le_refl _))
  have HA2 := Lib.hid (HA.out.below L2.out.below (Nat.le_refl _))
  have HD2 := Lib.hid (HD.out.below L2.out.below (Nat.le_refl _))
  have c4 : w2.cell? ⟨ap, 4, none⟩ = some (.pointer (some ⟨fr, 0, none⟩)) := HA2.out.b.cell 4
  clear hb2 L1 HA HD
  go_wp2_with fail
  refine (Hft.out _ _ HA2.out.f).mono ?_
  rintro e w3 ⟨rfl, hf3, hM3⟩
  have hsz : w.heap.size ≤ w2.heap.size := L2.out.below.size
  have HDV2 : Hid (∀ k, b.has k → colW col1 w2 3 k = 0) := fun k hk => by rw [colW_lt _ _ _ _ (Nat.lt_of_lt_of_le (HDV.out k hk).2 hsz)]; exact (HDV.out k hk).1
  have HA3 := Lib.hid (HA2.out.freeSame hf3 hM3)
  have HD3 : Hid (Dev B w3 b m s) := HD2.out.mod hM3 (fun k h1 h2 => by have := (HDV.out k h1).1; omega)
  have HM3 : Hid (Mod w w3 (fun k => col k = 3)) := Mod.trans (mod_b L2.out.below : Mod w w2 (fun k => col k = 3)) hM3 (fun k hk h => by rw [HCW.out k hk] at h; exact h)
  have HCW3 : Hid (∀ k, k < w.heap.size → colW col1 w2 3 k = col k) := fun k hk => by rw [colW_lt _ _ _ _ (Nat.lt_of_lt_of_le hk hsz)]; exact HCW.out k hk
  generalize colW col1 w2 3 = col2 at *
  have c5 : w3.cell? ⟨ap, 0, none⟩ = some (.pointer (some ⟨mp, 0, none⟩)) := HA3.out.b.cell 0
  have hsz3 : w.heap.size ≤ w3.heap.size := HM3.out.size
  clear hf3 hM3 c4 HA2 HD2
  have Hbm := Lib.hid (Hso.out ▸ HA3.out.m)
  go_wp2_with fail
  refine (Hsm.out _ _ HD3.out Hbm.out (fun k h1 h2 => by have := HDV2.out k h2; omega)).mono ?_
  rintro e w4 ⟨rfl, hd4, hb4, hM4⟩
  have HD4 := Lib.hid hd4
  have HA4 := Lib.hid (HA3.out.bman HDV2.out hM4 hb4)
  have HM4 : Hid (Mod w w4 (fun k => b.has k ∨ col k = 1 ∨ col k = 3)) := Mod.trans (HM3.out.mono (fun k _ h => .inr (.inr h))) hM4 (fun k hk h => by rw [HCW3.out k hk] at h; exact h.elim .inl (fun h => .inr (.inl h)))
  clear hd4 hb4 hM4 c5 HA3 HD3 HM3 Hbm
  cases hR : R.2 with
  | false =>
    have hva : va = 0 := by rw [← Hva.out, hR]; rfl
    rw [show ecode false = 3 from rfl]
    go_wp2_with fail
    refine bodyPost_ret (results_tmp2 rfl _ _ _) rfl ?_
    rw [hva, hR]
    exact ⟨rfl, HD4.out, (fun h => by cases h), HM4.out⟩
  | true =>
    have hv : v = st := by rw [← Hv.out, hR]; rfl
    have hva : va = ta := by rw [← Hva.out, hR]; rfl
    have HE := Lib.hid (HX1.out hR)
    subst hv
    rw [HE.out] at HA4
    rw [show ecode true = 0 from rfl]
    have HRt := Lib.hid hR
    clear hR
    go_wp2_with fail
    refine (Hcar.out _ _ HA4.out).mono ?_
    rintro e w5 ⟨⟨v5, rfl⟩, hA5, hM5⟩
    have HA5 := Lib.hid hA5
    have HDV5 : Hid (∀ k, b.has k → colW col2 w4 3 k = 0) := fun k hk => by rw [colW_lt _ _ _ _ (Nat.lt_of_lt_of_le (HDV.out k hk).2 HM4.out.size)]; exact HDV2.out k hk
    have HD5 : Hid (Dev B w5 b m R.1) := HD4.out.mod hM5 (fun k h1 h2 => by have := HDV2.out k h1; omega)
    have HM5 : Hid (Mod w w5 (fun k => b.has k ∨ col k = 1 ∨ col k = 3)) := HM4.out.trans hM5 (fun k hk h => by rw [HCW3.out k hk] at h; exact .inr (.inr h))
    have HCW5 : Hid (∀ k, k < w.heap.size → colW col2 w4 3 k = col k) := fun k hk => by rw [colW_lt _ _ _ _ (Nat.lt_of_lt_of_le hk HM4.out.size)]; exact HCW3.out k hk
    generalize colW col2 w4 3 = col3 at *
    have c6 : w5.cell? ⟨ap, 4, none⟩ = some (.pointer (some ⟨fr, 0, none⟩)) := HA5.out.b.cell 4
    clear hA5 hM5 HA4 HD4 HM4
    go_wp2_with fail
    refine (Hft2.out _ _ HA5.out.f).mono ?_
    rintro e w6 ⟨rfl, hf6, hM6⟩
    have HA6 := Lib.hid (HA5.out.taken (mu := mu) hf6 hM6)
    have HD6 : Hid (Dev B w6 b m R.1) := HD5.out.mod hM6 (fun k h1 h2 => by have := HDV5.out k h1; omega)
    have HM6 : Hid (Mod w w6 (fun k => b.has k ∨ col k = 1 ∨ col k = 3)) := HM5.out.trans hM6 (fun k hk h => by rw [HCW5.out k hk] at h; exact .inr (.inr h))
    have HCW6 : Hid (∀ k, k < w.heap.size → colW col3 w5 3 k = col k) := fun k hk => by rw [colW_lt _ _ _ _ (Nat.lt_of_lt_of_le hk HM5.out.size)]; exact HCW5.out k hk
    clear hf6 hM6 c6 HA5 HD5 HM5
    go_wp2_with fail
    refine bodyPost_ret (results_tmp2 rfl _ _ _) rfl ?_
    rw [hva, HRt.out]
    exact ⟨rfl, HD6.out, fun _ => ⟨_, HCW6.out, HA6.out⟩, HM6.out⟩
end Go.Proofs.YtcnjipicifkfjaaGreat

/- hold: Add. -/
namespace Go.Proofs.YtcnjipicifkfjaaGreat
open Go.RowKit
set_option linter.unusedVariables false
set_option linter.unusedSimpArgs false

/-- How many below N are in use and not yet in a set. -/
def cntU (used st : Nat → Bool) : Nat → Nat
  | 0 => 0
  | n + 1 => cntU used st n + if used n && !st n then 1 else 0
def addS (st : Nat → Bool) (a : Nat) : Nat → Bool := fun i => st i || decide (i = a)
theorem cntU_add (used st : Nat → Bool) (a : Nat) (h : used a = true) (h2 : st a = false) (N : Nat) : cntU used (addS st a) N + (if a < N then 1 else 0) = cntU used st N := by
  induction N with
  | zero => rfl
  | succ n ih =>
    simp only [cntU]
    by_cases hn : n = a
    · subst hn
      rw [if_neg (Nat.lt_irrefl n)] at ih
      simp [addS, h, h2] at ih ⊢
      exact ih
    · have : addS st a n = st n := by simp [addS, hn]
      rw [this]
      by_cases hl : a < n
      · rw [if_pos hl] at ih
        rw [if_pos (show a < n + 1 by omega)]
        omega
      · rw [if_neg hl] at ih
        rw [if_neg (show ¬ a < n + 1 by omega)]
        omega
/-- What a set of held objects is behind Add. -/
def addM (used : Nat → Bool) (nx : Nat → Nat) : Nat → (Nat → Bool) → Nat → (Nat → Bool)
  | 0, st, _ => st
  | f + 1, st, a => if used a = true ∧ st a = false then addM used nx f (addS st a) (nx a) else st
theorem addM_no (used : Nat → Bool) (nx : Nat → Nat) (f : Nat) (st : Nat → Bool) (a : Nat) (h : used a = false ∨ st a = true) : addM used nx f st a = st := by
  cases f with
  | zero => rfl
  | succ f =>
    rw [addM, if_neg]
    rintro ⟨h1, h2⟩
    rcases h with h | h <;> simp_all
theorem addM_yes (used : Nat → Bool) (nx : Nat → Nat) (f : Nat) (st : Nat → Bool) (a : Nat) (h : used a = true) (h2 : st a = false) : addM used nx (f + 1) st a = addM used nx f (addS st a) (nx a) := by
  rw [addM, if_pos ⟨h, h2⟩]
theorem addS_conv (st : Nat → Bool) (a n : Nat) (h : a < 64 * n) (i : Nat) : (st i || (decide (i = a) && decide (a < 64 * n))) = addS st a i := by simp [addS, h]
/-- Where hold.Add's loop stands: what is open, and what the set is. -/
def AddI (B : Nat) (w0 wr : World) (F : Nat → Prop) (hl ap K hp : Nat) (used : Nat → Bool) (nx : Nat → Nat) (N : Nat) (fin : Nat → Bool) (k : Nat) (v : Value) : Prop :=
  ∃ A n cap xs st, v = .slice A n cap ∧ Own wr B 3 1 A n cap (ncells xs) ∧ xs.length = n ∧ Blk wr hl 153 #[.pointer (some ⟨ap, 0, none⟩), .pointer (some ⟨hp, 0, none⟩)] ∧ SetR wr F hp (8 * K) st ∧ Mod w0 wr F ∧
    ((xs = [] ∧ fin = st) ∨ ∃ x f, xs = [x] ∧ x ≤ 1099511627776 ∧ cntU used st N < f ∧ cntU used st N < k ∧ fin = addM used nx f st x)
set_option maxRecDepth 100000 in
set_option maxHeartbeats 2000000 in
theorem hadd_any (B : Nat) (b : DB) (m : Nat) (s : DS) (F : Nat → Prop) (col : Nat → Nat) (hl ap p a : Nat) (S : AS) (st : Nat → Bool) (w : World) (h : Dev B w b m s) (hA : AllocR w col ap b.d S) (hH : HeldR w F hl ap S.K st)
    (hd : ∀ k, b.has k → col k = 0) (hF : ∀ k, F k → 4 ≤ col k ∧ col k ≠ 8) (hFw : ∀ k, F k → k < w.heap.size) (ho : OB s m S.used p) (h0 : S.used 0 = false) (hm : m = S.K * 64) (hK : S.K ≤ 150) (ha : a ≤ 1099511627776) :
    Calls Tryz.prog 79 #[.pointer (some ⟨hl, 0, none⟩), .int .i64 a] w fun e w' => (∃ v, e = .returned v) ∧ HeldR w' F hl ap S.K (addM S.used (nx s p) (512 * S.K + 1) st a) ∧ Mod w w' F := by
  obtain ⟨hp, hb, hS, hf⟩ := hH
  obtain ⟨i0, hi0, hz0, hz1, hz2⟩ := info3s
  obtain ⟨fin, Hfin⟩ : ∃ fin, Hid (addM S.used (nx s p) (512 * S.K + 1) st a = fin) := ⟨_, rfl⟩
  rw [Hfin.out]
  have Hf := Lib.hid hf
  have Hhl := Lib.hid hb.lt
  have HFw := Lib.hid hFw
  have HD : Hid (∀ wr, Mod w wr F → Dev B wr b m s) := fun wr hM => h.mod hM (fun k h1 h2 => by have := hd k h1; have := (hF k h2).1; omega)
  have HA : Hid (∀ wr, Mod w wr F → AllocR wr col ap b.d S) := fun wr hM => hA.mod hM (fun k h1 h2 => by have := hF k h2; omega)
  have Hus : Hid (∀ (x : Nat) wr, Mod w wr F → x ≤ 1099511627776 → Calls Tryz.prog 88 #[.pointer (some ⟨ap, 0, none⟩), .int .i64 x] wr fun e w' => e = .returned (.bool (S.used x)) ∧ wr = w') :=
    fun x wr hM hx => aused_any col ap b.d x S wr (HA.out wr hM) hK (by omega)
  have Hlt : Hid (∀ (x : Nat), S.used x = true → x < 64 * (8 * S.K)) := by
    intro x hu
    obtain ⟨_, dd, hob, hv⟩ := ho x hu
    have := hob.le
    omega
  have Had : Hid (∀ (x : Nat) st wr, SetR wr F hp (8 * S.K) st → S.used x = true → Calls Tryz.prog 47 #[.pointer (some ⟨hp, 0, none⟩), .int .i64 x] wr fun e w' => e = .returned (.bool (!st x)) ∧ SetR w' F hp (8 * S.K) (addS st x) ∧ Mod wr w' F) := by
    intro x st wr hS hu
    have hx := Hlt.out x hu
    refine (badd_any F hp (8 * S.K) x st wr hS (by omega) (by omega)).mono ?_
    rintro e w' ⟨rfl, h1, h2⟩
    exact ⟨by simp [hx], h1.conv (addS_conv st x _ hx), h2⟩
  have Hdv : Hid (∀ wr, Mod w wr F → Calls Tryz.prog 97 #[.pointer (some ⟨ap, 0, none⟩)] wr fun e w' => e = .returned (.pointer (some ⟨b.d, 0, none⟩)) ∧ wr = w') := fun wr hM => adev_any col ap b.d S wr (HA.out wr hM)
  have Hln : Hid (∀ st wr, SetR wr F hp (8 * S.K) st → Calls Tryz.prog 125 #[.pointer (some ⟨hp, 0, none⟩)] wr fun e w' => (∃ k : Int, e = .returned (.int .i64 k)) ∧ wr = w') := fun st wr hS => len_set F hp (8 * S.K) st wr hS
  have Hpt : Hid (∀ (x : Nat) wr, Mod w wr F → S.used x = true → Calls Tryz.prog 126 #[.pointer (some ⟨b.d, 0, none⟩), .int .i64 x] wr fun e w' => ∃ A' cap', e = .returned (.tuple #[.slice A' (ptrsL s x p).length cap', .int .i64 0]) ∧ Own w' wr.heap.size 3 1 A' (ptrsL s x p).length cap' (ncells (ptrsL s x p)) ∧ Below wr.heap.size wr w') := by
    intro x wr hM hu
    obtain ⟨_, dd, hob, hv⟩ := ho x hu
    exact ptrs_any B b m s x p dd wr (HD.out wr hM) hob hv (by omega)
  have Hpv : Hid (∀ (x : Nat), S.used x = true → (ptrsL s x p = [] ∧ nx s p x = 0) ∨ (ptrsL s x p = [nx s p x] ∧ nx s p x ≤ 1099511627776)) := by
    intro x hu
    unfold ptrsL nx
    obtain ⟨_, dd, hob, hv⟩ := ho x hu
    by_cases hp0 : p = 0
    · simp [hp0]
    · right
      rw [if_neg hp0, if_neg hp0]
      refine ⟨rfl, hv ?_⟩
      rcases hob.o with h | h <;> omega
  have Hcn : Hid (∀ (x : Nat) st, S.used x = true → st x = false → cntU S.used (addS st x) (512 * S.K) + 1 = cntU S.used st (512 * S.K)) := by
    intro x st h1 h2
    have := cntU_add S.used st x h1 h2 (512 * S.K)
    rwa [if_pos (by have := Hlt.out x h1; omega)] at this
  have Hc0 : Hid (cntU S.used st (512 * S.K) < 512 * S.K + 1) := by
    have : ∀ N, cntU S.used st N ≤ N := by
      intro N
      induction N with
      | zero => exact Nat.le_refl _
      | succ n ih => rw [cntU]; split <;> omega
    have := this (512 * S.K)
    show _ < _
    omega
  have H00 := Lib.hid h0
  have HS := Lib.hid hS
  have HB := Lib.hid hb
  have c1 : w.cell? ⟨hl, 1, none⟩ = some (.pointer (some ⟨hp, 0, none⟩)) := hb.cell 1
  clear h hA hd hF ho h0 hm hS hf hb hFw
  generalize nx s p = nxf at *
  generalize 512 * S.K = N at *
  go_enter Tryz.func79, Tryz.ntmps79
  go_wp2_with fail
  refine (Hln.out _ _ HS.out).mono ?_
  rintro e _ ⟨⟨k0, rfl⟩, rfl⟩
  obtain ⟨n1, Hn1⟩ : ∃ n, Hid (w.heap.size = n) := ⟨_, rfl⟩
  have hO1 : Own (w.alloc (.cells #[.int .i64 a] 3)) w.heap.size 3 1 (some ⟨n1, 0, none⟩) 1 1 (ncells [a]) := by
    refine ⟨rfl, .inr ⟨n1, _, rfl, by rw [Hn1.out]; exact Nat.le_refl _, by rw [← Hn1.out]; exact Blk.new w 3 _, Nat.le_refl _, by unfold maxLen; omega, rfl, rfl⟩⟩
  have HI : Hid (AddI w.heap.size w (w.alloc (.cells #[.int .i64 a] 3)) F hl ap S.K hp S.used nxf N fin (N + 1) (.slice (some ⟨n1, 0, none⟩) 1 1)) :=
    ⟨_, _, _, [a], st, rfl, hO1, rfl, HB.out.alloc _, HS.out.below (below_box w _) (Nat.le_refl _), (Mod.refl w F).alloc _, .inr ⟨a, _, rfl, ha, Hc0.out, Hc0.out, Hfin.out.symm⟩⟩
  go_wp2_with fail
  rw [Hn1.out]
  clear c1 hO1
  generalize w.alloc _ = w1 at *
  go_loopg [6] (N + 1) (fun k v wr => AddI w.heap.size w wr F hl ap S.K hp S.used nxf N fin k v)
  case atStart => exact HI.out
  case round =>
    clear HI HS HB Hc0 Hfin
    obtain ⟨A, n, cap, xs, st', rfl, hO, hx, hb, hS, hM, hc⟩ := hrel
    have HB := Lib.hid hb
    have HS := Lib.hid hS
    have HM := Lib.hid hM
    have c0 : wr.cell? ⟨hl, 0, none⟩ = some (.pointer (some ⟨ap, 0, none⟩)) := hb.cell 0
    have c1 : wr.cell? ⟨hl, 1, none⟩ = some (.pointer (some ⟨hp, 0, none⟩)) := hb.cell 1
    rcases hc with ⟨rfl, rfl⟩ | ⟨x, f, rfl, hx2, hcf, hck, hfin⟩
    · simp only [List.length_nil] at hx
      subst hx
      clear hO hb hS hM
      go_wp2_with fail
      refine (Hln.out _ _ HS.out).mono ?_
      rintro e _ ⟨⟨k1, rfl⟩, rfl⟩
      go_wp2_with fail
      go_ret
      exact ⟨⟨_, rfl⟩, ⟨hp, HB.out, HS.out, Hf.out⟩, HM.out⟩
    · simp only [List.length_cons, List.length_nil] at hx
      subst hx
      have HO := Lib.hid hO
      obtain ⟨g, rfl, hg1, hg2, hcap1, hcap2, hcell, hfz⟩ := hO.at_ (by omega)
      have y0 : wr.cell? ⟨g, 0, none⟩ = some (.int .i64 x) := hcell 0 _ rfl
      have HU := Lib.hid (Hus.out x wr hM hx2)
      have Hfin2 := Lib.hid hfin
      have Hcf := Lib.hid hcf
      have Hck := Lib.hid hck
      clear hO hb hS hM hcell hfz hfin hcf hck hg1 hg2
      go_wp2_with fail
      refine HU.out.mono ?_
      rintro e _ ⟨rfl, rfl⟩
      cases hu : S.used x with
      | false =>
        have Hu := Lib.hid hu
        clear hu HU
        go_wp2_with fail
        go_roundg 0
        case measure =>
          have := Hck.out
          omega
        case rel =>
          refine ⟨_, 0, cap, [], st', rfl, HO.out.cut (k := 0) (by omega), rfl, HB.out, HS.out, HM.out, .inl ⟨rfl, ?_⟩⟩
          rw [Hfin2.out, addM_no _ _ _ _ _ (.inl Hu.out)]
      | true =>
        have Hu := Lib.hid hu
        clear hu HU
        go_wp2_with fail
        refine (Had.out x st' wr HS.out Hu.out).mono ?_
        rintro e w2 ⟨rfl, hS2, hM2⟩
        have HM2 := Lib.hid (HM.out.trans hM2 (fun k _ h => h))
        have HO2 := Lib.hid (HO.out.mod hM2 (fun a ha h => by have := (HO.out.lt a ha).1; have := HFw.out _ h; omega))
        have HB2 := Lib.hid (hM2.blk HB.out Hf.out)
        cases hst : st' x with
        | true =>
          have HE : Hid (∀ i, addS st' x i = st' i) := by
            intro i
            unfold addS
            by_cases hi : i = x
            · rw [hi, hst]; rfl
            · simp [hi]
          have HS2 := Lib.hid (hS2.conv HE.out)
          have Hst := Lib.hid hst
          clear hS2 hM2 hst HM HO HB HS c0 c1 y0
          go_wp2_with fail
          go_roundg 0
          case measure =>
            have := Hck.out
            omega
          case rel =>
            refine ⟨_, 0, cap, [], st', rfl, HO2.out.cut (k := 0) (by omega), rfl, HB2.out, HS2.out, HM2.out, .inl ⟨rfl, ?_⟩⟩
            rw [Hfin2.out, addM_no _ _ _ _ _ (.inr Hst.out)]
        | false =>
          have HS2 := Lib.hid hS2
          have Hst := Lib.hid hst
          have Hc := Lib.hid (Hcn.out x st' Hu.out hst)
          obtain ⟨f', rfl⟩ : ∃ f', f = f' + 1 := ⟨f - 1, by have := Hcf.out; omega⟩
          have Hfin3 : Hid (fin = addM S.used nxf f' (addS st' x) (nxf x)) := by
            show _ = _
            rw [Hfin2.out, addM_yes _ _ _ _ _ Hu.out hst]
          have y1 : w2.cell? ⟨hl, 0, none⟩ = some (.pointer (some ⟨ap, 0, none⟩)) := HB2.out.cell 0
          clear hS2 hM2 hst HM HO HB HS c0 c1 y0
          go_wp2_with fail
          refine (Hdv.out _ HM2.out).mono ?_
          rintro e _ ⟨rfl, rfl⟩
          go_wp2_with fail
          refine (Hpt.out x _ HM2.out Hu.out).mono ?_
          rintro e w3 ⟨A3, cap3, rfl, hO3, hb3⟩
          have HO3 := Lib.hid (HO2.out.below hb3 (Nat.le_refl _))
          have HB3 := Lib.hid (HB2.out.below hb3 HB2.out.lt)
          have HS3 := Lib.hid (HS2.out.below hb3 (Nat.le_refl _))
          have HM3 : Hid (Mod w w3 F) := HM2.out.trans (mod_b hb3 : Mod w2 w3 F) (fun k _ h => h)
          have hsz : w.heap.size ≤ w2.heap.size := HM2.out.size
          have HP := Lib.hid (hO3.rd)
          clear hO3 hb3 HO2 HB2 HS2 y1
          have hpl : (ptrsL s x p).length ≤ 1 := by rcases Hpv.out x Hu.out with ⟨h, _⟩ | ⟨h, _⟩ <;> rw [h] <;> simp
          obtain ⟨pl, Hpl⟩ : ∃ pl, Hid (ptrsL s x p = pl) := ⟨_, rfl⟩
          have Hpv2 := Lib.hid (Hpv.out x Hu.out)
          rw [Hpl.out] at Hpv2 HP hpl
          rw [Hpl.out]
          obtain ⟨ln, Hln⟩ : ∃ ln, Hid (pl.length = ln) := ⟨_, rfl⟩
          rw [Hln.out] at HP hpl ⊢
          go_wp2_with (at_builtin; (refine append_rd rfl (.tmp 57) (.tmp 58) 60 rfl w.heap.size 3 i0 _ 1 8 Tryz.underlying60 hi0 hz0 hz1 hz2 rfl (by omega) (some ⟨g, 0, none⟩) 0 cap [] rfl (HO3.out.cut (k := 0) (by omega)) A3 ln cap3 (ncells pl) rfl HP.out ncells_one ln (by omega) (ncells pl) rfl (by unfold maxLen; omega) (by omega) (by have := HM3.out.size; omega) ?_))
          intro A4 cap4 w4 hO4 hM4 hat4
          have HO4 := Lib.hid hO4
          have hgw : w.heap.size ≤ g := (HO3.out.lt _ rfl).1
          have hM4' : Mod w3 w4 (fun k => k = g) := hM4.mono (fun k _ h => by first | exact h.symm | (obtain ⟨a, ha, e⟩ := h; cases ha; exact e.symm))
          have HB4 := Lib.hid (hM4'.blk HB3.out (fun e => by have h2 : hl < w.heap.size := Hhl.out; omega))
          have HS4 := Lib.hid (HS3.out.mod hM4' (fun k hk e => by have := HFw.out k hk; omega))
          have HM4 : Hid (Mod w w4 F) := HM3.out.trans hM4' (fun k hk e => by omega)
          clear hO4 hM4 hat4 hM4' HO3 HB3 HS3 HM3
          go_wp2_with fail
          rcases Hpv2.out with ⟨h1, h2⟩ | ⟨h1, h2⟩
          · go_roundg 0
            case measure =>
              have := Hck.out
              omega
            case rel =>
              subst h1
              refine ⟨_, _, _, [], addS st' x, rfl, HO4.out, Hln.out, HB4.out, HS4.out, HM4.out, .inl ⟨rfl, ?_⟩⟩
              rw [Hfin3.out, addM_no _ _ _ _ _ (.inl (by rw [h2]; exact H00.out))]
          · go_roundg (cntU S.used (addS st' x) N + 1)
            case measure =>
              have := Hck.out
              have := Hc.out
              omega
            case rel =>
              refine ⟨_, _, _, pl, addS st' x, rfl, HO4.out, Hln.out, HB4.out, HS4.out, HM4.out, .inr ⟨nxf x, f', h1, h2, ?_, Nat.lt_succ_self _, Hfin3.out⟩⟩
              have := Hcf.out
              have := Hc.out
              omega
end Go.Proofs.YtcnjipicifkfjaaGreat

/- object: Init. -/
namespace Go.Proofs.YtcnjipicifkfjaaGreat
open Go.RowKit
set_option linter.unusedVariables false
set_option linter.unusedSimpArgs false

def zeroS (a : Nat) : Nat → List Step
  | 0 => []
  | k + 1 => zeroS a k ++ [.st (a + (k + 1)) 0]
def initS (a p d : Nat) : List Step := zeroS a (p + d) ++ [.st a (oword a p d)]
theorem zeroS_split (a k n : Nat) (h : k ≤ n) : ∃ c, zeroS a n = zeroS a k ++ c := by
  induction n with
  | zero => obtain rfl : k = 0 := by omega
            exact ⟨[], by simp⟩
  | succ n ih =>
    by_cases hk : k = n + 1
    · subst hk; exact ⟨[], by simp⟩
    · obtain ⟨c, hc⟩ := ih (by omega)
      exact ⟨c ++ [.st (a + (n + 1)) 0], by rw [zeroS, hc, List.append_assoc]⟩
set_option maxRecDepth 100000 in
set_option maxHeartbeats 1000000 in
theorem init_any (B : Nat) (b : DB) (m : Nat) (s : DS) (a p d : Nat) (w : World) (h : Dev B w b m s) (ho : Obj p d) (ha : a + (1 + p + d) ≤ 8 * m) (hm : m ≤ 10000) :
    Calls Tryz.prog 113 #[.pointer (some ⟨b.d, 0, none⟩), .int .i64 a, .agg #[.int .i64 p, .int .i64 d]] w fun e w' => e = .returned (.int .i64 (ecode (exec s (initS a p d)).2)) ∧ Dev B w' b m (exec s (initS a p d)).1 ∧ Mod w w' b.has := by
  obtain ⟨hp, hd, _⟩ := ho.le
  have Hlt := Lib.hid h.lt
  have Hs := Lib.hid (fun w => osize_any p d w (by omega) (by omega))
  have Hl := Lib.hid (fun s w (h : Dev B w b m s) => len_any B b m s w h)
  have He := Lib.hid (fun w => oenc_any a p d w ho (by omega))
  obtain ⟨N, HN⟩ : ∃ N, Hid (8 * m = N) := ⟨_, rfl⟩
  have hN : N ≤ 80000 := by rw [← HN.out]; omega
  rw [HN.out] at Hl ha
  obtain ⟨q, Hq⟩ : ∃ q, Hid (1 + p + d = q) := ⟨_, rfl⟩
  have HI : Hid (initS a p d = zeroS a (q - 1) ++ [.st a (oword a p d)]) := by
    show _ = _
    unfold initS
    rw [show q - 1 = p + d by rw [← Hq.out]; omega]
  rw [HI.out]
  rw [Hq.out] at Hs ha
  have hq1 : 1 ≤ q := by rw [← Hq.out]; omega
  have hq2 : q ≤ 1000 := by rw [← Hq.out]; omega
  generalize oword a p d = ow at *
  have g1 : decide ((q : Int) = 0) = false := by rw [decide_eq_false_iff_not]; omega
  have g1' : decide (q = 0) = false := by rw [decide_eq_false_iff_not]; omega
  have g1'' : ((q : Int) == 0) = false := by rw [beq_eq_false_iff_ne]; omega
  have g2 : decide ((a : Int) < 0) = false := by rw [decide_eq_false_iff_not]; omega
  have g3 : decide ((a : Int) ≥ (N : Int)) = false := by rw [decide_eq_false_iff_not]; omega
  have g3' : decide (N ≤ a) = false := by rw [decide_eq_false_iff_not]; omega
  obtain ⟨r, Hr⟩ : ∃ r, Hid (N - a = r) := ⟨_, rfl⟩
  have g4 : decide ((q : Int) > (r : Int)) = false := by have := Hr.out; rw [decide_eq_false_iff_not]; omega
  have g4' : decide (r < q) = false := by have := Hr.out; rw [decide_eq_false_iff_not]; omega
  have w4 : IntKind.i64.wrap ((N : Int) - (a : Int)) = (r : Int) := by have := Hr.out; have h2 := IntWalk.i64_in ((N : Int) - (a : Int)) (by omega); rw [h2]; omega
  have w4' : (N : Int) - (a : Int) = (r : Int) := by have := Hr.out; omega
  obtain ⟨n1, Hn1⟩ : ∃ n, Hid (w.heap.size = n) := ⟨_, rfl⟩
  have L1 := Lib.hid ((Loc.nil b.has w).box 51 #[.int .i64 p, .int .i64 d] n1 Hn1.out)
  have HD1 : Hid (Dev B (w.alloc (.cells #[.int .i64 p, .int .i64 d] 51)) b m s) := h.below (below_box w _) (Nat.le_refl _)
  clear h
  go_enter Tryz.func113, Tryz.ntmps113
  go_wp2_with fail
  rw [Hn1.out]
  generalize w.alloc _ = w1 at *
  refine (Hs.out _).mono ?_
  rintro e w2 ⟨rfl, hb2⟩
  have L2 := Lib.hid (L1.out.call hb2 (Nat.le_refl _))
  have HD2 := Lib.hid (HD1.out.below hb2 (Nat.le_refl _))
  clear hb2 L1 HD1
  go_wp2_with fail
  refine (Hl.out _ _ HD2.out).mono ?_
  rintro e _ ⟨rfl, rfl⟩
  go_wp2_with fail
  refine (Hl.out _ _ HD2.out).mono ?_
  rintro e _ ⟨rfl, rfl⟩
  go_wp2_with fail
  clear g1 g1' g1'' g2 g3 g3' g4 g4' w4 w4'
  go_loopw [8] (fun v8 wr => ∃ k : Nat, v8 = .int .i64 (k + 1 : Nat) ∧ k + 1 ≤ q ∧ (exec s (zeroS a k)).2 = true ∧ Dev B wr b m (exec s (zeroS a k)).1 ∧ Loc b.has w wr [(n1, 51, #[.int .i64 p, .int .i64 d])]) (fun v8 _ => q - (intOf v8).toNat)
  case atStart => exact ⟨0, rfl, by omega, rfl, HD2.out, L2.out⟩
  case round =>
    clear L2 HD2
    obtain ⟨k, rfl, hk, hok, hd, hl⟩ := hrel
    have Hok := Lib.hid hok
    have HD := Lib.hid hd
    have L := Lib.hid hl
    clear hok hd hl
    obtain ⟨u, Hu⟩ : ∃ u, Hid ((exec s (zeroS a k)).1 = u) := ⟨_, rfl⟩
    rw [Hu.out] at HD
    obtain ⟨k1, Hk1⟩ : ∃ k1, Hid (k + 1 = k1) := ⟨_, rfl⟩
    have w5 : IntKind.i64.wrap ((a : Int) + (k1 : Int)) = ((a + k1 : Nat) : Int) := by have := Hk1.out; have h2 := IntWalk.i64_in ((a : Int) + (k1 : Int)) (by omega); rw [h2]; omega
    have w5' : (a : Int) + (k1 : Int) = ((a + k1 : Nat) : Int) := by omega
    have HX : Hid (exec s (zeroS a k1) = exec u [.st (a + k1) 0]) := by show _ = _; rw [← Hk1.out, zeroS, exec_ok Hok.out, Hu.out]
    rw [Hk1.out] at hk ⊢
    by_cases hlt : k1 < q
    · have Hst := Lib.hid (store_any B b m u (a + k1) 0 wr HD.out (by rw [HN.out]; omega) (by omega))
      obtain ⟨v, Hv⟩ : ∃ v, Hid (a + k1 = v) := ⟨_, rfl⟩
      rw [Hv.out] at w5 w5' Hst HX
      go_wp2_with fail
      refine Hst.out.mono ?_
      rintro e w3 ⟨rfl, hd3, hm3⟩
      rw [← HX.out] at hd3 ⊢
      have HD3 := Lib.hid hd3
      have L3 := Lib.hid (L.out.eff hm3 (fun k hk => ⟨hk, (Hlt.out k hk).2⟩))
      clear hd3 hm3 Hst L HD
      cases hb : (exec s (zeroS a k1)).2 with
      | false =>
        have HF : Hid (exec s (zeroS a (q - 1) ++ [.st a ow]) = exec s (zeroS a k1)) := by
          show _ = _
          obtain ⟨c, hc⟩ := zeroS_split a k1 (q - 1) (by omega)
          rw [hc, List.append_assoc, exec_fail hb]
        have Hb := Lib.hid hb
        clear hb
        rw [show ecode false = 3 from rfl]
        go_wp2_with fail
        go_ret
        rw [HF.out, Hb.out]
        exact ⟨rfl, HD3.out, L3.out.be⟩
      | true =>
        have Hb := Lib.hid hb
        clear hb
        rw [show ecode true = 0 from rfl]
        go_wp2_with fail
        exact ⟨⟨k1, by go_num, by omega, Hb.out, HD3.out, L3.out⟩, by simp [intOf]; omega⟩
    · have hkq : k1 = q := by omega
      subst hkq
      have x0 : wr.cell? ⟨n1, 0, none⟩ = some (.int .i64 p) := L.out.b0.cell 0
      have x1 : wr.cell? ⟨n1, 1, none⟩ = some (.int .i64 d) := L.out.b0.cell 1
      have HF : Hid (exec s (zeroS a (k1 - 1) ++ [.st a ow]) = exec u [.st a ow]) := by
        show _ = _
        rw [show k1 - 1 = k by rw [← Hk1.out]; omega, exec_ok Hok.out, Hu.out]
      clear w5 w5'
      go_wp2_with fail
      refine (He.out _).mono ?_
      rintro e w4 ⟨rfl, hb4⟩
      have L4 := Lib.hid (L.out.call hb4 (Nat.le_refl _))
      have HD4 := Lib.hid (HD.out.below hb4 (Nat.le_refl _))
      have Hst := Lib.hid (store_any B b m u a ow w4 HD4.out (by rw [HN.out]; omega) (by omega))
      clear hb4 L HD x0 x1
      go_wp2_with fail
      refine Hst.out.mono ?_
      rintro e w5 ⟨rfl, hd5, hm5⟩
      have HD5 := Lib.hid hd5
      have L5 := Lib.hid (L4.out.eff hm5 (fun k hk => ⟨hk, (Hlt.out k hk).2⟩))
      clear hd5 hm5 L4 HD4 Hst
      go_wp2_with fail
      go_ret
      rw [HF.out]
      exact ⟨rfl, HD5.out, L5.out.be⟩
end Go.Proofs.YtcnjipicifkfjaaGreat
