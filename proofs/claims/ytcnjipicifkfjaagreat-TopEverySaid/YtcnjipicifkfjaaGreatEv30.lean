/- alloc: room, where a free block is taken. -/
import Derived.Test.YtcnjipicifkfjaaGreatEv29
import Derived.Test.YtcnjipicifkfjaaGreatEv28
import Derived.Test.YtcnjipicifkfjaaGreatEv14
import Derived.Test.YtcnjipicifkfjaaGreatEv03
import Derived.Test.YtcnjipicifkfjaaGreatEv19

namespace Go.Proofs.YtcnjipicifkfjaaGreat
open Go.RowKit
set_option linter.unusedVariables false
set_option linter.unusedSimpArgs false

theorem AllocX.bman {w w' : World} {col : Nat → Nat} {ap d mp us fr : Nat} {S : AS} {b : DB} (h : AllocX w col ap d mp us fr S) (hdv : ∀ k, b.has k → col k = 0) (m : Mod w w' (fun k => b.has k ∨ col k = 1)) {hs : List (Nat × Nat)} {o : Option (Nat × Nat)} (hf : BmanR w' (fun k => col k = 1) mp d S.K hs o) :
    AllocX w' col ap d mp us fr { S with hs := hs, o := o } :=
  ⟨m.blk h.b (by rintro (h1 | h1); have := hdv _ h1; have := h.c; omega; have := h.c; omega), hf, h.u.mod m (by rintro k hk (h1 | h1); have := hdv _ h1; omega; omega), h.f.mod m (by rintro k hk (h1 | h1); have := hdv _ h1; omega; omega), h.c⟩
theorem AllocX.freeSame {w w' : World} {col : Nat → Nat} {ap d mp us fr : Nat} {S : AS} (h : AllocX w col ap d mp us fr S) (hf : FreeR w' (GrowF (fun k => col k = 3) w) fr S.k S.glob S.cs) (hM : Mod w w' (fun k => col k = 3)) :
    AllocX w' (colW col w 3) ap d mp us fr S := by
  have h1 := (h.recol (colW_lt col w 3))
  have hM2 : Mod w w' (fun k => colW col w 3 k = 3) := hM.mono (fun k hk h => by rw [colW_lt _ _ _ _ hk]; exact h)
  exact h1.free hM2 (hf.weak (fun k hk h => h.elim (fun h => by
    by_cases hkw : k < w.heap.size
    · rw [colW_lt _ _ _ _ hkw]; exact h
    · exact colW_ge _ _ _ _ (by omega)) (fun h => colW_ge _ _ _ _ h)))
theorem exec_left {s : DS} {a c : List Step} (h : (exec s (a ++ c)).2 = true) : (exec s a).2 = true := by
  cases hb : (exec s a).2 with
  | true => rfl
  | false => rw [exec_fail hb, hb] at h; exact h
def AS.small (S : AS) (st n : Nat) : AS := { S with hs := S.hs.set st (1, S.k), o := restO st n, glob := S.glob ++ carveL S.used S.k st (ccells S.k) }
set_option maxRecDepth 100000 in
set_option maxHeartbeats 2000000 in
theorem room_small (B : Nat) (b : DB) (m : Nat) (s : DS) (col : Nat → Nat) (ap mp us fr mu p dd st n : Nat) (S : AS) (w : World) (h : Dev B w b m s) (hdv : ∀ k, b.has k → col k = 0) (hA : AllocX w col ap b.d mp us fr S) (hmu : mu < 4) (hp : p ≤ 63) (hd : 1 + p + dd ≤ 256) (hk : cof (1 + p + dd) = S.k)
    (hm : m = S.K * 64) (hK : S.K ≤ 150) (hcs : S.cs mu = []) (hgl : S.glob = []) (ho : S.o = some (st, n)) (hst : 1 ≤ st) (hn : 1 ≤ n) (hle : st + n ≤ S.K) (hc : ∀ m, (S.cs m).length ≤ 1000) (hno : ∀ m x, x ∈ S.cs m → x / 512 ≠ st) (hcv : carveL S.used S.k st (ccells S.k) ≠ []) :
    Calls Tryz.prog 112 #[.pointer (some ⟨ap, 0, none⟩), .int .i64 mu, .agg #[.int .i64 p, .int .i64 dd]] w fun e w' =>
      e = .returned (.tuple #[.int .i64 (if (exec s (putS st 1 S.k)).2 then takeA (S.small st n).glob S.cs mu else 0 : Nat), .int .i64 (ecode (exec s (putS st 1 S.k)).2)]) ∧ Dev B w' b m (exec s (putS st 1 S.k)).1 ∧
      ((exec s (putS st 1 S.k)).2 = true → ∃ col', (∀ k, k < w.heap.size → col' k = col k) ∧ AllocX w' col' ap b.d mp us fr ((S.small st n).take mu)) ∧ Mod w w' (fun k => b.has k ∨ col k = 1 ∨ col k = 3) := by
  have hk32 : S.k < 32 := by rw [← hk]; exact cof_lt _ hd
  have hcc := ccells_pos S.k hk32
  obtain ⟨w0, Hw0⟩ : ∃ w0, Hid (w = w0) := ⟨_, rfl⟩
  have Hs := Lib.hid (fun w => osmall_any p dd w hp hd)
  rw [hk] at Hs
  have Hft : Hid (∀ F w, FreeR w F fr S.k S.glob S.cs → Calls Tryz.prog 159 #[.pointer (some ⟨fr, 0, none⟩), .int .i64 mu, .int .i64 S.k] w fun e w' => e = .returned (.tuple #[.int .i64 0, .int .i64 4]) ∧ FreeR w' (GrowF F w) fr S.k S.glob S.cs ∧ Mod w w' F) :=
    fun F w h => ftake_none F fr S.k mu S.glob S.cs w h (by rw [hgl]; simp) hc hmu hcs hgl
  have Hsm : Hid (∀ (F : Nat → Prop) w, Dev B w b m s → BmanR w F mp b.d S.K S.hs (some (st, n)) → (∀ k, F k → ¬ b.has k) → Calls Tryz.prog 160 #[.pointer (some ⟨mp, 0, none⟩), .int .i64 S.k] w fun e w' => e = .returned (.tuple #[.int .i64 (if (exec s (putS st 1 S.k)).2 then st else 0 : Nat), .int .i64 (ecode (exec s (putS st 1 S.k)).2)]) ∧ Dev B w' b m (exec s (putS st 1 S.k)).1 ∧
      BmanR w' F mp b.d S.K (if (exec s [.st (256 + st) (hword st 1 S.k)]).2 then S.hs.set st (1, S.k) else S.hs) (restO st n) ∧ Mod w w' (fun k => b.has k ∨ F k)) :=
    fun F w h hM hD => bmsmall_any B b m s F mp S.K S.k st n S.hs w h hM hD (.inr ⟨rfl, hk32⟩) hst hn hle hK hm
  have Hcar : Hid (∀ col w, AllocX w col ap b.d mp us fr { S with hs := S.hs.set st (1, S.k), o := restO st n } → Calls Tryz.prog 143 #[.pointer (some ⟨ap, 0, none⟩), .int .i64 st, .int .i64 S.k] w fun e w' => (∃ v, e = .returned v) ∧ AllocX w' (colW col w 3) ap b.d mp us fr (S.small st n) ∧ Mod w w' (fun k => col k = 3)) :=
    fun col w hX => carve_any col ap b.d mp us fr st { S with hs := S.hs.set st (1, S.k), o := restO st n } w hX hk32 hst (by show st < S.K; omega) hK (by
      rintro x (hx | ⟨mm, _, hx⟩)
      · simp only [hgl] at hx; cases hx
      · exact hno mm x hx) (by simp only [hgl, List.length_nil]; omega) hc
  have Hft2 : Hid (∀ F w, FreeR w F fr S.k (S.small st n).glob S.cs → Calls Tryz.prog 159 #[.pointer (some ⟨fr, 0, none⟩), .int .i64 mu, .int .i64 S.k] w fun e w' => e = .returned (.tuple #[.int .i64 (takeA (S.small st n).glob S.cs mu : Nat), .int .i64 0]) ∧ FreeR w' (GrowF F w) fr S.k (takeG (S.small st n).glob S.cs mu) (takeC (S.small st n).glob S.cs mu) ∧ Mod w w' F) := by
    intro F w h
    refine ftake_yes F fr S.k mu (S.small st n).glob S.cs w h ?_ hc hmu (.inr ?_)
    · have := carveL_len S.used S.k st (ccells S.k)
      simp only [AS.small, hgl, List.nil_append]
      omega
    · simp only [AS.small, hgl, List.nil_append]
      exact hcv
  have HX1 : Hid ((exec s (putS st 1 S.k)).2 = true → (if (exec s [.st (256 + st) (hword st 1 S.k)]).2 then S.hs.set st (1, S.k) else S.hs) = S.hs.set st (1, S.k)) := by
    intro he
    rw [if_pos (exec_left he)]
  obtain ⟨hs', Hhs⟩ : ∃ hs', Hid ((if (exec s [.st (256 + st) (hword st 1 S.k)]).2 then S.hs.set st (1, S.k) else S.hs) = hs') := ⟨_, rfl⟩
  rw [Hhs.out] at Hsm HX1
  obtain ⟨R, HR⟩ : ∃ R, Hid (exec s (putS st 1 S.k) = R) := ⟨_, rfl⟩
  rw [HR.out] at Hsm HX1 ⊢
  obtain ⟨v, Hv⟩ : ∃ v, Hid ((if R.2 then st else 0) = v) := ⟨_, rfl⟩
  rw [Hv.out] at Hsm
  obtain ⟨ta, Hta⟩ : ∃ ta, Hid (takeA (S.small st n).glob S.cs mu = ta) := ⟨_, rfl⟩
  rw [Hta.out] at Hft2 ⊢
  obtain ⟨va, Hva⟩ : ∃ v, Hid ((if R.2 then ta else 0) = v) := ⟨_, rfl⟩
  rw [Hva.out]
  obtain ⟨n1, Hn1⟩ : ∃ n, Hid (w.heap.size = n) := ⟨_, rfl⟩
  have L1 := Lib.hid ((Loc.nil Nob w).box 51 #[.int .i64 p, .int .i64 dd] n1 Hn1.out)
  have HA : Hid (AllocX w (colW col w0 9) ap b.d mp us fr S) := Hw0.out ▸ (hA.recol (colW_lt col w 9))
  have Hlt := Lib.hid h.lt
  have HDV : Hid (∀ k, b.has k → colW col w0 9 k = 0 ∧ k < w.heap.size) := fun k hk => ⟨by rw [← Hw0.out, colW_lt _ _ _ _ (h.lt k hk).2]; exact hdv k hk, (h.lt k hk).2⟩
  have HCW : Hid (∀ k, k < w.heap.size → colW col w0 9 k = col k) := fun k hk => by rw [← Hw0.out, colW_lt _ _ _ _ hk]
  have HD := Lib.hid h
  have Hso := Lib.hid ho
  clear h hA hk hc hcs hgl ho hst hn hle hno hcv hdv hm
  generalize colW col w0 9 = col1 at *
  go_enter Tryz.func112, Tryz.ntmps112
  go_wp2_with fail
  rw [Hn1.out]
  generalize w.alloc _ = w1 at *
  refine (Hs.out _).mono ?_
  rintro e w2 ⟨rfl, hb2⟩
  have L2 := Lib.hid (L1.out.call hb2 (Nat.le_refl _))
  have HA2 := Lib.hid (HA.out.below L2.out.below (Nat.le_refl _))
  have HD2 := Lib.hid (HD.out.below L2.out.below (Nat.le_refl _))
  have c4 : w2.cell? ⟨ap, 4, none⟩ = some (.pointer (some ⟨fr, 0, none⟩)) := HA2.out.b.cell 4
  clear hb2 L1 HA HD
  go_wp2_with fail
  refine (Hft.out _ _ HA2.out.f).mono ?_
  rintro e w3 ⟨rfl, hf3, hM3⟩
  have hsz : w.heap.size ≤ w2.heap.size := L2.out.below.size
  have HDV2 : Hid (∀ k, b.has k → colW col1 w2 3 k = 0) := fun k hk => by rw [colW_lt _ _ _ _ (Nat.lt_of_lt_of_le (HDV.out k hk).2 hsz)]; exact (HDV.out k hk).1
  have HA3 := Lib.hid (HA2.out.freeSame hf3 hM3)
  have HD3 : Hid (Dev B w3 b m s) := HD2.out.mod hM3 (fun k h1 h2 => by have := (HDV.out k h1).1; omega)
  have HM3 : Hid (Mod w w3 (fun k => col k = 3)) := Mod.trans (mod_b L2.out.below : Mod w w2 (fun k => col k = 3)) hM3 (fun k hk h => by rw [HCW.out k hk] at h; exact h)
  have HCW3 : Hid (∀ k, k < w.heap.size → colW col1 w2 3 k = col k) := fun k hk => by rw [colW_lt _ _ _ _ (Nat.lt_of_lt_of_le hk hsz)]; exact HCW.out k hk
  generalize colW col1 w2 3 = col2 at *
  have c5 : w3.cell? ⟨ap, 0, none⟩ = some (.pointer (some ⟨mp, 0, none⟩)) := HA3.out.b.cell 0
  have hsz3 : w.heap.size ≤ w3.heap.size := HM3.out.size
  clear hf3 hM3 c4 HA2 HD2
  have Hbm := Lib.hid (Hso.out ▸ HA3.out.m)
  go_wp2_with fail
  refine (Hsm.out _ _ HD3.out Hbm.out (fun k h1 h2 => by have := HDV2.out k h2; omega)).mono ?_
  rintro e w4 ⟨rfl, hd4, hb4, hM4⟩
  have HD4 := Lib.hid hd4
  have HA4 := Lib.hid (HA3.out.bman HDV2.out hM4 hb4)
  have HM4 : Hid (Mod w w4 (fun k => b.has k ∨ col k = 1 ∨ col k = 3)) := Mod.trans (HM3.out.mono (fun k _ h => .inr (.inr h))) hM4 (fun k hk h => by rw [HCW3.out k hk] at h; exact h.elim .inl (fun h => .inr (.inl h)))
  clear hd4 hb4 hM4 c5 HA3 HD3 HM3 Hbm
  cases hR : R.2 with
  | false =>
    have hva : va = 0 := by rw [← Hva.out, hR]; rfl
    rw [show ecode false = 3 from rfl]
    go_wp2_with fail
    refine bodyPost_ret (results_tmp2 rfl _ _ _) rfl ?_
    rw [hva, hR]
    exact ⟨rfl, HD4.out, (fun h => by cases h), HM4.out⟩
  | true =>
    have hv : v = st := by rw [← Hv.out, hR]; rfl
    have hva : va = ta := by rw [← Hva.out, hR]; rfl
    have HE := Lib.hid (HX1.out hR)
    subst hv
    rw [HE.out] at HA4
    rw [show ecode true = 0 from rfl]
    have HRt := Lib.hid hR
    clear hR
    go_wp2_with fail
    refine (Hcar.out _ _ HA4.out).mono ?_
    rintro e w5 ⟨⟨v5, rfl⟩, hA5, hM5⟩
    have HA5 := Lib.hid hA5
    have HDV5 : Hid (∀ k, b.has k → colW col2 w4 3 k = 0) := fun k hk => by rw [colW_lt _ _ _ _ (Nat.lt_of_lt_of_le (HDV.out k hk).2 HM4.out.size)]; exact HDV2.out k hk
    have HD5 : Hid (Dev B w5 b m R.1) := HD4.out.mod hM5 (fun k h1 h2 => by have := HDV2.out k h1; omega)
    have HM5 : Hid (Mod w w5 (fun k => b.has k ∨ col k = 1 ∨ col k = 3)) := HM4.out.trans hM5 (fun k hk h => by rw [HCW3.out k hk] at h; exact .inr (.inr h))
    have HCW5 : Hid (∀ k, k < w.heap.size → colW col2 w4 3 k = col k) := fun k hk => by rw [colW_lt _ _ _ _ (Nat.lt_of_lt_of_le hk HM4.out.size)]; exact HCW3.out k hk
    generalize colW col2 w4 3 = col3 at *
    have c6 : w5.cell? ⟨ap, 4, none⟩ = some (.pointer (some ⟨fr, 0, none⟩)) := HA5.out.b.cell 4
    clear hA5 hM5 HA4 HD4 HM4
    go_wp2_with fail
    refine (Hft2.out _ _ HA5.out.f).mono ?_
    rintro e w6 ⟨rfl, hf6, hM6⟩
    have HA6 := Lib.hid (HA5.out.taken (mu := mu) hf6 hM6)
    have HD6 : Hid (Dev B w6 b m R.1) := HD5.out.mod hM6 (fun k h1 h2 => by have := HDV5.out k h1; omega)
    have HM6 : Hid (Mod w w6 (fun k => b.has k ∨ col k = 1 ∨ col k = 3)) := HM5.out.trans hM6 (fun k hk h => by rw [HCW5.out k hk] at h; exact .inr (.inr h))
    have HCW6 : Hid (∀ k, k < w.heap.size → colW col3 w5 3 k = col k) := fun k hk => by rw [colW_lt _ _ _ _ (Nat.lt_of_lt_of_le hk HM5.out.size)]; exact HCW5.out k hk
    clear hf6 hM6 c6 HA5 HD5 HM5
    go_wp2_with fail
    refine bodyPost_ret (results_tmp2 rfl _ _ _) rfl ?_
    rw [hva, HRt.out]
    exact ⟨rfl, HD6.out, fun _ => ⟨_, HCW6.out, HA6.out⟩, HM6.out⟩
end Go.Proofs.YtcnjipicifkfjaaGreat

/- Plain law: which cell a push takes. -/
namespace Go.Proofs.YtcnjipicifkfjaaGreat
open Go.RowKit
set_option linter.unusedVariables false
set_option linter.unusedSimpArgs false

/-- The free cells of block 1, the lowest last, when n are taken. -/
def cellsN (n : Nat) : List Nat := carveL (fun _ => false) 1 1 (170 - n)
theorem ccells1 : ccells 1 = 170 := by decide
theorem cadr1 (i : Nat) : cadr 1 1 i = adr (i + 1) := by
  have : csize 1 = 3 := by decide
  unfold cadr adr
  rw [this]
  omega
theorem cellsN_step (n : Nat) (h : n < 170) : cellsN n = cellsN (n + 1) ++ [adr (n + 1)] := by
  unfold cellsN
  obtain ⟨t, ht⟩ : ∃ t, 170 - n = t + 1 := ⟨169 - n, by omega⟩
  rw [ht, show 170 - (n + 1) = t by omega, carveL, ccells1, cadr1]
  rw [if_neg (by decide), show 170 - 1 - t + 1 = n + 1 by omega]
theorem getLastD_snoc (l : List Nat) (x : Nat) : (l ++ [x]).getLastD 0 = x := by simp [List.getLastD_eq_getLast?]
theorem take_snoc (glob : List Nat) (cs : Nat → List Nat) (mu x : Nat) (X : List Nat) (h : glob ++ cs mu = X ++ [x]) (hN : glob ≠ [] → 0 < takeN glob ∧ takeN glob ≤ glob.length) :
    takeA glob cs mu = x ∧ takeG glob cs mu ++ takeC glob cs mu mu = X ∧ ∀ k, k ≠ mu → takeC glob cs mu k = cs k := by
  unfold takeA takeG takeC
  by_cases hc : cs mu ≠ []
  · rw [if_pos hc, if_pos hc, if_pos hc]
    obtain ⟨Y, y, hy⟩ : ∃ Y y, cs mu = Y ++ [y] := ⟨(cs mu).dropLast, (cs mu).getLast hc, (List.dropLast_concat_getLast hc).symm⟩
    rw [hy, ← List.append_assoc] at h
    obtain ⟨h1, h2⟩ := List.append_inj' h rfl
    have h2 : y = x := by simpa using h2
    refine ⟨by rw [hy, getLastD_snoc, h2], ?_, fun k hk => by simp [updC, hk]⟩
    have : updC cs mu (cs mu).dropLast mu = (cs mu).dropLast := by simp [updC]
    rw [this, hy, List.dropLast_concat]
    exact h1
  · have hc' : cs mu = [] := by simpa using hc
    rw [if_neg hc, if_neg hc, if_neg hc]
    rw [hc', List.append_nil] at h
    have hne : glob ≠ [] := by rw [h]; simp
    obtain ⟨n1, n2⟩ := hN hne
    obtain ⟨Y, y, hy⟩ : ∃ Y y, glob.drop (glob.length - takeN glob) = Y ++ [y] := by
      have hd : glob.drop (glob.length - takeN glob) ≠ [] := by
        intro e
        have := congrArg List.length e
        rw [List.length_drop, List.length_nil] at this
        omega
      exact ⟨_, _, (List.dropLast_concat_getLast hd).symm⟩
    have hs := List.take_append_drop (glob.length - takeN glob) glob
    rw [hy, ← List.append_assoc] at hs
    rw [h] at hs
    obtain ⟨h1, h2⟩ := List.append_inj' hs rfl
    have h2 : y = x := by simpa using h2
    refine ⟨by rw [hy, getLastD_snoc, h2], ?_, fun k hk => by simp [updC, hk]⟩
    have : updC cs mu (glob.drop (glob.length - takeN glob)).dropLast mu = (glob.drop (glob.length - takeN glob)).dropLast := by simp [updC]
    rw [this, hy, List.dropLast_concat, h]
    exact h1
end Go.Proofs.YtcnjipicifkfjaaGreat

/- object: Init. -/
namespace Go.Proofs.YtcnjipicifkfjaaGreat
open Go.RowKit
set_option linter.unusedVariables false
set_option linter.unusedSimpArgs false

def zeroS (a : Nat) : Nat → List Step
  | 0 => []
  | k + 1 => zeroS a k ++ [.st (a + (k + 1)) 0]
def initS (a p d : Nat) : List Step := zeroS a (p + d) ++ [.st a (oword a p d)]
theorem zeroS_split (a k n : Nat) (h : k ≤ n) : ∃ c, zeroS a n = zeroS a k ++ c := by
  induction n with
  | zero => obtain rfl : k = 0 := by omega
            exact ⟨[], by simp⟩
  | succ n ih =>
    by_cases hk : k = n + 1
    · subst hk; exact ⟨[], by simp⟩
    · obtain ⟨c, hc⟩ := ih (by omega)
      exact ⟨c ++ [.st (a + (n + 1)) 0], by rw [zeroS, hc, List.append_assoc]⟩
set_option maxRecDepth 100000 in
set_option maxHeartbeats 1000000 in
theorem init_any (B : Nat) (b : DB) (m : Nat) (s : DS) (a p d : Nat) (w : World) (h : Dev B w b m s) (ho : Obj p d) (ha : a + (1 + p + d) ≤ 8 * m) (hm : m ≤ 10000) :
    Calls Tryz.prog 113 #[.pointer (some ⟨b.d, 0, none⟩), .int .i64 a, .agg #[.int .i64 p, .int .i64 d]] w fun e w' => e = .returned (.int .i64 (ecode (exec s (initS a p d)).2)) ∧ Dev B w' b m (exec s (initS a p d)).1 ∧ Mod w w' b.has := by
  obtain ⟨hp, hd, _⟩ := ho.le
  have Hlt := Lib.hid h.lt
  have Hs := Lib.hid (fun w => osize_any p d w (by omega) (by omega))
  have Hl := Lib.hid (fun s w (h : Dev B w b m s) => len_any B b m s w h)
  have He := Lib.hid (fun w => oenc_any a p d w ho (by omega))
  obtain ⟨N, HN⟩ : ∃ N, Hid (8 * m = N) := ⟨_, rfl⟩
  have hN : N ≤ 80000 := by rw [← HN.out]; omega
  rw [HN.out] at Hl ha
  obtain ⟨q, Hq⟩ : ∃ q, Hid (1 + p + d = q) := ⟨_, rfl⟩
  have HI : Hid (initS a p d = zeroS a (q - 1) ++ [.st a (oword a p d)]) := by
    show _ = _
    unfold initS
    rw [show q - 1 = p + d by rw [← Hq.out]; omega]
  rw [HI.out]
  rw [Hq.out] at Hs ha
  have hq1 : 1 ≤ q := by rw [← Hq.out]; omega
  have hq2 : q ≤ 1000 := by rw [← Hq.out]; omega
  generalize oword a p d = ow at *
  have g1 : decide ((q : Int) = 0) = false := by rw [decide_eq_false_iff_not]; omega
  have g1' : decide (q = 0) = false := by rw [decide_eq_false_iff_not]; omega
  have g1'' : ((q : Int) == 0) = false := by rw [beq_eq_false_iff_ne]; omega
  have g2 : decide ((a : Int) < 0) = false := by rw [decide_eq_false_iff_not]; omega
  have g3 : decide ((a : Int) ≥ (N : Int)) = false := by rw [decide_eq_false_iff_not]; omega
  have g3' : decide (N ≤ a) = false := by rw [decide_eq_false_iff_not]; omega
  obtain ⟨r, Hr⟩ : ∃ r, Hid (N - a = r) := ⟨_, rfl⟩
  have g4 : decide ((q : Int) > (r : Int)) = false := by have := Hr.out; rw [decide_eq_false_iff_not]; omega
  have g4' : decide (r < q) = false := by have := Hr.out; rw [decide_eq_false_iff_not]; omega
  have w4 : IntKind.i64.wrap ((N : Int) - (a : Int)) = (r : Int) := by have := Hr.out; have h2 := IntWalk.i64_in ((N : Int) - (a : Int)) (by omega); rw [h2]; omega
  have w4' : (N : Int) - (a : Int) = (r : Int) := by have := Hr.out; omega
  obtain ⟨n1, Hn1⟩ : ∃ n, Hid (w.heap.size = n) := ⟨_, rfl⟩
  have L1 := Lib.hid ((Loc.nil b.has w).box 51 #[.int .i64 p, .int .i64 d] n1 Hn1.out)
  have HD1 : Hid (Dev B (w.alloc (.cells #[.int .i64 p, .int .i64 d] 51)) b m s) := h.below (below_box w _) (Nat.le_refl _)
  clear h
  go_enter Tryz.func113, Tryz.ntmps113
  go_wp2_with fail
  rw [Hn1.out]
  generalize w.alloc _ = w1 at *
  refine (Hs.out _).mono ?_
  rintro e w2 ⟨rfl, hb2⟩
  have L2 := Lib.hid (L1.out.call hb2 (Nat.le_refl _))
  have HD2 := Lib.hid (HD1.out.below hb2 (Nat.le_refl _))
  clear hb2 L1 HD1
  go_wp2_with fail
  refine (Hl.out _ _ HD2.out).mono ?_
  rintro e _ ⟨rfl, rfl⟩
  go_wp2_with fail
  refine (Hl.out _ _ HD2.out).mono ?_
  rintro e _ ⟨rfl, rfl⟩
  go_wp2_with fail
  clear g1 g1' g1'' g2 g3 g3' g4 g4' w4 w4'
  go_loopw [8] (fun v8 wr => ∃ k : Nat, v8 = .int .i64 (k + 1 : Nat) ∧ k + 1 ≤ q ∧ (exec s (zeroS a k)).2 = true ∧ Dev B wr b m (exec s (zeroS a k)).1 ∧ Loc b.has w wr [(n1, 51, #[.int .i64 p, .int .i64 d])]) (fun v8 _ => q - (intOf v8).toNat)
  case atStart => exact ⟨0, rfl, by omega, rfl, HD2.out, L2.out⟩
  case round =>
    clear L2 HD2
    obtain ⟨k, rfl, hk, hok, hd, hl⟩ := hrel
    have Hok := Lib.hid hok
    have HD := Lib.hid hd
    have L := Lib.hid hl
    clear hok hd hl
    obtain ⟨u, Hu⟩ : ∃ u, Hid ((exec s (zeroS a k)).1 = u) := ⟨_, rfl⟩
    rw [Hu.out] at HD
    obtain ⟨k1, Hk1⟩ : ∃ k1, Hid (k + 1 = k1) := ⟨_, rfl⟩
    have w5 : IntKind.i64.wrap ((a : Int) + (k1 : Int)) = ((a + k1 : Nat) : Int) := by have := Hk1.out; have h2 := IntWalk.i64_in ((a : Int) + (k1 : Int)) (by omega); rw [h2]; omega
    have w5' : (a : Int) + (k1 : Int) = ((a + k1 : Nat) : Int) := by omega
    have HX : Hid (exec s (zeroS a k1) = exec u [.st (a + k1) 0]) := by show _ = _; rw [← Hk1.out, zeroS, exec_ok Hok.out, Hu.out]
    rw [Hk1.out] at hk ⊢
    by_cases hlt : k1 < q
    · have Hst := Lib.hid (store_any B b m u (a + k1) 0 wr HD.out (by rw [HN.out]; omega) (by omega))
      obtain ⟨v, Hv⟩ : ∃ v, Hid (a + k1 = v) := ⟨_, rfl⟩
      rw [Hv.out] at w5 w5' Hst HX
      go_wp2_with fail
      refine Hst.out.mono ?_
      rintro e w3 ⟨rfl, hd3, hm3⟩
      rw [← HX.out] at hd3 ⊢
      have HD3 := Lib.hid hd3
      have L3 := Lib.hid (L.out.eff hm3 (fun k hk => ⟨hk, (Hlt.out k hk).2⟩))
      clear hd3 hm3 Hst L HD
      cases hb : (exec s (zeroS a k1)).2 with
      | false =>
        have HF : Hid (exec s (zeroS a (q - 1) ++ [.st a ow]) = exec s (zeroS a k1)) := by
          show _ = _
          obtain ⟨c, hc⟩ := zeroS_split a k1 (q - 1) (by omega)
          rw [hc, List.append_assoc, exec_fail hb]
        have Hb := Lib.hid hb
        clear hb
        rw [show ecode false = 3 from rfl]
        go_wp2_with fail
        go_ret
        rw [HF.out, Hb.out]
        exact ⟨rfl, HD3.out, L3.out.be⟩
      | true =>
        have Hb := Lib.hid hb
        clear hb
        rw [show ecode true = 0 from rfl]
        go_wp2_with fail
        exact ⟨⟨k1, by go_num, by omega, Hb.out, HD3.out, L3.out⟩, by simp [intOf]; omega⟩
    · have hkq : k1 = q := by omega
      subst hkq
      have x0 : wr.cell? ⟨n1, 0, none⟩ = some (.int .i64 p) := L.out.b0.cell 0
      have x1 : wr.cell? ⟨n1, 1, none⟩ = some (.int .i64 d) := L.out.b0.cell 1
      have HF : Hid (exec s (zeroS a (k1 - 1) ++ [.st a ow]) = exec u [.st a ow]) := by
        show _ = _
        rw [show k1 - 1 = k by rw [← Hk1.out]; omega, exec_ok Hok.out, Hu.out]
      clear w5 w5'
      go_wp2_with fail
      refine (He.out _).mono ?_
      rintro e w4 ⟨rfl, hb4⟩
      have L4 := Lib.hid (L.out.call hb4 (Nat.le_refl _))
      have HD4 := Lib.hid (HD.out.below hb4 (Nat.le_refl _))
      have Hst := Lib.hid (store_any B b m u a ow w4 HD4.out (by rw [HN.out]; omega) (by omega))
      clear hb4 L HD x0 x1
      go_wp2_with fail
      refine Hst.out.mono ?_
      rintro e w5 ⟨rfl, hd5, hm5⟩
      have HD5 := Lib.hid hd5
      have L5 := Lib.hid (L4.out.eff hm5 (fun k hk => ⟨hk, (Hlt.out k hk).2⟩))
      clear hd5 hm5 L4 HD4 Hst
      go_wp2_with fail
      go_ret
      rw [HF.out]
      exact ⟨rfl, HD5.out, L5.out.be⟩
end Go.Proofs.YtcnjipicifkfjaaGreat

/- alloc: Alloc. -/
namespace Go.Proofs.YtcnjipicifkfjaaGreat
open Go.RowKit
set_option linter.unusedVariables false
set_option linter.unusedSimpArgs false

/-- What room answers: by which steps of the device, at which address, and what the allocator is then. -/
def RoomOk (B : Nat) (b : DB) (m : Nat) (s : DS) (ap mp us fr mu p dd : Nat) (S : AS) (st : List Step) (a : Nat) (S1 : AS) : Prop :=
  ∀ (col : Nat → Nat) (w : World), Dev B w b m s → (∀ k, b.has k → col k = 0) → AllocX w col ap b.d mp us fr S → Calls Tryz.prog 112 #[.pointer (some ⟨ap, 0, none⟩), .int .i64 mu, .agg #[.int .i64 p, .int .i64 dd]] w fun e w' =>
    e = .returned (.tuple #[.int .i64 (if (exec s st).2 then a else 0 : Nat), .int .i64 (ecode (exec s st).2)]) ∧ Dev B w' b m (exec s st).1 ∧
    ((exec s st).2 = true → ∃ col', (∀ k, k < w.heap.size → col' k = col k) ∧ AllocX w' col' ap b.d mp us fr S1) ∧ Mod w w' (fun k => b.has k ∨ col k = 1 ∨ col k = 3)
def AS.add (S : AS) (a : Nat) : AS := { S with used := addS S.used a }
set_option maxRecDepth 100000 in
set_option maxHeartbeats 4000000 in
theorem alloc_any (B : Nat) (b : DB) (m : Nat) (s : DS) (col : Nat → Nat) (ap mp us fr mu p dd a : Nat) (S S1 : AS) (st : List Step) (w : World) (h : Dev B w b m s) (hdv : ∀ k, b.has k → col k = 0) (hA : AllocX w col ap b.d mp us fr S) (hmu : mu < 4) (ho : Obj p dd)
    (hm : m = S.K * 64) (hK2 : 2 ≤ S.K) (hK : S.K ≤ 150) (hK1 : S1.K = S.K) (hR : RoomOk B b m s ap mp us fr mu p dd S st a S1) (ha : a + (1 + p + dd) ≤ 8 * m) :
    Calls Tryz.prog 60 #[.pointer (some ⟨ap, 0, none⟩), .int .i64 mu, .int .i64 p, .int .i64 dd] w fun e w' =>
      e = .returned (.tuple #[.int .i64 (if (exec s (st ++ initS a p dd)).2 then a else 0 : Nat), .int .i64 (ecode (exec s (st ++ initS a p dd)).2)]) ∧ Dev B w' b m (exec s (st ++ initS a p dd)).1 ∧
      ((exec s (st ++ initS a p dd)).2 = true → ∃ col', (∀ k, k < w.heap.size → col' k = col k) ∧ AllocX w' col' ap b.d mp us fr (S1.add a)) ∧ Mod w w' (fun k => b.has k ∨ col k = 1 ∨ col k = 2 ∨ col k = 3) := by
  obtain ⟨hp, hd, _⟩ := ho.le
  obtain ⟨E, HE⟩ : ∃ E, Hid (exec s (st ++ initS a p dd) = E) := ⟨_, rfl⟩
  rw [HE.out]
  obtain ⟨va, Hva⟩ : ∃ v, Hid ((if E.2 then a else 0) = v) := ⟨_, rfl⟩
  rw [Hva.out]
  obtain ⟨w0, Hw0⟩ : ∃ w0, Hid (w = w0) := ⟨_, rfl⟩
  have Hs := Lib.hid (fun w => osize_any p dd w (by omega) (by omega))
  have Hg := Lib.hid (fun w => gmost_any S.K w hK2 (by omega))
  have Hi := Lib.hid (fun (s1 : DS) w h => init_any B b m s1 a p dd w h ho ha (by omega))
  have HR := Lib.hid hR
  have HAb : Hid (∀ wr, Below w.heap.size w wr → AllocX wr (colW col w0 9) ap b.d mp us fr S) := fun wr hb => (Hw0.out ▸ (hA.recol (colW_lt col w 9)) : AllocX w (colW col w0 9) ap b.d mp us fr S).below hb (Nat.le_refl _)
  have HDb : Hid (∀ wr, Below w.heap.size w wr → Dev B wr b m s) := fun wr hb => h.below hb (Nat.le_refl _)
  have HDV : Hid (∀ k, b.has k → colW col w0 9 k = 0 ∧ k < w.heap.size) := fun k hk => ⟨by rw [← Hw0.out, colW_lt _ _ _ _ (h.lt k hk).2]; exact hdv k hk, (h.lt k hk).2⟩
  have HCW : Hid (∀ k, k < w.heap.size → colW col w0 9 k = col k) := fun k hk => by rw [← Hw0.out, colW_lt _ _ _ _ hk]
  have HC9 : Hid (∀ k, w.heap.size ≤ k → colW col w0 9 k = 9) := fun k hk => by rw [← Hw0.out]; exact colW_ge _ _ _ _ hk
  obtain ⟨q, Hq⟩ : ∃ q, Hid (1 + p + dd = q) := ⟨_, rfl⟩
  obtain ⟨M, HM⟩ : ∃ M, Hid ((S.K - 1) * 512 = M) := ⟨_, rfl⟩
  rw [Hq.out] at Hs ha
  rw [HM.out] at Hg
  have hq1 : 1 ≤ q := by rw [← Hq.out]; omega
  have hqM : q ≤ M := by rw [← Hq.out, ← HM.out]; omega
  have g1 : decide ((mu : Int) ≥ 4) = false := by rw [decide_eq_false_iff_not]; omega
  have g1' : decide (4 ≤ mu) = false := by rw [decide_eq_false_iff_not]; omega
  have g2 : decide ((q : Int) = 0) = false := by rw [decide_eq_false_iff_not]; omega
  have g2' : decide (q = 0) = false := by rw [decide_eq_false_iff_not]; omega
  have g2'' : ((q : Int) == 0) = false := by rw [beq_eq_false_iff_ne]; omega
  have g3 : decide ((q : Int) > (M : Int)) = false := by rw [decide_eq_false_iff_not]; omega
  have g3' : decide (M < q) = false := by rw [decide_eq_false_iff_not]; omega
  have HamB : Hid (a < 1000000) := by show a < 1000000; omega
  have HaN : Hid (a < 512 * S.K) := by show a < 512 * S.K; omega
  obtain ⟨n1, Hn1⟩ : ∃ n, Hid (w.heap.size = n) := ⟨_, rfl⟩
  have L1 := Lib.hid ((Loc.nil Nob w).box 51 #[.int .i64 p, .int .i64 dd] n1 Hn1.out)
  have Hn1w := Lib.hid (Nat.le_of_eq Hn1.out)
  clear h hA hdv ha hR
  generalize colW col w0 9 = col1 at *
  go_enter Tryz.func60, Tryz.ntmps60
  go_wp2_with fail
  rw [Hn1.out]
  generalize w.alloc _ = w1 at *
  have L := Lib.hid L1.out.drew
  clear L1
  have c2 := (HAb.out _ L.out.below).b.cell 2
  go_region_held3 (fun w' => w'.cell? ⟨n1, 0, none⟩ = some (.int .i64 p) ∧ w'.cell? ⟨n1, 1, none⟩ = some (.int .i64 dd) ∧ w'.cell? ⟨ap, 2, none⟩ = some (.int .i64 S.K))
    (exact ⟨L.out.b0.cell 0, L.out.b0.cell 1, (HAb.out _ L.out.below).b.cell 2⟩)
    (first
      | (go_at_call 48; refine (Hs.out _).mono ?_; rintro e w2 ⟨rfl, hb2⟩; replace L := Lib.hid (L.out.call hb2 (Nat.le_refl _)); clear hb2)
      | (go_at_call 50; refine (Hg.out _).mono ?_; rintro e w2 ⟨rfl, hb2⟩; replace L := Lib.hid (L.out.call hb2 (Nat.le_refl _)); clear hb2))
  have y0 : w2.cell? ⟨n1, 0, none⟩ = some (.int .i64 p) := L.out.b0.cell 0
  have y1 : w2.cell? ⟨n1, 1, none⟩ = some (.int .i64 dd) := L.out.b0.cell 1
  clear g1 g1' g2 g2' g2'' g3 g3' c2
  have HD2 := Lib.hid (HDb.out _ L.out.below)
  have HA2 := Lib.hid (HAb.out _ L.out.below)
  have hc9 : col1 n1 = 9 := HC9.out n1 Hn1w.out
  obtain ⟨R, HRR⟩ : ∃ R, Hid (exec s st = R) := ⟨_, rfl⟩
  obtain ⟨v, Hv⟩ : ∃ v, Hid ((if R.2 then a else 0) = v) := ⟨_, rfl⟩
  have HR2 := Lib.hid (HR.out col1 w2 HD2.out (fun k hk => (HDV.out k hk).1) HA2.out)
  rw [HRR.out, Hv.out] at HR2
  have Hc9 := Lib.hid hc9
  clear hc9 HR
  go_wp2_with fail
  refine HR2.out.mono ?_
  rintro e w3 ⟨rfl, hd3, hA3, hM3⟩
  have HD3 := Lib.hid hd3
  have HA3 := Lib.hid hA3
  have HX3 : Hid (Blk w3 n1 51 #[.int .i64 p, .int .i64 dd]) := hM3.blk L.out.b0 (by rintro (h | h | h); have := (HDV.out _ h).1; have := Hc9.out; omega; have := Hc9.out; omega; have := Hc9.out; omega)
  have HM3 : Hid (Mod w w3 (fun k => b.has k ∨ col k = 1 ∨ col k = 2 ∨ col k = 3)) := Mod.trans (mod_b L.out.below : Mod w w2 (fun k => b.has k ∨ col k = 1 ∨ col k = 2 ∨ col k = 3)) hM3 (fun k hk h => by rw [HCW.out k hk] at h; rcases h with h | h | h <;> simp [h])
  have hwlt : w.heap.size ≤ w2.heap.size := L.out.below.size
  have Hwlt := Lib.hid hwlt
  clear hd3 hA3 hM3 y0 y1 HR2 L hwlt
  cases hR : R.2 with
  | false =>
    have HF : Hid (E = R) := by show _ = _; rw [← HE.out, exec_fail (by rw [HRR.out, hR]), HRR.out]
    have hv : v = 0 := by rw [← Hv.out, hR]; rfl
    have hva : va = 0 := by rw [← Hva.out, HF.out, hR]; rfl
    subst hv
    rw [show ecode false = 3 from rfl]
    have Hf := Lib.hid hR
    clear hR
    go_wp2_with fail
    refine bodyPost_ret (results_tmp2 rfl _ _ _) rfl ?_
    rw [HF.out, Hf.out, hva]
    exact ⟨rfl, HD3.out, (fun h => by cases h), HM3.out⟩
  | true =>
    have hv : v = a := by rw [← Hv.out, hR]; rfl
    subst hv
    rw [show ecode true = 0 from rfl]
    obtain ⟨col2, hc2, hA3⟩ := HA3.out hR
    have HC2 := Lib.hid hc2
    have HA4 := Lib.hid hA3
    have HF : Hid (E = exec R.1 (initS v p dd)) := by show _ = _; rw [← HE.out, exec_ok (by rw [HRR.out, hR]), HRR.out]
    clear hc2 hA3 HA3 hR
    have z1 : w3.cell? ⟨ap, 1, none⟩ = some (.pointer (some ⟨b.d, 0, none⟩)) := HA4.out.b.cell 1
    have z2 : w3.cell? ⟨n1, 0, none⟩ = some (.int .i64 p) := HX3.out.cell 0
    have z3 : w3.cell? ⟨n1, 1, none⟩ = some (.int .i64 dd) := HX3.out.cell 1
    have Hii := Lib.hid (Hi.out R.1)
    rw [← HF.out] at Hii
    go_wp2_with fail
    have HDW : Hid (Dev B w3.drew b m R.1) := HD3.out.drewN 1
    have HDC : Hid (∀ k, b.has k → col2 k = 0 ∧ k ≠ n1) := by
      intro k hk
      have h1 := HDV.out k hk
      have h2 := HC2.out k (Nat.lt_of_lt_of_le h1.2 Hwlt.out)
      exact ⟨h2.trans h1.1, by have := Hn1.out; omega⟩
    go_region_held3 (fun w' => w'.cell? ⟨n1, 0, none⟩ = some (.int .i64 p) ∧ w'.cell? ⟨n1, 1, none⟩ = some (.int .i64 dd) ∧ w'.cell? ⟨ap, 1, none⟩ = some (.pointer (some ⟨b.d, 0, none⟩)))
      (first | exact ⟨z2, z3, z1⟩ | exact ⟨HX5.out.cell 0, HX5.out.cell 1, HA5.out.b.cell 1⟩)
      ((go_at_call 113; refine (Hii.out _ HDW.out).mono ?_; rintro e w5 ⟨rfl, hd5, hm5'⟩; have hm5 : Mod w3 w5 b.has := ⟨hm5'.os, hm5'.tape, hm5'.output, hm5'.size, hm5'.block⟩; have HD5 := Lib.hid hd5; have HA5 : Hid (AllocX w5 col2 ap b.d mp us fr S1) := HA4.out.mod (T := b.has) hm5 (fun k h1 h2 => by have := (HDC.out k h2).1; omega); have HX5 : Hid (Blk w5 n1 51 #[.int .i64 p, .int .i64 dd]) := Mod.blk (S := b.has) hm5 HX3.out (fun h => (HDC.out _ h).2 rfl); have HM5 : Hid (Mod w w5 (fun k => b.has k ∨ col k = 1 ∨ col k = 2 ∨ col k = 3)) := HM3.out.trans (S' := b.has) hm5 (fun k _ h => .inl h); clear hd5 hm5 hm5'))
    clear z1 z2 z3 HX3 HA4 HD3 HM3
    cases hE : E.2 with
    | false =>
      have hva : va = 0 := by rw [← Hva.out, hE]; rfl
      rw [show ecode false = 3 from rfl]
      have Hf := Lib.hid hE
      clear hE
      go_wp2_with fail
      refine bodyPost_ret (results_tmp2 rfl _ _ _) rfl ?_
      rw [Hf.out, hva]
      exact ⟨rfl, HD5.out, (fun h => by cases h), HM5.out⟩
    | true =>
      have hva : va = v := by rw [← Hva.out, hE]; rfl
      rw [show ecode true = 0 from rfl]
      have Hf := Lib.hid hE
      have c3 := HA5.out.b.cell 3
      have Had := Lib.hid (badd_any (fun k => col2 k = 2) us (8 * S1.K) v S1.used w5 HA5.out.u (by omega) (by have := HamB.out; omega))
      have hvK : Hid (v < 64 * (8 * S1.K)) := by show v < _; have := HaN.out; rw [hK1]; omega
      clear hE
      go_wp2_with fail
      refine Had.out.mono ?_
      rintro e w6 ⟨rfl, hS6, hM6⟩
      have HA6 := Lib.hid (HA5.out.usedS hM6 (hS6.conv (addS_conv S1.used v _ hvK.out)))
      have HD6 : Hid (Dev B w6 b m E.1) := HD5.out.mod hM6 (fun k h1 h2 => by have := (HDC.out k h1).1; omega)
      have HC6 : Hid (∀ k, k < w.heap.size → col2 k = col k) := fun k hk => (HC2.out k (Nat.lt_of_lt_of_le hk Hwlt.out)).trans (HCW.out k hk)
      have HM6 : Hid (Mod w w6 (fun k => b.has k ∨ col k = 1 ∨ col k = 2 ∨ col k = 3)) := HM5.out.trans hM6 (fun k hk h => by rw [HC6.out k hk] at h; exact .inr (.inr (.inl h)))
      clear hS6 hM6 c3 Had HA5 HD5 HM5
      go_wp2_with fail
      refine bodyPost_ret (results_tmp2 rfl _ _ _) rfl ?_
      rw [Hf.out, hva]
      exact ⟨rfl, HD6.out, fun _ => ⟨col2, HC6.out, HA6.out⟩, HM6.out⟩
end Go.Proofs.YtcnjipicifkfjaaGreat

/- Plain law: room for the next object of a pile. -/
namespace Go.Proofs.YtcnjipicifkfjaaGreat
open Go.RowKit
set_option linter.unusedVariables false
set_option linter.unusedSimpArgs false

/-- An allocator behind n pushes. -/
structure AN (S : AS) (K n : Nat) : Prop where
  kk : S.K = K
  k : S.k = 1
  g : 0 < n → S.glob ++ S.cs 1 = cellsN n
  c0 : ∀ m, m ≠ 1 → S.cs m = []
  h0 : n = 0 → S.glob = [] ∧ S.cs 1 = [] ∧ S.o = some (1, K - 1)
  u : ∀ a, S.used a = decide (a ∈ adrs n)
theorem cellsN_len (n : Nat) : (cellsN n).length ≤ 170 := Nat.le_trans (carveL_len _ _ _ _) (by omega)
theorem AN.lens {S : AS} {K n : Nat} (h : AN S K n) : S.glob.length ≤ 170 ∧ ∀ m, (S.cs m).length ≤ 170 := by
  rcases Nat.eq_zero_or_pos n with h1 | h1
  · obtain ⟨a, b, _⟩ := h.h0 h1
    refine ⟨by rw [a]; simp, fun m => ?_⟩
    by_cases e : m = 1
    · rw [e, b]; simp
    · rw [h.c0 m e]; simp
  · have := congrArg List.length (h.g h1)
    rw [List.length_append] at this
    have := cellsN_len n
    refine ⟨by omega, fun m => ?_⟩
    by_cases e : m = 1
    · rw [e]; omega
    · rw [h.c0 m e]; simp
/-- The steps that make room; what then is known. -/
def roomSt (n : Nat) : List Step := if n = 0 then putS 1 1 1 else []
def roomA (S : AS) (K n : Nat) : AS := if n = 0 then (S.small 1 (K - 1)).take 1 else S.take 1
theorem takeN_ok (glob : List Nat) (h : glob ≠ []) : 0 < takeN glob ∧ takeN glob ≤ glob.length := by
  have : 0 < glob.length := List.length_pos_iff.2 h
  unfold takeN
  omega
theorem AN.room {B : Nat} {b : DB} {m : Nat} {s : DS} {ap mp us fr : Nat} {S : AS} {K n : Nat} (h : AN S K n) (hn : n < 100) (hK3 : 3 ≤ K) (hK4 : K ≤ 4) (hm : m = K * 64) :
    RoomOk B b m s ap mp us fr 1 1 1 S (roomSt n) (adr (n + 1)) (roomA S K n) ∧ AN ((roomA S K n).add (adr (n + 1))) K (n + 1) ∧ (roomA S K n).K = K := by
  obtain ⟨l1, l2⟩ := h.lens
  have hcof : cof (1 + 1 + 1) = S.k := by rw [h.k]; decide
  have hu : ∀ a, addS S.used (adr (n + 1)) a = decide (a ∈ adrs (n + 1)) := fun a => by
    have e : adrs (n + 1) = adrs n ++ [adr (n + 1)] := by unfold adrs; rw [List.range_succ, List.map_append]; rfl
    unfold addS
    rw [h.u, e, ← Bool.decide_or, decide_eq_decide, List.mem_append, List.mem_singleton]
  rcases Nat.eq_zero_or_pos n with h1 | h1
  · subst h1
    obtain ⟨g0, c1, o0⟩ := h.h0 rfl
    have hcv : carveL S.used S.k 1 (ccells S.k) = cellsN 0 := by
      have hf : S.used = fun _ => false := by funext a; rw [h.u]; rfl
      rw [hf, h.k, ccells1]; unfold cellsN; rw [Nat.sub_zero]
    have hgl : (S.small 1 (K - 1)).glob = cellsN 0 := by show S.glob ++ _ = _; rw [g0, hcv, List.nil_append]
    have hst := cellsN_step 0 (by omega)
    obtain ⟨t1, t2, t3⟩ := take_snoc (S.small 1 (K - 1)).glob S.cs 1 (adr 1) (cellsN 1) (by rw [hgl, c1, List.append_nil, hst]) (takeN_ok _)
    refine ⟨?_, ⟨h.kk, h.k, fun _ => t2, fun k hk => (t3 k hk).trans (h.c0 k hk), fun e => by omega, hu⟩, h.kk⟩
    intro col w hD hdv hA
    have := room_small B b m s col ap mp us fr 1 1 1 1 (K - 1) S w hD hdv hA (by omega) (by omega) (by omega) hcof (by rw [h.kk]; exact hm) (by rw [h.kk]; omega) c1 g0 o0 (by omega) (by omega) (by rw [h.kk]; omega) (fun k => Nat.le_trans (l2 k) (by omega)) (fun k x hx => by
      by_cases e : k = 1
      · rw [e, c1] at hx; cases hx
      · rw [h.c0 k e] at hx; cases hx) (by rw [hcv, hst]; simp)
    rw [t1, h.k] at this
    exact this
  · have hne : n ≠ 0 := by omega
    have hst := cellsN_step n (by omega)
    obtain ⟨t1, t2, t3⟩ := take_snoc S.glob S.cs 1 (adr (n + 1)) (cellsN (n + 1)) (by rw [h.g h1, hst]) (takeN_ok _)
    have hA' : roomA S K n = S.take 1 := if_neg hne
    have hS' : roomSt n = [] := if_neg hne
    rw [hA', hS']
    refine ⟨?_, ⟨h.kk, h.k, fun _ => t2, fun k hk => (t3 k hk).trans (h.c0 k hk), fun e => by omega, hu⟩, h.kk⟩
    intro col w hD hdv hA
    refine (room_take col ap b.d mp us fr 1 1 1 S w hA (by omega) (by omega) (by omega) hcof (by omega) (fun k => Nat.le_trans (l2 k) (by omega)) ?_).mono ?_
    · by_cases e : S.cs 1 = []
      · right
        intro e2
        have := h.g h1
        rw [e, e2, hst] at this
        simp at this
      · exact .inl e
    · rintro e w' ⟨rfl, hc, hM⟩
      rw [t1]
      exact ⟨rfl, hD.mod hM (fun k hk e => by have := hdv k hk; omega), fun _ => hc, hM.mono (fun k _ h => .inr (.inr h))⟩
theorem asO_AN (K : Nat) : AN (asO K 1 0 (List.replicate K (0, 0))) K 0 := by
  have hz : ∀ b, (List.replicate K ((0 : Nat), (0 : Nat))).getD b (0, 0) = (0, 0) := fun b => by
    rw [List.getD_eq_getElem?_getD, List.getElem?_replicate]; split <;> rfl
  refine ⟨rfl, rfl, fun h => absurd h (by omega), fun _ _ => rfl, fun _ => ⟨?_, rfl, rfl⟩, fun a => ?_⟩
  · show carveB _ _ (keepH (List.replicate K (0, 0)) K 0) (K - 1) = []
    have hk : keepH (List.replicate K (0, 0)) K 0 = List.replicate K (0, 0) := rfl
    rw [hk]
    generalize K - 1 = t
    induction t with
    | zero => rfl
    | succ t ih => rw [carveB, ih, hz]; rfl
  · rfl
theorem AN.ob0 {s : DS} {m p : Nat} : OB s m (usedOf (adrs 0) 0) p := fun a ha => by cases ha
end Go.Proofs.YtcnjipicifkfjaaGreat
