/- alloc: carve. -/
import Derived.Test.YtcnjipicifkfjaaGreatEv18
import Derived.Deep.LoopGhost

namespace Go.Proofs.YtcnjipicifkfjaaGreat
open Go.RowKit
set_option linter.unusedVariables false
set_option linter.unusedSimpArgs false

/-- An allocator, its parts' blocks named. -/
structure AllocX (w : World) (col : Nat → Nat) (ap d : Nat) (mp us fr : Nat) (S : AS) : Prop where
  b : Blk w ap 110 #[.pointer (some ⟨mp, 0, none⟩), .pointer (some ⟨d, 0, none⟩), .int .i64 S.K, .pointer (some ⟨us, 0, none⟩), .pointer (some ⟨fr, 0, none⟩)]
  m : BmanR w (fun k => col k = 1) mp d S.K S.hs S.o
  u : SetR w (fun k => col k = 2) us (8 * S.K) S.used
  f : FreeR w (fun k => col k = 3) fr S.k S.glob S.cs
  c : col ap = 8
theorem AllocR.x {w : World} {col : Nat → Nat} {ap d : Nat} {S : AS} (h : AllocR w col ap d S) : ∃ mp us fr, AllocX w col ap d mp us fr S := by
  obtain ⟨mp, us, fr, h1, h2, h3, h4, h5⟩ := h
  exact ⟨mp, us, fr, h1, h2, h3, h4, h5⟩
section
variable {w w' : World} {col col' : Nat → Nat} {ap d mp us fr : Nat} {S : AS} {T : Nat → Prop}
theorem AllocX.r (h : AllocX w col ap d mp us fr S) : AllocR w col ap d S := ⟨mp, us, fr, h.b, h.m, h.u, h.f, h.c⟩
theorem AllocX.mod (h : AllocX w col ap d mp us fr S) (m : Mod w w' T) (hs : ∀ k, col k = 1 ∨ col k = 2 ∨ col k = 3 ∨ col k = 8 → ¬ T k) : AllocX w' col ap d mp us fr S :=
  ⟨m.blk h.b (hs _ (by simp [h.c])), h.m.mod m (fun k hk => hs k (.inl hk)), h.u.mod m (fun k hk => hs k (.inr (.inl hk))), h.f.mod m (fun k hk => hs k (.inr (.inr (.inl hk)))), h.c⟩
theorem AllocX.below {B : Nat} (h : AllocX w col ap d mp us fr S) (hb : Below B w w') (hB : w.heap.size ≤ B) : AllocX w' col ap d mp us fr S :=
  ⟨h.b.below hb (Nat.lt_of_lt_of_le h.b.lt hB), h.m.below hb hB, h.u.below hb hB, h.f.below hb hB, h.c⟩
theorem AllocX.recol (h : AllocX w col ap d mp us fr S) (hc : ∀ k, k < w.heap.size → col' k = col k) : AllocX w col' ap d mp us fr S :=
  ⟨h.b, h.m.weak (fun k hk e => (hc k hk).trans e), h.u.weak (fun k hk e => (hc k hk).trans e), h.f.weak (fun k hk e => (hc k hk).trans e), (hc ap h.b.lt).trans h.c⟩
theorem AllocX.free (h : AllocX w col ap d mp us fr S) (m : Mod w w' (fun k => col k = 3)) {g : List Nat} {c : Nat → List Nat} (hf : FreeR w' (fun k => col k = 3) fr S.k g c) : AllocX w' col ap d mp us fr { S with glob := g, cs := c } :=
  ⟨m.blk h.b (by simp [h.c]), h.m.mod m (fun k hk e => by omega), h.u.mod m (fun k hk e => by omega), hf, h.c⟩
theorem AllocX.usedS (h : AllocX w col ap d mp us fr S) (m : Mod w w' (fun k => col k = 2)) {u : Nat → Bool} (hf : SetR w' (fun k => col k = 2) us (8 * S.K) u) : AllocX w' col ap d mp us fr { S with used := u } :=
  ⟨m.blk h.b (by simp [h.c]), h.m.mod m (fun k hk e => by omega), hf, h.f.mod m (fun k hk e => by omega), h.c⟩
end
def colW (col : Nat → Nat) (w : World) (i : Nat) : Nat → Nat := fun k => if k < w.heap.size then col k else i
theorem colW_lt (col : Nat → Nat) (w : World) (i k : Nat) (h : k < w.heap.size) : colW col w i k = col k := by unfold colW; rw [if_pos h]
theorem colW_ge (col : Nat → Nat) (w : World) (i k : Nat) (h : w.heap.size ≤ k) : colW col w i k = i := by unfold colW; rw [if_neg (by omega)]
def cadr (k bl i : Nat) : Nat := bl * 512 + i * csize k
/-- The free cells of a block, the last one first: what t rounds of carve push. -/
def carveL (used : Nat → Bool) (k bl : Nat) : Nat → List Nat
  | 0 => []
  | t + 1 => carveL used k bl t ++ (if used (cadr k bl (ccells k - 1 - t)) then [] else [cadr k bl (ccells k - 1 - t)])
theorem carveL_len (used : Nat → Bool) (k bl t : Nat) : (carveL used k bl t).length ≤ t := by
  induction t with
  | zero => exact Nat.le_refl _
  | succ t ih =>
    rw [carveL, List.length_append]
    split <;> simp <;> omega
theorem carveL_mem (used : Nat → Bool) (k bl t x : Nat) (h : x ∈ carveL used k bl t) : ∃ j, j < t ∧ x = cadr k bl (ccells k - 1 - j) := by
  induction t with
  | zero => simp [carveL] at h
  | succ t ih =>
    rw [carveL, List.mem_append] at h
    rcases h with h | h
    · obtain ⟨j, hj, e⟩ := ih h
      exact ⟨j, by omega, e⟩
    · split at h
      · simp at h
      · exact ⟨t, Nat.lt_succ_self t, by simpa using h⟩
theorem cell_in (k i : Nat) (hk : k < 32) (hi : i < ccells k) : i * csize k + csize k ≤ 512 := by
  have h := csize_pos k hk
  have h1 : ccells k * csize k ≤ 512 := Nat.div_mul_le_self _ _
  have h2 : (i + 1) * csize k ≤ ccells k * csize k := Nat.mul_le_mul_right _ (by omega)
  rw [Nat.succ_mul] at h2
  omega
theorem cadr_div (k bl i : Nat) (hk : k < 32) (hi : i < ccells k) : cadr k bl i / 512 = bl := by
  have := cell_in k i hk hi
  have := csize_pos k hk
  unfold cadr
  omega
theorem cadr_inj (k bl i j : Nat) (hk : k < 32) (h : cadr k bl i = cadr k bl j) : i = j := by
  have := csize_pos k hk
  unfold cadr at h
  exact Nat.eq_of_mul_eq_mul_right (by omega : 0 < csize k) (by omega)
theorem ccells_pos (k : Nat) (hk : k < 32) : 2 ≤ ccells k ∧ ccells k ≤ 256 := by
  have h := csize_pos k hk
  unfold ccells
  constructor
  · exact (Nat.le_div_iff_mul_le (by omega)).2 (by omega)
  · exact Nat.le_trans (Nat.div_le_div_left h.1 (by omega)) (by omega)
set_option maxRecDepth 100000 in
set_option maxHeartbeats 2000000 in
theorem carve_any (col : Nat → Nat) (ap d mp us fr bl : Nat) (S : AS) (w : World) (hA : AllocX w col ap d mp us fr S) (hk : S.k < 32) (hb1 : 1 ≤ bl) (hb2 : bl < S.K) (hK : S.K ≤ 150)
    (hno : ∀ x, HasF S.glob S.cs x → x / 512 ≠ bl) (hg : S.glob.length + ccells S.k ≤ 900) (hc : ∀ m, (S.cs m).length ≤ 1000) :
    Calls Tryz.prog 143 #[.pointer (some ⟨ap, 0, none⟩), .int .i64 bl, .int .i64 S.k] w fun e w' => (∃ v, e = .returned v) ∧ AllocX w' (colW col w 3) ap d mp us fr { S with glob := S.glob ++ carveL S.used S.k bl (ccells S.k) } ∧ Mod w w' (fun k => col k = 3) := by
  have Hcc := Lib.hid (fun w => ccells_any S.k w hk)
  have Hcp := Lib.hid (ccells_pos S.k hk)
  have Hca := Lib.hid (fun i w (hi : i < ccells S.k) => caddr_any S.K S.k bl i w (by omega) hk hb1 hb2 hi)
  have Hbh : Hid (∀ (a : Nat) wr, SetR wr (fun k => colW col w 3 k = 2) us (8 * S.K) S.used → a ≤ 1000000 → Calls Tryz.prog 102 #[.pointer (some ⟨us, 0, none⟩), .int .i64 a] wr fun e w' => e = .returned (.bool (S.used a)) ∧ wr = w') :=
    fun a wr hS ha => bhas_any _ us (8 * S.K) a S.used wr hS (by omega) (by omega)
  have Hpu : Hid (∀ (t : Nat) wr, t < ccells S.k → S.used (cadr S.k bl (ccells S.k - 1 - t)) = false → w.heap.size ≤ wr.heap.size → AllocX wr (colW col w 3) ap d mp us fr { S with glob := S.glob ++ carveL S.used S.k bl t } →
      Calls Tryz.prog 190 #[.pointer (some ⟨fr, 0, none⟩), .int .i64 S.k, .int .i64 (cadr S.k bl (ccells S.k - 1 - t))] wr fun e w' => e = .returned (.int .i64 0) ∧ AllocX w' (colW col w 3) ap d mp us fr { S with glob := S.glob ++ carveL S.used S.k bl (t + 1) } ∧ Mod wr w' (fun k => colW col w 3 k = 3)) := by
    intro t wr ht hu hsz hX
    have hi : ccells S.k - 1 - t < ccells S.k := by omega
    refine (fpush_any (fun k => colW col w 3 k = 3) fr S.k (cadr S.k bl (ccells S.k - 1 - t)) (S.glob ++ carveL S.used S.k bl t) S.cs wr hX.f ?_ hc ?_).mono ?_
    · have := carveL_len S.used S.k bl t
      rw [List.length_append]
      omega
    · rintro (h | ⟨mm, h1, h2⟩)
      · rcases List.mem_append.1 h with h | h
        · exact hno _ (.inl h) (cadr_div _ _ _ hk hi)
        · obtain ⟨j, hj, e⟩ := carveL_mem _ _ _ _ _ h
          have := cadr_inj _ _ _ _ hk e
          omega
      · exact hno _ (.inr ⟨mm, h1, h2⟩) (cadr_div _ _ _ hk hi)
    · rintro e w' ⟨rfl, hf, hM⟩
      refine ⟨rfl, ?_, hM⟩
      have hf2 := hf.weak (F' := fun k => colW col w 3 k = 3) (fun k _ hk => hk.elim id (fun h => colW_ge _ _ _ _ (by omega)))
      have := hX.free hM hf2
      rw [carveL, hu]
      simpa using this
  have HX0 : Hid (AllocX w (colW col w 3) ap d mp us fr { S with glob := S.glob ++ carveL S.used S.k bl 0 }) := by
    have := hA.recol (colW_lt col w 3)
    show AllocX _ _ _ _ _ _ _ _
    simpa [carveL] using this
  have HKs : Hid (S.K ≤ 150 ∧ bl ≤ 150) := ⟨hK, by omega⟩
  have HAd : Hid (∀ i, i < ccells S.k → cadr S.k bl i ≤ 1000000) := by
    intro i hi
    have := cell_in S.k i hk hi
    have := csize_pos S.k hk
    unfold cadr
    omega
  have HCA : Hid (∀ (i : Nat) w, i < ccells S.k → Calls Tryz.prog 189 #[.agg #[.int .i64 S.K], .int .i64 S.k, .agg #[.int .i64 bl, .int .i64 i]] w fun e w' => e = .returned (.int .i64 (cadr S.k bl i : Nat)) ∧ Below w.heap.size w w') := fun i w hi => Hca.out i w hi
  have HM0 : Hid (Mod w w (fun k => col k = 3)) := Mod.refl w _
  have HCL : Hid (∀ t, S.used (cadr S.k bl (ccells S.k - 1 - t)) = true → carveL S.used S.k bl (t + 1) = carveL S.used S.k bl t) := by
    intro t hu
    rw [carveL, hu]
    simp
  clear hA hno hg hc hb2 Hca
  generalize HNN : ccells S.k = N at *
  go_enter Tryz.func143, Tryz.ntmps143
  go_wp2_with fail
  refine (Hcc.out _).mono ?_
  rintro e w1 ⟨rfl, hb⟩
  have HX1 := Lib.hid (HX0.out.below hb (Nat.le_refl _))
  have HM1 : Hid (Mod w w1 (fun k => col k = 3)) := HM0.out.trans (mod_b hb : Mod w w1 (fun k => col k = 3)) (fun _ _ h => h)
  clear hb HX0 HM0
  have hN1 : 2 ≤ N := Hcp.out.1
  have hN2 : N ≤ 256 := Hcp.out.2
  obtain ⟨q, Hq⟩ : ∃ q, Hid (N - 1 = q) := ⟨_, rfl⟩
  have w1' : IntKind.i64.wrap ((N : Int) - 1) = (q : Int) := by have := Hq.out; have h2 := IntWalk.i64_in ((N : Int) - 1) (by omega); rw [h2]; omega
  have w1'' : (N : Int) - 1 = (q : Int) := by have := Hq.out; omega
  go_wp2_with fail
  clear w1' w1''
  go_loopw [6] (fun v6 wr => ∃ t, ((∃ j : Nat, v6 = .int .i64 j ∧ j < N ∧ t = N - 1 - j) ∨ (v6 = .int .i64 (-1) ∧ t = N)) ∧ AllocX wr (colW col w 3) ap d mp us fr { S with glob := S.glob ++ carveL S.used S.k bl t } ∧ Mod w wr (fun k => col k = 3)) (fun v6 _ => (intOf v6 + 1).toNat)
  case atStart => exact ⟨0, .inl ⟨q, rfl, by have := Hq.out; omega, by have := Hq.out; omega⟩, HX1.out, HM1.out⟩
  case round =>
    clear HX1 HM1
    obtain ⟨t, hv, hX, hM⟩ := hrel
    have HX := Lib.hid hX
    have HM := Lib.hid hM
    have c2 : wr.cell? ⟨ap, 2, none⟩ = some (.int .i64 S.K) := hX.b.cell 2
    clear hX hM
    rcases hv with ⟨j, rfl, hj, rfl⟩ | ⟨rfl, rfl⟩
    · have HC := Lib.hid (HCA.out j)
      have Had := Lib.hid (HAd.out j hj)
      have ht : N - 1 - (N - 1 - j) = j := by omega
      obtain ⟨t, Ht⟩ : ∃ t, Hid (N - 1 - j = t) := ⟨_, rfl⟩
      have HP := Lib.hid (Hpu.out t)
      have HL := Lib.hid (HCL.out t)
      rw [Ht.out] at ht HX
      rw [ht] at HP HL
      obtain ⟨x, Hx⟩ : ∃ x, Hid (cadr S.k bl j = x) := ⟨_, rfl⟩
      rw [Hx.out] at HC HP HL Had
      have htN : t < N := by have := Ht.out; omega
      have g0 : decide ((j : Int) ≥ 0) = true := by rw [decide_eq_true_eq]; omega
      clear ht
      go_wp2_with fail
      refine (HC.out _ hj).mono ?_
      rintro e w2 ⟨rfl, hb2⟩
      have HX2 := Lib.hid (HX.out.below hb2 (Nat.le_refl _))
      have HM2 : Hid (Mod w w2 (fun k => col k = 3)) := HM.out.trans (mod_b hb2 : Mod wr w2 (fun k => col k = 3)) (fun _ _ h => h)
      have c3 : w2.cell? ⟨ap, 3, none⟩ = some (.pointer (some ⟨us, 0, none⟩)) := HX2.out.b.cell 3
      clear hb2 HX HM c2
      go_wp2_with fail
      refine (Hbh.out x w2 HX2.out.u Had.out).mono ?_
      rintro e _ ⟨rfl, rfl⟩
      have hnext : ∀ (v : Value) , v = .int .i64 ((j : Int) - 1) → ((∃ j : Nat, v = .int .i64 j ∧ j < N ∧ t + 1 = N - 1 - j) ∨ (v = .int .i64 (-1) ∧ t + 1 = N)) ∧ (intOf v + 1).toNat < (intOf (.int .i64 (j : Int)) + 1).toNat := by
        rintro v rfl
        have := Ht.out
        rcases Nat.eq_zero_or_pos j with h | h
        · subst h
          exact ⟨.inr ⟨rfl, by omega⟩, by simp [intOf]⟩
        · refine ⟨.inl ⟨j - 1, by congr 1; omega, by omega, by omega⟩, by simp [intOf]⟩
      have Hnext := Lib.hid hnext
      clear hnext
      cases hu : S.used x with
      | true =>
        have HX3 : Hid (AllocX w2 (colW col w 3) ap d mp us fr { S with glob := S.glob ++ carveL S.used S.k bl (t + 1) }) := by
          show AllocX _ _ _ _ _ _ _ _
          rw [HL.out hu]; exact HX2.out
        clear HX2 hu
        go_wp2_with fail
        exact ⟨⟨t + 1, (Hnext.out _ rfl).1, HX3.out, HM2.out⟩, (Hnext.out _ rfl).2⟩
      | false =>
        have Hu := Lib.hid hu
        have c4 : w2.cell? ⟨ap, 4, none⟩ = some (.pointer (some ⟨fr, 0, none⟩)) := HX2.out.b.cell 4
        clear hu
        go_wp2_with fail
        refine (HP.out w2 htN Hu.out HM2.out.size HX2.out).mono ?_
        rintro e w3 ⟨rfl, hX3, hM3⟩
        have HX3 := Lib.hid hX3
        have HM3 := Lib.hid (HM2.out.trans hM3 (fun k hk h => by rw [colW_lt col w 3 k hk] at h; exact h))
        clear hX3 hM3 HX2 HM2 c3 c4
        go_wp2_with fail
        exact ⟨⟨t + 1, (Hnext.out _ rfl).1, HX3.out, HM3.out⟩, (Hnext.out _ rfl).2⟩
    · go_wp2_with fail
      first
        | go_end0
        | skip
      exact ⟨⟨_, rfl⟩, HX.out, HM.out⟩
end Go.Proofs.YtcnjipicifkfjaaGreat

/- hold: Add. -/
namespace Go.Proofs.YtcnjipicifkfjaaGreat
open Go.RowKit
set_option linter.unusedVariables false
set_option linter.unusedSimpArgs false

/-- How many below N are in use and not yet in a set. -/
def cntU (used st : Nat → Bool) : Nat → Nat
  | 0 => 0
  | n + 1 => cntU used st n + if used n && !st n then 1 else 0
def addS (st : Nat → Bool) (a : Nat) : Nat → Bool := fun i => st i || decide (i = a)
theorem cntU_add (used st : Nat → Bool) (a : Nat) (h : used a = true) (h2 : st a = false) (N : Nat) : cntU used (addS st a) N + (if a < N then 1 else 0) = cntU used st N := by
  induction N with
  | zero => rfl
  | succ n ih =>
    simp only [cntU]
    by_cases hn : n = a
    · subst hn
      rw [if_neg (Nat.lt_irrefl n)] at ih
      simp [addS, h, h2] at ih ⊢
      exact ih
    · have : addS st a n = st n := by simp [addS, hn]
      rw [this]
      by_cases hl : a < n
      · rw [if_pos hl] at ih
        rw [if_pos (show a < n + 1 by omega)]
        omega
      · rw [if_neg hl] at ih
        rw [if_neg (show ¬ a < n + 1 by omega)]
        omega
/-- What a set of held objects is behind Add. -/
def addM (used : Nat → Bool) (nx : Nat → Nat) : Nat → (Nat → Bool) → Nat → (Nat → Bool)
  | 0, st, _ => st
  | f + 1, st, a => if used a = true ∧ st a = false then addM used nx f (addS st a) (nx a) else st
theorem addM_no (used : Nat → Bool) (nx : Nat → Nat) (f : Nat) (st : Nat → Bool) (a : Nat) (h : used a = false ∨ st a = true) : addM used nx f st a = st := by
  cases f with
  | zero => rfl
  | succ f =>
    rw [addM, if_neg]
    rintro ⟨h1, h2⟩
    rcases h with h | h <;> simp_all
theorem addM_yes (used : Nat → Bool) (nx : Nat → Nat) (f : Nat) (st : Nat → Bool) (a : Nat) (h : used a = true) (h2 : st a = false) : addM used nx (f + 1) st a = addM used nx f (addS st a) (nx a) := by
  rw [addM, if_pos ⟨h, h2⟩]
theorem addS_conv (st : Nat → Bool) (a n : Nat) (h : a < 64 * n) (i : Nat) : (st i || (decide (i = a) && decide (a < 64 * n))) = addS st a i := by simp [addS, h]
/-- Where hold.Add's loop stands: what is open, and what the set is. -/
def AddI (B : Nat) (w0 wr : World) (F : Nat → Prop) (hl ap K hp : Nat) (used : Nat → Bool) (nx : Nat → Nat) (N : Nat) (fin : Nat → Bool) (k : Nat) (v : Value) : Prop :=
  ∃ A n cap xs st, v = .slice A n cap ∧ Own wr B 3 1 A n cap (ncells xs) ∧ xs.length = n ∧ Blk wr hl 153 #[.pointer (some ⟨ap, 0, none⟩), .pointer (some ⟨hp, 0, none⟩)] ∧ SetR wr F hp (8 * K) st ∧ Mod w0 wr F ∧
    ((xs = [] ∧ fin = st) ∨ ∃ x f, xs = [x] ∧ x ≤ 1099511627776 ∧ cntU used st N < f ∧ cntU used st N < k ∧ fin = addM used nx f st x)
set_option maxRecDepth 100000 in
set_option maxHeartbeats 2000000 in
theorem hadd_any (B : Nat) (b : DB) (m : Nat) (s : DS) (F : Nat → Prop) (col : Nat → Nat) (hl ap p a : Nat) (S : AS) (st : Nat → Bool) (w : World) (h : Dev B w b m s) (hA : AllocR w col ap b.d S) (hH : HeldR w F hl ap S.K st)
    (hd : ∀ k, b.has k → col k = 0) (hF : ∀ k, F k → 4 ≤ col k ∧ col k ≠ 8) (hFw : ∀ k, F k → k < w.heap.size) (ho : OB s m S.used p) (h0 : S.used 0 = false) (hm : m = S.K * 64) (hK : S.K ≤ 150) (ha : a ≤ 1099511627776) :
    Calls Tryz.prog 79 #[.pointer (some ⟨hl, 0, none⟩), .int .i64 a] w fun e w' => (∃ v, e = .returned v) ∧ HeldR w' F hl ap S.K (addM S.used (nx s p) (512 * S.K + 1) st a) ∧ Mod w w' F := by
  obtain ⟨hp, hb, hS, hf⟩ := hH
  obtain ⟨i0, hi0, hz0, hz1, hz2⟩ := info3s
  obtain ⟨fin, Hfin⟩ : ∃ fin, Hid (addM S.used (nx s p) (512 * S.K + 1) st a = fin) := ⟨_, rfl⟩
  rw [Hfin.out]
  have Hf := Lib.hid hf
  have Hhl := Lib.hid hb.lt
  have HFw := Lib.hid hFw
  have HD : Hid (∀ wr, Mod w wr F → Dev B wr b m s) := fun wr hM => h.mod hM (fun k h1 h2 => by have := hd k h1; have := (hF k h2).1; omega)
  have HA : Hid (∀ wr, Mod w wr F → AllocR wr col ap b.d S) := fun wr hM => hA.mod hM (fun k h1 h2 => by have := hF k h2; omega)
  have Hus : Hid (∀ (x : Nat) wr, Mod w wr F → x ≤ 1099511627776 → Calls Tryz.prog 88 #[.pointer (some ⟨ap, 0, none⟩), .int .i64 x] wr fun e w' => e = .returned (.bool (S.used x)) ∧ wr = w') :=
    fun x wr hM hx => aused_any col ap b.d x S wr (HA.out wr hM) hK (by omega)
  have Hlt : Hid (∀ (x : Nat), S.used x = true → x < 64 * (8 * S.K)) := by
    intro x hu
    obtain ⟨_, dd, hob, hv⟩ := ho x hu
    have := hob.le
    omega
  have Had : Hid (∀ (x : Nat) st wr, SetR wr F hp (8 * S.K) st → S.used x = true → Calls Tryz.prog 47 #[.pointer (some ⟨hp, 0, none⟩), .int .i64 x] wr fun e w' => e = .returned (.bool (!st x)) ∧ SetR w' F hp (8 * S.K) (addS st x) ∧ Mod wr w' F) := by
    intro x st wr hS hu
    have hx := Hlt.out x hu
    refine (badd_any F hp (8 * S.K) x st wr hS (by omega) (by omega)).mono ?_
    rintro e w' ⟨rfl, h1, h2⟩
    exact ⟨by simp [hx], h1.conv (addS_conv st x _ hx), h2⟩
  have Hdv : Hid (∀ wr, Mod w wr F → Calls Tryz.prog 97 #[.pointer (some ⟨ap, 0, none⟩)] wr fun e w' => e = .returned (.pointer (some ⟨b.d, 0, none⟩)) ∧ wr = w') := fun wr hM => adev_any col ap b.d S wr (HA.out wr hM)
  have Hln : Hid (∀ st wr, SetR wr F hp (8 * S.K) st → Calls Tryz.prog 125 #[.pointer (some ⟨hp, 0, none⟩)] wr fun e w' => (∃ k : Int, e = .returned (.int .i64 k)) ∧ wr = w') := fun st wr hS => len_set F hp (8 * S.K) st wr hS
  have Hpt : Hid (∀ (x : Nat) wr, Mod w wr F → S.used x = true → Calls Tryz.prog 126 #[.pointer (some ⟨b.d, 0, none⟩), .int .i64 x] wr fun e w' => ∃ A' cap', e = .returned (.tuple #[.slice A' (ptrsL s x p).length cap', .int .i64 0]) ∧ Own w' wr.heap.size 3 1 A' (ptrsL s x p).length cap' (ncells (ptrsL s x p)) ∧ Below wr.heap.size wr w') := by
    intro x wr hM hu
    obtain ⟨_, dd, hob, hv⟩ := ho x hu
    exact ptrs_any B b m s x p dd wr (HD.out wr hM) hob hv (by omega)
  have Hpv : Hid (∀ (x : Nat), S.used x = true → (ptrsL s x p = [] ∧ nx s p x = 0) ∨ (ptrsL s x p = [nx s p x] ∧ nx s p x ≤ 1099511627776)) := by
    intro x hu
    unfold ptrsL nx
    obtain ⟨_, dd, hob, hv⟩ := ho x hu
    by_cases hp0 : p = 0
    · simp [hp0]
    · right
      rw [if_neg hp0, if_neg hp0]
      refine ⟨rfl, hv ?_⟩
      rcases hob.o with h | h <;> omega
  have Hcn : Hid (∀ (x : Nat) st, S.used x = true → st x = false → cntU S.used (addS st x) (512 * S.K) + 1 = cntU S.used st (512 * S.K)) := by
    intro x st h1 h2
    have := cntU_add S.used st x h1 h2 (512 * S.K)
    rwa [if_pos (by have := Hlt.out x h1; omega)] at this
  have Hc0 : Hid (cntU S.used st (512 * S.K) < 512 * S.K + 1) := by
    have : ∀ N, cntU S.used st N ≤ N := by
      intro N
      induction N with
      | zero => exact Nat.le_refl _
      | succ n ih => rw [cntU]; split <;> omega
    have := this (512 * S.K)
    show _ < _
    omega
  have H00 := Lib.hid h0
  have HS := Lib.hid hS
  have HB := Lib.hid hb
  have c1 : w.cell? ⟨hl, 1, none⟩ = some (.pointer (some ⟨hp, 0, none⟩)) := hb.cell 1
  clear h hA hd hF ho h0 hm hS hf hb hFw
  generalize nx s p = nxf at *
  generalize 512 * S.K = N at *
  go_enter Tryz.func79, Tryz.ntmps79
  go_wp2_with fail
  refine (Hln.out _ _ HS.out).mono ?_
  rintro e _ ⟨⟨k0, rfl⟩, rfl⟩
  obtain ⟨n1, Hn1⟩ : ∃ n, Hid (w.heap.size = n) := ⟨_, rfl⟩
  have hO1 : Own (w.alloc (.cells #[.int .i64 a] 3)) w.heap.size 3 1 (some ⟨n1, 0, none⟩) 1 1 (ncells [a]) := by
    refine ⟨rfl, .inr ⟨n1, _, rfl, by rw [Hn1.out]; exact Nat.le_refl _, by rw [← Hn1.out]; exact Blk.new w 3 _, Nat.le_refl _, by unfold maxLen; omega, rfl, rfl⟩⟩
  have HI : Hid (AddI w.heap.size w (w.alloc (.cells #[.int .i64 a] 3)) F hl ap S.K hp S.used nxf N fin (N + 1) (.slice (some ⟨n1, 0, none⟩) 1 1)) :=
    ⟨_, _, _, [a], st, rfl, hO1, rfl, HB.out.alloc _, HS.out.below (below_box w _) (Nat.le_refl _), (Mod.refl w F).alloc _, .inr ⟨a, _, rfl, ha, Hc0.out, Hc0.out, Hfin.out.symm⟩⟩
  go_wp2_with fail
  rw [Hn1.out]
  clear c1 hO1
  generalize w.alloc _ = w1 at *
  go_loopg [6] (N + 1) (fun k v wr => AddI w.heap.size w wr F hl ap S.K hp S.used nxf N fin k v)
  case atStart => exact HI.out
  case round =>
    clear HI HS HB Hc0 Hfin
    obtain ⟨A, n, cap, xs, st', rfl, hO, hx, hb, hS, hM, hc⟩ := hrel
    have HB := Lib.hid hb
    have HS := Lib.hid hS
    have HM := Lib.hid hM
    have c0 : wr.cell? ⟨hl, 0, none⟩ = some (.pointer (some ⟨ap, 0, none⟩)) := hb.cell 0
    have c1 : wr.cell? ⟨hl, 1, none⟩ = some (.pointer (some ⟨hp, 0, none⟩)) := hb.cell 1
    rcases hc with ⟨rfl, rfl⟩ | ⟨x, f, rfl, hx2, hcf, hck, hfin⟩
    · simp only [List.length_nil] at hx
      subst hx
      clear hO hb hS hM
      go_wp2_with fail
      refine (Hln.out _ _ HS.out).mono ?_
      rintro e _ ⟨⟨k1, rfl⟩, rfl⟩
      go_wp2_with fail
      go_ret
      exact ⟨⟨_, rfl⟩, ⟨hp, HB.out, HS.out, Hf.out⟩, HM.out⟩
    · simp only [List.length_cons, List.length_nil] at hx
      subst hx
      have HO := Lib.hid hO
      obtain ⟨g, rfl, hg1, hg2, hcap1, hcap2, hcell, hfz⟩ := hO.at_ (by omega)
      have y0 : wr.cell? ⟨g, 0, none⟩ = some (.int .i64 x) := hcell 0 _ rfl
      have HU := Lib.hid (Hus.out x wr hM hx2)
      have Hfin2 := Lib.hid hfin
      have Hcf := Lib.hid hcf
      have Hck := Lib.hid hck
      clear hO hb hS hM hcell hfz hfin hcf hck hg1 hg2
      go_wp2_with fail
      refine HU.out.mono ?_
      rintro e _ ⟨rfl, rfl⟩
      cases hu : S.used x with
      | false =>
        have Hu := Lib.hid hu
        clear hu HU
        go_wp2_with fail
        go_roundg 0
        case measure =>
          have := Hck.out
          omega
        case rel =>
          refine ⟨_, 0, cap, [], st', rfl, HO.out.cut (k := 0) (by omega), rfl, HB.out, HS.out, HM.out, .inl ⟨rfl, ?_⟩⟩
          rw [Hfin2.out, addM_no _ _ _ _ _ (.inl Hu.out)]
      | true =>
        have Hu := Lib.hid hu
        clear hu HU
        go_wp2_with fail
        refine (Had.out x st' wr HS.out Hu.out).mono ?_
        rintro e w2 ⟨rfl, hS2, hM2⟩
        have HM2 := Lib.hid (HM.out.trans hM2 (fun k _ h => h))
        have HO2 := Lib.hid (HO.out.mod hM2 (fun a ha h => by have := (HO.out.lt a ha).1; have := HFw.out _ h; omega))
        have HB2 := Lib.hid (hM2.blk HB.out Hf.out)
        cases hst : st' x with
        | true =>
          have HE : Hid (∀ i, addS st' x i = st' i) := by
            intro i
            unfold addS
            by_cases hi : i = x
            · rw [hi, hst]; rfl
            · simp [hi]
          have HS2 := Lib.hid (hS2.conv HE.out)
          have Hst := Lib.hid hst
          clear hS2 hM2 hst HM HO HB HS c0 c1 y0
          go_wp2_with fail
          go_roundg 0
          case measure =>
            have := Hck.out
            omega
          case rel =>
            refine ⟨_, 0, cap, [], st', rfl, HO2.out.cut (k := 0) (by omega), rfl, HB2.out, HS2.out, HM2.out, .inl ⟨rfl, ?_⟩⟩
            rw [Hfin2.out, addM_no _ _ _ _ _ (.inr Hst.out)]
        | false =>
          have HS2 := Lib.hid hS2
          have Hst := Lib.hid hst
          have Hc := Lib.hid (Hcn.out x st' Hu.out hst)
          obtain ⟨f', rfl⟩ : ∃ f', f = f' + 1 := ⟨f - 1, by have := Hcf.out; omega⟩
          have Hfin3 : Hid (fin = addM S.used nxf f' (addS st' x) (nxf x)) := by
            show _ = _
            rw [Hfin2.out, addM_yes _ _ _ _ _ Hu.out hst]
          have y1 : w2.cell? ⟨hl, 0, none⟩ = some (.pointer (some ⟨ap, 0, none⟩)) := HB2.out.cell 0
          clear hS2 hM2 hst HM HO HB HS c0 c1 y0
          go_wp2_with fail
          refine (Hdv.out _ HM2.out).mono ?_
          rintro e _ ⟨rfl, rfl⟩
          go_wp2_with fail
          refine (Hpt.out x _ HM2.out Hu.out).mono ?_
          rintro e w3 ⟨A3, cap3, rfl, hO3, hb3⟩
          have HO3 := Lib.hid (HO2.out.below hb3 (Nat.le_refl _))
          have HB3 := Lib.hid (HB2.out.below hb3 HB2.out.lt)
          have HS3 := Lib.hid (HS2.out.below hb3 (Nat.le_refl _))
          have HM3 : Hid (Mod w w3 F) := HM2.out.trans (mod_b hb3 : Mod w2 w3 F) (fun k _ h => h)
          have hsz : w.heap.size ≤ w2.heap.size := HM2.out.size
          have HP := Lib.hid (hO3.rd)
          clear hO3 hb3 HO2 HB2 HS2 y1
          have hpl : (ptrsL s x p).length ≤ 1 := by rcases Hpv.out x Hu.out with ⟨h, _⟩ | ⟨h, _⟩ <;> rw [h] <;> simp
          obtain ⟨pl, Hpl⟩ : ∃ pl, Hid (ptrsL s x p = pl) := ⟨_, rfl⟩
          have Hpv2 := Lib.hid (Hpv.out x Hu.out)
          rw [Hpl.out] at Hpv2 HP hpl
          rw [Hpl.out]
          obtain ⟨ln, Hln⟩ : ∃ ln, Hid (pl.length = ln) := ⟨_, rfl⟩
          rw [Hln.out] at HP hpl ⊢
          go_wp2_with (at_builtin; (refine append_rd rfl (.tmp 57) (.tmp 58) 60 rfl w.heap.size 3 i0 _ 1 8 Tryz.underlying60 hi0 hz0 hz1 hz2 rfl (by omega) (some ⟨g, 0, none⟩) 0 cap [] rfl (HO3.out.cut (k := 0) (by omega)) A3 ln cap3 (ncells pl) rfl HP.out ncells_one ln (by omega) (ncells pl) rfl (by unfold maxLen; omega) (by omega) (by have := HM3.out.size; omega) ?_))
          intro A4 cap4 w4 hO4 hM4 hat4
          have HO4 := Lib.hid hO4
          have hgw : w.heap.size ≤ g := (HO3.out.lt _ rfl).1
          have hM4' : Mod w3 w4 (fun k => k = g) := hM4.mono (fun k _ h => by first | exact h.symm | (obtain ⟨a, ha, e⟩ := h; cases ha; exact e.symm))
          have HB4 := Lib.hid (hM4'.blk HB3.out (fun e => by have h2 : hl < w.heap.size := Hhl.out; omega))
          have HS4 := Lib.hid (HS3.out.mod hM4' (fun k hk e => by have := HFw.out k hk; omega))
          have HM4 : Hid (Mod w w4 F) := HM3.out.trans hM4' (fun k hk e => by omega)
          clear hO4 hM4 hat4 hM4' HO3 HB3 HS3 HM3
          go_wp2_with fail
          rcases Hpv2.out with ⟨h1, h2⟩ | ⟨h1, h2⟩
          · go_roundg 0
            case measure =>
              have := Hck.out
              omega
            case rel =>
              subst h1
              refine ⟨_, _, _, [], addS st' x, rfl, HO4.out, Hln.out, HB4.out, HS4.out, HM4.out, .inl ⟨rfl, ?_⟩⟩
              rw [Hfin3.out, addM_no _ _ _ _ _ (.inl (by rw [h2]; exact H00.out))]
          · go_roundg (cntU S.used (addS st' x) N + 1)
            case measure =>
              have := Hck.out
              have := Hc.out
              omega
            case rel =>
              refine ⟨_, _, _, pl, addS st' x, rfl, HO4.out, Hln.out, HB4.out, HS4.out, HM4.out, .inr ⟨nxf x, f', h1, h2, ?_, Nat.lt_succ_self _, Hfin3.out⟩⟩
              have := Hcf.out
              have := Hc.out
              omega
end Go.Proofs.YtcnjipicifkfjaaGreat
