/- Plain law: images of the slot's phase. -/
import Derived.Test.YtcnjipicifkfjaaGreatEv34

namespace Go.Proofs.YtcnjipicifkfjaaGreat
open Go.RowKit
set_option linter.unusedVariables false
set_option linter.unusedSimpArgs false

theorem cR_or (qs : List (Nat × Nat)) (j : Nat) : ∀ C, (cR C qs).getD j 0 = C.getD j 0 ∨ ∃ p ∈ qs, p.1 = j ∧ (cR C qs).getD j 0 = p.2 := by
  induction qs with
  | nil => exact fun C => .inl rfl
  | cons q qs ih =>
    intro C
    rcases ih (C.set q.1 q.2) with h | ⟨p, hp, h1, h2⟩
    · have e : (cR C (q :: qs)).getD j 0 = (C.set q.1 q.2).getD j 0 := h
      rw [getD_set] at e
      by_cases hq : q.1 = j ∧ q.1 < C.length
      · rw [if_pos hq] at e
        exact .inr ⟨q, List.mem_cons_self, hq.1, e⟩
      · rw [if_neg hq] at e
        exact .inl e
    · exact .inr ⟨p, List.mem_cons_of_mem _ hp, h1, h2⟩
theorem slotP_val (a : Nat) (E : List Nat) (p : Nat × Nat) (hp : p ∈ slotP a E) : a ≤ p.1 ∧ p.1 < a + 16 ∧ p.2 = E.getD (p.1 - a) 0 := by
  simp only [slotP, List.mem_cons, List.not_mem_nil, or_false] at hp
  rcases hp with rfl | rfl | rfl | rfl | rfl | rfl | rfl | rfl | rfl | rfl | rfl | rfl | rfl | rfl | rfl | rfl <;>
    refine ⟨by simp only []; omega, by simp only []; omega, ?_⟩ <;> simp
theorem slotP_part (a i t : Nat) (E C : List Nat) : (cR C ((slotP a E).take t)).getD (a + i) 0 = C.getD (a + i) 0 ∨ (cR C ((slotP a E).take t)).getD (a + i) 0 = E.getD i 0 := by
  rcases cR_or ((slotP a E).take t) (a + i) C with h | ⟨p, hp, h1, h2⟩
  · exact .inl h
  · obtain ⟨_, _, h3⟩ := slotP_val a E p (List.mem_of_mem_take hp)
    right
    rw [h2, h3, h1, Nat.add_sub_cancel_left]
theorem slotP_8 (a t : Nat) (E C : List Nat) (ht : t ≤ 15) : (cR C ((slotP a E).take t)).getD (a + 8) 0 = C.getD (a + 8) 0 :=
  cR_out _ _ _ (fun p hp e => by
    have hp15 : p ∈ (slotP a E).take 15 := by
      have : (slotP a E).take t = ((slotP a E).take 15).take t := by rw [List.take_take, Nat.min_eq_left ht]
      rw [this] at hp
      exact List.mem_of_mem_take hp
    simp only [slotP, List.take_succ_cons, List.take_zero, List.mem_cons, List.not_mem_nil, or_false] at hp15
    rcases hp15 with rfl | rfl | rfl | rfl | rfl | rfl | rfl | rfl | rfl | rfl | rfl | rfl | rfl | rfl | rfl <;> simp only at e <;> omega)
theorem slotP_part_out (a j t : Nat) (E C : List Nat) (hj : j < a ∨ a + 16 ≤ j) : (cR C ((slotP a E).take t)).getD j 0 = C.getD j 0 :=
  cR_out _ _ _ (fun p hp e => by
    obtain ⟨h1, h2, _⟩ := slotP_val a E p (List.mem_of_mem_take hp)
    omega)
theorem list7 (L : List Nat) (h : L.length = 16) : (L.drop (8 * 0)).take 7 = [L.getD 0 0, L.getD 1 0, L.getD 2 0, L.getD 3 0, L.getD 4 0, L.getD 5 0, L.getD 6 0] := by
  refine list_ext (by simp [h]) (fun j => ?_)
  rw [List.getD_eq_getElem?_getD, List.getElem?_take, Nat.mul_zero, List.drop_zero]
  rcases (by omega : j = 0 ∨ j = 1 ∨ j = 2 ∨ j = 3 ∨ j = 4 ∨ j = 5 ∨ j = 6 ∨ 7 ≤ j) with rfl | rfl | rfl | rfl | rfl | rfl | rfl | h7
  iterate 7
    · rw [if_pos (by omega), ← List.getD_eq_getElem?_getD]; rfl
  · rw [if_neg (by omega), List.getD_eq_getElem?_getD, List.getElem?_eq_none (by simp; omega)]
theorem enc2 : slotEnc 2 (rootsL 1) = [2, 512, 0, 0, 0, 0, 0, crcW [2, 512, 0, 0, 0, 0, 0], 2, 0, 0, 0, 0, 1, 0, crcW [2, 0, 0, 0, 0, 1, 0]] := slotEnc_eq 2 512 0 0 0 0 0 0 0
/-- A slot of which some words are the old ones and some the new ones. -/
theorem mix_slot (n : Nat) (L : List Nat) (hn : n ≤ 100) (hl : L.length = 16)
    (hm : ∀ i, i < 16 → L.getD i 0 = (if n = 0 then 0 else (slotEnc n (rootsL (n - 1))).getD i 0) ∨ L.getD i 0 = (slotEnc (n + 2) (rootsL (n + 1))).getD i 0) : Slot16 L := by
  have sN : Slot16 (slotEnc (n + 2) (rootsL (n + 1))) := slot16_enc _ _ (rootsL_ok (n + 1) (by omega)) (by omega) (by omega)
  have rN := (slotEnc_words (n + 2) (rootsL (n + 1)) rfl).1
  have wN := (slotEnc_words (n + 2) (rootsL (n + 1)) rfl).2
  have hrs : ∀ e k i, i < 8 → (slotEnc e (rootsL k)).getD (i / 4 * 8 + 1 + i % 4) 0 = (rootsL k).getD i 0 := fun e k i hi => by
    rw [← rsOf_get _ _ hi, (slotEnc_words e (rootsL k) rfl).1]
  have hlt : lt64 L := by
    intro i
    by_cases hi16 : i < 16
    case neg => rw [List.getD_eq_getElem?_getD, List.getElem?_eq_none (by omega)]; exact (by omega : (0 : Nat) < 18446744073709551616)
    rcases hm i hi16 with h | h
    · rw [h]
      split
      · omega
      · exact (slot16_enc n (rootsL (n - 1)) (rootsL_ok _ (by omega)) (by omega) (by omega)).lt i
    · rw [h]; exact sN.lt i
  refine ⟨hl, hlt, fun q0 _ => ⟨⟨rsOf_len _, fun i hi => ?_⟩, ?_⟩⟩
  · rw [rsOf_get _ _ hi]
    rcases hm (i / 4 * 8 + 1 + i % 4) (by omega) with h | h
    · rw [h]
      split
      · omega
      · rw [hrs _ _ i hi]; exact (rootsL_ok (n - 1) (by omega)).lt i hi
    · rw [h, hrs _ _ i hi]; exact (rootsL_ok (n + 1) (by omega)).lt i hi
  · rcases hm 0 (by omega) with h | h
    · by_cases h0 : n = 0
      · exfalso
        subst h0
        have hm' : ∀ i, i < 16 → L.getD i 0 = 0 ∨ L.getD i 0 = (slotEnc 2 (rootsL 1)).getD i 0 := hm
        rw [enc2] at hm'
        have x0 : L.getD 0 0 = 0 := h
        have x1 : L.getD 1 0 = 0 ∨ L.getD 1 0 = 512 := hm' 1 (by omega)
        have x2 : L.getD 2 0 = 0 := (hm' 2 (by omega)).elim id id
        have x3 : L.getD 3 0 = 0 := (hm' 3 (by omega)).elim id id
        have x4 : L.getD 4 0 = 0 := (hm' 4 (by omega)).elim id id
        have x5 : L.getD 5 0 = 0 := (hm' 5 (by omega)).elim id id
        have x6 : L.getD 6 0 = 0 := (hm' 6 (by omega)).elim id id
        have x7 : L.getD 7 0 = 0 ∨ L.getD 7 0 = crcW [2, 512, 0, 0, 0, 0, 0] := hm' 7 (by omega)
        unfold sumOk at q0
        rw [list7 L hl, x0, x2, x3, x4, x5, x6] at q0
        have q1 : L.getD 7 0 = crcW [0, L.getD 1 0, 0, 0, 0, 0, 0] := q0
        have z := crc_zero
        have z5 := crc_512
        generalize crcW [2, 512, 0, 0, 0, 0, 0] = c1 at *
        rcases x1 with x1 | x1
        · rw [x1] at q1
          generalize crcW [0, 0, 0, 0, 0, 0, 0] = c2 at *
          rcases x7 with x7 | x7
          · exact z.1 (q1.symm.trans x7)
          · exact z.2 (q1.symm.trans x7)
        · rw [x1] at q1
          generalize crcW [0, 512, 0, 0, 0, 0, 0] = c2 at *
          rcases x7 with x7 | x7
          · exact z5.1 (q1.symm.trans x7)
          · exact z5.2 (q1.symm.trans x7)
      · rw [h, if_neg h0, (slotEnc_words n (rootsL (n - 1)) rfl).2]; omega
    · rw [h, wN]; omega
/-- The words ahead of the slot's phase. -/
def midC (C : List Nat) (n v : Nat) : List Nat := cR (cR C (roomP n)) (pushP (adr (n + 1)) (if n = 0 then 0 else adr n) v)
theorem pushC_mid (C : List Nat) (n v : Nat) : pushC C n v = cR (midC C n v) (slotP (64 + (1 - n % 2) * 64) (slotEnc (n + 2) (rootsL (n + 1)))) := rfl
theorem midC_out (C : List Nat) (n v j : Nat) (hl : 257 < C.length) (h2 : j < adr (n + 1) ∨ adr (n + 1) + 2 < j) : (midC C n v).getD j 0 = if n = 0 ∧ j = 257 then hword 1 1 1 else C.getD j 0 := by
  unfold midC
  rw [pushP_out _ _ _ j _ h2, roomP_at n j C hl]
theorem slotEnc_w8 (ep n : Nat) : (slotEnc ep (rootsL n)).getD 8 0 = ep := slotEnc_8 ep (rootsL n) rfl
/-- An image of the slot's phase leads to the pile before, or to the one behind. -/
theorem PW.iw_slot {C I : List Nat} {K id n : Nat} {vs : List Nat} (h : PW C K id n vs) (v t : Nat) (hv : vs.length = n) (hn : n < 100) (hK3 : 3 ≤ K) (hK4 : K ≤ 4) (ht : t ≤ 16) (ch : Nat → Bool) (T : Nat → Prop)
    (hI : Img I (K * 64) (midC C n v) (cR (midC C n v) ((slotP (64 + (1 - n % 2) * 64) (slotEnc (n + 2) (rootsL (n + 1)))).take t)) T ch) :
    (∃ c, IW I K id n (n + 1) (n % 2) vs c) ∨ (∃ c, IW I K id (n + 1) (n + 2) ((n + 1) % 2) (vs ++ [v]) c) := by
  have hl := h.len
  have hlM : (midC C n v).length = 8 * (K * 64) := by unfold midC; rw [cR_len, cR_len]; exact hl
  obtain ⟨a, ha⟩ : ∃ a, 64 + (1 - n % 2) * 64 = a := ⟨_, rfl⟩
  rw [ha] at hI
  have ha2 : a = 64 ∨ a = 128 := by omega
  obtain ⟨E, hE⟩ : ∃ E, slotEnc (n + 2) (rootsL (n + 1)) = E := ⟨_, rfl⟩
  rw [hE] at hI
  by_cases hA : ch (a / 8) = true ∧ ch (a / 8 + 1) = true ∧ t = 16
  · right
    obtain ⟨h1, h2, rfl⟩ := hA
    have he : I = pushC C n v := list_ext (by rw [hI.len, pushC_mid, cR_len, hlM]) (fun j => by
      rw [hI.at_ j, pushC_mid, ha, hE, show (slotP a E).take 16 = slotP a E from rfl]
      by_cases hj : a ≤ j ∧ j < a + 16
      · rw [if_pos (by rcases (by omega : j / 8 = a / 8 ∨ j / 8 = a / 8 + 1) with e | e <;> rw [e] <;> assumption)]
      · rw [slotP_out a j E _ (by omega), ite_self])
    rw [he]
    exact ⟨_, (h.step v hv hn hK3 hK4).iw (by omega)⟩
  · left
    have hadr : ∀ t, adr t = 509 + 3 * t := fun _ => rfl
    have ho : ∀ j, (j < a ∨ a + 16 ≤ j) → (j < adr (n + 1) ∨ adr (n + 1) + 2 < j) → I.getD j 0 = if n = 0 ∧ j = 257 then hword 1 1 1 else C.getD j 0 := fun j h1 h2 => by
      rw [hI.at_ j, slotP_part_out a j t E _ h1, ite_self]
      exact midC_out C n v j (by omega) h2
    have q2 := hadr (n + 1)
    have hM : ∀ i, i < 16 → (midC C n v).getD (a + i) 0 = if n = 0 then 0 else (slotEnc n (rootsL (n - 1))).getD i 0 := fun i hi => by
      rw [midC_out C n v (a + i) (by omega) (by omega), if_neg (by omega), ← ha]
      exact h.old i hi
    have hmix : ∀ i, i < 16 → I.getD (a + i) 0 = (midC C n v).getD (a + i) 0 ∨ I.getD (a + i) 0 = E.getD i 0 := fun i hi => by
      rw [hI.at_ (a + i)]
      split
      · exact slotP_part a i t E _
      · exact .inl rfl
    have h08 : I.getD a 0 = (midC C n v).getD a 0 ∨ I.getD (a + 8) 0 = (midC C n v).getD (a + 8) 0 := by
      rw [hI.at_ a, hI.at_ (a + 8), show (a + 8) / 8 = a / 8 + 1 by omega]
      by_cases c0 : ch (a / 8) = true
      · right
        by_cases c1 : ch (a / 8 + 1) = true
        · rw [if_pos c1, slotP_8 a t E _ (by
            by_cases e : t = 16
            · exact absurd ⟨c0, c1, e⟩ hA
            · omega)]
        · rw [if_neg c1]
      · left; rw [if_neg c0]
    have hsl : ∀ i, i < 16 → (slotOf (fresh I (K * 64)) (1 - n % 2)).getD i 0 = I.getD (a + i) 0 := fun i hi => by
      unfold slotOf
      rw [copyS_get _ 16 16 i (Nat.le_refl _), if_pos hi, ha]
      rfl
    have sM : Slot16 (slotOf (fresh I (K * 64)) (1 - n % 2)) := mix_slot n _ (by omega) (slotOf_len _ _) (fun i hi => by
      rw [hsl i hi, hE, ← hM i hi]; exact hmix i hi)
    have g := h.iw (by omega : n ≤ 100)
    have hkeep : slotOf (fresh I (K * 64)) (n % 2) = slotOf (fresh C (K * 64)) (n % 2) := slotOf_same (fun j hj => by
      rw [ho _ (by omega) (by omega), if_neg (by omega)])
    have hwC : slotOf (fresh C (K * 64)) (n % 2) = slotEnc (n + 1) (rootsL n) := slotOf_eq _ _ _ (slotEnc_len _ _) h.new
    have hch := choose_w (fresh I (K * 64)) (n % 2) (n + 1) (rootsL n) (by omega) (by rw [hkeep, hwC]; exact sdec_roots _ _) (by
      rw [hsl 0 (by omega), hsl 8 (by omega), Nat.add_zero]
      have m0 := hM 0 (by omega)
      have m8 := hM 8 (by omega)
      have e8 := slotEnc_w8 n (n - 1)
      have e0 := (slotEnc_words n (rootsL (n - 1)) rfl).2
      rw [e0] at m0
      rw [e8] at m8
      have mn : (midC C n v).getD a 0 ≤ n := by
        have : (midC C n v).getD (a + 0) 0 ≤ n := by rw [m0]; split <;> omega
        exact this
      have mn8 : (midC C n v).getD (a + 8) 0 ≤ n := by rw [m8]; split <;> omega
      rcases h08 with e | e
      · left; rw [e]; omega
      · rcases hmix 0 (by omega) with x | x
        · left
          rw [Nat.add_zero] at x
          rw [x]; omega
        · right
          rw [Nat.add_zero, ← hE, (slotEnc_words (n + 2) (rootsL (n + 1)) rfl).2] at x
          rw [x, e]; omega)
    refine ⟨true, hI.len, fun i hi => ?_, fun b h1 h2 => ?_, fun t t1 t2 => ?_, fun _ => rfl, by omega, ?_, ?_, hch⟩
    · rw [ho i (by omega) (by omega), if_neg (by omega)]; exact h.sup i hi
    · rw [ho _ (by omega) (by omega), h.hdr b h1 h2]
      by_cases hb : b = 1
      · subst hb
        by_cases h0 : n = 0
        · rw [if_pos ⟨h0, rfl⟩, if_pos ⟨rfl, rfl⟩]
        · rw [if_neg (fun x => h0 x.1), if_pos ⟨rfl, by omega⟩, if_pos ⟨rfl, rfl⟩]
      · rw [if_neg (by omega), if_neg (fun x => hb x.1), if_neg (fun x => hb x.1)]
    · have q := hadr t
      have q0 := ho (adr t) (by omega) (by omega)
      have q1 := ho (adr t + 1) (by omega) (by omega)
      have q3 := ho (adr t + 2) (by omega) (by omega)
      rw [if_neg (by omega)] at q0 q1 q3
      rw [q0, q1, q3]
      exact h.obj t t1 t2
    · rcases (by omega : n % 2 = 0 ∨ n % 2 = 1) with e | e
      · rw [e] at hkeep; rw [hkeep]; exact g.s0
      · rw [e] at sM; exact sM
    · rcases (by omega : n % 2 = 0 ∨ n % 2 = 1) with e | e
      · rw [e] at sM; exact sM
      · rw [e] at hkeep; rw [hkeep]; exact g.s1
end Go.Proofs.YtcnjipicifkfjaaGreat
