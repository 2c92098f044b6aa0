/- A push on a pile of n, on a device at rest. -/
import Derived.Test.YtcnjipicifkfjaaGreatEv36
import Derived.Test.YtcnjipicifkfjaaGreatEv28
import Derived.Test.YtcnjipicifkfjaaGreatEv33
import Derived.Test.YtcnjipicifkfjaaGreatEv34

namespace Go.Proofs.YtcnjipicifkfjaaGreat
open Go.RowKit
set_option linter.unusedVariables false
set_option linter.unusedSimpArgs false

/-- A heap whose root 0 is a pile of n, all at rest. -/
structure PSt (S : HS) (s : DS) (K id n : Nat) (vs : List Nat) : Prop where
  r : Rest s (K * 64)
  w : PW s.C K id n vs
  an : AN S.A K n
  ep : S.ep = n + 1
  wh : S.wh = n % 2
  ws : S.ws = rootsL n
  ph : S.C.phase = 0
  l : vs.length = n
theorem adr_eq (t : Nat) : adr t = 509 + 3 * t := rfl
theorem ob_of {s : DS} {K n : Nat} {used : Nat → Bool} (hK : 3 ≤ K) (hn : n ≤ 170) (hu : ∀ x, used x = decide (x ∈ adrs n)) (h : ∀ t, 1 ≤ t → t ≤ n → s.C.getD (adr t) 0 = oword (adr t) 1 1 ∧ s.C.getD (adr t + 1) 0 ≤ 1099511627776) : OB s (K * 64) used 1 := by
  intro x hx
  rw [hu] at hx
  obtain ⟨t, h1, h2, rfl⟩ := (adrs_in n x).1 (of_decide_eq_true hx)
  obtain ⟨a, b⟩ := h t h1 h2
  have := adr_ge t
  exact ⟨by omega, 1, obj_adr a (by omega) hK, fun _ => b⟩
theorem prevN_le (n : Nat) (hn : n ≤ 170) : prevN n ≤ 1000000 := by
  unfold prevN
  split
  · omega
  · rw [adr_eq]; omega
theorem rootsL_set (n : Nat) : (rootsL n).set 0 (adr (n + 1)) = rootsL (n + 1) := rfl
/-- The stores of the object, one behind the other. -/
theorem push_parts {s : DS} {K n v : Nat} {E1 E2 E3 E4 : DS × Bool} (h : Rest s (K * 64)) (hn : n < 100) (hK : 3 ≤ K) (h1 : exec s (roomSt n ++ initS (adr (n + 1)) 1 1) = E1) (h2 : exec E1.1 [.st (adr (n + 1) + 1) (prevN n)] = E2) (h3 : exec E2.1 [.st (adr (n + 1) + 2) v] = E3) (h4 : exec E3.1 (persistS (adr (n + 1)) (1 + 1 + 1)) = E4) :
    (E1.2 = true → E1.1.C = cR (cR s.C (roomP n)) [(adr (n + 1) + 1, 0), (adr (n + 1) + 2, 0), (adr (n + 1), oword (adr (n + 1)) 1 1)]) ∧
    (E1.2 = true → E2.2 = true → E2.1.C = cR (cR s.C (roomP n)) [(adr (n + 1) + 1, 0), (adr (n + 1) + 2, 0), (adr (n + 1), oword (adr (n + 1)) 1 1), (adr (n + 1) + 1, prevN n)]) ∧
    (E1.2 = true → E2.2 = true → E3.2 = true → E3.1.C = midC s.C n v) ∧ (E1.2 = true → E2.2 = true → E3.2 = true → E4.2 = true → E4.1.C = midC s.C n v) := by
  have ha := adr_eq (n + 1)
  obtain ⟨r1, r2⟩ := room_phase (n := n) h (by omega)
  rw [exec_append s (roomSt n)] at h1
  cases hr : (exec s (roomSt n)).2 with
  | false =>
    rw [hr, if_neg (by simp)] at h1
    have : E1.2 = false := by rw [← h1]; exact hr
    rw [this]
    exact ⟨fun e => (by cases e), fun e => (by cases e), fun e => (by cases e), fun e => (by cases e)⟩
  | true =>
    rw [hr, if_pos rfl] at h1
    obtain ⟨hR1, hC1⟩ := r1 hr
    generalize (exec s (roomSt n)).1 = u at *
    have hobj := obj_phase (v := v) (n := n) hR1 (by omega)
    have hm8 : adr (n + 1) + 3 ≤ 8 * (K * 64) := by omega
    unfold midC
    rw [phaseS_push] at hobj
    clear ha
    have hpv : (if n = 0 then 0 else adr n) = prevN n := rfl
    rw [hpv]
    generalize adr (n + 1) = a at *
    rw [← hC1]
    have h0 : Ph u (K * 64) u.C u.C (fun l => True) := ⟨hR1.f, hR1.e, rfl, fun _ _ => rfl, fun l hl => trivial, fun l hl => by rw [hR1.p] at hl; cases hl⟩
    have e1 : initS a 1 1 = sts [(a + 1, 0), (a + 2, 0), (a, oword a 1 1)] := rfl
    obtain ⟨s1, _⟩ := sts_exec [(a + 1, 0), (a + 2, 0), (a, oword a 1 1)] h0 hR1.p (by
      intro p hp
      simp only [List.mem_cons, List.not_mem_nil, or_false] at hp
      rcases hp with rfl | rfl | rfl <;> exact ⟨(by simp only; omega), trivial⟩)
    rw [← e1, h1] at s1
    have q2 : E1.2 = true → E2.2 = true → Ph E2.1 (K * 64) u.C (cR u.C [(a + 1, 0), (a + 2, 0), (a, oword a 1 1), (a + 1, prevN n)]) (fun l => True) ∧ ∀ l, E2.1.P.getD l false = false := fun x1 x2 => by
      obtain ⟨p1, p2⟩ := s1 x1
      obtain ⟨s2, _⟩ := sts_exec [(a + 1, prevN n)] p1 p2 (by
        intro p hp
        simp only [List.mem_cons, List.not_mem_nil, or_false] at hp
        rcases hp with rfl
        exact ⟨by simp only; omega, trivial⟩)
      have e2 : sts [(a + 1, prevN n)] = [.st (a + 1) (prevN n)] := rfl
      rw [e2, h2] at s2
      exact s2 x2
    have q3 : E1.2 = true → E2.2 = true → E3.2 = true → Ph E3.1 (K * 64) u.C (cR u.C (pushP a (prevN n) v)) (fun l => True) ∧ ∀ l, E3.1.P.getD l false = false := fun x1 x2 x3 => by
      obtain ⟨p1, p2⟩ := q2 x1 x2
      obtain ⟨s2, _⟩ := sts_exec [(a + 2, v)] p1 p2 (by
        intro p hp
        simp only [List.mem_cons, List.not_mem_nil, or_false] at hp
        rcases hp with rfl
        exact ⟨by simp only; omega, trivial⟩)
      have e2 : sts [(a + 2, v)] = [.st (a + 2) v] := rfl
      rw [e2, h3] at s2
      exact s2 x3
    refine ⟨fun x => (s1 x).1.c, fun x1 x2 => (q2 x1 x2).1.c, fun x1 x2 x3 => (q3 x1 x2 x3).1.c, fun x1 x2 x3 x4 => ?_⟩
    have e : exec u (initS a 1 1 ++ ([.st (a + 1) (prevN n)] ++ ([.st (a + 2) v] ++ persistS a (1 + 1 + 1)))) = E4 := by
      rw [exec_append, h1, x1, if_pos rfl, exec_append, h2, x2, if_pos rfl, exec_append, h3, x3, if_pos rfl, h4]
    rw [e] at hobj
    exact (hobj.1 x4).2
theorem low_obj {s : DS} {K id n : Nat} {vs : List Nat} (hw : PW s.C K id n vs) (hn : n < 100) (hK3 : 3 ≤ K) : ∀ C2 ps, C2 = cR (cR s.C (roomP n)) ps → (∀ p ∈ ps, adr (n + 1) ≤ p.1 ∧ p.1 ≤ adr (n + 1) + 2) → ∀ t, 1 ≤ t → t ≤ n → C2.getD (adr t) 0 = oword (adr t) 1 1 ∧ C2.getD (adr t + 1) 0 ≤ 1099511627776 := by
  intro C2 ps e hps t t1 t2
  have ha := adr_eq (n + 1)
  have q := adr_eq t
  have hlen := hw.len
  obtain ⟨o1, o2, _⟩ := hw.obj t t1 t2
  rw [e, cR_out ps _ _ (fun p hp e => by have := hps p hp; omega), cR_out ps _ _ (fun p hp e => by have := hps p hp; omega), roomP_at n _ _ (by omega), roomP_at n _ _ (by omega), if_neg (by omega), if_neg (by omega), o1, o2]
  refine ⟨rfl, ?_⟩
  split
  · omega
  · rw [adr_eq]; omega
theorem three_at {C : List Nat} {a : Nat} (h : a + 2 < C.length) : (cR C [(a + 1, 0), (a + 2, 0), (a, oword a 1 1)]).getD a 0 = oword a 1 1 ∧ (cR C [(a + 1, 0), (a + 2, 0), (a, oword a 1 1)]).getD (a + 1) 0 = 0 := by
  have e : cR C [(a + 1, 0), (a + 2, 0), (a, oword a 1 1)] = ((C.set (a + 1) 0).set (a + 2) 0).set a (oword a 1 1) := rfl
  rw [e]
  refine ⟨?_, ?_⟩
  · rw [getD_set, if_pos ⟨rfl, by simp only [List.length_set]; omega⟩]
  · rw [getD_set, if_neg (by omega), getD_set, if_neg (by omega), getD_set, if_pos ⟨rfl, by omega⟩]
/-- An object just made. -/
theorem made_ob {s : DS} {K id n : Nat} {vs : List Nat} {E1 : DS × Bool} {used : Nat → Bool} (h : Rest s (K * 64)) (hw : PW s.C K id n vs) (hn : n < 100) (hK3 : 3 ≤ K) (h1 : exec s (roomSt n ++ initS (adr (n + 1)) 1 1) = E1) (hu : ∀ x, used x = decide (x ∈ adrs (n + 1))) (x : E1.2 = true) :
    ObjAt E1.1 (K * 64) (adr (n + 1)) 1 1 ∧ E1.1.C.getD (adr (n + 1) + 1) 0 = 0 ∧ OB E1.1 (K * 64) used 1 := by
  have ha := adr_eq (n + 1)
  have hlen := hw.len
  have e := (push_parts (v := 0) h hn hK3 h1 rfl rfl rfl).1 x
  obtain ⟨y1, y2⟩ := three_at (C := cR s.C (roomP n)) (a := adr (n + 1)) (by rw [cR_len]; omega)
  rw [← e] at y1 y2
  refine ⟨obj_adr y1 (by omega) hK3, y2, ob_of hK3 (by omega) hu (fun t t1 t2 => ?_)⟩
  by_cases et : t = n + 1
  · subst et; exact ⟨y1, by rw [y2]; omega⟩
  · exact low_obj hw hn hK3 _ _ e (by
      intro p hp
      simp only [List.mem_cons, List.not_mem_nil, or_false] at hp
      rcases hp with rfl | rfl | rfl <;> simp only <;> omega) t t1 (by omega)
set_option maxHeartbeats 1000000 in
/-- Push on a pile of n. -/
theorem push_st (B : Nat) (b : DB) (s : DS) (col : Nat → Nat) (hp al mp us fr rt hl ca sh pp v K id n : Nat) (vs : List Nat) (S : HS) (w : World) (h : HeapX w B b (K * 64) s col hp al mp us fr rt hl ca sh S) (hn9 : ∀ k, w.heap.size ≤ k → col k = 9)
    (hpb : Blk w pp 68 #[.pointer (some ⟨hp, 0, none⟩), .int .i64 (0 : Nat)]) (hpc : ¬ hcol (col pp)) (hS : PSt S s K id n vs) (hn : n < 100) (hK3 : 3 ≤ K) (hK4 : K ≤ 4) :
    Calls Tryz.prog 8 #[.pointer (some ⟨pp, 0, none⟩), .int .u64 v] w fun e w' => e = .returned (.int .i64 (ecode (exec s (pushS n v)).2)) ∧
      (((exec s (pushS n v)).2 = true ∧ ∃ col' S', (∀ k, k < w.heap.size → col' k = col k) ∧ (∀ k, w'.heap.size ≤ k → col' k = 9) ∧ HeapX w' B b (K * 64) (exec s (pushS n v)).1 col' hp al mp us fr rt hl ca sh S' ∧ PSt S' (exec s (pushS n v)).1 K id (n + 1) (vs ++ [v])) ∨
       ((exec s (pushS n v)).2 = false ∧ HeapD w' B b (K * 64) (exec s (pushS n v)).1 hp)) ∧ Mod w w' (fun k => hcol (col k)) := by
  obtain ⟨E1, hE1⟩ : ∃ E, exec s (roomSt n ++ initS (adr (n + 1)) 1 1) = E := ⟨_, rfl⟩
  obtain ⟨E2, hE2⟩ : ∃ E, exec E1.1 [.st (adr (n + 1) + 1) (prevN n)] = E := ⟨_, rfl⟩
  obtain ⟨E3, hE3⟩ : ∃ E, exec E2.1 [.st (adr (n + 1) + 2) v] = E := ⟨_, rfl⟩
  obtain ⟨E4, hE4⟩ : ∃ E, exec E3.1 (persistS (adr (n + 1)) (1 + 1 + 1)) = E := ⟨_, rfl⟩
  obtain ⟨E5, hE5⟩ : ∃ E, exec E4.1 (writeS (64 + (1 - n % 2) * 64) (slotEnc (n + 2) (rootsL (n + 1)))) = E := ⟨_, rfl⟩
  have hall := pushE_all s _ _ _ _ _ E1 E2 E3 E4 E5 hE1 hE2 hE3 hE4 hE5
  rw [← pushS_eq n v] at hall
  have hfin := (push_fin hS.r hS.w hS.l hn hK3 hK4 (v := v)).1
  obtain ⟨c1, c2, c3, c4⟩ := push_parts hS.r hn hK3 hE1 hE2 hE3 hE4
  obtain ⟨hR, hAN, hAK⟩ := hS.an.room (B := B) (b := b) (m := K * 64) (s := s) (ap := al) (mp := mp) (us := us) (fr := fr) hn hK3 hK4 rfl
  have ha := adr_eq (n + 1)
  have hlen : s.C.length = 8 * (K * 64) := hS.w.len
  have hu : ∀ x, ((roomA S.A K n).add (adr (n + 1))).used x = decide (x ∈ adrs (n + 1)) := hAN.u
  have hCl : (cR s.C (roomP n)).length = 8 * (K * 64) := by rw [cR_len]; exact hlen
  have o1 : E1.2 = true → ObjAt E1.1 (K * 64) (adr (n + 1)) 1 1 ∧ E1.1.C.getD (adr (n + 1) + 1) 0 ≤ 1099511627776 ∧ OB E1.1 (K * 64) ((roomA S.A K n).add (adr (n + 1))).used 1 := fun x => by
    obtain ⟨y1, y2, y3⟩ := made_ob hS.r hS.w hn hK3 hE1 hu x
    exact ⟨y1, by rw [y2]; omega, y3⟩
  have o2 : E1.2 = true → E2.2 = true → ObjAt E2.1 (K * 64) (adr (n + 1)) 1 1 := fun x1 x2 => by
    have e := c2 x1 x2
    have e2 : cR (cR s.C (roomP n)) [(adr (n + 1) + 1, 0), (adr (n + 1) + 2, 0), (adr (n + 1), oword (adr (n + 1)) 1 1), (adr (n + 1) + 1, prevN n)] = (cR (cR s.C (roomP n)) [(adr (n + 1) + 1, 0), (adr (n + 1) + 2, 0), (adr (n + 1), oword (adr (n + 1)) 1 1)]).set (adr (n + 1) + 1) (prevN n) := rfl
    refine obj_adr ?_ (by omega) hK3
    rw [e, e2, getD_set, if_neg (by omega)]
    exact (three_at (by omega)).1
  have wm : (midC s.C n v).getD (adr (n + 1)) 0 = oword (adr (n + 1)) 1 1 := (pushP_at (adr (n + 1)) _ v (cR s.C (roomP n)) (by omega)).1
  have o3 : E1.2 = true → E2.2 = true → E3.2 = true → ObjAt E3.1 (K * 64) (adr (n + 1)) 1 1 := fun x1 x2 x3 => by
    refine obj_adr ?_ (by omega) hK3
    rw [c3 x1 x2 x3]
    exact wm
  have hold := hS.w.old
  have o4 : E1.2 = true → E2.2 = true → E3.2 = true → E4.2 = true → E4.1.C.getD (64 + (1 - n % 2) * 64) 0 ≤ n + 1 ∧ E4.1.C.getD (64 + (1 - n % 2) * 64 + 8) 0 ≤ n + 1 := fun x1 x2 x3 x4 => by
    rw [c4 x1 x2 x3 x4, midC_out s.C n v _ (by omega) (by omega), midC_out s.C n v _ (by omega) (by omega), if_neg (by omega), if_neg (by omega)]
    have q0 := hold 0 (by omega)
    have q8 := hold 8 (by omega)
    rw [slotEnc_w8] at q8
    rw [(slotEnc_words n (rootsL (n - 1)) rfl).2] at q0
    rw [Nat.add_zero] at q0
    rw [q0, q8]
    refine ⟨?_, ?_⟩ <;> split <;> omega
  have hE5t : E1.2 = true → E2.2 = true → E3.2 = true → E4.2 = true → E5 = exec s (pushS n v) := fun x1 x2 x3 x4 => by
    rw [← hall]
    unfold pushE
    rw [x1, x2, x3, x4, if_pos rfl, if_pos rfl, if_pos rfl, if_pos rfl]
  have hob : (exec s (pushS n v)).2 = true → OB (exec s (pushS n v)).1 (K * 64) ((roomA S.A K n).add (adr (n + 1))).used 1 := fun x => by
    obtain ⟨_, e⟩ := hfin x
    have hw := (hS.w.step v hS.l hn hK3 hK4).obj
    refine ob_of hK3 (by omega) hu (fun t t1 t2 => ?_)
    rw [e]
    obtain ⟨y1, y2, _⟩ := hw t t1 t2
    rw [y1, y2]
    refine ⟨rfl, ?_⟩
    split
    · omega
    · rw [adr_eq]; omega
  have hnew : (exec s (pushS n v)).2 = true → ∀ S', S'.A = (roomA S.A K n).add (adr (n + 1)) → S'.ep = S.ep + 1 → S'.wh = 1 - S.wh → S'.ws = S.ws.set 0 (adr (n + 1)) → S'.C = S.C → PSt S' (exec s (pushS n v)).1 K id (n + 1) (vs ++ [v]) := fun x S' y1 y2 y3 y4 y5 => by
    obtain ⟨z1, z2⟩ := hfin x
    exact ⟨z1, by rw [z2]; exact hS.w.step v hS.l hn hK3 hK4, by rw [y1]; exact hAN, by rw [y2, hS.ep], by rw [y3, hS.wh]; omega, by rw [y4, hS.ws]; rfl, by rw [y5]; exact hS.ph, by rw [List.length_append, hS.l]; rfl⟩
  rw [← hall] at hnew hob ⊢
  refine (ppush_any B b (K * 64) s col hp al mp us fr rt hl ca sh pp 0 v (prevN n) (adr (n + 1)) 1 S (roomA S.A K n) (roomSt n) E1 E2 E3 E4 E5 w h hn9 hpb hpc (by omega) (by rw [hS.ws]; rfl) (by rw [hS.ws]; rfl) (prevN_le n (by omega)) (by omega) (by omega) (by omega) hS.ph (by rw [hS.wh]; omega) (by rw [hS.ep]; omega)
    (by rw [hS.ws, rootsL_set]; exact rootsL_ok (n + 1) (by omega)) hR (by rw [hAK, hS.an.kk]) (by rw [hu]; exact decide_eq_false (fun hm => by obtain ⟨t, _, _, e⟩ := (adrs_in _ _).1 hm; have := adr_ge t; omega)) hE1 hE2 hE3 hE4 (by rw [hS.wh, hS.ep, hS.ws, rootsL_set]; exact hE5) o1 o2 o3 (by rw [hS.wh, hS.ep]; exact o4)
    (fun x1 x2 x3 x4 x5 => by
      have e := hE5t x1 x2 x3 x4
      rw [hall] at hob
      rw [e] at x5 ⊢
      exact hob x5)).mono ?_
  rintro e w' ⟨rfl, hO, hM⟩
  refine ⟨rfl, ?_, hM⟩
  rcases hO with ⟨x, col', S', k1, k2, k3, k4, k5, k6, k7, k8, k9⟩ | ⟨x, hD⟩
  · exact .inl ⟨x, col', S', k1, k2, k3, hnew x S' k4 k5 k6 k8 k9⟩
  · exact .inr ⟨x, hD⟩
end Go.Proofs.YtcnjipicifkfjaaGreat

/- A crash image is opened: the pile before, or the one behind. -/
namespace Go.Proofs.YtcnjipicifkfjaaGreat
open Go.RowKit
set_option linter.unusedVariables false
set_option linter.unusedSimpArgs false

theorem usedOf_adrs (j x : Nat) : usedOf (adrs j) j x = decide (x ∈ adrs j) := by
  unfold usedOf
  rw [List.take_of_length_le (by simp [adrs])]
theorem iw_after {I : List Nat} {K id j e wh : Nat} {vs : List Nat} {c : Bool} (h : IW I K id j e wh vs c) (hv : vs.length = j) (hK : 3 ≤ K) :
    OB (openS I K j c) (K * 64) (usedOf (adrs j) j) 1 ∧ ChainIn (openS I K j c) (K * 64) (usedOf (adrs j) j) ((rootsL j).getD 0 0) vs.reverse := by
  by_cases hj : j = 0
  · subst hj
    have hn : vs = [] := List.length_eq_zero_iff.1 hv
    subst hn
    refine ⟨ob_of hK (by omega) (usedOf_adrs 0) (fun t t1 t2 => by omega), ?_⟩
    show usedOf (adrs 0) 0 0 = false ∧ _
    exact ⟨by rw [usedOf_adrs]; rfl, by show (0 : Nat) ≤ _; omega⟩
  · have e : openS I K j c = fresh I (K * 64) := by unfold openS; rw [if_neg (fun x => hj x.1)]
    rw [e]
    have ho : ObjsIn (fresh I (K * 64)).C j vs := h.obj
    refine ⟨ob_of hK h.jl (usedOf_adrs j) (fun t t1 t2 => ?_), ?_⟩
    · obtain ⟨y1, y2, _⟩ := ho t t1 t2
      have q := h.jl
      rw [y1, y2]
      refine ⟨rfl, ?_⟩
      split
      · omega
      · rw [adr_eq]; omega
    · have := ho.chain (h.jl) hK hv (usedOf_adrs j) j (Nat.le_refl _)
      rw [if_neg hj, List.take_of_length_le (by omega)] at this
      have e2 : (rootsL j).getD 0 0 = adr j := by show (if j = 0 then 0 else adr j) = _; rw [if_neg hj]
      rw [e2]
      exact this
theorem open_iw (B : Nat) (b : DB) (K id j e wh : Nat) (I vs : List Nat) (c : Bool) (w : World) (h : Dev B w b (K * 64) (fresh I (K * 64))) (hI : IW I K id j e wh vs c) (hv : vs.length = j) (hK : 3 ≤ K) (hK4 : K ≤ 4) (hid : id < 18446744073709551616) :
    Calls Tryz.prog 13 #[.pointer (some ⟨b.d, 0, none⟩), .int .i64 3] w fun e w' => ∃ hp s' S, e = .returned (.tuple #[.pointer (some ⟨hp, 0, none⟩), .int .i64 0]) ∧ HeapR w' (fun k => b.has k ∨ w.heap.size ≤ k) B b (K * 64) s' hp S ∧
      S.ws.length = 8 ∧ ChainIn s' (K * 64) S.A.used (S.ws.getD 0 0) vs.reverse ∧ Mod w w' b.has := by
  obtain ⟨q1, q2⟩ := iw_after hI hv hK
  refine (hopen_any B b (K * 64) (fresh I (K * 64)) (openS I K j c) K id e wh j 1 3 1 (hsB K c) w h (hI.open_ hK hK4) hK hK4 hid q1).mono ?_
  rintro e w' ⟨hp, rfl, h1, h2⟩
  exact ⟨hp, _, _, rfl, h1, rfl, q2, h2⟩
/-- Open, of an image of a push. -/
theorem open_either (B : Nat) (b : DB) (K id n v : Nat) (I vs : List Nat) (w : World) (h : Dev B w b (K * 64) (fresh I (K * 64))) (hE : Either I K id n vs v) (hv : vs.length = n) (hK : 3 ≤ K) (hK4 : K ≤ 4) (hid : id < 18446744073709551616) :
    Calls Tryz.prog 13 #[.pointer (some ⟨b.d, 0, none⟩), .int .i64 3] w fun e w' => ∃ hp s' S l, e = .returned (.tuple #[.pointer (some ⟨hp, 0, none⟩), .int .i64 0]) ∧ HeapR w' (fun k => b.has k ∨ w.heap.size ≤ k) B b (K * 64) s' hp S ∧
      S.ws.length = 8 ∧ (l = vs.reverse ∨ l = v :: vs.reverse) ∧ ChainIn s' (K * 64) S.A.used (S.ws.getD 0 0) l ∧ Mod w w' b.has := by
  rcases hE with ⟨c, hI⟩ | ⟨c, hI⟩
  · refine (open_iw B b K id n _ _ I vs c w h hI hv hK hK4 hid).mono ?_
    rintro e w' ⟨hp, s', S, rfl, h1, h2, h3, h4⟩
    exact ⟨hp, s', S, _, rfl, h1, h2, .inl rfl, h3, h4⟩
  · refine (open_iw B b K id (n + 1) _ _ I (vs ++ [v]) c w h hI (by rw [List.length_append, hv]; rfl) hK hK4 hid).mono ?_
    rintro e w' ⟨hp, s', S, rfl, h1, h2, h3, h4⟩
    exact ⟨hp, s', S, _, rfl, h1, h2, .inr (by rw [List.reverse_append]; rfl), h3, h4⟩
end Go.Proofs.YtcnjipicifkfjaaGreat

/- taproottop: awake. -/
namespace Go.Proofs.YtcnjipicifkfjaaGreat
open Go.RowKit
set_option linter.unusedVariables false
set_option linter.unusedSimpArgs false

/-- Room for the first object, of another mutator. -/
theorem room0 {B : Nat} {b : DB} {m : Nat} {s : DS} {ap mp us fr : Nat} {S : AS} {K : Nat} (h : AN S K 0) (hK3 : 3 ≤ K) (hK4 : K ≤ 4) (hm : m = K * 64) :
    RoomOk B b m s ap mp us fr 0 1 1 S (putS 1 1 1) (adr 1) ((S.small 1 (K - 1)).take 0) := by
  have hcof : cof (1 + 1 + 1) = S.k := by rw [h.k]; decide
  obtain ⟨g0, c1, o0⟩ := h.h0 rfl
  have hcv : carveL S.used S.k 1 (ccells S.k) = cellsN 0 := by
    have hf : S.used = fun _ => false := by funext a; rw [h.u]; rfl
    rw [hf, h.k, ccells1]; unfold cellsN; rw [Nat.sub_zero]
  have hc : ∀ k, S.cs k = [] := fun k => by
    by_cases e : k = 1
    · rw [e]; exact c1
    · exact h.c0 k e
  have hgl : (S.small 1 (K - 1)).glob = cellsN 0 := by show S.glob ++ _ = _; rw [g0, hcv, List.nil_append]
  have hst := cellsN_step 0 (by omega)
  obtain ⟨t1, t2, t3⟩ := take_snoc (S.small 1 (K - 1)).glob S.cs 0 (adr 1) (cellsN 1) (by rw [hgl, hc, List.append_nil, hst]) (takeN_ok _)
  intro col w hD hdv hA
  have := room_small B b m s col ap mp us fr 0 1 1 1 (K - 1) S w hD hdv hA (by omega) (by omega) (by omega) hcof (by rw [h.kk]; exact hm) (by rw [h.kk]; omega) (hc 0) g0 o0 (by omega) (by omega) (by rw [h.kk]; omega) (fun k => by rw [hc]; simp) (fun k x hx => by
    rw [hc] at hx; cases hx) (by rw [hcv, hst]; simp)
  rw [t1, h.k] at this
  exact this
theorem alls_one (x : Nat) (hx : x ≠ 0) : alls ((zerosN 32).set 0 x) 32 = [x] := by
  have : ∀ k, alls ((zerosN 32).set 0 x) (k + 1) = [x] := by
    intro k
    induction k with
    | zero =>
      rw [alls, if_neg (by rw [getD_set, if_pos ⟨rfl, by simp [zerosN]⟩]; exact hx)]
      rw [getD_set, if_pos ⟨rfl, by simp [zerosN]⟩]
      rfl
    | succ k ih => rw [alls, if_pos (by rw [getD_set, if_neg (by omega), zeros_get]), ih]
  exact this 31
theorem live_one {s : DS} {S : HS} (hA : ∀ x, S.A.used x = decide (x ∈ adrs 1)) (hr : S.rg = (zerosN 32).set 0 (adr 1)) (hw : S.ws = zerosN 8) (hn : s.C.getD (adr 1 + 1) 0 = 0) (hK : S.A.K = 4) : (setL (liveM s 1 S) (8 * S.A.K)).length = 1 := by
  have h0 : S.A.used 0 = false := by rw [hA]; rfl
  have h1 : S.A.used 512 = true := by rw [hA]; rfl
  have hl : liveM s 1 S = addS (fun _ => false) 512 := by
    unfold liveM
    rw [hr, hw, alls_one _ (by rw [adr_eq]; omega)]
    have e : ([adr 1] ++ zerosN 8).length = 9 := rfl
    rw [e]
    have r1 : resetM S.A.used (nx s 1) (512 * S.A.K + 1) ([adr 1] ++ zerosN 8) 1 = addS (fun _ => false) 512 := by
      have e2 : ([adr 1] ++ zerosN 8).getD 0 0 = 512 := rfl
      rw [resetM, e2, hK]
      have e3 : resetM S.A.used (nx s 1) (512 * 4 + 1) ([adr 1] ++ zerosN 8) 0 = fun _ => false := rfl
      rw [e3, addM_yes _ _ 2048 _ _ h1 rfl]
      refine addM_no _ _ _ _ _ (.inl ?_)
      have : nx s 1 512 = 0 := hn
      rw [this]; exact h0
    have rk : ∀ k, k < 9 → resetM S.A.used (nx s 1) (512 * S.A.K + 1) ([adr 1] ++ zerosN 8) (k + 1) = addS (fun _ => false) 512 := by
      intro k hk
      induction k with
      | zero => exact r1
      | succ k ih =>
        rw [resetM, ih (by omega)]
        refine addM_no _ _ _ _ _ (.inl ?_)
        have : ([adr 1] ++ zerosN 8).getD (k + 1) 0 = 0 := by
          have : ([adr 1] ++ zerosN 8).getD (k + 1) 0 = (zerosN 8).getD k 0 := rfl
          rw [this, zeros_get]
        rw [this]; exact h0
    exact rk 8 (by omega)
  rw [hl, hK]
  show (setL (addS (fun _ => false) 512) (8 * 4)).length = 1
  kernel_rfl
/-- What awake needs of a heap with one object. -/
def Woke (w : World) (hp : Nat) : Prop :=
  ∃ al, (∀ q, Calls Tryz.prog 16 #[.pointer (some ⟨hp, 0, none⟩)] (w.drewN q) fun e w' => e = .returned (.pointer (some ⟨al, 0, none⟩)) ∧ w.drewN q = w') ∧
    (∀ q, Calls Tryz.prog 21 #[.pointer (some ⟨hp, 0, none⟩)] (w.drewN q) fun e w' => (∃ A cap, e = .returned (.slice A 1 cap)) ∧ Below (w.drewN q).heap.size (w.drewN q) w')
set_option maxRecDepth 100000 in
theorem woke_alloc (B : Nat) (G : Nat → Prop) (b : DB) (hp : Nat) (w : World) (h : HeapR w G B b (4 * 64) (fmt 4 1) hp (hsO 4 1 0 1 0 3 1 (fmt 4 1) (List.replicate 4 (0, 0)))) :
    Calls Tryz.prog 20 #[.pointer (some ⟨hp, 0, none⟩), .agg #[.int .i64 0, .int .i64 0], .int .i64 1, .int .i64 1] w fun e w' => e = .returned (.int .i64 0) ∧ Woke w' hp ∧ Mod w w' G := by
  obtain ⟨col0, al, mp, us, fr, rt, hl, ca, sh, hX0, hG⟩ := h
  have hX := hX0.recol (colW_lt col0 w 9)
  have hn9 : ∀ k, w.heap.size ≤ k → colW col0 w 9 k = 9 := fun k hk => colW_ge _ _ _ _ hk
  have hG2 : ∀ k, k < w.heap.size → hcol (colW col0 w 9 k) → G k := fun k hk h => hG k hk (by rwa [colW_lt _ _ _ _ hk] at h)
  generalize colW col0 w 9 = col at *
  clear hX0 hG
  obtain ⟨hR, hC, hL⟩ := fmt_C 4 1 (by omega) (by omega)
  have hW := fmt_PW 4 1 (by omega) (by omega)
  have hAN := asO_AN 4
  generalize fmt 4 1 = s at *
  have hu : ∀ x, (((asO 4 1 0 (List.replicate 4 (0, 0))).small 1 (4 - 1)).take 0 |>.add (adr 1)).used x = decide (x ∈ adrs 1) := fun a => by
    have e : adrs 1 = adrs 0 ++ [adr 1] := rfl
    show addS (asO 4 1 0 (List.replicate 4 (0, 0))).used (adr 1) a = _
    unfold addS
    rw [hAN.u, e, ← Bool.decide_or, decide_eq_decide, List.mem_append, List.mem_singleton]
  obtain ⟨E, hE⟩ : ∃ E, exec s (putS 1 1 1 ++ initS (adr 1) 1 1) = E := ⟨_, rfl⟩
  have hE2 : E.2 = true := by rw [← hE]; exact (exec_live hL _).1
  obtain ⟨m1, m2, m3⟩ := made_ob hR hW (by omega : (0 : Nat) < 100) (by omega) hE hu hE2
  have := halloc_any B b (4 * 64) s col hp al mp us fr rt hl ca sh 0 0 1 1 (adr 1) _ (((asO 4 1 0 (List.replicate 4 (0, 0))).small 1 (4 - 1)).take 0) (putS 1 1 1) w hX hn9 (by omega) (by omega) m1.o rfl (room0 hAN (by omega) (by omega) rfl) (by rw [adr_eq]; omega) rfl
  rw [hE] at this
  refine this.mono ?_
  rintro e w' ⟨rfl, hO, hM⟩
  refine ⟨by rw [hE2]; rfl, ?_, hM.mono (fun k hk h => hG2 k hk h)⟩
  rcases hO with ⟨_, col', k1, k2, st, hX'⟩ | ⟨hf, _⟩
  · refine ⟨al, fun q => ?_, fun q => ?_⟩
    · have hq := hX'.below (below_drewN (Below.refl _ _) q)
      exact hspace_any B b (4 * 64) E.1 col' hp al mp us fr rt hl ca sh _ (w'.drewN q) hq
    · have hq := hX'.below (below_drewN (Below.refl _ _) q)
      refine (hlive_any B b (4 * 64) E.1 col' hp al mp us fr rt hl ca sh 1 _ (w'.drewN q) hq k2 rfl (hu 0) m3 ?_).mono ?_
      · rintro x (hx | hx)
        · have hx : x ∈ (zerosN 32).set 0 (adr 1) := hx
          rcases List.mem_or_eq_of_mem_set hx with h | h
          · have := List.eq_of_mem_replicate h; omega
          · rw [h, adr_eq]; omega
        · have hx : x ∈ zerosN 8 := hx
          have := List.eq_of_mem_replicate hx; omega
      · rintro e w2 ⟨A, cap, rfl, _, hb⟩
        exact ⟨⟨A, cap, by rw [live_one hu rfl rfl m2 rfl]⟩, hb⟩
  · rw [hE2] at hf; cases hf
end Go.Proofs.YtcnjipicifkfjaaGreat

/- the top: list (a range over pile.All). -/
namespace Go.Proofs.YtcnjipicifkfjaaGreat
open Go.RowKit Go.Shelf
set_option linter.unusedVariables false
set_option linter.unusedSimpArgs false
attribute [local go_sem] Oper.semAt_some

theorem results_cell2 {P : Program} {fn : Func} {p u : Tmp} {ty ty2 : TypeId} (h : fn.results = #[.cell p ty, .cell u ty2]) (tmps : Array Value) (w : World) (g g2 : Nat) (v v2 : Value)
    (hp : tmps.getD p undef = .pointer (some ⟨g, 0, none⟩)) (hu : tmps.getD u undef = .pointer (some ⟨g2, 0, none⟩)) (h1 : (loadVar ty ⟨g, 0, none⟩).run P w = .ok v w) (h2 : (loadVar ty2 ⟨g2, 0, none⟩).run P w = .ok v2 w) :
    (results fn tmps).run P w = .ok (.tuple #[v, v2]) w := by
  have hp' : tmps[p]?.getD undef = .pointer (some ⟨g, 0, none⟩) := by simpa using hp
  have hu' : tmps[u]?.getD undef = .pointer (some ⟨g2, 0, none⟩) := by simpa using hu
  simp [results, h, hp', hu', asAddr, h1, h2, Sem.run_bind]
theorem run_equalIn_func (P : Program) (d : Nat) (t : TypeId) (ps rs : Array TypeId) (vr : Bool) (h : P.underlying t = some (.func ps rs vr)) (f : Fn) (a b : Array Value) (w : World) : (Op.equalIn (d + 1) t (.func f a b) Value.nilFunc).run P w = .ok false w := by
  simp [Op.equalIn, run_underlying h]
theorem run_eql77 (cap : Array Value) (w : World) : (binOp BinOp.eql 77 (.func (.func 86) #[] cap) Value.nilFunc).run Tryz.prog w = .ok (.bool false) w := by
  have := run_equalIn_func Tryz.prog 9999 77 _ _ _ Tryz.underlying77 (.func 86) #[] cap w
  have e : (Op.equal 77 (.func (.func 86) #[] cap) Value.nilFunc).run Tryz.prog w = .ok false w := this
  simp [go_sem, binOp, e]
theorem info28z : (Tryz.prog.info? 28).map (fun i => (i.zero, i.size, i.bytes)) = some (some (.int .u64 0), 1, 8) := by kernel_rfl
theorem loadVar22 (w : World) (g : Nat) (v : Value) (h : w.cell? ⟨g, 0, none⟩ = some v) : (loadVar 22 ⟨g, 0, none⟩).run Tryz.prog w = .ok v w := by
  simp [go_sem, loadVar, h, Tryz.underlying22]
theorem loadVar4 (w : World) (g : Nat) (v : Value) (h : w.cell? ⟨g, 0, none⟩ = some v) : (loadVar 4 ⟨g, 0, none⟩).run Tryz.prog w = .ok v w := by
  simp [go_sem, loadVar, h, Tryz.underlying4]
theorem pall_in (m p : Nat) (w : World) :
    CallsIn Fence.wide m Tryz.prog 35 #[.pointer (some ⟨p, 0, none⟩)] w fun e w' => e = .returned (.func (.func 86) #[] #[.pointer (some ⟨w.heap.size, 0, none⟩)]) ∧ w' = w.alloc (.cells #[.pointer (some ⟨p, 0, none⟩)] 31) := by
  refine callsIn_of_wp Tryz.func35 rfl trivial ?_ rfl
  simp only [Tryz.ntmps35, List.size_toArray, List.length_cons, List.length_nil, Nat.reduceAdd, Nat.reduceSub, Array.replicate_succ, Array.replicate_zero, List.push_toArray, List.append_toArray, List.nil_append, List.cons_append]
  gi_wp2
  go_ret
  exact ⟨rfl, rfl⟩
theorem pall_stops (B : Nat) (b : DB) (m : Nat) (s : DS) (col : Nat → Nat) (hp al mp us fr rt hl ca sh pp a0 : Nat) (vs : List Nat) (S : HS) (mm Bn : Nat) (hm : 1 ≤ mm) (w0 : World) (h : HeapX w0 B b m s col hp al mp us fr rt hl ca sh S) (hws : S.ws.length = 8)
    (hpb : Blk w0 pp 68 #[.pointer (some ⟨hp, 0, none⟩), .int .i64 0]) (ha0 : S.ws.getD 0 0 = a0) (hch : ChainIn s m S.A.used a0 vs) (w : World) (hw : Below w0.heap.size w0 w) (hc : Boxed w Bn 31 (.pointer (some ⟨pp, 0, none⟩))) :
    SeqStopsK Fence.wide mm Tryz.prog 86 #[.pointer (some ⟨Bn, 0, none⟩)] (fun x : Nat => #[Value.int .u64 (x : Int)]) (KeepP w0.heap.size Bn (.pointer (some ⟨pp, 0, none⟩))) (fun ys => ys = vs) (fun pre => pre <+: vs) vs.length w := fun l J Jx W hW hJ _ hY h0 =>
  pall1_in B b m s col hp al mp us fr rt hl ca sh pp a0 vs S mm l Bn hm w0 h hws hpb ha0 hch J Jx hY W (boxedP_below hc hW) (hw.trans (hW.mono hw.size)) h0 (fun pre A C hj hb => hJ pre A C none hj (only_of_below hb none) (by intro r e; cases e))
set_option maxRecDepth 100000 in
set_option maxHeartbeats 2000000 in
theorem plist_in (B : Nat) (b : DB) (m : Nat) (s : DS) (col : Nat → Nat) (hp al mp us fr rt hl ca sh pp a0 : Nat) (vs : List Nat) (S : HS) (w : World) (h : HeapX w B b m s col hp al mp us fr rt hl ca sh S) (hws : S.ws.length = 8)
    (hpb : Blk w pp 68 #[.pointer (some ⟨hp, 0, none⟩), .int .i64 0]) (ha0 : S.ws.getD 0 0 = a0) (hch : ChainIn s m S.A.used a0 vs) (hvs : vs.length ≤ 200) :
    CallsIn Fence.wide 4 Tryz.prog 9 #[.pointer (some ⟨pp, 0, none⟩)] w fun e W' => ∃ v, e = .returned (.tuple #[v, .bool true]) ∧ W'.ownsRow w.heap.size 28 1 v vs.length (wcells vs) ∧ Below w.heap.size w W' := by
  obtain ⟨i0, hi, hz0, hz1, hz2⟩ := info_parts info28z
  have Hst := Lib.hid (fun Bn wr hw hc => pall_stops B b m s col hp al mp us fr rt hl ca sh pp a0 vs S (4 - 1) Bn (by omega) w h hws hpb ha0 hch wr hw hc)
  clear h hpb hch ha0 hws
  refine callsIn_of_wp_marks Tryz.func9 rfl trivial ?_ rfl
  simp only [Tryz.ntmps9, List.size_toArray, List.length_cons, List.length_nil, Nat.reduceAdd, Nat.reduceSub, Array.replicate_succ, Array.replicate_zero, List.push_toArray, List.append_toArray, List.nil_append, List.cons_append]
  have hbf : ∀ (cap : Array Value) (w : World), (binOp BinOp.eql 77 (.func (.func 86) #[] cap) Value.nilFunc).run Tryz.prog w = .ok (.bool false) w := run_eql77
  gi_wp2_with (refine ⟨trivial, ?_⟩; gi_at_call 35; refine (pall_in _ pp _).mono ?_; rintro e w' ⟨rfl, rfl⟩)
  have b0 : Boxed ((((w.alloc (.cells #[.slice none 0 0] 22)).alloc (.cells #[.bool false] 4)).alloc (.cells #[.pointer (some ⟨pp, 0, none⟩)] 31)).alloc (.cells #[.slice none 0 0] 22)) w.heap.size 22 (.slice none 0 0) := (((Boxed.new w 22 (.slice none 0 0)).alloc _).alloc _).alloc _
  have b1 : Boxed ((((w.alloc (.cells #[.slice none 0 0] 22)).alloc (.cells #[.bool false] 4)).alloc (.cells #[.pointer (some ⟨pp, 0, none⟩)] 31)).alloc (.cells #[.slice none 0 0] 22)) (w.heap.size + 1) 4 (.bool false) := by
    have := Boxed.new (w.alloc (.cells #[.slice none 0 0] 22)) 4 (.bool false)
    rw [World.size_alloc] at this
    exact (this.alloc _).alloc _
  have bN : Boxed ((((w.alloc (.cells #[.slice none 0 0] 22)).alloc (.cells #[.bool false] 4)).alloc (.cells #[.pointer (some ⟨pp, 0, none⟩)] 31)).alloc (.cells #[.slice none 0 0] 22)) (w.heap.size + 1 + 1) 31 (.pointer (some ⟨pp, 0, none⟩)) := by
    have := Boxed.new ((w.alloc (.cells #[.slice none 0 0] 22)).alloc (.cells #[.bool false] 4)) 31 (.pointer (some ⟨pp, 0, none⟩))
    rw [World.size_alloc, World.size_alloc] at this
    exact this.alloc _
  have bO : Boxed ((((w.alloc (.cells #[.slice none 0 0] 22)).alloc (.cells #[.bool false] 4)).alloc (.cells #[.pointer (some ⟨pp, 0, none⟩)] 31)).alloc (.cells #[.slice none 0 0] 22)) (w.heap.size + 1 + 1 + 1) 22 (.slice none 0 0) := by
    have := Boxed.new (((w.alloc (.cells #[.slice none 0 0] 22)).alloc (.cells #[.bool false] 4)).alloc (.cells #[.pointer (some ⟨pp, 0, none⟩)] 31)) 22 (.slice none 0 0)
    rw [World.size_alloc, World.size_alloc, World.size_alloc] at this
    exact this
  have hB0 : Below w.heap.size w ((((w.alloc (.cells #[.slice none 0 0] 22)).alloc (.cells #[.bool false] 4)).alloc (.cells #[.pointer (some ⟨pp, 0, none⟩)] 31)).alloc (.cells #[.slice none 0 0] 22)) := ((((Below.refl _ w).alloc (Nat.le_refl _) _).alloc (by simp) _).alloc (by simp; omega) _).alloc (by simp; omega) _
  have hz4 : w.heap.size + 1 + 1 + 1 + 1 = ((((w.alloc (.cells #[.slice none 0 0] 22)).alloc (.cells #[.bool false] 4)).alloc (.cells #[.pointer (some ⟨pp, 0, none⟩)] 31)).alloc (.cells #[.slice none 0 0] 22)).heap.size := by simp
  generalize (((w.alloc (.cells #[.slice none 0 0] 22)).alloc (.cells #[.bool false] 4)).alloc (.cells #[.pointer (some ⟨pp, 0, none⟩)] 31)).alloc (.cells #[.slice none 0 0] 22) = w4 at *
  obtain ⟨N1, hN1⟩ : ∃ n, w.heap.size + 1 = n := ⟨_, rfl⟩
  obtain ⟨N2, hN2⟩ : ∃ n, N1 + 1 = n := ⟨_, rfl⟩
  obtain ⟨N3, hN3⟩ : ∃ n, N2 + 1 = n := ⟨_, rfl⟩
  rw [hN1, hN2, hN3] at bO
  rw [hN1, hN2] at bN
  rw [hN1] at b1
  simp only [hN1, hN2, hN3]
  refine wpIn_rangeFunc_ownG rfl (by omega) (gf := 86) (lb := #[.pointer (some ⟨N2, 0, none⟩)]) rfl trivial (enters_of Tryz.func86 (by kernel_rfl) rfl)
    (Hst.out N2 w4 hB0 bN) keepP_t (keepP_b (by omega)) (Below.refl _ _) (fun _ => rfl)
    (fun pre W => (∃ v, Boxed W N3 22 v ∧ W.ownsRow w.heap.size 28 1 v pre.length (wcells pre) ∧ True) ∧ (Boxed W N2 31 (.pointer (some ⟨pp, 0, none⟩)) ∧ Boxed W w.heap.size 22 (.slice none 0 0) ∧ Boxed W N1 4 (.bool false)) ∧ Below w.heap.size w W)
    (fun _ _ _ => False)
    (OwnFrom.and (Own.from (holdsRow_own w.heap.size N3 22 28 1 (fun pre : List Nat => pre.length) (fun pre => wcells pre) (fun _ _ => True)) _) (OwnFrom.and (OwnFrom.and (Own.from (boxed_own _ _ _) _) (OwnFrom.and (Own.from (boxed_own _ _ _) _) (Own.from (boxed_own _ _ _) _))) (ownFrom_below (Nat.le_refl _) (by omega))))
    (fun _ _ _ _ _ hs _ _ => hs)
    ⟨⟨_, bO, World.ownsRow_nil _ _ _ _, trivial⟩, ⟨bN, b0, b1⟩, hB0⟩
    (fun x => { tmps := #[.pointer (some ⟨pp, 0, none⟩), undef, .pointer (some ⟨w.heap.size, 0, none⟩), .pointer (some ⟨N1, 0, none⟩), .func (.func 86) #[] #[.pointer (some ⟨N2, 0, none⟩)], .pointer (some ⟨N3, 0, none⟩), .int .u64 (x : Int), .pointer (some ⟨pp, 0, none⟩), .func (.func 86) #[] #[.pointer (some ⟨N2, 0, none⟩)], .func (.func 86) #[] #[.pointer (some ⟨N2, 0, none⟩)], .bool false, .func (.func 86) #[] #[.pointer (some ⟨N2, 0, none⟩)], .int .u64 (x : Int), undef, undef, undef, undef, undef, undef, undef, undef], defers := [] }) ?assign ?body ?done ?stop
  case assign =>
    intro l x W K hK
    gi_wp2
    exact hK
  case body =>
    rintro l pre x W ⟨⟨v, hv, hrow, _⟩, ⟨hbN, hb0, hb1⟩, hB⟩ hlt
    have hc := hv.cell
    have hneN := hbN.not_row (by decide) hrow
    have hne0 := hb0.not_row (by decide) hrow
    have hne1 := hb1.not_row (by decide) hrow
    gi_wp2_with (gi_at_builtin; refine wpListIn_append_own _ rfl _ _ 22 rfl w.heap.size 28 i0 (.int .u64 0) 1 8 Tryz.underlying22 hi hz0 hz1 hz2 rfl (by decide) _ _ _ rfl (hrow.alloc _) ⟨W.heap.size, 0, none⟩ 1 1 [.int .u64 (x : Int)] rfl rfl (cell_one_new _ _ _) (by simp [Value.oneCell']) (by unfold maxLen; omega) (by omega) (by have := hB.size; simp; omega) ?_; intro v' w1 hown' hgrow _; obtain ⟨g', cap', rfl⟩ := ownsRow_succ hown'; obtain ⟨hv1, hv2, hr2, hk2, hb2⟩ := hv.appended (by decide) hrow hB.size (by omega) hown' hgrow; have hc1 := hv1.cell; have hf1 := hv1.frozen)
    have k3 : ∀ k, k ≠ N3 → ((w1.setCell ⟨N3, 0, none⟩ (.slice (some ⟨g', 0, none⟩) (pre.length + 1) cap')).heap[k]? = w1.heap[k]?) := fun k hk => Below.heap_setCell w1 ⟨N3, 0, none⟩ _ k hk
    have hbN2 := (k3 N2 (by omega)).trans ((hbN.alloc (.cells #[.int .u64 (x : Int)] 28)).kept hgrow hneN)
    have hb02 := (k3 w.heap.size (by omega)).trans ((hb0.alloc (.cells #[.int .u64 (x : Int)] 28)).kept hgrow hne0)
    have hb12 := (k3 N1 (by omega)).trans ((hb1.alloc (.cells #[.int .u64 (x : Int)] 28)).kept hgrow hne1)
    exact ⟨hk2.from _, ⟨hb2, fun _ => hbN2⟩, ⟨_, hv2, by simpa [wcells] using hr2, trivial⟩, ⟨hbN2, hb02, hb12⟩, hB.trans hb2⟩
  case done =>
    rintro D ys W hD rfl ⟨⟨v, hv, hrow, _⟩, ⟨hbN, hb0, hb1⟩, hB⟩ hK
    obtain ⟨A, cap, rfl, ho⟩ := Own.of_row hrow
    have hc := hv.cell
    have hc0 := hb0.cell
    have hf0 := hb0.frozen
    have hc1 := hb1.cell
    have hf1 := hb1.frozen
    gi_wp2
    have hr2 : Own ((W.setCell ⟨w.heap.size, 0, none⟩ (.slice A ys.length cap)).setCell ⟨N1, 0, none⟩ (.bool true)) w.heap.size 28 1 A ys.length cap (wcells ys) := by
      have n0 := ho.ne (g := w.heap.size) (t := 22) hb0 (by decide)
      have n1 := ho.ne (g := N1) (t := 4) hb1 (by decide)
      have h1 := ho.mod (Mod.cell (Mod.refl W (fun k => k = w.heap.size)) 0 (.slice A ys.length cap)) (fun a ha => n0 a ha)
      exact h1.mod (Mod.cell (Mod.refl _ (fun k => k = N1)) 0 (.bool true)) (fun a ha => n1 a ha)
    have hc2 : Boxed ((W.setCell ⟨w.heap.size, 0, none⟩ (.slice A ys.length cap)).setCell ⟨N1, 0, none⟩ (.bool true)) w.heap.size 22 (.slice A ys.length cap) := (Below.heap_setCell (W.setCell ⟨w.heap.size, 0, none⟩ (.slice A ys.length cap)) ⟨N1, 0, none⟩ _ w.heap.size (by show w.heap.size ≠ N1; omega)).trans (hb0.set _)
    have hb13 : Boxed (W.setCell ⟨w.heap.size, 0, none⟩ (.slice A ys.length cap)) N1 4 (.bool false) := (Below.heap_setCell W ⟨w.heap.size, 0, none⟩ _ N1 (by show N1 ≠ w.heap.size; omega)).trans hb1
    have hc3 := hb13.set (.bool true)
    have hK2 : ((W.setCell ⟨w.heap.size, 0, none⟩ (.slice A ys.length cap)).setCell ⟨N1, 0, none⟩ (.bool true)).heap[D]? = some (.deferred (some [])) := (Below.heap_setCell (W.setCell ⟨w.heap.size, 0, none⟩ (.slice A ys.length cap)) ⟨N1, 0, none⟩ _ D (by show D ≠ N1; omega)).trans ((Below.heap_setCell W ⟨w.heap.size, 0, none⟩ _ D (by show D ≠ w.heap.size; omega)).trans hK)
    have hB2 : Below w.heap.size w ((W.setCell ⟨w.heap.size, 0, none⟩ (.slice A ys.length cap)).setCell ⟨N1, 0, none⟩ (.bool true)) := (hB.setCell (p := ⟨w.heap.size, 0, none⟩) (Nat.le_refl _) _).setCell (p := ⟨N1, 0, none⟩) (by show w.heap.size ≤ N1; omega) _
    generalize (W.setCell ⟨w.heap.size, 0, none⟩ (.slice A ys.length cap)).setCell ⟨N1, 0, none⟩ (.bool true) = W2 at *
    refine ⟨by simp, .inl ⟨_, _, rfl, run_takeDeferred hK2, ?_⟩⟩
    refine ⟨_, results_cell2 rfl _ _ w.heap.size N1 _ _ rfl rfl (loadVar22 _ _ _ (hc2.kept (grownBy_putObj' W2 D _) (by simp; omega)).cell) (loadVar4 _ _ _ (hc3.kept (grownBy_putObj' W2 D _) (by simp; omega)).cell), _, rfl, ?_, ?_⟩
    · exact ownsRow_putObj hr2.row _ hK2 rfl
    · exact hB2.trans (belowK_b (w := w) (Nat.le_refl _) W2 D _ _ (by omega) hK2 rfl rfl)
  case stop =>
    rintro D c pre W _ _ h _
    exact h.elim
theorem plist_any (B : Nat) (b : DB) (m : Nat) (s : DS) (col : Nat → Nat) (hp al mp us fr rt hl ca sh pp a0 : Nat) (vs : List Nat) (S : HS) (w : World) (h : HeapX w B b m s col hp al mp us fr rt hl ca sh S) (hws : S.ws.length = 8)
    (hpb : Blk w pp 68 #[.pointer (some ⟨hp, 0, none⟩), .int .i64 0]) (ha0 : S.ws.getD 0 0 = a0) (hch : ChainIn s m S.A.used a0 vs) (hvs : vs.length ≤ 200) :
    Calls Tryz.prog 9 #[.pointer (some ⟨pp, 0, none⟩)] w fun e w' => ∃ A cap, e = .returned (.tuple #[.slice A vs.length cap, .bool true]) ∧ Own w' w.heap.size 28 1 A vs.length cap (wcells vs) ∧ Below w.heap.size w w' := by
  refine ((callsIn_wide (n := 4)).1 (plist_in B b m s col hp al mp us fr rt hl ca sh pp a0 vs S w h hws hpb ha0 hch hvs)).mono ?_
  rintro e w' ⟨v, rfl, hr, hb⟩
  obtain ⟨A, cap, rfl, ho⟩ := Own.of_row hr
  exact ⟨A, cap, rfl, ho, hb⟩
end Go.Proofs.YtcnjipicifkfjaaGreat
