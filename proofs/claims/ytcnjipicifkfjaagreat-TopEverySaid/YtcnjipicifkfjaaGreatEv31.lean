/- Plain law: the words of a heap with a pile of n. -/
import Derived.Test.YtcnjipicifkfjaaGreatEv30
import Derived.Test.YtcnjipicifkfjaaGreatEv23
import Derived.Test.YtcnjipicifkfjaaGreatEv18
import Derived.Test.YtcnjipicifkfjaaGreatEv14

namespace Go.Proofs.YtcnjipicifkfjaaGreat
open Go.RowKit
set_option linter.unusedVariables false
set_option linter.unusedSimpArgs false

/-- The words behind n pushes. -/
structure PW (C : List Nat) (K id n : Nat) (vs : List Nat) : Prop where
  len : C.length = 8 * (K * 64)
  sup : ∀ j, j < 8 → C.getD j 0 = (superL K id).getD j 0
  hdr : ∀ b, 1 ≤ b → b < K → C.getD (256 + b) 0 = if b = 1 ∧ 0 < n then hword 1 1 1 else hword b 0 0
  new : ∀ i, i < 16 → C.getD (64 + n % 2 * 64 + i) 0 = (slotEnc (n + 1) (rootsL n)).getD i 0
  old : ∀ i, i < 16 → C.getD (64 + (1 - n % 2) * 64 + i) 0 = if n = 0 then 0 else (slotEnc n (rootsL (n - 1))).getD i 0
  obj : ∀ t, 1 ≤ t → t ≤ n → C.getD (adr t) 0 = oword (adr t) 1 1 ∧ C.getD (adr t + 1) 0 = (if t = 1 then 0 else adr (t - 1)) ∧ C.getD (adr t + 2) 0 = vs.getD (t - 1) 0
def pushP (a prev v : Nat) : List (Nat × Nat) := [(a + 1, 0), (a + 2, 0), (a, oword a 1 1), (a + 1, prev), (a + 2, v)]
theorem pushP_out (a prev v j : Nat) (C : List Nat) (h : j < a ∨ a + 2 < j) : (cR C (pushP a prev v)).getD j 0 = C.getD j 0 :=
  cR_out _ _ _ (fun p hp e => by
    simp only [pushP, List.mem_cons, List.not_mem_nil, or_false] at hp
    rcases hp with rfl | rfl | rfl | rfl | rfl <;> simp only at e <;> omega)
theorem pushP_at (a prev v : Nat) (C : List Nat) (h : a + 2 < C.length) : (cR C (pushP a prev v)).getD a 0 = oword a 1 1 ∧ (cR C (pushP a prev v)).getD (a + 1) 0 = prev ∧ (cR C (pushP a prev v)).getD (a + 2) 0 = v := by
  have e : cR C (pushP a prev v) = ((((C.set (a + 1) 0).set (a + 2) 0).set a (oword a 1 1)).set (a + 1) prev).set (a + 2) v := rfl
  rw [e]
  refine ⟨?_, ?_, ?_⟩
  · rw [getD_set, if_neg (by omega), getD_set, if_neg (by omega), getD_set, if_pos ⟨rfl, by simp only [List.length_set]; omega⟩]
  · rw [getD_set, if_neg (by omega), getD_set, if_pos ⟨rfl, by simp only [List.length_set]; omega⟩]
  · rw [getD_set, if_pos ⟨rfl, by simp only [List.length_set]; omega⟩]
def roomP (n : Nat) : List (Nat × Nat) := if n = 0 then [(257, hword 1 1 1)] else []
/-- A push's words. -/
def pushC (C : List Nat) (n v : Nat) : List Nat :=
  cR (cR (cR C (roomP n)) (pushP (adr (n + 1)) (if n = 0 then 0 else adr n) v)) (slotP (64 + (1 - n % 2) * 64) (slotEnc (n + 2) (rootsL (n + 1))))
theorem roomP_at (n j : Nat) (C : List Nat) (h : 257 < C.length) : (cR C (roomP n)).getD j 0 = if n = 0 ∧ j = 257 then hword 1 1 1 else C.getD j 0 := by
  unfold roomP
  by_cases hn : n = 0
  · rw [if_pos hn]
    show (C.set 257 (hword 1 1 1)).getD j 0 = _
    rw [getD_set]
    by_cases e : j = 257
    · rw [if_pos ⟨e.symm, h⟩, if_pos ⟨hn, e⟩]
    · rw [if_neg (fun x => e x.1.symm), if_neg (fun x => e x.2)]
  · rw [if_neg hn, if_neg (fun x => hn x.1)]
    rfl
theorem adr_ge (t : Nat) : 509 ≤ adr t := by unfold adr; omega
theorem PW.step {C : List Nat} {K id n : Nat} {vs : List Nat} (h : PW C K id n vs) (v : Nat) (hv : vs.length = n) (hn : n < 100) (hK : 3 ≤ K) (hK4 : K ≤ 4) : PW (pushC C n v) K id (n + 1) (vs ++ [v]) := by
  have hl := h.len
  have hadr : ∀ t, adr t = 509 + 3 * t := fun _ => rfl
  have hout : ∀ j, (j < 64 ∨ 192 ≤ j) → (j < adr (n + 1) ∨ adr (n + 1) + 2 < j) → (pushC C n v).getD j 0 = if n = 0 ∧ j = 257 then hword 1 1 1 else C.getD j 0 := fun j h1 h2 => by
    unfold pushC
    rw [slotP_out _ j _ _ (by omega), pushP_out _ _ _ j _ h2, roomP_at n j C (by omega)]
  have hnew : ∀ i, i < 16 → (pushC C n v).getD (64 + (1 - n % 2) * 64 + i) 0 = (slotEnc (n + 2) (rootsL (n + 1))).getD i 0 := fun i hi => by
    unfold pushC
    exact slotP_at _ i _ _ hi (by rw [cR_len, cR_len, hl]; omega)
  have hold : ∀ i, i < 16 → (pushC C n v).getD (64 + n % 2 * 64 + i) 0 = C.getD (64 + n % 2 * 64 + i) 0 := fun i hi => by
    unfold pushC
    have := adr_ge (n + 1)
    rw [slotP_out _ _ _ _ (by omega), pushP_out _ _ _ _ _ (by omega), roomP_at n _ C (by omega), if_neg (by omega)]
  have hobj : (pushC C n v).getD (adr (n + 1)) 0 = oword (adr (n + 1)) 1 1 ∧ (pushC C n v).getD (adr (n + 1) + 1) 0 = (if n = 0 then 0 else adr n) ∧ (pushC C n v).getD (adr (n + 1) + 2) 0 = v := by
    have h2 := pushP_at (adr (n + 1)) (if n = 0 then 0 else adr n) v (cR C (roomP n)) (by rw [cR_len, hl, hadr]; omega)
    unfold pushC
    have := adr_ge (n + 1)
    rw [slotP_out _ _ _ _ (by omega), slotP_out _ _ _ _ (by omega), slotP_out _ _ _ _ (by omega)]
    exact h2
  refine ⟨by unfold pushC; rw [cR_len, cR_len, cR_len]; exact hl, fun j hj => ?_, fun b h1 h2 => ?_, fun i hi => ?_, fun i hi => ?_, fun t h1 h2 => ?_⟩
  · have := adr_ge (n + 1)
    rw [hout j (by omega) (by omega), if_neg (by omega)]; exact h.sup j hj
  · have := adr_ge (n + 1)
    rw [hout _ (by omega) (by rw [hadr]; omega), h.hdr b h1 h2]
    by_cases hb : b = 1
    · subst hb
      by_cases h0 : n = 0
      · rw [if_pos ⟨h0, rfl⟩, if_pos ⟨rfl, by omega⟩]
      · rw [if_neg (fun x => h0 x.1), if_pos ⟨rfl, by omega⟩, if_pos ⟨rfl, by omega⟩]
    · rw [if_neg (by omega), if_neg (fun x => hb x.1), if_neg (fun x => hb x.1)]
  · rw [show (n + 1) % 2 = 1 - n % 2 by omega]; exact hnew i hi
  · rw [show 1 - (n + 1) % 2 = n % 2 by omega, hold i hi, h.new i hi, if_neg (by omega)]
    rfl
  · by_cases e : t = n + 1
    · subst e
      obtain ⟨o1, o2, o3⟩ := hobj
      refine ⟨o1, ?_, ?_⟩
      · rw [o2]
        by_cases h0 : n = 0
        · rw [if_pos h0, if_pos (by omega)]
        · rw [if_neg h0, if_neg (by omega)]; rfl
      · rw [o3, show n + 1 - 1 = n by omega, List.getD_eq_getElem?_getD, List.getElem?_append_right (by omega), hv]
        simp
    · obtain ⟨o1, o2, o3⟩ := h.obj t h1 (by omega)
      have e1 := hadr t
      have e2 := hadr (n + 1)
      have q0 := hout (adr t) (by omega) (by omega)
      have q1 := hout (adr t + 1) (by omega) (by omega)
      have q2 := hout (adr t + 2) (by omega) (by omega)
      rw [if_neg (by omega)] at q0 q1 q2
      rw [q0, q1, q2]
      refine ⟨o1, o2, ?_⟩
      rw [o3, List.getD_eq_getElem?_getD, List.getD_eq_getElem?_getD, List.getElem?_append_left (by omega)]
theorem fmt_PW (K id : Nat) (h3 : 3 ≤ K) (h4 : K ≤ 4) : PW (fmt K id).C K id 0 [] := by
  obtain ⟨hr, hC, _⟩ := fmt_C K id h3 h4
  have ho := fmt_open K id 1 h3 h4 (by omega)
  have hz : ∀ b, (List.replicate K ((0 : Nat), (0 : Nat))).getD b (0, 0) = (0, 0) := fun b => by
    rw [List.getD_eq_getElem?_getD, List.getElem?_replicate]; split <;> rfl
  have hlen : (zerosN (8 * (K * 64))).length = 8 * (K * 64) := by simp [zerosN]
  refine ⟨hr.f.c, ho.h.sup, fun b h1 h2 => ?_, fun i hi => ?_, fun i hi => ?_, fun t h1 h2 => by omega⟩
  · have := ho.h.hdr.at_ b h1 h2
    rw [hz] at this
    rw [this, if_neg (by omega)]
  · rw [hC, superP_out K id _ (by omega), show 64 + 0 % 2 * 64 + i = 64 + i by omega, slotP_at 64 i _ _ hi (by rw [cR_len, hlen]; omega)]
    rfl
  · rw [hC, superP_out K id _ (by omega), slotP_out 64 _ _ _ (by omega), freesP_out _ _ (by omega), zeros_get, if_pos rfl]
end Go.Proofs.YtcnjipicifkfjaaGreat

/- Plain law: which slot is chosen. -/
namespace Go.Proofs.YtcnjipicifkfjaaGreat
open Go.RowKit
set_option linter.unusedVariables false
set_option linter.unusedSimpArgs false

theorem slotEnc_eq (ep r0 r1 r2 r3 r4 r5 r6 r7 : Nat) : slotEnc ep [r0, r1, r2, r3, r4, r5, r6, r7] =
    [ep, r0, r1, r2, r3, 0, 0, crcW [ep, r0, r1, r2, r3, 0, 0], ep, r4, r5, r6, r7, 1, 0, crcW [ep, r4, r5, r6, r7, 1, 0]] := by
  rfl
theorem sdec_full (ep r0 r1 r2 r3 r4 r5 r6 r7 : Nat) : sdecM (slotEnc ep [r0, r1, r2, r3, r4, r5, r6, r7]) = (0, ep, [r0, r1, r2, r3, r4, r5, r6, r7]) := by
  have e := slotEnc_eq ep r0 r1 r2 r3 r4 r5 r6 r7
  obtain ⟨c, hc⟩ : ∃ c, crcW [ep, r0, r1, r2, r3, 0, 0] = c := ⟨_, rfl⟩
  obtain ⟨d, hd⟩ : ∃ d, crcW [ep, r4, r5, r6, r7, 1, 0] = d := ⟨_, rfl⟩
  have e2 := e
  rw [hc, hd] at e2
  have s0 : sumOk (slotEnc ep [r0, r1, r2, r3, r4, r5, r6, r7]) 0 := by
    rw [e2]
    unfold sumOk
    have a : ((([ep, r0, r1, r2, r3, 0, 0, c, ep, r4, r5, r6, r7, 1, 0, d] : List Nat).drop (8 * 0)).take 7) = [ep, r0, r1, r2, r3, 0, 0] := rfl
    rw [a, hc]
    rfl
  have s1 : sumOk (slotEnc ep [r0, r1, r2, r3, r4, r5, r6, r7]) 1 := by
    rw [e2]
    unfold sumOk
    have a : ((([ep, r0, r1, r2, r3, 0, 0, c, ep, r4, r5, r6, r7, 1, 0, d] : List Nat).drop (8 * 1)).take 7) = [ep, r4, r5, r6, r7, 1, 0] := rfl
    rw [a, hd]
    rfl
  have hrs : rsOf (slotEnc ep [r0, r1, r2, r3, r4, r5, r6, r7]) = [r0, r1, r2, r3, r4, r5, r6, r7] := by rw [e2]; rfl
  have h0 : (slotEnc ep [r0, r1, r2, r3, r4, r5, r6, r7]).getD 0 0 = ep := by rw [e2]; rfl
  unfold sdecM
  rw [if_pos ⟨s0, s1⟩, h0, hrs, if_pos rfl]
theorem slotEnc_8 (ep : Nat) (rs : List Nat) (h : rs.length = 8) : (slotEnc ep rs).getD 8 0 = ep := by
  obtain ⟨r0, r1, r2, r3, r4, r5, r6, r7, rfl⟩ := eight rs h
  rw [slotEnc_eq]
  generalize crcW _ = c
  generalize crcW _ = d
  rfl
theorem sdec_ok (L : List Nat) (h : (sdecM L).1 = 0) : (sdecM L).2.1 = L.getD 0 0 ∧ L.getD 8 0 = L.getD 0 0 := by
  unfold sdecM at h ⊢
  by_cases hs : sumOk L 0 ∧ sumOk L 1
  · rw [if_pos hs] at h ⊢
    by_cases he : slotEnc (L.getD 0 0) (rsOf L) = L
    · rw [if_pos he]
      refine ⟨rfl, ?_⟩
      have := slotEnc_8 (L.getD 0 0) (rsOf L) (rsOf_len L)
      rw [he] at this
      exact this
    · rw [if_neg he] at h; cases h
  · rw [if_neg hs] at h; cases h
theorem choose_0 (e : Nat) (r : List Nat) (y : Nat × Nat × List Nat) (h : y.1 = 0 → y.2.1 < e) : chooseM (0, e, r) y = ((e, r), 0, true) := by
  unfold chooseM
  rw [if_pos ⟨rfl, by
    by_cases hy : y.1 = 0
    · exact .inr (Nat.le_of_lt (h hy))
    · exact .inl hy⟩]
theorem choose_1 (e : Nat) (r : List Nat) (y : Nat × Nat × List Nat) (h : y.1 = 0 → y.2.1 < e) : chooseM y (0, e, r) = ((e, r), 1, true) := by
  unfold chooseM
  rw [if_neg (by
    rintro ⟨h1, h2 | h2⟩
    · exact h2 rfl
    · have := h h1
      simp only at h2
      omega), if_pos rfl]
/-- The slot w holds the newest roots; the other one does not hold two words of that epoch or of a later one. -/
theorem choose_w (s : DS) (w e : Nat) (r : List Nat) (hw : w < 2) (h1 : sdecM (slotOf s w) = (0, e, r)) (h2 : (slotOf s (1 - w)).getD 0 0 < e ∨ (slotOf s (1 - w)).getD 0 0 ≠ (slotOf s (1 - w)).getD 8 0) :
    chooseM (sdecM (slotOf s 0)) (sdecM (slotOf s 1)) = ((e, r), w, true) := by
  have hy : (sdecM (slotOf s (1 - w))).1 = 0 → (sdecM (slotOf s (1 - w))).2.1 < e := fun h => by
    obtain ⟨a, c⟩ := sdec_ok _ h
    rcases h2 with h3 | h3
    · rw [a]; exact h3
    · exact absurd c.symm h3
  rcases (by omega : w = 0 ∨ w = 1) with rfl | rfl
  · rw [Nat.sub_zero] at hy
    rw [h1]
    generalize sdecM (slotOf s 1) = y at *
    exact choose_0 e r y hy
  · rw [Nat.sub_self] at hy
    rw [h1]
    generalize sdecM (slotOf s 0) = y at *
    exact choose_1 e r y hy
end Go.Proofs.YtcnjipicifkfjaaGreat

/- heap: Space, Device, need, down, share, Drop. -/
namespace Go.Proofs.YtcnjipicifkfjaaGreat
open Go.RowKit
set_option linter.unusedVariables false
set_option linter.unusedSimpArgs false

section
variable {w : World} {B m : Nat} {b : DB} {s : DS} {col : Nat → Nat} {hp al mp us fr rt hl ca sh : Nat} {S : HS}
theorem HeapX.c0 (h : HeapX w B b m s col hp al mp us fr rt hl ca sh S) : w.cell? ⟨hp, 0, none⟩ = some (.pointer (some ⟨b.d, 0, none⟩)) := h.blk.cell 0
theorem HeapX.c1 (h : HeapX w B b m s col hp al mp us fr rt hl ca sh S) : w.cell? ⟨hp, 1, none⟩ = some (.pointer (some ⟨al, 0, none⟩)) := h.blk.cell 1
theorem HeapX.c2 (h : HeapX w B b m s col hp al mp us fr rt hl ca sh S) : w.cell? ⟨hp, 2, none⟩ = some (.pointer (some ⟨rt, 0, none⟩)) := h.blk.cell 2
theorem HeapX.c35 (h : HeapX w B b m s col hp al mp us fr rt hl ca sh S) : w.cell? ⟨hp, 35, none⟩ = some (.pointer (some ⟨hl, 0, none⟩)) := (h.blk.cell 35).trans (heapC_tail h.rg 0)
theorem HeapX.c36 (h : HeapX w B b m s col hp al mp us fr rt hl ca sh S) : w.cell? ⟨hp, 36, none⟩ = some (.pointer (some ⟨ca, 0, none⟩)) := (h.blk.cell 36).trans (heapC_tail h.rg 1)
theorem HeapX.c37 (h : HeapX w B b m s col hp al mp us fr rt hl ca sh S) : w.cell? ⟨hp, 37, none⟩ = some (.pointer (some ⟨sh, 0, none⟩)) := (h.blk.cell 37).trans (heapC_tail h.rg 2)
theorem HeapX.c38 (h : HeapX w B b m s col hp al mp us fr rt hl ca sh S) : w.cell? ⟨hp, 38, none⟩ = some (.bool false) := (h.blk.cell 38).trans (heapC_tail h.rg 3)
end
theorem hspace_any (B : Nat) (b : DB) (m : Nat) (s : DS) (col : Nat → Nat) (hp al mp us fr rt hl ca sh : Nat) (S : HS) (w : World) (h : HeapX w B b m s col hp al mp us fr rt hl ca sh S) :
    Calls Tryz.prog 16 #[.pointer (some ⟨hp, 0, none⟩)] w fun e w' => e = .returned (.pointer (some ⟨al, 0, none⟩)) ∧ w = w' := by
  have c1 := h.c1
  clear h
  go_enter Tryz.func16, Tryz.ntmps16
  go_wp2_with fail
  go_ret
  exact ⟨rfl, rfl⟩
theorem hdev_any (hp d : Nat) (w : World) (h : w.cell? ⟨hp, 0, none⟩ = some (.pointer (some ⟨d, 0, none⟩))) :
    Calls Tryz.prog 10 #[.pointer (some ⟨hp, 0, none⟩)] w fun e w' => e = .returned (.pointer (some ⟨d, 0, none⟩)) ∧ w = w' := by
  go_enter Tryz.func10, Tryz.ntmps10
  go_wp2_with fail
  go_ret
  exact ⟨rfl, rfl⟩
theorem heapC_reg2 {d al rt hl ca sh : Nat} {rg : List Nat} {dead : Bool} (h : rg.length = 32) (m r : Nat) (hm : m < 4) (hr : r < 8) : (heapC d al rt rg hl ca sh dead)[3 + m * 8 + r]? = some (.int .i64 (rg.getD (m * 8 + r) 0 : Nat)) := by
  rw [Nat.add_assoc]; exact heapC_reg h _ (by omega)
set_option maxHeartbeats 1000000 in
theorem hneed_any (B : Nat) (b : DB) (m : Nat) (s : DS) (col : Nat → Nat) (hp al mp us fr rt hl ca sh mu r v : Nat) (S : HS) (w : World) (h : HeapX w B b m s col hp al mp us fr rt hl ca sh S) (hmu : mu < 4) (hr : r < 8) (hv : S.rg.getD (mu * 8 + r) 0 = v) (hv0 : 0 < v) :
    Calls Tryz.prog 74 #[.pointer (some ⟨hp, 0, none⟩), .agg #[.int .i64 mu, .int .i64 r]] w fun e w' => e = .returned (.tuple #[.int .i64 v, .int .i64 0]) ∧ Below w.heap.size w w' := by
  obtain ⟨n1, Hn1⟩ : ∃ n, Hid (w.heap.size = n) := ⟨_, rfl⟩
  have L1 := Lib.hid ((Loc.nil Nob w).box 59 #[.int .i64 mu, .int .i64 r] n1 Hn1.out)
  have Hnd : Hid (∀ wr, Below w.heap.size w wr → Calls Tryz.prog 121 #[.pointer (some ⟨hp, 3, none⟩), .agg #[.int .i64 mu, .int .i64 r]] wr fun e w' => e = .returned (.tuple #[.int .i64 v, .int .i64 0]) ∧ Below wr.heap.size wr w') :=
    fun wr hb => nneed_any hp mu r v 87 _ wr (h.blk.below hb h.blk.lt) hmu hr (by rw [heapC_reg2 h.rg mu r hmu hr, hv]) hv0
  have c38 : (w.alloc (.cells #[.int .i64 mu, .int .i64 r] 59)).cell? ⟨hp, 38, none⟩ = some (.bool false) := by
    have := h.blk.below L1.out.below h.blk.lt
    exact (this.cell 38).trans (heapC_tail h.rg 3)
  clear h hv hv0
  go_enter Tryz.func74, Tryz.ntmps74
  go_wp2_with fail
  rw [Hn1.out]
  generalize w.alloc _ = w1 at *
  have L2 := Lib.hid L1.out.drew
  have x0 : w1.cell? ⟨n1, 0, none⟩ = some (.int .i64 mu) := L1.out.b0.cell 0
  have x1 : w1.cell? ⟨n1, 1, none⟩ = some (.int .i64 r) := L1.out.b0.cell 1
  clear L1 c38
  go_region_held3 (fun W => W.cell? ⟨n1, 0, none⟩ = some (.int .i64 mu) ∧ W.cell? ⟨n1, 1, none⟩ = some (.int .i64 r))
    (first | exact ⟨x0, x1⟩ | exact ⟨L2.out.b0.cell 0, L2.out.b0.cell 1⟩)
    ((go_at_call 121; refine (Hnd.out _ L2.out.below).mono ?_; rintro e w2 ⟨rfl, hb2⟩; replace L2 := Lib.hid (L2.out.call hb2 (Nat.le_refl _)); clear hb2))
  go_wp2_with fail
  go_ret2
  exact ⟨rfl, L2.out.below⟩
theorem hdown_ok (hp : Nat) (w : World) : Calls Tryz.prog 56 #[.pointer (some ⟨hp, 0, none⟩), .int .i64 0] w fun e w' => e = .returned (.int .i64 0) ∧ w = w' := by
  go_enter Tryz.func56, Tryz.ntmps56
  go_wp2_with fail
  go_ret
  exact ⟨rfl, rfl⟩
theorem hdown_dead (hp d al rt hl ca sh : Nat) (rg : List Nat) (w : World) (h : Blk w hp 87 (heapC d al rt rg hl ca sh false)) (hr : rg.length = 32) :
    Calls Tryz.prog 56 #[.pointer (some ⟨hp, 0, none⟩), .int .i64 3] w fun e w' => e = .returned (.int .i64 3) ∧ Blk w' hp 87 (heapC d al rt rg hl ca sh true) ∧ Mod w w' (fun k => k = hp) := by
  have c38 : w.cell? ⟨hp, 38, none⟩ = some (.bool false) := (h.cell 38).trans (heapC_tail hr 3)
  have f38 := h.frozen 38
  have HB : Hid (Blk (w.setCell ⟨hp, 38, none⟩ (.bool true)) hp 87 (heapC d al rt rg hl ca sh true)) := by
    rw [← heapC_dead hr]
    exact h.set_ 38 _
  have HM : Hid (Mod w (w.setCell ⟨hp, 38, none⟩ (.bool true)) (fun k => k = hp)) := Mod.set (p := ⟨hp, 38, none⟩) (Mod.refl w (fun k => k = hp)) (.inr rfl) _
  clear h
  go_enter Tryz.func56, Tryz.ntmps56
  go_wp2_with fail
  go_ret
  exact ⟨rfl, HB.out, HM.out⟩
/-- down, behind steps of the device. -/
theorem hdown_any (B : Nat) (b : DB) (m : Nat) (E : DS × Bool) (col : Nat → Nat) (hp al mp us fr rt hl ca sh : Nat) (S : HS) (w : World) (h : HeapX w B b m E.1 col hp al mp us fr rt hl ca sh S) :
    Calls Tryz.prog 56 #[.pointer (some ⟨hp, 0, none⟩), .int .i64 (ecode E.2)] w fun e w' => e = .returned (.int .i64 (ecode E.2)) ∧ ((E.2 = true ∧ w' = w) ∨ (E.2 = false ∧ HeapD w' B b m E.1 hp)) ∧ Mod w w' (fun k => k = hp) := by
  cases hE : E.2 with
  | true =>
    refine (hdown_ok hp w).mono ?_
    rintro e w' ⟨rfl, rfl⟩
    exact ⟨rfl, .inl ⟨rfl, rfl⟩, Mod.refl _ _⟩
  | false =>
    refine (hdown_dead hp b.d al rt hl ca sh S.rg w h.blk h.rg).mono ?_
    rintro e w' ⟨rfl, hb, hM⟩
    have hne : ¬ b.has hp := fun hk => by have := h.hdv hp hk; have := h.chp; omega
    exact ⟨rfl, .inr ⟨rfl, al, rt, S.rg, hl, ca, sh, h.rg, hb, h.dev.mod hM (fun k hk e => hne (e ▸ hk)), hne⟩, hM⟩
set_option maxHeartbeats 1000000 in
theorem hshare_any (B : Nat) (b : DB) (m : Nat) (s : DS) (col : Nat → Nat) (hp al mp us fr rt hl ca sh a : Nat) (S : HS) (w : World) (h : HeapX w B b m s col hp al mp us fr rt hl ca sh S) (hp0 : S.C.phase = 0) (ha : a ≤ 1000000000000000) :
    Calls Tryz.prog 77 #[.pointer (some ⟨hp, 0, none⟩), .int .i64 a] w fun e w' => (∃ v, e = .returned v) ∧ (∃ st, HeapX w' B b m s col hp al mp us fr rt hl ca sh { S with shared := st }) ∧ Mod w w' (fun k => col k = 6) := by
  by_cases ha0 : a = 0
  · subst ha0
    have H := Lib.hid h
    clear h
    go_enter Tryz.func77, Tryz.ntmps77
    go_wp2_with fail
    first
      | go_end0
      | skip
    exact ⟨⟨_, rfl⟩, ⟨S.shared, H.out⟩, Mod.refl _ _⟩
  · have g1 : ((a : Int) != 0) = true := by simpa using ha0
    have g2 : (a != 0) = true := by simpa using ha0
    have c37 := h.c37
    have Had := Lib.hid (badd_any (fun k => col k = 6) sh (8 * S.A.K) a S.shared w h.s (by have := h.k4; omega) ha)
    have H := Lib.hid h
    clear h ha0
    go_enter Tryz.func77, Tryz.ntmps77
    go_wp2_with fail
    refine Had.out.mono ?_
    rintro e w1 ⟨rfl, hS, hM⟩
    have H1 := Lib.hid (H.out.sharedS hM hS)
    have HM := Lib.hid hM
    have c36 := H1.out.c36
    have Hst := Lib.hid (cstored_idle col ca al S.A.K a (liveF hp) S.C w1 H1.out.c hp0)
    clear hS hM Had H c37
    go_wp2_with fail
    refine Hst.out.mono ?_
    rintro e _ ⟨⟨v, rfl⟩, rfl⟩
    go_wp2_with fail
    first
      | go_end0
      | skip
    exact ⟨⟨_, rfl⟩, ⟨_, H1.out⟩, HM.out⟩
set_option maxHeartbeats 1000000 in
theorem hdrop_any (B : Nat) (b : DB) (m : Nat) (s : DS) (col : Nat → Nat) (hp al mp us fr rt hl ca sh mu r : Nat) (S : HS) (w : World) (h : HeapX w B b m s col hp al mp us fr rt hl ca sh S) (hn : ∀ k, w.heap.size ≤ k → col k = 9) (hmu : mu < 4) (hr : r < 8) :
    Calls Tryz.prog 72 #[.pointer (some ⟨hp, 0, none⟩), .agg #[.int .i64 mu, .int .i64 r]] w fun e w' => e = .returned (.int .i64 0) ∧ HeapX w' B b m s col hp al mp us fr rt hl ca sh { S with rg := S.rg.set (mu * 8 + r) 0 } ∧ Mod w w' (fun k => k = hp) := by
  obtain ⟨n1, Hn1⟩ : ∃ n, Hid (w.heap.size = n) := ⟨_, rfl⟩
  have L1 := Lib.hid ((Loc.nil Nob w).box 59 #[.int .i64 mu, .int .i64 r] n1 Hn1.out)
  have Hset : Hid (∀ wr, Below w.heap.size w wr → Calls Tryz.prog 63 #[.pointer (some ⟨hp, 3, none⟩), .agg #[.int .i64 mu, .int .i64 r], .int .i64 0] wr fun e w' => e = .returned (.int .i64 0) ∧ HeapX w' B b m s col hp al mp us fr rt hl ca sh { S with rg := S.rg.set (mu * 8 + r) 0 } ∧ Mod w w' (fun k => k = hp) ∧ Mod wr w' (fun k => k = hp)) := by
    intro wr hb
    have hX := h.below hb
    refine (nset_any hp mu r 0 87 _ wr hX.blk hmu hr (by rw [heapC_size hX.rg]; omega) (by omega)).mono ?_
    rintro e w' ⟨rfl, hb', hM⟩
    refine ⟨rfl, hX.regS hM (by rw [List.length_set]; exact hX.rg) ?_, Mod.trans (mod_b hb : Mod w wr (fun k => k = hp)) hM (fun k _ h => h), hM⟩
    rw [Nat.add_assoc] at hb'
    exact hb'.conv (heapC_set hX.rg _ 0 (by omega))
  have c38 : (w.alloc (.cells #[.int .i64 mu, .int .i64 r] 59)).cell? ⟨hp, 38, none⟩ = some (.bool false) := (h.below L1.out.below).c38
  have Hne : Hid (n1 ≠ hp) := fun e => by have := h.blk.lt; have := Hn1.out; omega
  clear h
  go_enter Tryz.func72, Tryz.ntmps72
  go_wp2_with fail
  rw [Hn1.out]
  generalize w.alloc _ = w1 at *
  have L2 := Lib.hid L1.out.drew
  have x0 : w1.cell? ⟨n1, 0, none⟩ = some (.int .i64 mu) := L1.out.b0.cell 0
  have x1 : w1.cell? ⟨n1, 1, none⟩ = some (.int .i64 r) := L1.out.b0.cell 1
  clear L1 c38
  go_region_held3 (fun W => W.cell? ⟨n1, 0, none⟩ = some (.int .i64 mu) ∧ W.cell? ⟨n1, 1, none⟩ = some (.int .i64 r))
    (first | exact ⟨x0, x1⟩ | exact ⟨HB3.out.cell 0, HB3.out.cell 1⟩)
    ((go_at_call 63; refine (Hset.out _ L2.out.below).mono ?_; rintro e w2 ⟨rfl, hX2, hM2, hM3⟩; have HX2 := Lib.hid hX2; have HM2 := Lib.hid hM2; have HB3 := Lib.hid (hM3.blk L2.out.b0 Hne.out); clear hX2 hM2 hM3))
  go_wp2_with fail
  go_ret
  exact ⟨rfl, HX2.out, HM2.out⟩
end Go.Proofs.YtcnjipicifkfjaaGreat

/- heap: Root, SetRoot, SetData, Persist. -/
namespace Go.Proofs.YtcnjipicifkfjaaGreat
open Go.RowKit
set_option linter.unusedVariables false
set_option linter.unusedSimpArgs false

def HOutX (w : World) (B : Nat) (b : DB) (m : Nat) (E : DS × Bool) (col : Nat → Nat) (hp al mp us fr rt hl ca sh : Nat) (S : HS) : Prop :=
  (E.2 = true ∧ HeapX w B b m E.1 col hp al mp us fr rt hl ca sh S) ∨ (E.2 = false ∧ HeapD w B b m E.1 hp)
theorem HeapX.setR {w : World} {B m : Nat} {b : DB} {s : DS} {col : Nat → Nat} {hp al mp us fr rt hl ca sh : Nat} {S : HS} (h : HeapX w B b m s col hp al mp us fr rt hl ca sh S) (mu r v : Nat) (hmu : mu < 4) (hr : r < 8) (hv : v < 1000000000) :
    Calls Tryz.prog 63 #[.pointer (some ⟨hp, 3, none⟩), .agg #[.int .i64 mu, .int .i64 r], .int .i64 v] w fun e w' => e = .returned (.int .i64 0) ∧ HeapX w' B b m s col hp al mp us fr rt hl ca sh { S with rg := S.rg.set (mu * 8 + r) v } ∧ Mod w w' (fun k => k = hp) := by
  refine (nset_any hp mu r v 87 _ w h.blk hmu hr (by rw [heapC_size h.rg]; omega) (by omega)).mono ?_
  rintro e w' ⟨rfl, hb', hM⟩
  refine ⟨rfl, h.regS hM (by rw [List.length_set]; exact h.rg) ?_, hM⟩
  rw [Nat.add_assoc] at hb'
  exact hb'.conv (heapC_set h.rg _ v (by omega))
set_option maxHeartbeats 1000000 in
theorem hroot_any (B : Nat) (b : DB) (m : Nat) (s : DS) (col : Nat → Nat) (hp al mp us fr rt hl ca sh mu r nm v : Nat) (S : HS) (w : World) (h : HeapX w B b m s col hp al mp us fr rt hl ca sh S) (hmu : mu < 4) (hr : r < 8) (hnm : nm < 8) (hv : S.ws.getD nm 0 = v) (hv2 : v < 1000000000) :
    Calls Tryz.prog 27 #[.pointer (some ⟨hp, 0, none⟩), .agg #[.int .i64 mu, .int .i64 r], .int .i64 nm] w fun e w' => e = .returned (.int .i64 0) ∧ HeapX w' B b m s col hp al mp us fr rt hl ca sh { S with rg := S.rg.set (mu * 8 + r) v } ∧ Mod w w' (fun k => k = hp) := by
  obtain ⟨n1, Hn1⟩ : ∃ n, Hid (w.heap.size = n) := ⟨_, rfl⟩
  have L1 := Lib.hid ((Loc.nil Nob w).box 59 #[.int .i64 mu, .int .i64 r] n1 Hn1.out)
  have HXb : Hid (∀ wr, Below w.heap.size w wr → HeapX wr B b m s col hp al mp us fr rt hl ca sh S) := fun wr hb => h.below hb
  have Hge : Hid (∀ wr, Below w.heap.size w wr → Calls Tryz.prog 73 #[.pointer (some ⟨rt, 0, none⟩), .int .i64 nm] wr fun e w' => e = .returned (.tuple #[.int .i64 v, .int .i64 0]) ∧ wr = w') := fun wr hb => by
    have := rget_any _ rt b.d S.ep S.wh nm S.rs S.ws wr (h.below hb).r hnm
    rwa [hv] at this
  have Hset : Hid (∀ wr, Below w.heap.size w wr → Calls Tryz.prog 63 #[.pointer (some ⟨hp, 3, none⟩), .agg #[.int .i64 mu, .int .i64 r], .int .i64 v] wr fun e w' => e = .returned (.int .i64 0) ∧ HeapX w' B b m s col hp al mp us fr rt hl ca sh { S with rg := S.rg.set (mu * 8 + r) v } ∧ Mod w w' (fun k => k = hp) ∧ Mod wr w' (fun k => k = hp)) := by
    intro wr hb
    refine ((h.below hb).setR mu r v hmu hr hv2).mono ?_
    rintro e w' ⟨rfl, hX, hM⟩
    exact ⟨rfl, hX, Mod.trans (mod_b hb : Mod w wr (fun k => k = hp)) hM (fun k _ h => h), hM⟩
  have Hne : Hid (n1 ≠ hp) := fun e => by have := h.blk.lt; have := Hn1.out; omega
  have c2 := (HXb.out _ L1.out.below).c2
  have c38 := (HXb.out _ L1.out.below).c38
  clear h hv
  go_enter Tryz.func27, Tryz.ntmps27
  go_wp2_with fail
  rw [Hn1.out]
  generalize w.alloc _ = w1 at *
  refine (Hge.out _ L1.out.below).mono ?_
  rintro e _ ⟨rfl, rfl⟩
  have L2 := Lib.hid L1.out.drew
  have x0 : w1.cell? ⟨n1, 0, none⟩ = some (.int .i64 mu) := L1.out.b0.cell 0
  have x1 : w1.cell? ⟨n1, 1, none⟩ = some (.int .i64 r) := L1.out.b0.cell 1
  clear L1 Hge
  go_wp2_with fail
  clear c2 c38
  go_region_held3 (fun W => W.cell? ⟨n1, 0, none⟩ = some (.int .i64 mu) ∧ W.cell? ⟨n1, 1, none⟩ = some (.int .i64 r))
    (first | exact ⟨x0, x1⟩ | exact ⟨HB3.out.cell 0, HB3.out.cell 1⟩)
    ((go_at_call 63; refine (Hset.out _ L2.out.below).mono ?_; rintro e w2 ⟨rfl, hX2, hM2, hM3⟩; have HX2 := Lib.hid hX2; have HM2 := Lib.hid hM2; have HB3 := Lib.hid (hM3.blk L2.out.b0 Hne.out); clear hX2 hM2 hM3))
  go_wp2_with fail
  go_ret
  exact ⟨rfl, HX2.out, HM2.out⟩
set_option maxHeartbeats 1000000 in
theorem hsetroot_any (B : Nat) (b : DB) (m : Nat) (s : DS) (col : Nat → Nat) (hp al mp us fr rt hl ca sh mu r nm v : Nat) (S : HS) (w : World) (h : HeapX w B b m s col hp al mp us fr rt hl ca sh S) (hn : ∀ k, w.heap.size ≤ k → col k = 9) (hmu : mu < 4) (hr : r < 8) (hnm : nm < 8) (hv : S.rg.getD (mu * 8 + r) 0 = v) (hv2 : v < 131072) (hp0 : S.C.phase = 0) :
    Calls Tryz.prog 33 #[.pointer (some ⟨hp, 0, none⟩), .int .i64 nm, .agg #[.int .i64 mu, .int .i64 r]] w fun e w' => e = .returned (.int .i64 0) ∧ (∃ st, HeapX w' B b m s col hp al mp us fr rt hl ca sh { S with ws := S.ws.set nm v, shared := st }) ∧ Mod w w' (fun k => hcol (col k)) := by
  obtain ⟨n1, Hn1⟩ : ∃ n, Hid (w.heap.size = n) := ⟨_, rfl⟩
  have L1 := Lib.hid ((Loc.nil Nob w).box 59 #[.int .i64 mu, .int .i64 r] n1 Hn1.out)
  have HXb : Hid (∀ wr, Below w.heap.size w wr → HeapX wr B b m s col hp al mp us fr rt hl ca sh S) := fun wr hb => h.below hb
  have Hge : Hid (∀ wr, Below w.heap.size w wr → Calls Tryz.prog 75 #[.pointer (some ⟨hp, 3, none⟩), .agg #[.int .i64 mu, .int .i64 r]] wr fun e w' => e = .returned (.tuple #[.int .i64 v, .int .i64 0]) ∧ Below wr.heap.size wr w') := fun wr hb =>
    nget_any hp mu r v 87 _ wr (h.below hb).blk hmu hr (by rw [heapC_reg2 h.rg mu r hmu hr, hv])
  have Hse : Hid (∀ wr, Below w.heap.size w wr → Calls Tryz.prog 83 #[.pointer (some ⟨rt, 0, none⟩), .int .i64 nm, .int .i64 v] wr fun e w' => e = .returned (.int .i64 0) ∧ HeapX w' B b m s col hp al mp us fr rt hl ca sh { S with ws := S.ws.set nm v } ∧ Mod wr w' (fun k => k = rt)) := fun wr hb => by
    refine (rset_any _ rt b.d S.ep S.wh nm v S.rs S.ws wr (h.below hb).r hnm hv2).mono ?_
    rintro e w' ⟨rfl, hr, hM⟩
    exact ⟨rfl, (h.below hb).rootS hM hr, hM⟩
  have Hsh : Hid (∀ wr, HeapX wr B b m s col hp al mp us fr rt hl ca sh { S with ws := S.ws.set nm v } → Calls Tryz.prog 77 #[.pointer (some ⟨hp, 0, none⟩), .int .i64 v] wr fun e w' => (∃ x, e = .returned x) ∧ (∃ st, HeapX w' B b m s col hp al mp us fr rt hl ca sh { S with ws := S.ws.set nm v, shared := st }) ∧ Mod wr w' (fun k => col k = 6)) := fun wr hX =>
    hshare_any B b m s col hp al mp us fr rt hl ca sh v _ wr hX hp0 (by omega)
  have Hrt : Hid (col rt = 4) := h.r.2.2.2
  clear h hv
  go_enter Tryz.func33, Tryz.ntmps33
  go_wp2_with fail
  rw [Hn1.out]
  generalize w.alloc _ = w1 at *
  have L2 := Lib.hid L1.out.drew
  have x0 : w1.cell? ⟨n1, 0, none⟩ = some (.int .i64 mu) := L1.out.b0.cell 0
  have x1 : w1.cell? ⟨n1, 1, none⟩ = some (.int .i64 r) := L1.out.b0.cell 1
  clear L1
  go_region_held3 (fun W => W.cell? ⟨n1, 0, none⟩ = some (.int .i64 mu) ∧ W.cell? ⟨n1, 1, none⟩ = some (.int .i64 r))
    (first | exact ⟨x0, x1⟩ | exact ⟨L2.out.b0.cell 0, L2.out.b0.cell 1⟩)
    ((go_at_call 75; refine (Hge.out _ L2.out.below).mono ?_; rintro e w2 ⟨rfl, hb2⟩; replace L2 := Lib.hid (L2.out.call hb2 (Nat.le_refl _)); clear hb2))
  have c38 := (HXb.out _ L2.out.below).c38
  have c2 := (HXb.out _ L2.out.below).c2
  clear x0 x1
  go_wp2_with fail
  refine (Hse.out _ L2.out.below).mono ?_
  rintro e w3 ⟨rfl, hX3, hM3⟩
  have HX3 := Lib.hid hX3
  have HM3 : Hid (Mod w w3 (fun k => hcol (col k))) := Mod.trans (mod_b L2.out.below : Mod w w2 (fun k => hcol (col k))) hM3 (fun k _ e => by rw [e, Hrt.out]; exact .inl (by omega))
  clear hX3 hM3 c38 c2 L2
  go_wp2_with fail
  refine (Hsh.out _ HX3.out).mono ?_
  rintro e w4 ⟨⟨v4, rfl⟩, ⟨st, hX4⟩, hM4⟩
  have HX4 := Lib.hid hX4
  have HM4 : Hid (Mod w w4 (fun k => hcol (col k))) := HM3.out.trans hM4 (fun k _ e => by rw [e]; exact .inl (by omega))
  clear hX4 hM4
  go_wp2_with fail
  go_ret
  exact ⟨rfl, ⟨st, HX4.out⟩, HM4.out⟩
set_option maxHeartbeats 1000000 in
theorem hsetdata_any (B : Nat) (b : DB) (m : Nat) (s : DS) (col : Nat → Nat) (hp al mp us fr rt hl ca sh mu r a v : Nat) (S : HS) (w : World) (h : HeapX w B b m s col hp al mp us fr rt hl ca sh S) (hmu : mu < 4) (hr : r < 8) (ha : S.rg.getD (mu * 8 + r) 0 = a) (ha0 : 0 < a) (ho : ObjAt s m a 1 1) :
    Calls Tryz.prog 31 #[.pointer (some ⟨hp, 0, none⟩), .agg #[.int .i64 mu, .int .i64 r], .int .i64 0, .int .u64 v] w fun e w' => e = .returned (.int .i64 (ecode (exec s [.st (a + 2) v]).2)) ∧ HOutX w' B b m (exec s [.st (a + 2) v]) col hp al mp us fr rt hl ca sh S ∧ Mod w w' (fun k => hcol (col k)) := by
  obtain ⟨n1, Hn1⟩ : ∃ n, Hid (w.heap.size = n) := ⟨_, rfl⟩
  have L1 := Lib.hid ((Loc.nil Nob w).box 59 #[.int .i64 mu, .int .i64 r] n1 Hn1.out)
  have HXb : Hid (∀ wr, Below w.heap.size w wr → HeapX wr B b m s col hp al mp us fr rt hl ca sh S) := fun wr hb => h.below hb
  have Hnd : Hid (∀ wr, Below w.heap.size w wr → _) := fun wr hb => hneed_any B b m s col hp al mp us fr rt hl ca sh mu r a S wr (h.below hb) hmu hr ha ha0
  have hmm : m ≤ 10000 := by have := h.hm; have := h.k4; omega
  have Hsd : Hid (∀ wr, Below w.heap.size w wr → _) := fun wr hb => setdata_any B b m s a v wr (h.below hb).dev ho hmm
  obtain ⟨E, HE⟩ : ∃ E, Hid (exec s [.st (a + 2) v] = E) := ⟨_, rfl⟩
  rw [HE.out] at Hsd ⊢
  have Hdn : Hid (∀ wr, HeapX wr B b m E.1 col hp al mp us fr rt hl ca sh S → _) := fun wr hX => hdown_any B b m E col hp al mp us fr rt hl ca sh S wr hX
  have Hc : Hid (col hp = 7 ∧ ∀ k, b.has k → col k = 0) := ⟨h.chp, h.hdv⟩
  clear h ha ho
  go_enter Tryz.func31, Tryz.ntmps31
  go_wp2_with fail
  rw [Hn1.out]
  generalize w.alloc _ = w1 at *
  refine (Hnd.out _ L1.out.below).mono ?_
  rintro e w2 ⟨rfl, hb2⟩
  have L2 := Lib.hid (L1.out.call hb2 (Nat.le_refl _))
  have HX2 := Lib.hid (HXb.out _ L2.out.below)
  have c0 := HX2.out.c0
  clear hb2 L1
  go_wp2_with fail
  refine (Hsd.out _ L2.out.below).mono ?_
  rintro e w3 ⟨rfl, hd3, hM3⟩
  have HX3 := Lib.hid (HX2.out.devS hM3 hd3)
  have HM3 : Hid (Mod w w3 (fun k => hcol (col k))) := Mod.trans (mod_b L2.out.below : Mod w w2 (fun k => hcol (col k))) hM3 (fun k _ e => by rw [Hc.out.2 k e]; exact .inl (by omega))
  clear hd3 hM3 HX2 c0 L2
  go_wp2_with fail
  refine (Hdn.out _ HX3.out).mono ?_
  rintro e w4 ⟨rfl, ho4, hM4⟩
  have HO4 : Hid (HOutX w4 B b m E col hp al mp us fr rt hl ca sh S) := by
    rcases ho4 with ⟨h1, rfl⟩ | ⟨h1, h2⟩
    · exact .inl ⟨h1, HX3.out⟩
    · exact .inr ⟨h1, h2⟩
  have HM4 : Hid (Mod w w4 (fun k => hcol (col k))) := HM3.out.trans hM4 (fun k _ e => by rw [e, Hc.out.1]; exact .inl (by omega))
  clear ho4 hM4
  go_wp2_with fail
  go_ret
  exact ⟨rfl, HO4.out, HM4.out⟩
set_option maxHeartbeats 1000000 in
theorem hpersist_any (B : Nat) (b : DB) (m : Nat) (s : DS) (col : Nat → Nat) (hp al mp us fr rt hl ca sh mu r a p d : Nat) (S : HS) (w : World) (h : HeapX w B b m s col hp al mp us fr rt hl ca sh S) (hmu : mu < 4) (hr : r < 8) (ha : S.rg.getD (mu * 8 + r) 0 = a) (ha0 : 0 < a) (ho : ObjAt s m a p d) :
    Calls Tryz.prog 32 #[.pointer (some ⟨hp, 0, none⟩), .agg #[.int .i64 mu, .int .i64 r]] w fun e w' => e = .returned (.int .i64 (ecode (exec s (persistS a (1 + p + d))).2)) ∧ HOutX w' B b m (exec s (persistS a (1 + p + d))) col hp al mp us fr rt hl ca sh S ∧ Mod w w' (fun k => hcol (col k)) := by
  obtain ⟨n1, Hn1⟩ : ∃ n, Hid (w.heap.size = n) := ⟨_, rfl⟩
  have L1 := Lib.hid ((Loc.nil Nob w).box 59 #[.int .i64 mu, .int .i64 r] n1 Hn1.out)
  have HXb : Hid (∀ wr, Below w.heap.size w wr → HeapX wr B b m s col hp al mp us fr rt hl ca sh S) := fun wr hb => h.below hb
  have Hnd : Hid (∀ wr, Below w.heap.size w wr → _) := fun wr hb => hneed_any B b m s col hp al mp us fr rt hl ca sh mu r a S wr (h.below hb) hmu hr ha ha0
  have hmm : m ≤ 10000 := by have := h.hm; have := h.k4; omega
  have Hsd : Hid (∀ wr, Below w.heap.size w wr → _) := fun wr hb => opersist_any B b m s a p d wr (h.below hb).dev ho hmm
  obtain ⟨E, HE⟩ : ∃ E, Hid (exec s (persistS a (1 + p + d)) = E) := ⟨_, rfl⟩
  rw [HE.out] at Hsd ⊢
  have Hdn : Hid (∀ wr, HeapX wr B b m E.1 col hp al mp us fr rt hl ca sh S → _) := fun wr hX => hdown_any B b m E col hp al mp us fr rt hl ca sh S wr hX
  have Hc : Hid (col hp = 7 ∧ ∀ k, b.has k → col k = 0) := ⟨h.chp, h.hdv⟩
  clear h ha ho
  go_enter Tryz.func32, Tryz.ntmps32
  go_wp2_with fail
  rw [Hn1.out]
  generalize w.alloc _ = w1 at *
  refine (Hnd.out _ L1.out.below).mono ?_
  rintro e w2 ⟨rfl, hb2⟩
  have L2 := Lib.hid (L1.out.call hb2 (Nat.le_refl _))
  have HX2 := Lib.hid (HXb.out _ L2.out.below)
  have c0 := HX2.out.c0
  clear hb2 L1
  go_wp2_with fail
  refine (Hsd.out _ L2.out.below).mono ?_
  rintro e w3 ⟨rfl, hd3, hM3⟩
  have HX3 := Lib.hid (HX2.out.devS hM3 hd3)
  have HM3 : Hid (Mod w w3 (fun k => hcol (col k))) := Mod.trans (mod_b L2.out.below : Mod w w2 (fun k => hcol (col k))) hM3 (fun k _ e => by rw [Hc.out.2 k e]; exact .inl (by omega))
  clear hd3 hM3 HX2 c0 L2
  go_wp2_with fail
  refine (Hdn.out _ HX3.out).mono ?_
  rintro e w4 ⟨rfl, ho4, hM4⟩
  have HO4 : Hid (HOutX w4 B b m E col hp al mp us fr rt hl ca sh S) := by
    rcases ho4 with ⟨h1, rfl⟩ | ⟨h1, h2⟩
    · exact .inl ⟨h1, HX3.out⟩
    · exact .inr ⟨h1, h2⟩
  have HM4 : Hid (Mod w w4 (fun k => hcol (col k))) := HM3.out.trans hM4 (fun k _ e => by rw [e, Hc.out.1]; exact .inl (by omega))
  clear ho4 hM4
  go_wp2_with fail
  go_ret
  exact ⟨rfl, HO4.out, HM4.out⟩
end Go.Proofs.YtcnjipicifkfjaaGreat

/- roots: wipe (that need not wipe). -/
namespace Go.Proofs.YtcnjipicifkfjaaGreat
open Go.RowKit
set_option linter.unusedVariables false
set_option linter.unusedSimpArgs false

set_option maxRecDepth 100000 in
set_option maxHeartbeats 400000 in
theorem wipe_any (B : Nat) (b : DB) (m : Nat) (s : DS) (F : Nat → Prop) (rt ep wh i : Nat) (rs ws : List Nat) (w : World) (h : Dev B w b m s) (hR : RootR w F rt b.d ep wh rs ws) (hi : i < 2) (hm0 : 64 ≤ m) (hm : m ≤ 100000)
    (h1 : s.C.getD (64 + i * 64) 0 ≤ ep) (h2 : s.C.getD (64 + i * 64 + 8) 0 ≤ ep) :
    Calls Tryz.prog 128 #[.pointer (some ⟨rt, 0, none⟩), .int .i64 i] w fun e w' => e = .returned (.int .i64 0) ∧ Below w.heap.size w w' := by
  have Hsl := Lib.hid (fun w => slotat_any i w hi)
  obtain ⟨a, Ha⟩ : ∃ a, Hid (64 + i * 64 = a) := ⟨_, rfl⟩
  rw [Ha.out] at Hsl h1 h2
  have ha : a ≤ 200 := by rw [← Ha.out]; omega
  have hd := h.drewN 1
  have HD : Hid (Dev B w.drew b m s) := hd
  have Hg1 := Lib.hid (fun w (h : Dev B w b m s) => get_yes B b m s a w h (by omega) hm)
  have Hg2 := Lib.hid (fun w (h : Dev B w b m s) => get_yes B b m s (a + 8) w h (by omega) hm)
  generalize s.C.getD a 0 = x1 at *
  generalize s.C.getD (a + 8) 0 = x2 at *
  have c0 : w.cell? ⟨rt, 0, none⟩ = some (.pointer (some ⟨b.d, 0, none⟩)) := hR.1.cell 0
  have c1 : w.cell? ⟨rt, 1, none⟩ = some (.int .u64 ep) := hR.1.cell 1
  have g1 : decide ((x1 : Int) ≤ (ep : Int)) = true := by rw [decide_eq_true_eq]; omega
  have g2 : decide (x1 ≤ ep) = true := by rw [decide_eq_true_eq]; omega
  have g3 : decide ((x2 : Int) ≤ (ep : Int)) = true := by rw [decide_eq_true_eq]; omega
  have g4 : decide (x2 ≤ ep) = true := by rw [decide_eq_true_eq]; omega
  have hw8 : IntKind.i64.wrap ((a : Int) + 8) = (a : Int) + 8 := IntWalk.i64_in _ (by omega)
  have hw9 : ((a + 8 : Nat) : Int) = (a : Int) + 8 := by omega
  rw [hw9] at Hg2
  have Hg : Hid (∀ (z : Int) (v : Nat) (w : World), Dev B w b m s → (z = (a : Int) ∧ v = x1) ∨ (z = (a : Int) + 8 ∧ v = x2) → Calls Tryz.prog 123 #[.pointer (some ⟨b.d, 0, none⟩), .int .i64 z] w fun e w' => e = .returned (.int .u64 (v : Nat)) ∧ w = w') := by
    rintro z v w h (⟨rfl, rfl⟩ | ⟨rfl, rfl⟩)
    · exact Hg1.out w h
    · exact Hg2.out w h
  clear h hd hR Hg1 Hg2 hw9
  go_enter Tryz.func128, Tryz.ntmps128
  go_wp2_with fail
  refine (Hsl.out _).mono ?_
  rintro e _ ⟨rfl, rfl⟩
  go_wp2_with fail
  go_region_held3 (fun w' => w'.cell? ⟨rt, 0, none⟩ = some (.pointer (some ⟨b.d, 0, none⟩)) ∧ w'.cell? ⟨rt, 1, none⟩ = some (.int .u64 ep))
    (exact ⟨c0, c1⟩)
    ((go_at_call 123; refine (Hg.out _ _ _ HD.out (by first | (refine .inl ⟨?_, rfl⟩; with_reducible rfl) | (refine .inr ⟨?_, rfl⟩; with_reducible rfl))).mono ?_; rintro e w' ⟨rfl, rfl⟩))
  all_goals
    have HBd := Lib.hid ((Below.refl w.heap.size w).drew)
    go_wp2_with fail
    go_ret
    exact ⟨rfl, HBd.out⟩
end Go.Proofs.YtcnjipicifkfjaaGreat
