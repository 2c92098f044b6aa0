/- Plain law: the words of a heap with a pile of n. -/
import Derived.Test.YtcnjipicifkfjaaGreatRm37
import Derived.Test.YtcnjipicifkfjaaGreatRm27
import Derived.Test.YtcnjipicifkfjaaGreatRm12
import Derived.Test.YtcnjipicifkfjaaGreatRm28
import Derived.Defers
import Derived.Test.YtcnjipicifkfjaaGreatRm19
import Derived.Test.YtcnjipicifkfjaaGreatRm36

namespace Go.Proofs.YtcnjipicifkfjaaGreat
open Go.RowKit
set_option linter.unusedVariables false
set_option linter.unusedSimpArgs false

/-- The words behind n pushes. -/
structure PW (C : List Nat) (K id n : Nat) (vs : List Nat) : Prop where
  len : C.length = 8 * (K * 64)
  sup : ∀ j, j < 8 → C.getD j 0 = (superL K id).getD j 0
  hdr : ∀ b, 1 ≤ b → b < K → C.getD (256 + b) 0 = if b = 1 ∧ 0 < n then hword 1 1 1 else hword b 0 0
  new : ∀ i, i < 16 → C.getD (64 + n % 2 * 64 + i) 0 = (slotEnc (n + 1) (rootsL n)).getD i 0
  old : ∀ i, i < 16 → C.getD (64 + (1 - n % 2) * 64 + i) 0 = if n = 0 then 0 else (slotEnc n (rootsL (n - 1))).getD i 0
  obj : ∀ t, 1 ≤ t → t ≤ n → C.getD (adr t) 0 = oword (adr t) 1 1 ∧ C.getD (adr t + 1) 0 = (if t = 1 then 0 else adr (t - 1)) ∧ C.getD (adr t + 2) 0 = vs.getD (t - 1) 0
def pushP (a prev v : Nat) : List (Nat × Nat) := [(a + 1, 0), (a + 2, 0), (a, oword a 1 1), (a + 1, prev), (a + 2, v)]
def roomP (n : Nat) : List (Nat × Nat) := if n = 0 then [(257, hword 1 1 1)] else []
/-- A push's words. -/
def pushC (C : List Nat) (n v : Nat) : List Nat :=
  cR (cR (cR C (roomP n)) (pushP (adr (n + 1)) (if n = 0 then 0 else adr n) v)) (slotP (64 + (1 - n % 2) * 64) (slotEnc (n + 2) (rootsL (n + 1))))
theorem roomP_at (n j : Nat) (C : List Nat) (h : 257 < C.length) : (cR C (roomP n)).getD j 0 = if n = 0 ∧ j = 257 then hword 1 1 1 else C.getD j 0 := by
  unfold roomP
  by_cases hn : n = 0
  · rw [if_pos hn]
    show (C.set 257 (hword 1 1 1)).getD j 0 = _
    rw [getD_set]
    by_cases e : j = 257
    · rw [if_pos ⟨e.symm, h⟩, if_pos ⟨hn, e⟩]
    · rw [if_neg (fun x => e x.1.symm), if_neg (fun x => e x.2)]
  · rw [if_neg hn, if_neg (fun x => hn x.1)]
    rfl
theorem adr_ge (t : Nat) : 509 ≤ adr t := by unfold adr; omega
theorem fmt_PW (K id : Nat) (h3 : 3 ≤ K) (h4 : K ≤ 4) : PW (fmt K id).C K id 0 [] := by
  obtain ⟨hr, hC, _⟩ := fmt_C K id h3 h4
  have ho := fmt_open K id 1 h3 h4 (by omega)
  have hz : ∀ b, (List.replicate K ((0 : Nat), (0 : Nat))).getD b (0, 0) = (0, 0) := fun b => by
    rw [List.getD_eq_getElem?_getD, List.getElem?_replicate]; split <;> rfl
  have hlen : (zerosN (8 * (K * 64))).length = 8 * (K * 64) := by simp [zerosN]
  refine ⟨hr.f.c, ho.h.sup, fun b h1 h2 => ?_, fun i hi => ?_, fun i hi => ?_, fun t h1 h2 => by omega⟩
  · have := ho.h.hdr.at_ b h1 h2
    rw [hz] at this
    rw [this, if_neg (by omega)]
  · rw [hC, superP_out K id _ (by omega), show 64 + 0 % 2 * 64 + i = 64 + i by omega, slotP_at 64 i _ _ hi (by rw [cR_len, hlen]; omega)]
    rfl
  · rw [hC, superP_out K id _ (by omega), slotP_out 64 _ _ _ (by omega), freesP_out _ _ (by omega), zeros_get, if_pos rfl]
end Go.Proofs.YtcnjipicifkfjaaGreat

/- Plain law: which slot is chosen. -/
namespace Go.Proofs.YtcnjipicifkfjaaGreat
open Go.RowKit
set_option linter.unusedVariables false
set_option linter.unusedSimpArgs false

end Go.Proofs.YtcnjipicifkfjaaGreat

/- roots: wipe (that need not wipe). -/
namespace Go.Proofs.YtcnjipicifkfjaaGreat
open Go.RowKit
set_option linter.unusedVariables false
set_option linter.unusedSimpArgs false

end Go.Proofs.YtcnjipicifkfjaaGreat

/- roots: Commit. -/
namespace Go.Proofs.YtcnjipicifkfjaaGreat
open Go.RowKit
set_option linter.unusedVariables false
set_option linter.unusedSimpArgs false

end Go.Proofs.YtcnjipicifkfjaaGreat

/- heap: Commit. -/
namespace Go.Proofs.YtcnjipicifkfjaaGreat
open Go.RowKit
set_option linter.unusedVariables false
set_option linter.unusedSimpArgs false

def commitS (S : HS) : List Step := writeS (64 + (1 - S.wh) * 64) (slotEnc (S.ep + 1) S.ws)
end Go.Proofs.YtcnjipicifkfjaaGreat

/- heap: Store. -/
namespace Go.Proofs.YtcnjipicifkfjaaGreat
open Go.RowKit
set_option linter.unusedVariables false
set_option linter.unusedSimpArgs false

end Go.Proofs.YtcnjipicifkfjaaGreat

/- pile: top, rest, Open, leave. -/
namespace Go.Proofs.YtcnjipicifkfjaaGreat
open Go.RowKit
set_option linter.unusedVariables false
set_option linter.unusedSimpArgs false

end Go.Proofs.YtcnjipicifkfjaaGreat

/- pile: All. -/
namespace Go.Proofs.YtcnjipicifkfjaaGreat
open Go.RowKit Go.Shelf
set_option linter.unusedVariables false
set_option linter.unusedSimpArgs false
attribute [local go_sem] Oper.semAt_some

/-- A pile as it lies on the device: what hangs on one root. -/
def ChainIn (s : DS) (m : Nat) (used : Nat → Bool) : Nat → List Nat → Prop
  | a, [] => used a = false ∧ a ≤ 1099511627776
  | a, v :: vs => used a = true ∧ a ≤ 1099511627776 ∧ ObjAt s m a 1 1 ∧ s.C.getD (a + 2) 0 = v ∧ s.C.getD (a + 1) 0 ≤ 1099511627776 ∧ ChainIn s m used (s.C.getD (a + 1) 0) vs
def clen (s : DS) (used : Nat → Bool) : Nat → Nat → Nat
  | 0, _ => 0
  | f + 1, a => if used a then 1 + clen s used f (s.C.getD (a + 1) 0) else 0
/-- What a round of the pile keeps. -/
def KeepP (n0 Bn : Nat) (q : Value) (A B : World) : Prop := Below n0 A B ∧ (Boxed A Bn 31 q → Boxed B Bn 31 q)
end Go.Proofs.YtcnjipicifkfjaaGreat

/- Plain law: the pile in the words. -/
namespace Go.Proofs.YtcnjipicifkfjaaGreat
open Go.RowKit
set_option linter.unusedVariables false
set_option linter.unusedSimpArgs false

theorem obj_adr {s : DS} {K t : Nat} (h : s.C.getD (adr t) 0 = oword (adr t) 1 1) (h2 : t ≤ 170) (hK : 3 ≤ K) : ObjAt s (K * 64) (adr t) 1 1 :=
  ⟨.inl ⟨rfl, rfl⟩, h, by unfold adr; omega⟩
theorem adrs_in (n a : Nat) : a ∈ adrs n ↔ ∃ t, 1 ≤ t ∧ t ≤ n ∧ a = adr t := by
  unfold adrs
  rw [List.mem_map]
  constructor
  · rintro ⟨i, hi, rfl⟩
    have := List.mem_range.1 hi
    exact ⟨i + 1, by omega, by omega, rfl⟩
  · rintro ⟨t, h1, h2, rfl⟩
    exact ⟨t - 1, List.mem_range.2 (by omega), by rw [show t - 1 + 1 = t by omega]⟩
/-- The objects of a pile of j, in some words. -/
def ObjsIn (C : List Nat) (j : Nat) (vs : List Nat) : Prop := ∀ t, 1 ≤ t → t ≤ j → C.getD (adr t) 0 = oword (adr t) 1 1 ∧ C.getD (adr t + 1) 0 = (if t = 1 then 0 else adr (t - 1)) ∧ C.getD (adr t + 2) 0 = vs.getD (t - 1) 0
end Go.Proofs.YtcnjipicifkfjaaGreat

/- Plain law: an image can be opened. -/
namespace Go.Proofs.YtcnjipicifkfjaaGreat
open Go.RowKit
set_option linter.unusedVariables false
set_option linter.unusedSimpArgs false

/-- The headers: block 1 in use or not. -/
def hsB (K : Nat) (c : Bool) : List (Nat × Nat) := if c then (List.replicate K (0, 0)).set 1 (1, 1) else List.replicate K (0, 0)
/-- Words that are a heap with a pile of j. -/
structure IW (I : List Nat) (K id j e wh : Nat) (vs : List Nat) (c : Bool) : Prop where
  len : I.length = 8 * (K * 64)
  sup : ∀ i, i < 8 → I.getD i 0 = (superL K id).getD i 0
  hdr : ∀ b, 1 ≤ b → b < K → I.getD (256 + b) 0 = if b = 1 ∧ c = true then hword 1 1 1 else hword b 0 0
  obj : ObjsIn I j vs
  cj : 0 < j → c = true
  jl : j ≤ 170
  s0 : Slot16 (slotOf (fresh I (K * 64)) 0)
  s1 : Slot16 (slotOf (fresh I (K * 64)) 1)
  ch : chooseM (sdecM (slotOf (fresh I (K * 64)) 0)) (sdecM (slotOf (fresh I (K * 64)) 1)) = ((e, rootsL j), wh, true)
/-- The device behind Open. -/
def openS (I : List Nat) (K j : Nat) (c : Bool) : DS := if j = 0 ∧ c = true then (exec (fresh I (K * 64)) (phaseS [(257, hword 1 0 0)] 32 1)).1 else fresh I (K * 64)
end Go.Proofs.YtcnjipicifkfjaaGreat

/- Plain law: a heap at rest, as an image. -/
namespace Go.Proofs.YtcnjipicifkfjaaGreat
open Go.RowKit
set_option linter.unusedVariables false
set_option linter.unusedSimpArgs false

end Go.Proofs.YtcnjipicifkfjaaGreat

/- Plain law: images of the room's phase and of the object's. -/
namespace Go.Proofs.YtcnjipicifkfjaaGreat
open Go.RowKit
set_option linter.unusedVariables false
set_option linter.unusedSimpArgs false

end Go.Proofs.YtcnjipicifkfjaaGreat

/- Plain law: the sums of a first slot half written. -/
namespace Go.Proofs.YtcnjipicifkfjaaGreat
open Go.RowKit
set_option linter.unusedVariables false

end Go.Proofs.YtcnjipicifkfjaaGreat

/- Plain law: images of the slot's phase. -/
namespace Go.Proofs.YtcnjipicifkfjaaGreat
open Go.RowKit
set_option linter.unusedVariables false
set_option linter.unusedSimpArgs false

/-- The words ahead of the slot's phase. -/
def midC (C : List Nat) (n v : Nat) : List Nat := cR (cR C (roomP n)) (pushP (adr (n + 1)) (if n = 0 then 0 else adr n) v)
end Go.Proofs.YtcnjipicifkfjaaGreat

/- pile: Push. -/
namespace Go.Proofs.YtcnjipicifkfjaaGreat
open Go.RowKit
set_option linter.unusedVariables false
set_option linter.unusedSimpArgs false

/-- What all of a push comes to. -/
def pushE (E1 E2 E3 E4 E5 : DS × Bool) : DS × Bool := if E1.2 then (if E2.2 then (if E3.2 then (if E4.2 then E5 else E4) else E3) else E2) else E1
/-- What a push leaves. -/
def PushOut (w0 w : World) (B : Nat) (b : DB) (m : Nat) (E : DS × Bool) (col : Nat → Nat) (hp al mp us fr rt hl ca sh : Nat) (A : AS) (ep wh : Nat) (ws : List Nat) (C : CS) : Prop :=
  (E.2 = true ∧ ∃ col' S', (∀ k, k < w0.heap.size → col' k = col k) ∧ (∀ k, w.heap.size ≤ k → col' k = 9) ∧ HeapX w B b m E.1 col' hp al mp us fr rt hl ca sh S' ∧ S'.A = A ∧ S'.ep = ep ∧ S'.wh = wh ∧ S'.rs = ws ∧ S'.ws = ws ∧ S'.C = C) ∨ (E.2 = false ∧ HeapD w B b m E.1 hp)
/-- What a push keeps of a heap on its way. -/
def PS (S S2 : HS) (A : AS) (rg ws : List Nat) : Prop := S2.A = A ∧ S2.ep = S.ep ∧ S2.wh = S.wh ∧ S2.ws = ws ∧ S2.rg = rg ∧ S2.C = S.C
end Go.Proofs.YtcnjipicifkfjaaGreat

/- Plain law: a push in its phases, and what it may leave. -/
namespace Go.Proofs.YtcnjipicifkfjaaGreat
open Go.RowKit
set_option linter.unusedVariables false
set_option linter.unusedSimpArgs false

def prevN (n : Nat) : Nat := if n = 0 then 0 else adr n
/-- All steps of a push. -/
def pushS (n v : Nat) : List Step :=
  roomSt n ++ (phaseS (pushP (adr (n + 1)) (prevN n) v) (adr (n + 1) / 8) ((adr (n + 1) + 3 - 1) / 8 + 1 - adr (n + 1) / 8) ++ writeS (64 + (1 - n % 2) * 64) (slotEnc (n + 2) (rootsL (n + 1))))
theorem phaseS_push (a prev v : Nat) : phaseS (pushP a prev v) (a / 8) ((a + 3 - 1) / 8 + 1 - a / 8) = initS a 1 1 ++ ([.st (a + 1) prev] ++ ([.st (a + 2) v] ++ persistS a (1 + 1 + 1))) := rfl
theorem room_phase {s : DS} {m n : Nat} (h : Rest s m) (hm : 33 ≤ m) :
    ((exec s (roomSt n)).2 = true → Rest (exec s (roomSt n)).1 m ∧ (exec s (roomSt n)).1.C = cR s.C (roomP n)) ∧
    ((exec s (roomSt n)).2 = false → n = 0 ∧ ∃ t, Ph (exec s (roomSt n)).1 m s.C (cR s.C ([(257, hword 1 1 1)].take t)) (fun l => 32 ≤ l ∧ l < 32 + 1)) := by
  unfold roomSt roomP
  by_cases h0 : n = 0
  · rw [if_pos h0, if_pos h0]
    have e : putS 1 1 1 = phaseS [(257, hword 1 1 1)] 32 1 := rfl
    rw [e]
    obtain ⟨a1, a2⟩ := phase h [(257, hword 1 1 1)] 32 1 (by omega) (by
      intro p hp
      simp only [List.mem_cons, List.not_mem_nil, or_false] at hp
      subst hp
      simp only
      omega)
    refine ⟨a1, fun hf => ⟨h0, ?_⟩⟩
    obtain ⟨t, _, h2⟩ := a2 hf
    exact ⟨t, h2⟩
  · rw [if_neg h0, if_neg h0]
    exact ⟨fun _ => ⟨h, rfl⟩, fun e => by cases e⟩
theorem obj_phase {s : DS} {m n v : Nat} (h : Rest s m) (hm : adr (n + 1) + 3 ≤ 8 * m) :
    ((exec s (phaseS (pushP (adr (n + 1)) (prevN n) v) (adr (n + 1) / 8) ((adr (n + 1) + 3 - 1) / 8 + 1 - adr (n + 1) / 8))).2 = true → Rest (exec s (phaseS (pushP (adr (n + 1)) (prevN n) v) (adr (n + 1) / 8) ((adr (n + 1) + 3 - 1) / 8 + 1 - adr (n + 1) / 8))).1 m ∧ (exec s (phaseS (pushP (adr (n + 1)) (prevN n) v) (adr (n + 1) / 8) ((adr (n + 1) + 3 - 1) / 8 + 1 - adr (n + 1) / 8))).1.C = cR s.C (pushP (adr (n + 1)) (prevN n) v)) ∧
    ((exec s (phaseS (pushP (adr (n + 1)) (prevN n) v) (adr (n + 1) / 8) ((adr (n + 1) + 3 - 1) / 8 + 1 - adr (n + 1) / 8))).2 = false → ∃ t T, Ph (exec s (phaseS (pushP (adr (n + 1)) (prevN n) v) (adr (n + 1) / 8) ((adr (n + 1) + 3 - 1) / 8 + 1 - adr (n + 1) / 8))).1 m s.C (cR s.C ((pushP (adr (n + 1)) (prevN n) v).take t)) T) := by
  generalize adr (n + 1) = a at *
  obtain ⟨a1, a2⟩ := phase h (pushP a (prevN n) v) (a / 8) ((a + 3 - 1) / 8 + 1 - a / 8) (by omega) (by
    intro p hp
    simp only [pushP, List.mem_cons, List.not_mem_nil, or_false] at hp
    rcases hp with rfl | rfl | rfl | rfl | rfl <;> simp only <;> omega)
  refine ⟨a1, fun hf => ?_⟩
  obtain ⟨t, _, h2⟩ := a2 hf
  exact ⟨t, _, h2⟩
/-- What a push leaves: the words behind it, or images that lead to either pile. -/
def Either (I : List Nat) (K id n : Nat) (vs : List Nat) (v : Nat) : Prop :=
  (∃ c, IW I K id n (n + 1) (n % 2) vs c) ∨ (∃ c, IW I K id (n + 1) (n + 2) ((n + 1) % 2) (vs ++ [v]) c)
end Go.Proofs.YtcnjipicifkfjaaGreat

/- A push on a pile of n, on a device at rest. -/
namespace Go.Proofs.YtcnjipicifkfjaaGreat
open Go.RowKit
set_option linter.unusedVariables false
set_option linter.unusedSimpArgs false

/-- A heap whose root 0 is a pile of n, all at rest. -/
structure PSt (S : HS) (s : DS) (K id n : Nat) (vs : List Nat) : Prop where
  r : Rest s (K * 64)
  w : PW s.C K id n vs
  an : AN S.A K n
  ep : S.ep = n + 1
  wh : S.wh = n % 2
  ws : S.ws = rootsL n
  ph : S.C.phase = 0
  l : vs.length = n
theorem adr_eq (t : Nat) : adr t = 509 + 3 * t := rfl
theorem ob_of {s : DS} {K n : Nat} {used : Nat → Bool} (hK : 3 ≤ K) (hn : n ≤ 170) (hu : ∀ x, used x = decide (x ∈ adrs n)) (h : ∀ t, 1 ≤ t → t ≤ n → s.C.getD (adr t) 0 = oword (adr t) 1 1 ∧ s.C.getD (adr t + 1) 0 ≤ 1099511627776) : OB s (K * 64) used 1 := by
  intro x hx
  rw [hu] at hx
  obtain ⟨t, h1, h2, rfl⟩ := (adrs_in n x).1 (of_decide_eq_true hx)
  obtain ⟨a, b⟩ := h t h1 h2
  have := adr_ge t
  exact ⟨by omega, 1, obj_adr a (by omega) hK, fun _ => b⟩
/-- The stores of the object, one behind the other. -/
theorem push_parts {s : DS} {K n v : Nat} {E1 E2 E3 E4 : DS × Bool} (h : Rest s (K * 64)) (hn : n < 100) (hK : 3 ≤ K) (h1 : exec s (roomSt n ++ initS (adr (n + 1)) 1 1) = E1) (h2 : exec E1.1 [.st (adr (n + 1) + 1) (prevN n)] = E2) (h3 : exec E2.1 [.st (adr (n + 1) + 2) v] = E3) (h4 : exec E3.1 (persistS (adr (n + 1)) (1 + 1 + 1)) = E4) :
    (E1.2 = true → E1.1.C = cR (cR s.C (roomP n)) [(adr (n + 1) + 1, 0), (adr (n + 1) + 2, 0), (adr (n + 1), oword (adr (n + 1)) 1 1)]) ∧
    (E1.2 = true → E2.2 = true → E2.1.C = cR (cR s.C (roomP n)) [(adr (n + 1) + 1, 0), (adr (n + 1) + 2, 0), (adr (n + 1), oword (adr (n + 1)) 1 1), (adr (n + 1) + 1, prevN n)]) ∧
    (E1.2 = true → E2.2 = true → E3.2 = true → E3.1.C = midC s.C n v) ∧ (E1.2 = true → E2.2 = true → E3.2 = true → E4.2 = true → E4.1.C = midC s.C n v) := by
  have ha := adr_eq (n + 1)
  obtain ⟨r1, r2⟩ := room_phase (n := n) h (by omega)
  rw [exec_append s (roomSt n)] at h1
  cases hr : (exec s (roomSt n)).2 with
  | false =>
    rw [hr, if_neg (by simp)] at h1
    have : E1.2 = false := by rw [← h1]; exact hr
    rw [this]
    exact ⟨fun e => (by cases e), fun e => (by cases e), fun e => (by cases e), fun e => (by cases e)⟩
  | true =>
    rw [hr, if_pos rfl] at h1
    obtain ⟨hR1, hC1⟩ := r1 hr
    generalize (exec s (roomSt n)).1 = u at *
    have hobj := obj_phase (v := v) (n := n) hR1 (by omega)
    have hm8 : adr (n + 1) + 3 ≤ 8 * (K * 64) := by omega
    unfold midC
    rw [phaseS_push] at hobj
    clear ha
    have hpv : (if n = 0 then 0 else adr n) = prevN n := rfl
    rw [hpv]
    generalize adr (n + 1) = a at *
    rw [← hC1]
    have h0 : Ph u (K * 64) u.C u.C (fun l => True) := ⟨hR1.f, hR1.e, rfl, fun _ _ => rfl, fun l hl => trivial, fun l hl => by rw [hR1.p] at hl; cases hl⟩
    have e1 : initS a 1 1 = sts [(a + 1, 0), (a + 2, 0), (a, oword a 1 1)] := rfl
    obtain ⟨s1, _⟩ := sts_exec [(a + 1, 0), (a + 2, 0), (a, oword a 1 1)] h0 hR1.p (by
      intro p hp
      simp only [List.mem_cons, List.not_mem_nil, or_false] at hp
      rcases hp with rfl | rfl | rfl <;> exact ⟨(by simp only; omega), trivial⟩)
    rw [← e1, h1] at s1
    have q2 : E1.2 = true → E2.2 = true → Ph E2.1 (K * 64) u.C (cR u.C [(a + 1, 0), (a + 2, 0), (a, oword a 1 1), (a + 1, prevN n)]) (fun l => True) ∧ ∀ l, E2.1.P.getD l false = false := fun x1 x2 => by
      obtain ⟨p1, p2⟩ := s1 x1
      obtain ⟨s2, _⟩ := sts_exec [(a + 1, prevN n)] p1 p2 (by
        intro p hp
        simp only [List.mem_cons, List.not_mem_nil, or_false] at hp
        rcases hp with rfl
        exact ⟨by simp only; omega, trivial⟩)
      have e2 : sts [(a + 1, prevN n)] = [.st (a + 1) (prevN n)] := rfl
      rw [e2, h2] at s2
      exact s2 x2
    have q3 : E1.2 = true → E2.2 = true → E3.2 = true → Ph E3.1 (K * 64) u.C (cR u.C (pushP a (prevN n) v)) (fun l => True) ∧ ∀ l, E3.1.P.getD l false = false := fun x1 x2 x3 => by
      obtain ⟨p1, p2⟩ := q2 x1 x2
      obtain ⟨s2, _⟩ := sts_exec [(a + 2, v)] p1 p2 (by
        intro p hp
        simp only [List.mem_cons, List.not_mem_nil, or_false] at hp
        rcases hp with rfl
        exact ⟨by simp only; omega, trivial⟩)
      have e2 : sts [(a + 2, v)] = [.st (a + 2) v] := rfl
      rw [e2, h3] at s2
      exact s2 x3
    refine ⟨fun x => (s1 x).1.c, fun x1 x2 => (q2 x1 x2).1.c, fun x1 x2 x3 => (q3 x1 x2 x3).1.c, fun x1 x2 x3 x4 => ?_⟩
    have e : exec u (initS a 1 1 ++ ([.st (a + 1) (prevN n)] ++ ([.st (a + 2) v] ++ persistS a (1 + 1 + 1)))) = E4 := by
      rw [exec_append, h1, x1, if_pos rfl, exec_append, h2, x2, if_pos rfl, exec_append, h3, x3, if_pos rfl, h4]
    rw [e] at hobj
    exact (hobj.1 x4).2
theorem low_obj {s : DS} {K id n : Nat} {vs : List Nat} (hw : PW s.C K id n vs) (hn : n < 100) (hK3 : 3 ≤ K) : ∀ C2 ps, C2 = cR (cR s.C (roomP n)) ps → (∀ p ∈ ps, adr (n + 1) ≤ p.1 ∧ p.1 ≤ adr (n + 1) + 2) → ∀ t, 1 ≤ t → t ≤ n → C2.getD (adr t) 0 = oword (adr t) 1 1 ∧ C2.getD (adr t + 1) 0 ≤ 1099511627776 := by
  intro C2 ps e hps t t1 t2
  have ha := adr_eq (n + 1)
  have q := adr_eq t
  have hlen := hw.len
  obtain ⟨o1, o2, _⟩ := hw.obj t t1 t2
  rw [e, cR_out ps _ _ (fun p hp e => by have := hps p hp; omega), cR_out ps _ _ (fun p hp e => by have := hps p hp; omega), roomP_at n _ _ (by omega), roomP_at n _ _ (by omega), if_neg (by omega), if_neg (by omega), o1, o2]
  refine ⟨rfl, ?_⟩
  split
  · omega
  · rw [adr_eq]; omega
theorem three_at {C : List Nat} {a : Nat} (h : a + 2 < C.length) : (cR C [(a + 1, 0), (a + 2, 0), (a, oword a 1 1)]).getD a 0 = oword a 1 1 ∧ (cR C [(a + 1, 0), (a + 2, 0), (a, oword a 1 1)]).getD (a + 1) 0 = 0 := by
  have e : cR C [(a + 1, 0), (a + 2, 0), (a, oword a 1 1)] = ((C.set (a + 1) 0).set (a + 2) 0).set a (oword a 1 1) := rfl
  rw [e]
  refine ⟨?_, ?_⟩
  · rw [getD_set, if_pos ⟨rfl, by simp only [List.length_set]; omega⟩]
  · rw [getD_set, if_neg (by omega), getD_set, if_neg (by omega), getD_set, if_pos ⟨rfl, by omega⟩]
/-- An object just made. -/
theorem made_ob {s : DS} {K id n : Nat} {vs : List Nat} {E1 : DS × Bool} {used : Nat → Bool} (h : Rest s (K * 64)) (hw : PW s.C K id n vs) (hn : n < 100) (hK3 : 3 ≤ K) (h1 : exec s (roomSt n ++ initS (adr (n + 1)) 1 1) = E1) (hu : ∀ x, used x = decide (x ∈ adrs (n + 1))) (x : E1.2 = true) :
    ObjAt E1.1 (K * 64) (adr (n + 1)) 1 1 ∧ E1.1.C.getD (adr (n + 1) + 1) 0 = 0 ∧ OB E1.1 (K * 64) used 1 := by
  have ha := adr_eq (n + 1)
  have hlen := hw.len
  have e := (push_parts (v := 0) h hn hK3 h1 rfl rfl rfl).1 x
  obtain ⟨y1, y2⟩ := three_at (C := cR s.C (roomP n)) (a := adr (n + 1)) (by rw [cR_len]; omega)
  rw [← e] at y1 y2
  refine ⟨obj_adr y1 (by omega) hK3, y2, ob_of hK3 (by omega) hu (fun t t1 t2 => ?_)⟩
  by_cases et : t = n + 1
  · subst et; exact ⟨y1, by rw [y2]; omega⟩
  · exact low_obj hw hn hK3 _ _ e (by
      intro p hp
      simp only [List.mem_cons, List.not_mem_nil, or_false] at hp
      rcases hp with rfl | rfl | rfl <;> simp only <;> omega) t t1 (by omega)
end Go.Proofs.YtcnjipicifkfjaaGreat

/- A crash image is opened: the pile before, or the one behind. -/
namespace Go.Proofs.YtcnjipicifkfjaaGreat
open Go.RowKit
set_option linter.unusedVariables false
set_option linter.unusedSimpArgs false

end Go.Proofs.YtcnjipicifkfjaaGreat

/- taproottop: awake. -/
namespace Go.Proofs.YtcnjipicifkfjaaGreat
open Go.RowKit
set_option linter.unusedVariables false
set_option linter.unusedSimpArgs false

/-- Room for the first object, of another mutator. -/
theorem room0 {B : Nat} {b : DB} {m : Nat} {s : DS} {ap mp us fr : Nat} {S : AS} {K : Nat} (h : AN S K 0) (hK3 : 3 ≤ K) (hK4 : K ≤ 4) (hm : m = K * 64) :
    RoomOk B b m s ap mp us fr 0 1 1 S (putS 1 1 1) (adr 1) ((S.small 1 (K - 1)).take 0) := by
  have hcof : cof (1 + 1 + 1) = S.k := by rw [h.k]; decide
  obtain ⟨g0, c1, o0⟩ := h.h0 rfl
  have hcv : carveL S.used S.k 1 (ccells S.k) = cellsN 0 := by
    have hf : S.used = fun _ => false := by funext a; rw [h.u]; rfl
    rw [hf, h.k, ccells1]; unfold cellsN; rw [Nat.sub_zero]
  have hc : ∀ k, S.cs k = [] := fun k => by
    by_cases e : k = 1
    · rw [e]; exact c1
    · exact h.c0 k e
  have hgl : (S.small 1 (K - 1)).glob = cellsN 0 := by show S.glob ++ _ = _; rw [g0, hcv, List.nil_append]
  have hst := cellsN_step 0 (by omega)
  obtain ⟨t1, t2, t3⟩ := take_snoc (S.small 1 (K - 1)).glob S.cs 0 (adr 1) (cellsN 1) (by rw [hgl, hc, List.append_nil, hst]) (takeN_ok _)
  intro col w hD hdv hA
  have := room_small B b m s col ap mp us fr 0 1 1 1 (K - 1) S w hD hdv hA (by omega) (by omega) (by omega) hcof (by rw [h.kk]; exact hm) (by rw [h.kk]; omega) (hc 0) g0 o0 (by omega) (by omega) (by rw [h.kk]; omega) (fun k => by rw [hc]; simp) (fun k x hx => by
    rw [hc] at hx; cases hx) (by rw [hcv, hst]; simp)
  rw [t1, h.k] at this
  exact this
theorem alls_one (x : Nat) (hx : x ≠ 0) : alls ((zerosN 32).set 0 x) 32 = [x] := by
  have : ∀ k, alls ((zerosN 32).set 0 x) (k + 1) = [x] := by
    intro k
    induction k with
    | zero =>
      rw [alls, if_neg (by rw [getD_set, if_pos ⟨rfl, by simp [zerosN]⟩]; exact hx)]
      rw [getD_set, if_pos ⟨rfl, by simp [zerosN]⟩]
      rfl
    | succ k ih => rw [alls, if_pos (by rw [getD_set, if_neg (by omega), zeros_get]), ih]
  exact this 31
theorem live_one {s : DS} {S : HS} (hA : ∀ x, S.A.used x = decide (x ∈ adrs 1)) (hr : S.rg = (zerosN 32).set 0 (adr 1)) (hw : S.ws = zerosN 8) (hn : s.C.getD (adr 1 + 1) 0 = 0) (hK : S.A.K = 4) : (setL (liveM s 1 S) (8 * S.A.K)).length = 1 := by
  have h0 : S.A.used 0 = false := by rw [hA]; rfl
  have h1 : S.A.used 512 = true := by rw [hA]; rfl
  have hl : liveM s 1 S = addS (fun _ => false) 512 := by
    unfold liveM
    rw [hr, hw, alls_one _ (by rw [adr_eq]; omega)]
    have e : ([adr 1] ++ zerosN 8).length = 9 := rfl
    rw [e]
    have r1 : resetM S.A.used (nx s 1) (512 * S.A.K + 1) ([adr 1] ++ zerosN 8) 1 = addS (fun _ => false) 512 := by
      have e2 : ([adr 1] ++ zerosN 8).getD 0 0 = 512 := rfl
      rw [resetM, e2, hK]
      have e3 : resetM S.A.used (nx s 1) (512 * 4 + 1) ([adr 1] ++ zerosN 8) 0 = fun _ => false := rfl
      rw [e3, addM_yes _ _ 2048 _ _ h1 rfl]
      refine addM_no _ _ _ _ _ (.inl ?_)
      have : nx s 1 512 = 0 := hn
      rw [this]; exact h0
    have rk : ∀ k, k < 9 → resetM S.A.used (nx s 1) (512 * S.A.K + 1) ([adr 1] ++ zerosN 8) (k + 1) = addS (fun _ => false) 512 := by
      intro k hk
      induction k with
      | zero => exact r1
      | succ k ih =>
        rw [resetM, ih (by omega)]
        refine addM_no _ _ _ _ _ (.inl ?_)
        have : ([adr 1] ++ zerosN 8).getD (k + 1) 0 = 0 := by
          have : ([adr 1] ++ zerosN 8).getD (k + 1) 0 = (zerosN 8).getD k 0 := rfl
          rw [this, zeros_get]
        rw [this]; exact h0
    exact rk 8 (by omega)
  rw [hl, hK]
  show (setL (addS (fun _ => false) 512) (8 * 4)).length = 1
  kernel_rfl
/-- What awake needs of a heap with one object. -/
def Woke (w : World) (hp : Nat) : Prop :=
  ∃ al, (∀ q, Calls Tryz.prog 16 #[.pointer (some ⟨hp, 0, none⟩)] (w.drewN q) fun e w' => e = .returned (.pointer (some ⟨al, 0, none⟩)) ∧ w.drewN q = w') ∧
    (∀ q, Calls Tryz.prog 21 #[.pointer (some ⟨hp, 0, none⟩)] (w.drewN q) fun e w' => (∃ A cap, e = .returned (.slice A 1 cap)) ∧ Below (w.drewN q).heap.size (w.drewN q) w')
set_option maxRecDepth 100000 in
theorem woke_alloc (B : Nat) (G : Nat → Prop) (b : DB) (hp : Nat) (w : World) (h : HeapR w G B b (4 * 64) (fmt 4 1) hp (hsO 4 1 0 1 0 3 1 (fmt 4 1) (List.replicate 4 (0, 0)))) :
    Calls Tryz.prog 20 #[.pointer (some ⟨hp, 0, none⟩), .agg #[.int .i64 0, .int .i64 0], .int .i64 1, .int .i64 1] w fun e w' => e = .returned (.int .i64 0) ∧ Woke w' hp ∧ Mod w w' G := by
  obtain ⟨col0, al, mp, us, fr, rt, hl, ca, sh, hX0, hG⟩ := h
  have hX := hX0.recol (colW_lt col0 w 9)
  have hn9 : ∀ k, w.heap.size ≤ k → colW col0 w 9 k = 9 := fun k hk => colW_ge _ _ _ _ hk
  have hG2 : ∀ k, k < w.heap.size → hcol (colW col0 w 9 k) → G k := fun k hk h => hG k hk (by rwa [colW_lt _ _ _ _ hk] at h)
  generalize colW col0 w 9 = col at *
  clear hX0 hG
  obtain ⟨hR, hC, hL⟩ := fmt_C 4 1 (by omega) (by omega)
  have hW := fmt_PW 4 1 (by omega) (by omega)
  have hAN := asO_AN 4
  generalize fmt 4 1 = s at *
  have hu : ∀ x, (((asO 4 1 0 (List.replicate 4 (0, 0))).small 1 (4 - 1)).take 0 |>.add (adr 1)).used x = decide (x ∈ adrs 1) := fun a => by
    have e : adrs 1 = adrs 0 ++ [adr 1] := rfl
    show addS (asO 4 1 0 (List.replicate 4 (0, 0))).used (adr 1) a = _
    unfold addS
    rw [hAN.u, e, ← Bool.decide_or, decide_eq_decide, List.mem_append, List.mem_singleton]
  obtain ⟨E, hE⟩ : ∃ E, exec s (putS 1 1 1 ++ initS (adr 1) 1 1) = E := ⟨_, rfl⟩
  have hE2 : E.2 = true := by rw [← hE]; exact (exec_live hL _).1
  obtain ⟨m1, m2, m3⟩ := made_ob hR hW (by omega : (0 : Nat) < 100) (by omega) hE hu hE2
  have := halloc_any B b (4 * 64) s col hp al mp us fr rt hl ca sh 0 0 1 1 (adr 1) _ (((asO 4 1 0 (List.replicate 4 (0, 0))).small 1 (4 - 1)).take 0) (putS 1 1 1) w hX hn9 (by omega) (by omega) m1.o rfl (room0 hAN (by omega) (by omega) rfl) (by rw [adr_eq]; omega) rfl
  rw [hE] at this
  refine this.mono ?_
  rintro e w' ⟨rfl, hO, hM⟩
  refine ⟨by rw [hE2]; rfl, ?_, hM.mono (fun k hk h => hG2 k hk h)⟩
  rcases hO with ⟨_, col', k1, k2, st, hX'⟩ | ⟨hf, _⟩
  · refine ⟨al, fun q => ?_, fun q => ?_⟩
    · have hq := hX'.below (below_drewN (Below.refl _ _) q)
      exact hspace_any B b (4 * 64) E.1 col' hp al mp us fr rt hl ca sh _ (w'.drewN q) hq
    · have hq := hX'.below (below_drewN (Below.refl _ _) q)
      refine (hlive_any B b (4 * 64) E.1 col' hp al mp us fr rt hl ca sh 1 _ (w'.drewN q) hq k2 rfl (hu 0) m3 ?_).mono ?_
      · rintro x (hx | hx)
        · have hx : x ∈ (zerosN 32).set 0 (adr 1) := hx
          rcases List.mem_or_eq_of_mem_set hx with h | h
          · have := List.eq_of_mem_replicate h; omega
          · rw [h, adr_eq]; omega
        · have hx : x ∈ zerosN 8 := hx
          have := List.eq_of_mem_replicate hx; omega
      · rintro e w2 ⟨A, cap, rfl, _, hb⟩
        exact ⟨⟨A, cap, by rw [live_one hu rfl rfl m2 rfl]⟩, hb⟩
  · rw [hE2] at hf; cases hf
end Go.Proofs.YtcnjipicifkfjaaGreat

/- taproottop: awake answers true. -/
namespace Go.Proofs.YtcnjipicifkfjaaGreat
open Go.RowKit
set_option linter.unusedVariables false
set_option linter.unusedSimpArgs false

set_option maxRecDepth 100000 in
set_option maxHeartbeats 2000000 in
theorem awake_any (w : World) : Calls Tryz.prog 5 #[] w fun e w' => e = .returned (.bool true) ∧ Below w.heap.size w w' := by
  have Hnw : Hid (∀ w, Calls Tryz.prog 6 #[.agg #[.int .i64 4, .int .u64 1, .int .i64 3]] w fun e w' => ∃ hp, e = .returned (.tuple #[.pointer (some ⟨hp, 0, none⟩), .int .i64 0]) ∧
      (∀ W, Below w'.heap.size w' W → Calls Tryz.prog 20 #[.pointer (some ⟨hp, 0, none⟩), .agg #[.int .i64 0, .int .i64 0], .int .i64 1, .int .i64 1] W fun e W' => e = .returned (.int .i64 0) ∧ Woke W' hp ∧ Mod W W' (fun k => w.heap.size ≤ k)) ∧ Below w.heap.size w w') := fun w =>
    (hnewh_any 4 1 3 1 1 w (fmt_open 4 1 1 (by omega) (by omega) (by omega)) AN.ob0 (by omega) (by omega) (by omega)).mono (by
      rintro e w' ⟨b, hp, rfl, h1, h2⟩
      exact ⟨hp, rfl, fun W hW => woke_alloc _ _ b hp W (h1.below hW), h2⟩)
  go_enter Tryz.func5, Tryz.ntmps5
  go_wp2_with fail
  refine (Hnw.out w).mono ?_
  rintro e w1 ⟨hp, rfl, hAl, hb⟩
  have HAl := Lib.hid hAl
  have HB := Lib.hid hb
  clear hAl hb Hnw
  go_wp2_with fail
  refine (HAl.out w1 (Below.refl _ _)).mono ?_
  rintro e w2 ⟨rfl, ⟨al, hs, hl⟩, hM⟩
  have Hs := Lib.hid (hs 0)
  have Hl := Lib.hid (hl 0)
  have HB2 : Hid (Below w.heap.size w w2) := Below.mod HB.out hM HB.out.size (fun k _ h => h)
  clear hs hl hM HAl HB
  go_wp2_with fail
  refine (Hs.out).mono ?_
  rintro e w3 ⟨rfl, rfl⟩
  clear Hs
  go_wp2_with fail
  refine (Hl.out).mono ?_
  rintro e w3 ⟨⟨A, cap, rfl⟩, hb3⟩
  have HB3 : Hid (Below w.heap.size w w3) := HB2.out.trans (hb3.mono HB2.out.size)
  clear hb3 Hl HB2
  go_wp2_with fail
  go_ret
  exact ⟨rfl, HB3.out⟩
end Go.Proofs.YtcnjipicifkfjaaGreat
