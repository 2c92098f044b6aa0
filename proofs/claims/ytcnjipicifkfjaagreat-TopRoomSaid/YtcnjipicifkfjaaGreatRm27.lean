/- roots: Open, Get, Set, Working, Lasting. -/
import Derived.Test.YtcnjipicifkfjaaGreatRm26
import Derived.Test.YtcnjipicifkfjaaGreatRm24
import Derived.Test.YtcnjipicifkfjaaGreatRm01
import Derived.Test.YtcnjipicifkfjaaGreatRm16
import Derived.Test.YtcnjipicifkfjaaGreatRm23
import Derived.Test.YtcnjipicifkfjaaGreatRm07
import Derived.Test.YtcnjipicifkfjaaGreatRm02
import Derived.Test.YtcnjipicifkfjaaGreatRm08

namespace Go.Proofs.YtcnjipicifkfjaaGreat
open Go.RowKit
set_option linter.unusedVariables false
set_option linter.unusedSimpArgs false

theorem eight (l : List Nat) (h : l.length = 8) : ∃ a b c d e f g i, l = [a, b, c, d, e, f, g, i] := by
  match l, h with
  | [a, b, c, d, e, f, g, i], _ => exact ⟨_, _, _, _, _, _, _, _, rfl⟩
/-- A table of roots: its device's block, the slot that lasts, which of the two it is, and the working roots. -/
def rootsC (d ep wh : Nat) (rs ws : List Nat) : Array Value := (Value.pointer (some ⟨d, 0, none⟩) :: .int .u64 ep :: ncells rs ++ .int .i64 wh :: ncells ws).toArray
def RootR (w : World) (F : Nat → Prop) (rt d ep wh : Nat) (rs ws : List Nat) : Prop := Blk w rt 174 (rootsC d ep wh rs ws) ∧ rs.length = 8 ∧ ws.length = 8 ∧ F rt
section
variable {w w' : World} {F F' S : Nat → Prop} {rt d ep wh : Nat} {rs ws : List Nat}
theorem RootR.mod (h : RootR w F rt d ep wh rs ws) (m : Mod w w' S) (hs' : ∀ k, F k → ¬ S k) : RootR w' F rt d ep wh rs ws := ⟨m.blk h.1 (hs' _ h.2.2.2), h.2⟩
theorem RootR.weak (h : RootR w F rt d ep wh rs ws) (hF : ∀ k, k < w.heap.size → F k → F' k) : RootR w F' rt d ep wh rs ws := ⟨h.1, h.2.1, h.2.2.1, hF _ h.1.lt h.2.2.2⟩
theorem RootR.below {B : Nat} (h : RootR w F rt d ep wh rs ws) (hb : Below B w w') (hB : w.heap.size ≤ B) : RootR w' F rt d ep wh rs ws := ⟨h.1.below hb (Nat.lt_of_lt_of_le h.1.lt hB), h.2⟩
end
set_option maxRecDepth 100000 in
set_option maxHeartbeats 2000000 in
theorem ropen_any (B : Nat) (b : DB) (m : Nat) (s : DS) (ep wh : Nat) (rs : List Nat) (w : World) (h : Dev B w b m s) (hm0 : 64 ≤ m) (hm : m ≤ 100000) (S0 : Slot16 (slotOf s 0)) (S1 : Slot16 (slotOf s 1))
    (hc : chooseM (sdecM (slotOf s 0)) (sdecM (slotOf s 1)) = ((ep, rs), wh, true)) (hl : rs.length = 8) :
    Calls Tryz.prog 131 #[.pointer (some ⟨b.d, 0, none⟩)] w fun e w' => ∃ rt, e = .returned (.tuple #[.pointer (some ⟨rt, 0, none⟩), .int .i64 0]) ∧ RootR w' (fun k => w.heap.size ≤ k) rt b.d ep wh rs rs ∧ Below w.heap.size w w' := by
  have Hr0 := Lib.hid (fun w (h : Dev B w b m s) => rread_any B b m s 0 w h (by omega) hm0 hm)
  have Hr1 := Lib.hid (fun w (h : Dev B w b m s) => rread_any B b m s 1 w h (by omega) hm0 hm)
  have Hc := Lib.hid (fun w => choose_any (slotOf s 0) (slotOf s 1) w S0 S1)
  rw [hc] at Hc
  have HD := Lib.hid h
  generalize slotOf s 0 = La at *
  generalize slotOf s 1 = Lb at *
  obtain ⟨r0, r1, r2, r3, r4, r5, r6, r7, rfl⟩ := eight rs hl
  obtain ⟨A, HA⟩ : ∃ A, Hid ((wcells La).toArray = A) := ⟨_, rfl⟩
  obtain ⟨A2, HA2⟩ : ∃ A, Hid ((wcells Lb).toArray = A) := ⟨_, rfl⟩
  rw [HA.out] at Hr0 Hc
  rw [HA2.out] at Hr1 Hc
  have hsc : scells ep [r0, r1, r2, r3, r4, r5, r6, r7] = #[.int .u64 ep, .int .i64 r0, .int .i64 r1, .int .i64 r2, .int .i64 r3, .int .i64 r4, .int .i64 r5, .int .i64 r6, .int .i64 r7] := rfl
  simp only [hsc] at Hc
  clear h hc S0 S1 HA HA2 hsc
  go_enter Tryz.func131, Tryz.ntmps131
  go_wp2_with fail
  refine (Hr0.out _ HD.out).mono ?_
  rintro e w1 ⟨rfl, hb1⟩
  have HB1 := Lib.hid hb1
  have HD1 := Lib.hid (HD.out.below hb1 (Nat.le_refl _))
  clear hb1 HD
  go_wp2_with fail
  refine (Hr1.out _ HD1.out).mono ?_
  rintro e w2 ⟨rfl, hb2⟩
  have HB2 := Lib.hid (HB1.out.trans (hb2.mono HB1.out.size))
  clear hb2 HD1 HB1
  go_wp2_with fail
  refine (Hc.out _).mono ?_
  rintro e w3 ⟨rfl, hb3⟩
  have HB3 := Lib.hid (HB2.out.trans (hb3.mono HB2.out.size))
  clear hb3 HB2
  obtain ⟨n4, Hn4⟩ : ∃ n, Hid (w3.heap.size = n) := ⟨_, rfl⟩
  go_wp2_with fail
  have hn5 : w3.heap.size + 1 = n4 + 1 := by rw [Hn4.out]
  rw [hn5]
  have LE := Lib.hid (((Loc.nil Nob w3).box 172 #[.int .u64 ep, .int .i64 r0, .int .i64 r1, .int .i64 r2, .int .i64 r3, .int .i64 r4, .int .i64 r5, .int .i64 r6, .int .i64 r7] n4 Hn4.out).box 174 (rootsC b.d ep wh [r0, r1, r2, r3, r4, r5, r6, r7] [r0, r1, r2, r3, r4, r5, r6, r7]) (n4 + 1) (by rw [World.size_alloc, Hn4.out]))
  refine bodyPost_ret (results_tmp2 rfl _ _ _) rfl ?_
  refine ⟨n4 + 1, rfl, ⟨LE.out.b0, rfl, rfl, ?_⟩, HB3.out.trans (LE.out.below.mono HB3.out.size)⟩
  have := HB3.out.size
  have := Hn4.out
  show w.heap.size ≤ n4 + 1
  omega
set_option maxRecDepth 100000 in
set_option maxHeartbeats 2000000 in
theorem rworking_any (F : Nat → Prop) (rt d ep wh : Nat) (rs ws : List Nat) (w : World) (h : RootR w F rt d ep wh rs ws) :
    Calls Tryz.prog 64 #[.pointer (some ⟨rt, 0, none⟩)] w fun e w' => e = .returned (.agg (ncells ws).toArray) ∧ Below w.heap.size w w' := by
  obtain ⟨r0, r1, r2, r3, r4, r5, r6, r7, hr⟩ := eight ws h.2.2.1
  obtain ⟨s0, s1, s2, s3, s4, s5, s6, s7, hs⟩ := eight rs h.2.1
  obtain ⟨hb, _⟩ := h
  rw [hr, hs] at hb
  obtain ⟨q, Hq⟩ : ∃ n, Hid (w.heap.size = n) := ⟨_, rfl⟩
  have HB : ∀ Z, Hid (Below w.heap.size w (w.alloc (.cells Z 80))) := fun Z => (Below.refl w.heap.size w).alloc (Nat.le_refl _) _
  have HC : ∀ Z, Hid (Blk (w.alloc (.cells Z 80)) q 80 Z) := fun Z => by rw [← Hq.out]; exact Blk.new w 80 Z
  obtain ⟨Z, HZ⟩ : ∃ Z, Hid ((#[.int .i64 0, .int .i64 0, .int .i64 0, .int .i64 0, .int .i64 0, .int .i64 0, .int .i64 0, .int .i64 0] : Array Value) = Z) := ⟨_, rfl⟩
  have c0 : (w.alloc (.cells Z 80)).cell? ⟨rt, 11, none⟩ = some (.int .i64 (r0 : Nat)) := (hb.alloc _).cell 11
  have c1 : (w.alloc (.cells Z 80)).cell? ⟨rt, 12, none⟩ = some (.int .i64 (r1 : Nat)) := (hb.alloc _).cell 12
  have c2 : (w.alloc (.cells Z 80)).cell? ⟨rt, 13, none⟩ = some (.int .i64 (r2 : Nat)) := (hb.alloc _).cell 13
  have c3 : (w.alloc (.cells Z 80)).cell? ⟨rt, 14, none⟩ = some (.int .i64 (r3 : Nat)) := (hb.alloc _).cell 14
  have c4 : (w.alloc (.cells Z 80)).cell? ⟨rt, 15, none⟩ = some (.int .i64 (r4 : Nat)) := (hb.alloc _).cell 15
  have c5 : (w.alloc (.cells Z 80)).cell? ⟨rt, 16, none⟩ = some (.int .i64 (r5 : Nat)) := (hb.alloc _).cell 16
  have c6 : (w.alloc (.cells Z 80)).cell? ⟨rt, 17, none⟩ = some (.int .i64 (r6 : Nat)) := (hb.alloc _).cell 17
  have c7 : (w.alloc (.cells Z 80)).cell? ⟨rt, 18, none⟩ = some (.int .i64 (r7 : Nat)) := (hb.alloc _).cell 18
  rw [← HZ.out] at c0 c1 c2 c3 c4 c5 c6 c7
  clear hb
  go_enter Tryz.func64, Tryz.ntmps64
  go_wp2_with fail
  rw [Hq.out]
  refine bodyPost_ret (results_cell_row rfl _ _ q 80 _ _ _ rfl (HC #[.int .i64 (r0 : Nat), .int .i64 (r1 : Nat), .int .i64 (r2 : Nat), .int .i64 (r3 : Nat), .int .i64 (r4 : Nat), .int .i64 (r5 : Nat), .int .i64 (r6 : Nat), .int .i64 (r7 : Nat)]).out Tryz.underlying80 rfl size80) rfl ?_
  rw [hr]
  exact ⟨rfl, Hq.out ▸ (HB _).out⟩
set_option maxRecDepth 100000 in
set_option maxHeartbeats 2000000 in
theorem rlasting_any (F : Nat → Prop) (rt d ep wh : Nat) (rs ws : List Nat) (w : World) (h : RootR w F rt d ep wh rs ws) :
    Calls Tryz.prog 85 #[.pointer (some ⟨rt, 0, none⟩)] w fun e w' => e = .returned (.agg (ncells rs).toArray) ∧ Below w.heap.size w w' := by
  obtain ⟨r0, r1, r2, r3, r4, r5, r6, r7, hr⟩ := eight rs h.2.1
  obtain ⟨s0, s1, s2, s3, s4, s5, s6, s7, hs⟩ := eight ws h.2.2.1
  obtain ⟨hb, _⟩ := h
  rw [hr, hs] at hb
  obtain ⟨q, Hq⟩ : ∃ n, Hid (w.heap.size = n) := ⟨_, rfl⟩
  have HB : ∀ Z, Hid (Below w.heap.size w (w.alloc (.cells Z 80))) := fun Z => (Below.refl w.heap.size w).alloc (Nat.le_refl _) _
  have HC : ∀ Z, Hid (Blk (w.alloc (.cells Z 80)) q 80 Z) := fun Z => by rw [← Hq.out]; exact Blk.new w 80 Z
  obtain ⟨Z, HZ⟩ : ∃ Z, Hid ((#[.int .i64 0, .int .i64 0, .int .i64 0, .int .i64 0, .int .i64 0, .int .i64 0, .int .i64 0, .int .i64 0] : Array Value) = Z) := ⟨_, rfl⟩
  have c0 : (w.alloc (.cells Z 80)).cell? ⟨rt, 2, none⟩ = some (.int .i64 (r0 : Nat)) := (hb.alloc _).cell 2
  have c1 : (w.alloc (.cells Z 80)).cell? ⟨rt, 3, none⟩ = some (.int .i64 (r1 : Nat)) := (hb.alloc _).cell 3
  have c2 : (w.alloc (.cells Z 80)).cell? ⟨rt, 4, none⟩ = some (.int .i64 (r2 : Nat)) := (hb.alloc _).cell 4
  have c3 : (w.alloc (.cells Z 80)).cell? ⟨rt, 5, none⟩ = some (.int .i64 (r3 : Nat)) := (hb.alloc _).cell 5
  have c4 : (w.alloc (.cells Z 80)).cell? ⟨rt, 6, none⟩ = some (.int .i64 (r4 : Nat)) := (hb.alloc _).cell 6
  have c5 : (w.alloc (.cells Z 80)).cell? ⟨rt, 7, none⟩ = some (.int .i64 (r5 : Nat)) := (hb.alloc _).cell 7
  have c6 : (w.alloc (.cells Z 80)).cell? ⟨rt, 8, none⟩ = some (.int .i64 (r6 : Nat)) := (hb.alloc _).cell 8
  have c7 : (w.alloc (.cells Z 80)).cell? ⟨rt, 9, none⟩ = some (.int .i64 (r7 : Nat)) := (hb.alloc _).cell 9
  rw [← HZ.out] at c0 c1 c2 c3 c4 c5 c6 c7
  clear hb
  go_enter Tryz.func85, Tryz.ntmps85
  go_wp2_with fail
  rw [Hq.out]
  refine bodyPost_ret (results_cell_row rfl _ _ q 80 _ _ _ rfl (HC #[.int .i64 (r0 : Nat), .int .i64 (r1 : Nat), .int .i64 (r2 : Nat), .int .i64 (r3 : Nat), .int .i64 (r4 : Nat), .int .i64 (r5 : Nat), .int .i64 (r6 : Nat), .int .i64 (r7 : Nat)]).out Tryz.underlying80 rfl size80) rfl ?_
  rw [hr]
  exact ⟨rfl, Hq.out ▸ (HB _).out⟩
end Go.Proofs.YtcnjipicifkfjaaGreat

/- heap: its state. -/
namespace Go.Proofs.YtcnjipicifkfjaaGreat
open Go.RowKit
set_option linter.unusedVariables false
set_option linter.unusedSimpArgs false

/-- A heap's cells. -/
def heapC (d al rt : Nat) (rg : List Nat) (hl ca sh : Nat) (dead : Bool) : Array Value :=
  (Value.pointer (some ⟨d, 0, none⟩) :: .pointer (some ⟨al, 0, none⟩) :: .pointer (some ⟨rt, 0, none⟩) :: (ncells rg ++ [.pointer (some ⟨hl, 0, none⟩), .pointer (some ⟨ca, 0, none⟩), .pointer (some ⟨sh, 0, none⟩), .bool dead])).toArray
section
variable {d al rt hl ca sh : Nat} {rg : List Nat} {dead : Bool}
theorem heapC_size (h : rg.length = 32) : (heapC d al rt rg hl ca sh dead).size = 39 := by simp [heapC, ncells_len, h]
theorem heapC_tail (h : rg.length = 32) (i : Nat) : (heapC d al rt rg hl ca sh dead)[35 + i]? = [Value.pointer (some ⟨hl, 0, none⟩), .pointer (some ⟨ca, 0, none⟩), .pointer (some ⟨sh, 0, none⟩), .bool dead][i]? := by
  unfold heapC
  rw [List.getElem?_toArray, show 35 + i = 32 + i + 1 + 1 + 1 by omega]
  simp only [List.getElem?_cons_succ]
  rw [List.getElem?_append_right (by rw [ncells_len]; omega), ncells_len, h]
  congr 1
  omega
theorem heapC_set (h : rg.length = 32) (i v : Nat) (hi : i < 32) : (heapC d al rt rg hl ca sh dead).setIfInBounds (3 + i) (.int .i64 v) = heapC d al rt (rg.set i v) hl ca sh dead := by
  unfold heapC
  rw [List.setIfInBounds_toArray, Nat.add_comm]
  simp only [List.set_cons_succ]
  rw [List.set_append_left _ _ (by rw [ncells_len]; omega)]
  congr 6
  unfold ncells
  rw [List.map_set]
theorem heapC_ext (h : rg.length = 32) : (heapC d al rt rg hl ca sh dead).extract 3 (3 + 32) = (ncells rg).toArray := by
  unfold heapC
  simp only [List.extract_toArray, List.extract_eq_take_drop, List.drop_succ_cons, List.drop_zero]
  congr 1
  rw [List.take_append_of_le_length (by rw [ncells_len]; omega), List.take_of_length_le (by rw [ncells_len]; omega)]
theorem heapC_dead (h : rg.length = 32) : (heapC d al rt rg hl ca sh dead).setIfInBounds 38 (.bool true) = heapC d al rt rg hl ca sh true := by
  unfold heapC
  rw [List.setIfInBounds_toArray]
  simp only [List.set_cons_succ]
  rw [List.set_append_right _ _ (by rw [ncells_len]; omega), ncells_len, h]
  rfl
end
/-- What a heap knows. -/
structure HS where
  A : AS
  ep : Nat
  wh : Nat
  rs : List Nat
  ws : List Nat
  rg : List Nat
  held : Nat → Bool
  shared : Nat → Bool
  C : CS
def liveF (hp : Nat) : Value := .func (.func 45) #[.pointer (some ⟨hp, 0, none⟩)] #[]
structure HeapX (w : World) (B : Nat) (b : DB) (m : Nat) (s : DS) (col : Nat → Nat) (hp al mp us fr rt hl ca sh : Nat) (S : HS) : Prop where
  dev : Dev B w b m s
  hdv : ∀ k, b.has k → col k = 0
  blk : Blk w hp 87 (heapC b.d al rt S.rg hl ca sh false)
  chp : col hp = 7
  a : AllocX w col al b.d mp us fr S.A
  r : RootR w (fun k => col k = 4) rt b.d S.ep S.wh S.rs S.ws
  h : HeldR w (fun k => col k = 5) hl al S.A.K S.held
  chl : col hl = 8
  c : CycR w col ca al S.A.K (liveF hp) S.C
  s : SetR w (fun k => col k = 6) sh (8 * S.A.K) S.shared
  rg : S.rg.length = 32
  hm : m = S.A.K * 64
  k3 : 3 ≤ S.A.K
  k4 : S.A.K ≤ 4
section
variable {w w' : World} {B m : Nat} {b : DB} {s s' : DS} {col col' : Nat → Nat} {hp al mp us fr rt hl ca sh : Nat} {S : HS} {T : Nat → Prop}
/-- A change of what is none of the heap's. -/
theorem HeapX.mod (h : HeapX w B b m s col hp al mp us fr rt hl ca sh S) (hM : Mod w w' T) (hT : ∀ k, T k → k < w.heap.size → 9 ≤ col k ∧ (col k < 20 ∨ 24 < col k)) : HeapX w' B b m s col hp al mp us fr rt hl ca sh S := by
  have hT2 : ∀ k, (col k < 9 ∨ (20 ≤ col k ∧ col k ≤ 24)) → k < w.heap.size → ¬ T k := fun k h1 h2 h3 => by have := hT k h3 h2; omega
  have hM' : Mod w w' (fun k => T k ∧ k < w.heap.size) := hM.mono (fun k hk h => ⟨h, hk⟩)
  have hT3 : ∀ k, (col k < 9 ∨ (20 ≤ col k ∧ col k ≤ 24)) → ¬ (T k ∧ k < w.heap.size) := fun k h1 h2 => hT2 k h1 h2.2 h2.1
  exact ⟨h.dev.mod hM' (fun k hk => hT3 k (.inl (by rw [h.hdv k hk]; omega))), h.hdv, hM'.blk h.blk (hT3 _ (.inl (by rw [h.chp]; omega))), h.chp, h.a.mod hM' (fun k hk => hT3 k (.inl (by omega))), h.r.mod hM' (fun k hk => hT3 k (.inl (by omega))),
    h.h.mod hM' (fun k hk => hT3 k (.inl (by omega))) (hT3 _ (.inl (by rw [h.chl]; omega))), h.chl, h.c.mod hM' (fun k hk => hT3 k (.inr hk)), h.s.mod hM' (fun k hk => hT3 k (.inl (by omega))), h.rg, h.hm, h.k3, h.k4⟩
theorem HeapX.below (h : HeapX w B b m s col hp al mp us fr rt hl ca sh S) (hb : Below w.heap.size w w') : HeapX w' B b m s col hp al mp us fr rt hl ca sh S :=
  h.mod (Mod.of_below hb) (fun k h1 h2 => absurd h2 (Nat.not_lt.2 h1))
theorem HeapX.recol (h : HeapX w B b m s col hp al mp us fr rt hl ca sh S) (hc : ∀ k, k < w.heap.size → col' k = col k) : HeapX w B b m s col' hp al mp us fr rt hl ca sh S :=
  have hf : ∀ i k, k < w.heap.size → col k = i → col' k = i := fun i k hk e => (hc k hk).trans e
  ⟨h.dev, fun k hk => (hc k (h.dev.lt k hk).2).trans (h.hdv k hk), h.blk, (hc _ h.blk.lt).trans h.chp, h.a.recol hc, h.r.weak (hf 4), h.h.weak (hf 5) (by
    obtain ⟨p, hb, _, _⟩ := h.h
    rw [hc _ hb.lt, h.chl]; omega), (hc _ (by obtain ⟨p, hb, _, _⟩ := h.h; exact hb.lt)).trans h.chl, h.c.recol hc, h.s.weak (hf 6), h.rg, h.hm, h.k3, h.k4⟩
end
section
variable {w w' : World} {B m : Nat} {b : DB} {s s' : DS} {col col' : Nat → Nat} {hp al mp us fr rt hl ca sh : Nat} {S : HS}
theorem HeldR.lt {F : Nat → Prop} {K : Nat} {st : Nat → Bool} (h : HeldR w F hl al K st) : hl < w.heap.size := by obtain ⟨p, hb, _, _⟩ := h; exact hb.lt
/-- Another set of held objects. -/
theorem HeapX.heldS (h : HeapX w B b m s col hp al mp us fr rt hl ca sh S) (hM : Mod w w' (fun k => col k = 5)) {st : Nat → Bool} (hh : HeldR w' (fun k => col k = 5) hl al S.A.K st) : HeapX w' B b m s col hp al mp us fr rt hl ca sh { S with held := st } :=
  ⟨h.dev.mod hM (fun k hk e => by have := h.hdv k hk; omega), h.hdv, hM.blk h.blk (by rw [h.chp]; omega), h.chp, h.a.mod hM (fun k hk e => by omega), h.r.mod hM (fun k hk e => by omega), hh, h.chl, h.c.mod hM (fun k hk e => by omega), h.s.mod hM (fun k hk e => by omega), h.rg, h.hm, h.k3, h.k4⟩
theorem HeapX.sharedS (h : HeapX w B b m s col hp al mp us fr rt hl ca sh S) (hM : Mod w w' (fun k => col k = 6)) {st : Nat → Bool} (hh : SetR w' (fun k => col k = 6) sh (8 * S.A.K) st) : HeapX w' B b m s col hp al mp us fr rt hl ca sh { S with shared := st } :=
  ⟨h.dev.mod hM (fun k hk e => by have := h.hdv k hk; omega), h.hdv, hM.blk h.blk (by rw [h.chp]; omega), h.chp, h.a.mod hM (fun k hk e => by omega), h.r.mod hM (fun k hk e => by omega), h.h.mod hM (fun k hk e => by omega) (by rw [h.chl]; omega), h.chl, h.c.mod hM (fun k hk e => by omega), hh, h.rg, h.hm, h.k3, h.k4⟩
theorem HeapX.regS (h : HeapX w B b m s col hp al mp us fr rt hl ca sh S) (hM : Mod w w' (fun k => k = hp)) {rg : List Nat} (hl2 : rg.length = 32) (hb : Blk w' hp 87 (heapC b.d al rt rg hl ca sh false)) : HeapX w' B b m s col hp al mp us fr rt hl ca sh { S with rg := rg } :=
  have hM7 : Mod w w' (fun k => col k = 7) := hM.mono (fun k _ e => by rw [e]; exact h.chp)
  ⟨h.dev.mod hM7 (fun k hk e => by have := h.hdv k hk; omega), h.hdv, hb, h.chp, h.a.mod hM7 (fun k hk e => by omega), h.r.mod hM7 (fun k hk e => by omega), h.h.mod hM7 (fun k hk e => by omega) (by rw [h.chl]; omega), h.chl, h.c.mod hM7 (fun k hk e => by omega), h.s.mod hM7 (fun k hk e => by omega), hl2, h.hm, h.k3, h.k4⟩
end
/-- A heap's colours. -/
def hcol (c : Nat) : Prop := c < 9 ∨ (20 ≤ c ∧ c ≤ 24)
/-- A heap, alive, within some blocks. -/
def HeapR (w : World) (G : Nat → Prop) (B : Nat) (b : DB) (m : Nat) (s : DS) (hp : Nat) (S : HS) : Prop :=
  ∃ col al mp us fr rt hl ca sh, HeapX w B b m s col hp al mp us fr rt hl ca sh S ∧ ∀ k, k < w.heap.size → hcol (col k) → G k
/-- A heap whose device has stopped. -/
def HeapD (w : World) (B : Nat) (b : DB) (m : Nat) (s : DS) (hp : Nat) : Prop :=
  ∃ al rt rg hl ca sh, rg.length = 32 ∧ Blk w hp 87 (heapC b.d al rt rg hl ca sh true) ∧ Dev B w b m s ∧ ¬ b.has hp
def HOut (w : World) (G : Nat → Prop) (B : Nat) (b : DB) (m : Nat) (E : DS × Bool) (hp : Nat) (S : HS) : Prop :=
  (E.2 = true ∧ HeapR w G B b m E.1 hp S) ∨ (E.2 = false ∧ HeapD w B b m E.1 hp)
def GrowB (G : Nat → Prop) (w w' : World) (k : Nat) : Prop := G k ∨ (w.heap.size ≤ k ∧ k < w'.heap.size)
section
variable {w w' : World} {B m : Nat} {b : DB} {s : DS} {hp : Nat} {S : HS} {G G' T : Nat → Prop} {E : DS × Bool}
theorem HeapR.weak (h : HeapR w G B b m s hp S) (hG : ∀ k, k < w.heap.size → G k → G' k) : HeapR w G' B b m s hp S := by
  obtain ⟨col, al, mp, us, fr, rt, hl, ca, sh, hX, hc⟩ := h
  exact ⟨col, al, mp, us, fr, rt, hl, ca, sh, hX, fun k hk h => hG k hk (hc k hk h)⟩
/-- What is none of the heap's may change; new blocks are none of it. -/
theorem HeapR.mod (h : HeapR w G B b m s hp S) (hM : Mod w w' T) (hT : ∀ k, G k → ¬ T k) : HeapR w' G B b m s hp S := by
  obtain ⟨col, al, mp, us, fr, rt, hl, ca, sh, hX, hc⟩ := h
  have hX1 := hX.recol (colW_lt col w 9)
  refine ⟨colW col w 9, al, mp, us, fr, rt, hl, ca, sh, hX1.mod hM (fun k h1 h2 => ?_), fun k hk h => ?_⟩
  · rw [colW_lt _ _ _ _ h2]
    have : ¬ hcol (col k) := fun hh => hT k (hc k h2 hh) h1
    unfold hcol at this
    omega
  · by_cases hkw : k < w.heap.size
    · rw [colW_lt _ _ _ _ hkw] at h
      exact hc k hkw h
    · rw [colW_ge _ _ _ _ (by omega)] at h
      unfold hcol at h
      omega
theorem HeapR.below (h : HeapR w G B b m s hp S) (hb : Below w.heap.size w w') : HeapR w' G B b m s hp S := by
  refine (h.weak (G' := fun k => G k ∧ k < w.heap.size) (fun k hk h => ⟨h, hk⟩)).mod (Mod.of_below hb) (fun k h1 h2 => by omega) |>.weak (fun k _ h => h.1)
end
end Go.Proofs.YtcnjipicifkfjaaGreat

/- heap: Space, Device, need, down, share, Drop. -/
namespace Go.Proofs.YtcnjipicifkfjaaGreat
open Go.RowKit
set_option linter.unusedVariables false
set_option linter.unusedSimpArgs false

section
variable {w : World} {B m : Nat} {b : DB} {s : DS} {col : Nat → Nat} {hp al mp us fr rt hl ca sh : Nat} {S : HS}
theorem HeapX.c1 (h : HeapX w B b m s col hp al mp us fr rt hl ca sh S) : w.cell? ⟨hp, 1, none⟩ = some (.pointer (some ⟨al, 0, none⟩)) := h.blk.cell 1
theorem HeapX.c2 (h : HeapX w B b m s col hp al mp us fr rt hl ca sh S) : w.cell? ⟨hp, 2, none⟩ = some (.pointer (some ⟨rt, 0, none⟩)) := h.blk.cell 2
theorem HeapX.c35 (h : HeapX w B b m s col hp al mp us fr rt hl ca sh S) : w.cell? ⟨hp, 35, none⟩ = some (.pointer (some ⟨hl, 0, none⟩)) := (h.blk.cell 35).trans (heapC_tail h.rg 0)
theorem HeapX.c36 (h : HeapX w B b m s col hp al mp us fr rt hl ca sh S) : w.cell? ⟨hp, 36, none⟩ = some (.pointer (some ⟨ca, 0, none⟩)) := (h.blk.cell 36).trans (heapC_tail h.rg 1)
theorem HeapX.c37 (h : HeapX w B b m s col hp al mp us fr rt hl ca sh S) : w.cell? ⟨hp, 37, none⟩ = some (.pointer (some ⟨sh, 0, none⟩)) := (h.blk.cell 37).trans (heapC_tail h.rg 2)
theorem HeapX.c38 (h : HeapX w B b m s col hp al mp us fr rt hl ca sh S) : w.cell? ⟨hp, 38, none⟩ = some (.bool false) := (h.blk.cell 38).trans (heapC_tail h.rg 3)
end
theorem hspace_any (B : Nat) (b : DB) (m : Nat) (s : DS) (col : Nat → Nat) (hp al mp us fr rt hl ca sh : Nat) (S : HS) (w : World) (h : HeapX w B b m s col hp al mp us fr rt hl ca sh S) :
    Calls Tryz.prog 16 #[.pointer (some ⟨hp, 0, none⟩)] w fun e w' => e = .returned (.pointer (some ⟨al, 0, none⟩)) ∧ w = w' := by
  have c1 := h.c1
  clear h
  go_enter Tryz.func16, Tryz.ntmps16
  go_wp2_with fail
  go_ret
  exact ⟨rfl, rfl⟩
theorem hdown_ok (hp : Nat) (w : World) : Calls Tryz.prog 56 #[.pointer (some ⟨hp, 0, none⟩), .int .i64 0] w fun e w' => e = .returned (.int .i64 0) ∧ w = w' := by
  go_enter Tryz.func56, Tryz.ntmps56
  go_wp2_with fail
  go_ret
  exact ⟨rfl, rfl⟩
theorem hdown_dead (hp d al rt hl ca sh : Nat) (rg : List Nat) (w : World) (h : Blk w hp 87 (heapC d al rt rg hl ca sh false)) (hr : rg.length = 32) :
    Calls Tryz.prog 56 #[.pointer (some ⟨hp, 0, none⟩), .int .i64 3] w fun e w' => e = .returned (.int .i64 3) ∧ Blk w' hp 87 (heapC d al rt rg hl ca sh true) ∧ Mod w w' (fun k => k = hp) := by
  have c38 : w.cell? ⟨hp, 38, none⟩ = some (.bool false) := (h.cell 38).trans (heapC_tail hr 3)
  have f38 := h.frozen 38
  have HB : Hid (Blk (w.setCell ⟨hp, 38, none⟩ (.bool true)) hp 87 (heapC d al rt rg hl ca sh true)) := by
    rw [← heapC_dead hr]
    exact h.set_ 38 _
  have HM : Hid (Mod w (w.setCell ⟨hp, 38, none⟩ (.bool true)) (fun k => k = hp)) := Mod.set (p := ⟨hp, 38, none⟩) (Mod.refl w (fun k => k = hp)) (.inr rfl) _
  clear h
  go_enter Tryz.func56, Tryz.ntmps56
  go_wp2_with fail
  go_ret
  exact ⟨rfl, HB.out, HM.out⟩
end Go.Proofs.YtcnjipicifkfjaaGreat

/- regs: All. -/
namespace Go.Proofs.YtcnjipicifkfjaaGreat
open Go.RowKit
set_option linter.unusedVariables false
set_option linter.unusedSimpArgs false

/-- What is gathered of numbers: the row that the call owns. -/
def GotN (l : List Nat) (B : Nat) (w0 : World) (v : Value) (wr : World) : Prop :=
  ∃ A n cap, v = .slice A n cap ∧ n = l.length ∧ Own wr B 3 1 A n cap (ncells l) ∧ Below B w0 wr ∧ B ≤ wr.heap.size
theorem GotN.same {l l' : List Nat} {B : Nat} {w0 wr : World} {v : Value} (h : GotN l B w0 v wr) (e : l' = l) : GotN l' B w0 v wr := by
  rw [e]; exact h
theorem ncells_snoc (l : List Nat) (x : Nat) : ncells (l ++ [x]) = ncells l ++ [.int .i64 (x : Nat)] := by simp [ncells]
/-- Where the first k registers lead that lead somewhere. -/
def alls (fs : List Nat) : Nat → List Nat
  | 0 => []
  | k + 1 => if fs.getD k 0 = 0 then alls fs k else alls fs k ++ [fs.getD k 0]
theorem alls_le (fs : List Nat) (k : Nat) : (alls fs k).length ≤ k := by
  induction k with
  | zero => exact Nat.le_refl _
  | succ k ih =>
    rw [alls]
    split
    · omega
    · rw [List.length_append]; simp; omega
theorem size3 : (Tryz.prog.info? 3).map (·.size) = some 1 := by kernel_rfl
theorem size81 : (Tryz.prog.info? 81).map (·.size) = some 32 := by kernel_rfl
set_option maxRecDepth 100000 in
set_option maxHeartbeats 1000000 in
theorem rall_any (g : Nat) (t : TypeId) (cs : Array Value) (rg : List Nat) (w : World) (hf : rg.length = 32) (hB : Blk w g t cs) (hs : 35 ≤ cs.size) (he : cs.extract 3 (3 + 32) = (ncells rg).toArray) :
    Calls Tryz.prog 65 #[.pointer (some ⟨g, 3, none⟩)] w fun e w' => ∃ v, e = .returned v ∧ GotN (alls rg 32) w.heap.size w v w' := by
  obtain ⟨i0, hi0, hz0, hz1, hz2⟩ := info3s
  have Hs := Lib.hid hs
  have Hf := Lib.hid hf
  have HB := Lib.hid hB
  have He := Lib.hid he
  have HC : Hid (∀ j, j < 32 → ((ncells rg).toArray)[j]? = some (.int .i64 (rg.getD j 0 : Nat))) := fun j hj => by rw [List.getElem?_toArray]; exact ncells_at rg j (by rw [hf]; exact hj)
  have Hsz : Hid ((ncells rg).toArray.size = 32) := by show (ncells rg).toArray.size = 32; rw [List.size_toArray, ncells_len, hf]
  clear hs hf hB he
  go_enter Tryz.func65, Tryz.ntmps65
  go_wp2_with (refine wpList_load_sub rfl (.tmp 10) rfl 3 32 rfl HB.out Tryz.underlying81 rfl size81 Hs.out ?_)
  rw [He.out]
  generalize (ncells rg).toArray = C at *
  go_loopw [3, 12] (fun v3 v12 wr => ∃ m : Nat, v12 = .int .i64 m ∧ m ≤ 4 ∧ GotN (alls rg (m * 8)) w.heap.size w v3 wr) (fun _ v12 _ => (4 - (intOf v12).toNat))
  case atStart => exact ⟨0, rfl, by omega, none, 0, 0, rfl, rfl, Own.nil _ _ _ _, Below.refl _ _, Nat.le_refl _⟩
  case round =>
    obtain ⟨m, rfl, hm, hgot⟩ := hrel
    have Hgot := Lib.hid hgot
    clear hgot
    by_cases hlt : m < 4
    · have hix : ∀ w, Sem.run Tryz.prog (Instr.index 81 (.agg C) (.int .i64 (m : Int))) w = .ok (.agg (C.extract (m * 8) (m * 8 + 8))) w :=
        fun w => run_index_sub 4 8 m Tryz.underlying81 Tryz.underlying80 rfl size80 hlt w
      have HR : Hid (∀ r, r < 8 → (C.extract (m * 8) (m * 8 + 8))[r]? = some (.int .i64 (rg.getD (m * 8 + r) 0 : Nat))) := by
        intro r hr
        rw [Array.getElem?_extract, if_pos (by rw [Hsz.out]; omega), HC.out _ (by omega)]
      have HRs : Hid ((C.extract (m * 8) (m * 8 + 8)).size = 8) := by
        show (C.extract (m * 8) (m * 8 + 8)).size = 8
        rw [Array.size_extract, Hsz.out]; omega
      have HR1 : Hid (∀ v ∈ (C.extract (m * 8) (m * 8 + 8)).toList, v.oneCell' = true) := by
        intro v hv
        obtain ⟨j, hj, rfl⟩ := List.mem_iff_getElem.1 hv
        have hj8 : j < 8 := by rw [Array.length_toList, HRs.out] at hj; exact hj
        have := HR.out j hj8
        rw [Array.getElem?_eq_getElem (by rw [HRs.out]; exact hj8)] at this
        simp only [Array.getElem_toList]
        rw [Option.some.inj this]
        rfl
      generalize C.extract (m * 8) (m * 8 + 8) = R at *
      obtain ⟨A, n, cap, rfl, hn, hO, hb, hB⟩ := Hgot.out
      have HO := Lib.hid hO
      have Hn := Lib.hid hn
      have Hb := Lib.hid hb
      clear hn hO hb Hgot
      go_wp2_with (refine wpList_store_row rfl (.tmp 5) (.tmp 14) rfl rfl rfl (Blk.new _ _ _) (by rw [HRs.out]; exact size80) (by rw [HRs.out]; rfl) HR1.out ?_)
      intro w2 hB2 hM2
      have HB2 := Lib.hid hB2
      have HO2 := Lib.hid ((HO.out.alloc _).mod hM2 (fun a ha h => by have := (HO.out.lt a ha).2; omega))
      have Hb2 := Lib.hid (Below.mod (Hb.out.alloc Hb.out.size _) hM2 (by simp; exact Nat.le_succ_of_le Hb.out.size) (fun k _ hk => by rw [hk]; exact Hb.out.size))
      have hB2s : w.heap.size ≤ w2.heap.size := Hb2.out.size
      clear hB2 hM2 HO Hb hix
      go_wp2_with (refine wpList_load_row rfl 80 (.tmp 5) rfl _ rfl 80 R (0, 0) _ HB2.out Tryz.underlying80 rfl (by rw [HRs.out]; exact size80) ?_)
      have HG : Hid (GotN (alls rg (m * 8 + 0)) w.heap.size w (.slice A n cap) w2) := ⟨A, n, cap, rfl, Hn.out, HO2.out, Hb2.out, hB2s⟩
      clear HO2 Hb2 hB2s HB2 Hn
      go_loopw [3, 16] (fun v3 v16 wr => ∃ r : Nat, v16 = .int .i64 r ∧ r ≤ 8 ∧ GotN (alls rg (m * 8 + r)) w.heap.size w v3 wr) (fun _ v16 _ => (8 - (intOf v16).toNat))
      case atStart => exact ⟨0, rfl, by omega, HG.out⟩
      case round =>
        clear HG
        obtain ⟨r, rfl, hr, hgot⟩ := hrel
        have Hgot := Lib.hid hgot
        clear hgot
        by_cases hlr : r < 8
        · have hix : ∀ w, Sem.run Tryz.prog (Instr.index 80 (.agg R) (.int .i64 (r : Int))) w = .ok (.int .i64 (rg.getD (m * 8 + r) 0 : Nat)) w :=
            fun w => run_index_one 8 r _ Tryz.underlying80 Tryz.underlying3 rfl size3 hlr (HR.out r hlr) w
          have HS : Hid (alls rg (m * 8 + (r + 1)) = if rg.getD (m * 8 + r) 0 = 0 then alls rg (m * 8 + r) else alls rg (m * 8 + r) ++ [rg.getD (m * 8 + r) 0]) := rfl
          have hle := alls_le rg (m * 8 + r)
          generalize rg.getD (m * 8 + r) 0 = y at *
          by_cases hy : y = 0
          · have HS2 : Hid (alls rg (m * 8 + (r + 1)) = alls rg (m * 8 + r)) := by show _ = _; rw [HS.out, if_pos hy]
            subst hy
            clear HS
            go_wp2_with fail
            exact ⟨⟨r + 1, by go_num, by omega, Hgot.out.same HS2.out⟩, by simp [intOf]; omega⟩
          · have HS2 : Hid (alls rg (m * 8 + (r + 1)) = alls rg (m * 8 + r) ++ [y]) := by show _ = _; rw [HS.out, if_neg hy]
            have hb0 : ((y : Int) != 0) = true := by simpa using hy
            have hb1 : (y != 0) = true := by simpa using hy
            clear hy HS
            obtain ⟨A3, n3, cap3, rfl, hn, hO, hb, hB⟩ := Hgot.out
            rw [← hn] at hle
            have HO := Lib.hid hO
            have Hn := Lib.hid hn
            have Hb := Lib.hid hb
            clear hn hO hb Hgot
            go_wp2_with (at_builtin; (refine append_elem rfl (.tmp 21) (.tmp 23) 60 rfl w.heap.size 3 i0 _ 1 8 Tryz.underlying60 hi0 hz0 hz1 hz2 rfl (by omega) A3 n3 cap3 _ rfl HO.out [.int .i64 y] rfl rfl (by simp [Value.oneCell']) (by unfold maxLen; omega) (by omega) hB ?_))
            intro A4 cap4 w4 hO4 hM4 hat4
            have HO4 := Lib.hid hO4
            have Hb4 := Lib.hid (Below.mod Hb.out hM4 hB (fun k _ ⟨a, ha, e⟩ => by rw [← e]; exact (HO.out.lt a ha).1))
            clear hO4 hM4 hat4
            go_wp2_with fail
            refine ⟨⟨r + 1, by go_num, by omega, A4, n3 + 1, cap4, rfl, ?_, ?_, Hb4.out, Hb4.out.size⟩, by simp [intOf]; omega⟩
            · rw [HS2.out, List.length_append, ← Hn.out]; rfl
            · rw [HS2.out, ncells_snoc]; exact HO4.out
        · obtain rfl : r = 8 := by omega
          go_wp2_with fail
          exact ⟨⟨m + 1, by go_num, by omega, by rw [show (m + 1) * 8 = m * 8 + 8 by omega]; exact Hgot.out⟩, by simp [intOf]; omega⟩
    · obtain rfl : m = 4 := by omega
      obtain ⟨A, n, cap, rfl, hn, hO, hb, hB⟩ := Hgot.out
      have HO := Lib.hid hO
      have Hn := Lib.hid hn
      have Hb := Lib.hid hb
      clear hn hO hb Hgot
      go_wp2
      go_ret
      exact ⟨_, rfl, A, n, cap, rfl, Hn.out, HO.out, Hb.out, hB⟩
end Go.Proofs.YtcnjipicifkfjaaGreat

/- heap: Live, Working. -/
namespace Go.Proofs.YtcnjipicifkfjaaGreat
open Go.RowKit
set_option linter.unusedVariables false
set_option linter.unusedSimpArgs false

theorem alls_mem (fs : List Nat) (k x : Nat) (h : x ∈ alls fs k) : x ∈ fs := by
  induction k with
  | zero => simp [alls] at h
  | succ k ih =>
    rw [alls] at h
    split at h
    · exact ih h
    · rename_i hne
      rcases List.mem_append.1 h with h | h
      · exact ih h
      · rw [List.mem_singleton] at h
        rw [h, List.getD_eq_getElem?_getD] at *
        rcases Nat.lt_or_ge k fs.length with hk | hk
        · rw [List.getElem?_eq_getElem hk, Option.getD_some]; exact List.getElem_mem hk
        · rw [List.getElem?_eq_none hk] at hne; exact absurd rfl hne
theorem getD_mem (l : List Nat) (j : Nat) : l.getD j 0 ∈ l ∨ l.getD j 0 = 0 := by
  rw [List.getD_eq_getElem?_getD]
  rcases Nat.lt_or_ge j l.length with hk | hk
  · rw [List.getElem?_eq_getElem hk, Option.getD_some]; exact .inl (List.getElem_mem hk)
  · rw [List.getElem?_eq_none hk]; exact .inr rfl
/-- All that one comes to from what one works with. -/
def liveM (s : DS) (p : Nat) (S : HS) : Nat → Bool := resetM S.A.used (nx s p) (512 * S.A.K + 1) (alls S.rg 32 ++ S.ws) (alls S.rg 32 ++ S.ws).length
set_option maxRecDepth 100000 in
set_option maxHeartbeats 2000000 in
theorem hlive_any (B : Nat) (b : DB) (m : Nat) (s : DS) (col : Nat → Nat) (hp al mp us fr rt hl ca sh p : Nat) (S : HS) (w : World) (h : HeapX w B b m s col hp al mp us fr rt hl ca sh S) (hn : ∀ k, w.heap.size ≤ k → col k = 9)
    (hws : S.ws.length = 8) (hu0 : S.A.used 0 = false) (hob : OB s m S.A.used p) (hle : ∀ x, x ∈ S.rg ∨ x ∈ S.ws → x ≤ 1099511627776) :
    Calls Tryz.prog 21 #[.pointer (some ⟨hp, 0, none⟩)] w fun e w' => ∃ A cap, e = .returned (.slice A (setL (liveM s p S) (8 * S.A.K)).length cap) ∧ Own w' w.heap.size 3 1 A (setL (liveM s p S) (8 * S.A.K)).length cap (ncells (setL (liveM s p S) (8 * S.A.K))) ∧ Below w.heap.size w w' := by
  have c2 := h.c2
  obtain ⟨r0, r1, r2, r3, r4, r5, r6, r7, hws2⟩ := eight S.ws hws
  have Hwo : Hid (Calls Tryz.prog 64 #[.pointer (some ⟨rt, 0, none⟩)] w fun e w' => e = .returned (.agg #[.int .i64 r0, .int .i64 r1, .int .i64 r2, .int .i64 r3, .int .i64 r4, .int .i64 r5, .int .i64 r6, .int .i64 r7]) ∧ Below w.heap.size w w') := by
    have := rworking_any _ rt b.d _ _ _ _ w h.r
    rw [hws2] at this
    exact this
  have HwL : Hid (S.ws = [r0, r1, r2, r3, r4, r5, r6, r7]) := hws2
  have HXb : Hid (∀ wr, Below w.heap.size w wr → HeapX wr B b m s col hp al mp us fr rt hl ca sh S) := fun wr hb => h.below hb
  have Hhn : Hid (∀ wr, Below w.heap.size w wr → _) := fun wr hb => hnew_any B b m s col al S.A wr (h.below hb).dev (h.below hb).a.r h.hm (by have := h.k3; omega) (by have := h.k4; omega)
  have Hra : Hid (∀ wr, Below w.heap.size w wr → _) := fun wr hb => rall_any hp 87 _ S.rg wr h.rg (h.below hb).blk (by rw [heapC_size h.rg]; omega) (heapC_ext h.rg)
  obtain ⟨i0, hi0, hz0, hz1, hz2⟩ := info3s
  obtain ⟨lv, Hlv⟩ : ∃ lv, Hid (setL (liveM s p S) (8 * S.A.K) = lv) := ⟨_, rfl⟩
  rw [Hlv.out]
  obtain ⟨ql, Hql⟩ : ∃ q, Hid ((alls S.rg 32).length = q) := ⟨_, rfl⟩
  have hql : ql ≤ 32 := by rw [← Hql.out]; exact alls_le _ _
  have Hre : Hid (∀ (F : Nat → Prop) hl2 A cap st wr, Below w.heap.size w wr → HeldR wr F hl2 al S.A.K st → (∀ k, F k → w.heap.size ≤ k ∧ k < wr.heap.size) → Rd wr 1 A (ql + 8) (ncells (alls S.rg 32 ++ S.ws)) → (∀ a, A = some a → ¬ F a.block) → Calls Tryz.prog 46 #[.pointer (some ⟨hl2, 0, none⟩), .slice A (ql + 8) cap] wr fun e w' => (∃ v, e = .returned v) ∧ HeldR w' F hl2 al S.A.K (liveM s p S) ∧ Mod wr w' F) := by
    intro F hl2 A cap st wr hb hh hF hr hA
    have hX := h.below hb
    have := hreset_any B b m s F col hl2 al p (ql + 8) cap A (alls S.rg 32 ++ S.ws) S.A st wr hX.dev hX.a.r hh hX.hdv (fun k hk => by have := hn k (hF k hk).1; omega) (fun k hk => (hF k hk).2) hob hu0 hX.hm (by have := hX.k3; omega) (by have := hX.k4; omega) hr (by omega) hA (fun j => by
      rcases getD_mem (alls S.rg 32 ++ S.ws) j with h1 | h1
      · rcases List.mem_append.1 h1 with h1 | h1
        · exact hle _ (.inl (alls_mem _ _ _ h1))
        · exact hle _ (.inr h1)
      · omega)
    have he : liveM s p S = resetM S.A.used (nx s p) (512 * S.A.K + 1) (alls S.rg 32 ++ S.ws) (ql + 8) := by
      unfold liveM
      rw [List.length_append, Hql.out, hws]
    rw [he]
    exact this
  have Hli : Hid (∀ F hl2 wr, HeldR wr F hl2 al S.A.K (liveM s p S) → _) := fun F hl2 wr hh => hlist_any F hl2 al S.A.K (liveM s p S) wr hh (by have := h.k3; omega) (by have := h.k4; omega)
  rw [Hlv.out] at Hli
  have Hnc : Hid (ncells (alls S.rg 32) ++ ncells S.ws = ncells (alls S.rg 32 ++ S.ws)) := (List.map_append ..).symm
  clear h hws2
  go_enter Tryz.func21, Tryz.ntmps21
  go_wp2_with fail
  refine Hwo.out.mono ?_
  rintro e w1 ⟨rfl, hb1⟩
  obtain ⟨n3, Hn3⟩ : ∃ n, Hid (w1.heap.size = n) := ⟨_, rfl⟩
  have L1 := Lib.hid (((Loc.nil Nob w).call hb1 (Nat.le_refl _)).box 80 #[.int .i64 r0, .int .i64 r1, .int .i64 r2, .int .i64 r3, .int .i64 r4, .int .i64 r5, .int .i64 r6, .int .i64 r7] n3 Hn3.out)
  have c1 := (HXb.out _ L1.out.below).c1
  clear hb1 c2 Hwo
  go_wp2_with fail
  rw [Hn3.out]
  generalize w1.alloc _ = w2 at *
  refine (Hhn.out _ L1.out.below).mono ?_
  rintro e w3 ⟨hl2, rfl, hhl, hh, hb3⟩
  have L3 := Lib.hid (L1.out.call hb3 (Nat.le_refl _))
  have HH3 := Lib.hid hh
  have Hhl : Hid (w2.heap.size ≤ hl2) := hhl
  clear c1 hhl hh hb3 Hhn
  go_wp2_with fail
  have L4 := Lib.hid L3.out.drew
  have hsz2 : w.heap.size ≤ w2.heap.size := L1.out.below.size
  have hsz3 : w.heap.size ≤ w3.heap.size := L3.out.below.size
  have Hap : Hid (∀ A4 cap4 w4 w5, Below w.heap.size w w4 → Own w4 w3.heap.size 3 1 A4 ql cap4 (ncells (alls S.rg 32)) → HeldR w4 (fun k => (w2.heap.size ≤ k ∧ k ≠ hl2) ∧ k < w3.heap.size) hl2 al S.A.K (fun _ => false) → w3.heap.size ≤ w4.heap.size → Mod w4 w5 (fun k => ∃ a, A4 = some a ∧ a.block = k) → Below w.heap.size w w5 ∧ HeldR w5 (fun k => (w2.heap.size ≤ k ∧ k ≠ hl2) ∧ k < w3.heap.size) hl2 al S.A.K (fun _ => false) ∧ w3.heap.size ≤ w5.heap.size) := by
    intro A4 cap4 w4 w5 hb hO hH hz hM
    have hlt := HH3.out.lt
    exact ⟨Below.mod hb hM hb.size (fun k _ hk => by obtain ⟨a, ha, e⟩ := hk; have := (hO.lt a ha).1; omega), hH.mod hM (fun k hk e => by obtain ⟨a, ha, e⟩ := e; have := (hO.lt a ha).1; omega) (fun e => by obtain ⟨a, ha, e⟩ := e; have h1 := (hO.lt a ha).1; omega), Nat.le_trans hz hM.size⟩
  go_region_held3 (fun W => True)
    (trivial)
    (first
      | (refine step_append_rd (by rfl) (.tmp 19) (.tmp 20) 60 (by rfl) w3.heap.size 3 i0 _ 1 8 Tryz.underlying60 hi0 hz0 hz1 hz2 rfl (by omega) A4 ql cap4 (ncells (alls S.rg 32)) (by rfl) HO4.out (some ⟨n3, 0, none⟩) 8 8 (ncells S.ws) (by rfl) (HR4.out) ncells_one (ql + 8) rfl (ncells (alls S.rg 32 ++ S.ws)) Hnc.out (by unfold maxLen; omega) (by omega) HS4.out ?_; intro A5 cap5 w5 hO5 hM5 hat5; have HO5 := Lib.hid hO5; obtain ⟨hq1, hq2, hq3⟩ := Hap.out A4 cap4 w4 w5 L4.out.below HO4.out HH4.out HS4.out hM5; have HB5 := Lib.hid hq1; have HH5 := Lib.hid hq2; have HS5 := Lib.hid hq3; clear hO5 hM5 hat5 hq1 hq2 hq3)
      | (go_at_call 65; refine (Hra.out _ L4.out.below).mono ?_; rintro e w4 ⟨v, rfl, hG⟩; obtain ⟨A4, n4, cap4, rfl, hnl, hO4, hb4, _⟩ := hG; rw [Hql.out] at hnl; replace hnl := hnl.symm; subst hnl; replace L4 := Lib.hid (L4.out.call hb4 (Nat.le_refl _)); have HO4 : Hid (Own w4 w3.heap.size 3 1 A4 ql cap4 (ncells (alls S.rg 32))) := hO4; have HS4 : Hid (w3.heap.size ≤ w4.heap.size) := hb4.size; have HR4 : Hid (Rd w4 1 (some ⟨n3, 0, none⟩) 8 (ncells S.ws)) := ⟨by rw [HwL.out]; rfl, fun _ => ⟨n3, 0, rfl, L4.out.b0.lt, fun i u hu => by rw [Nat.zero_add, L4.out.b0.cell i, ← hu, HwL.out]; simp [ncells]⟩⟩; have HH4 : Hid (HeldR w4 (fun k => (w2.heap.size ≤ k ∧ k ≠ hl2) ∧ k < w3.heap.size) hl2 al S.A.K (fun _ => false)) := ((HH3.out.weak (F' := fun k => (w2.heap.size ≤ k ∧ k ≠ hl2) ∧ k < w3.heap.size) (fun k hk h => ⟨h, hk⟩) (fun h => h.1.2 rfl)).below (below_drewN (Below.refl w3.heap.size w3) 1) (Nat.le_refl _)).below hb4 (Nat.le_refl _); clear hO4 hb4)
      | (go_at_call 46; refine (Hre.out _ _ A5 cap5 _ w5 HB5.out HH5.out (fun k hk => ⟨Nat.le_trans hsz2 hk.1.1, Nat.lt_of_lt_of_le hk.2 HS5.out⟩) (by have := HO5.out.rd; simpa [ncells] using this) (fun a ha h => by have := (HO5.out.lt a ha).1; omega)).mono ?_; rintro e w6 ⟨⟨v6, rfl⟩, hh6, hM6⟩; have HH6 := Lib.hid hh6; have HB6 : Hid (Below w.heap.size w w6) := Below.mod HB5.out hM6 HB5.out.size (fun k _ hk => Nat.le_trans hsz2 hk.1.1); clear hh6 hM6))
  go_wp2_with fail
  refine (Hli.out _ _ _ HH6.out).mono ?_
  rintro e w7 ⟨A7, cap7, rfl, hO7, hb7⟩
  have hsz6 : w.heap.size ≤ w6.heap.size := HB6.out.size
  go_wp2_with fail
  go_ret
  exact ⟨A7, cap7, rfl, hO7.base_ hsz6, HB6.out.trans (hb7.mono hsz6)⟩
end Go.Proofs.YtcnjipicifkfjaaGreat
