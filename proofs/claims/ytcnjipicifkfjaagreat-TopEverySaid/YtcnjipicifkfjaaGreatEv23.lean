/- roots: Open, Get, Set, Working, Lasting. -/
import Derived.Test.YtcnjipicifkfjaaGreatEv22
import Derived.Test.YtcnjipicifkfjaaGreatEv21
import Derived.Test.YtcnjipicifkfjaaGreatEv08
import Derived.Test.YtcnjipicifkfjaaGreatEv19
import Derived.Test.YtcnjipicifkfjaaGreatEv20
import Derived.Test.YtcnjipicifkfjaaGreatEv16

namespace Go.Proofs.YtcnjipicifkfjaaGreat
open Go.RowKit
set_option linter.unusedVariables false
set_option linter.unusedSimpArgs false

theorem eight (l : List Nat) (h : l.length = 8) : ∃ a b c d e f g i, l = [a, b, c, d, e, f, g, i] := by
  match l, h with
  | [a, b, c, d, e, f, g, i], _ => exact ⟨_, _, _, _, _, _, _, _, rfl⟩
/-- A table of roots: its device's block, the slot that lasts, which of the two it is, and the working roots. -/
def rootsC (d ep wh : Nat) (rs ws : List Nat) : Array Value := (Value.pointer (some ⟨d, 0, none⟩) :: .int .u64 ep :: ncells rs ++ .int .i64 wh :: ncells ws).toArray
def RootR (w : World) (F : Nat → Prop) (rt d ep wh : Nat) (rs ws : List Nat) : Prop := Blk w rt 174 (rootsC d ep wh rs ws) ∧ rs.length = 8 ∧ ws.length = 8 ∧ F rt
section
variable {w w' : World} {F F' S : Nat → Prop} {rt d ep wh : Nat} {rs ws : List Nat}
theorem RootR.mod (h : RootR w F rt d ep wh rs ws) (m : Mod w w' S) (hs' : ∀ k, F k → ¬ S k) : RootR w' F rt d ep wh rs ws := ⟨m.blk h.1 (hs' _ h.2.2.2), h.2⟩
theorem RootR.weak (h : RootR w F rt d ep wh rs ws) (hF : ∀ k, k < w.heap.size → F k → F' k) : RootR w F' rt d ep wh rs ws := ⟨h.1, h.2.1, h.2.2.1, hF _ h.1.lt h.2.2.2⟩
theorem RootR.below {B : Nat} (h : RootR w F rt d ep wh rs ws) (hb : Below B w w') (hB : w.heap.size ≤ B) : RootR w' F rt d ep wh rs ws := ⟨h.1.below hb (Nat.lt_of_lt_of_le h.1.lt hB), h.2⟩
end
set_option maxRecDepth 100000 in
set_option maxHeartbeats 2000000 in
theorem ropen_any (B : Nat) (b : DB) (m : Nat) (s : DS) (ep wh : Nat) (rs : List Nat) (w : World) (h : Dev B w b m s) (hm0 : 64 ≤ m) (hm : m ≤ 100000) (S0 : Slot16 (slotOf s 0)) (S1 : Slot16 (slotOf s 1))
    (hc : chooseM (sdecM (slotOf s 0)) (sdecM (slotOf s 1)) = ((ep, rs), wh, true)) (hl : rs.length = 8) :
    Calls Tryz.prog 131 #[.pointer (some ⟨b.d, 0, none⟩)] w fun e w' => ∃ rt, e = .returned (.tuple #[.pointer (some ⟨rt, 0, none⟩), .int .i64 0]) ∧ RootR w' (fun k => w.heap.size ≤ k) rt b.d ep wh rs rs ∧ Below w.heap.size w w' := by
  have Hr0 := Lib.hid (fun w (h : Dev B w b m s) => rread_any B b m s 0 w h (by omega) hm0 hm)
  have Hr1 := Lib.hid (fun w (h : Dev B w b m s) => rread_any B b m s 1 w h (by omega) hm0 hm)
  have Hc := Lib.hid (fun w => choose_any (slotOf s 0) (slotOf s 1) w S0 S1)
  rw [hc] at Hc
  have HD := Lib.hid h
  generalize slotOf s 0 = La at *
  generalize slotOf s 1 = Lb at *
  obtain ⟨r0, r1, r2, r3, r4, r5, r6, r7, rfl⟩ := eight rs hl
  obtain ⟨A, HA⟩ : ∃ A, Hid ((wcells La).toArray = A) := ⟨_, rfl⟩
  obtain ⟨A2, HA2⟩ : ∃ A, Hid ((wcells Lb).toArray = A) := ⟨_, rfl⟩
  rw [HA.out] at Hr0 Hc
  rw [HA2.out] at Hr1 Hc
  have hsc : scells ep [r0, r1, r2, r3, r4, r5, r6, r7] = #[.int .u64 ep, .int .i64 r0, .int .i64 r1, .int .i64 r2, .int .i64 r3, .int .i64 r4, .int .i64 r5, .int .i64 r6, .int .i64 r7] := rfl
  simp only [hsc] at Hc
  clear h hc S0 S1 HA HA2 hsc
  go_enter Tryz.func131, Tryz.ntmps131
  go_wp2_with fail
  refine (Hr0.out _ HD.out).mono ?_
  rintro e w1 ⟨rfl, hb1⟩
  have HB1 := Lib.hid hb1
  have HD1 := Lib.hid (HD.out.below hb1 (Nat.le_refl _))
  clear hb1 HD
  go_wp2_with fail
  refine (Hr1.out _ HD1.out).mono ?_
  rintro e w2 ⟨rfl, hb2⟩
  have HB2 := Lib.hid (HB1.out.trans (hb2.mono HB1.out.size))
  clear hb2 HD1 HB1
  go_wp2_with fail
  refine (Hc.out _).mono ?_
  rintro e w3 ⟨rfl, hb3⟩
  have HB3 := Lib.hid (HB2.out.trans (hb3.mono HB2.out.size))
  clear hb3 HB2
  obtain ⟨n4, Hn4⟩ : ∃ n, Hid (w3.heap.size = n) := ⟨_, rfl⟩
  go_wp2_with fail
  have hn5 : w3.heap.size + 1 = n4 + 1 := by rw [Hn4.out]
  rw [hn5]
  have LE := Lib.hid (((Loc.nil Nob w3).box 172 #[.int .u64 ep, .int .i64 r0, .int .i64 r1, .int .i64 r2, .int .i64 r3, .int .i64 r4, .int .i64 r5, .int .i64 r6, .int .i64 r7] n4 Hn4.out).box 174 (rootsC b.d ep wh [r0, r1, r2, r3, r4, r5, r6, r7] [r0, r1, r2, r3, r4, r5, r6, r7]) (n4 + 1) (by rw [World.size_alloc, Hn4.out]))
  refine bodyPost_ret (results_tmp2 rfl _ _ _) rfl ?_
  refine ⟨n4 + 1, rfl, ⟨LE.out.b0, rfl, rfl, ?_⟩, HB3.out.trans (LE.out.below.mono HB3.out.size)⟩
  have := HB3.out.size
  have := Hn4.out
  show w.heap.size ≤ n4 + 1
  omega
theorem rootsC_ws (d ep wh : Nat) (rs ws : List Nat) (hr : rs.length = 8) (i : Nat) (hi : i < ws.length) : (rootsC d ep wh rs ws)[11 + i]? = some (.int .i64 (ws.getD i 0 : Nat)) := by
  obtain ⟨r0, r1, r2, r3, r4, r5, r6, r7, rfl⟩ := eight rs hr
  rw [Nat.add_comm]
  unfold rootsC
  rw [List.getElem?_toArray]
  show (ncells ws)[i]? = _
  simp [ncells, hi]
theorem rootsC_set (d ep wh : Nat) (rs ws : List Nat) (hr : rs.length = 8) (i v : Nat) : (rootsC d ep wh rs ws).setIfInBounds (11 + i) (.int .i64 (v : Nat)) = rootsC d ep wh rs (ws.set i v) := by
  obtain ⟨r0, r1, r2, r3, r4, r5, r6, r7, rfl⟩ := eight rs hr
  rw [Nat.add_comm]
  unfold rootsC
  rw [List.setIfInBounds_toArray]
  congr 1
  show _ :: _ :: _ :: _ :: _ :: _ :: _ :: _ :: _ :: _ :: _ :: (ncells ws).set i _ = _
  have : (ncells ws).set i (.int .i64 (v : Nat)) = ncells (ws.set i v) := by unfold ncells; rw [List.map_set]
  rw [this]
  rfl
theorem rget_any (F : Nat → Prop) (rt d ep wh i : Nat) (rs ws : List Nat) (w : World) (h : RootR w F rt d ep wh rs ws) (hi : i < 8) :
    Calls Tryz.prog 73 #[.pointer (some ⟨rt, 0, none⟩), .int .i64 i] w fun e w' => e = .returned (.tuple #[.int .i64 (ws.getD i 0 : Nat), .int .i64 0]) ∧ w = w' := by
  have c0 : w.cell? ⟨rt, 11 + i, none⟩ = some (.int .i64 (ws.getD i 0 : Nat)) := (h.1.cell (11 + i)).trans (rootsC_ws d ep wh rs ws h.2.1 i (by rw [h.2.2.1]; exact hi))
  have g1 : decide ((i : Int) < 0) = false := by rw [decide_eq_false_iff_not]; omega
  have g2 : decide ((i : Int) ≥ 8) = false := by rw [decide_eq_false_iff_not]; omega
  have g3 : decide (8 ≤ i) = false := by rw [decide_eq_false_iff_not]; omega
  go_enter Tryz.func73, Tryz.ntmps73
  go_wp2_with fail
  go_ret2
  exact ⟨rfl, rfl⟩
theorem rset_any (F : Nat → Prop) (rt d ep wh i v : Nat) (rs ws : List Nat) (w : World) (h : RootR w F rt d ep wh rs ws) (hi : i < 8) (hv : v < 131072) :
    Calls Tryz.prog 83 #[.pointer (some ⟨rt, 0, none⟩), .int .i64 i, .int .i64 v] w fun e w' => e = .returned (.int .i64 0) ∧ RootR w' F rt d ep wh rs (ws.set i v) ∧ Mod w w' (fun k => k = rt) := by
  have c0 : w.cell? ⟨rt, 11 + i, none⟩ = some (.int .i64 (ws.getD i 0 : Nat)) := (h.1.cell (11 + i)).trans (rootsC_ws d ep wh rs ws h.2.1 i (by rw [h.2.2.1]; exact hi))
  have HR : Hid (RootR (w.setCell ⟨rt, 11 + i, none⟩ (.int .i64 v)) F rt d ep wh rs (ws.set i v) ∧ Mod w (w.setCell ⟨rt, 11 + i, none⟩ (.int .i64 v)) (fun k => k = rt)) := by
    refine ⟨⟨?_, h.2.1, by rw [List.length_set]; exact h.2.2.1, h.2.2.2⟩, Mod.set (p := ⟨rt, 11 + i, none⟩) (Mod.refl w (fun k => k = rt)) (.inr rfl) _⟩
    rw [← rootsC_set _ _ _ _ _ h.2.1]
    exact h.1.set_ (11 + i) _
  have hf : w.frozen? ⟨rt, 11 + i, none⟩ = false := h.1.frozen (11 + i)
  have g1 : decide ((i : Int) < 0) = false := by rw [decide_eq_false_iff_not]; omega
  have g2 : decide ((i : Int) ≥ 8) = false := by rw [decide_eq_false_iff_not]; omega
  have g3 : decide (8 ≤ i) = false := by rw [decide_eq_false_iff_not]; omega
  have g4 : decide ((v : Int) < 0) = false := by rw [decide_eq_false_iff_not]; omega
  have g5 : decide ((v : Int) ≥ 131072) = false := by rw [decide_eq_false_iff_not]; omega
  have g6 : decide (131072 ≤ v) = false := by rw [decide_eq_false_iff_not]; omega
  clear h
  go_enter Tryz.func83, Tryz.ntmps83
  go_wp2_with fail
  go_ret
  exact ⟨rfl, HR.out⟩
set_option maxRecDepth 100000 in
set_option maxHeartbeats 2000000 in
theorem rworking_any (F : Nat → Prop) (rt d ep wh : Nat) (rs ws : List Nat) (w : World) (h : RootR w F rt d ep wh rs ws) :
    Calls Tryz.prog 64 #[.pointer (some ⟨rt, 0, none⟩)] w fun e w' => e = .returned (.agg (ncells ws).toArray) ∧ Below w.heap.size w w' := by
  obtain ⟨r0, r1, r2, r3, r4, r5, r6, r7, hr⟩ := eight ws h.2.2.1
  obtain ⟨s0, s1, s2, s3, s4, s5, s6, s7, hs⟩ := eight rs h.2.1
  obtain ⟨hb, _⟩ := h
  rw [hr, hs] at hb
  obtain ⟨q, Hq⟩ : ∃ n, Hid (w.heap.size = n) := ⟨_, rfl⟩
  have HB : ∀ Z, Hid (Below w.heap.size w (w.alloc (.cells Z 80))) := fun Z => (Below.refl w.heap.size w).alloc (Nat.le_refl _) _
  have HC : ∀ Z, Hid (Blk (w.alloc (.cells Z 80)) q 80 Z) := fun Z => by rw [← Hq.out]; exact Blk.new w 80 Z
  obtain ⟨Z, HZ⟩ : ∃ Z, Hid ((#[.int .i64 0, .int .i64 0, .int .i64 0, .int .i64 0, .int .i64 0, .int .i64 0, .int .i64 0, .int .i64 0] : Array Value) = Z) := ⟨_, rfl⟩
  have c0 : (w.alloc (.cells Z 80)).cell? ⟨rt, 11, none⟩ = some (.int .i64 (r0 : Nat)) := (hb.alloc _).cell 11
  have c1 : (w.alloc (.cells Z 80)).cell? ⟨rt, 12, none⟩ = some (.int .i64 (r1 : Nat)) := (hb.alloc _).cell 12
  have c2 : (w.alloc (.cells Z 80)).cell? ⟨rt, 13, none⟩ = some (.int .i64 (r2 : Nat)) := (hb.alloc _).cell 13
  have c3 : (w.alloc (.cells Z 80)).cell? ⟨rt, 14, none⟩ = some (.int .i64 (r3 : Nat)) := (hb.alloc _).cell 14
  have c4 : (w.alloc (.cells Z 80)).cell? ⟨rt, 15, none⟩ = some (.int .i64 (r4 : Nat)) := (hb.alloc _).cell 15
  have c5 : (w.alloc (.cells Z 80)).cell? ⟨rt, 16, none⟩ = some (.int .i64 (r5 : Nat)) := (hb.alloc _).cell 16
  have c6 : (w.alloc (.cells Z 80)).cell? ⟨rt, 17, none⟩ = some (.int .i64 (r6 : Nat)) := (hb.alloc _).cell 17
  have c7 : (w.alloc (.cells Z 80)).cell? ⟨rt, 18, none⟩ = some (.int .i64 (r7 : Nat)) := (hb.alloc _).cell 18
  rw [← HZ.out] at c0 c1 c2 c3 c4 c5 c6 c7
  clear hb
  go_enter Tryz.func64, Tryz.ntmps64
  go_wp2_with fail
  rw [Hq.out]
  refine bodyPost_ret (results_cell_row rfl _ _ q 80 _ _ _ rfl (HC #[.int .i64 (r0 : Nat), .int .i64 (r1 : Nat), .int .i64 (r2 : Nat), .int .i64 (r3 : Nat), .int .i64 (r4 : Nat), .int .i64 (r5 : Nat), .int .i64 (r6 : Nat), .int .i64 (r7 : Nat)]).out Tryz.underlying80 rfl size80) rfl ?_
  rw [hr]
  exact ⟨rfl, Hq.out ▸ (HB _).out⟩
set_option maxRecDepth 100000 in
set_option maxHeartbeats 2000000 in
theorem rlasting_any (F : Nat → Prop) (rt d ep wh : Nat) (rs ws : List Nat) (w : World) (h : RootR w F rt d ep wh rs ws) :
    Calls Tryz.prog 85 #[.pointer (some ⟨rt, 0, none⟩)] w fun e w' => e = .returned (.agg (ncells rs).toArray) ∧ Below w.heap.size w w' := by
  obtain ⟨r0, r1, r2, r3, r4, r5, r6, r7, hr⟩ := eight rs h.2.1
  obtain ⟨s0, s1, s2, s3, s4, s5, s6, s7, hs⟩ := eight ws h.2.2.1
  obtain ⟨hb, _⟩ := h
  rw [hr, hs] at hb
  obtain ⟨q, Hq⟩ : ∃ n, Hid (w.heap.size = n) := ⟨_, rfl⟩
  have HB : ∀ Z, Hid (Below w.heap.size w (w.alloc (.cells Z 80))) := fun Z => (Below.refl w.heap.size w).alloc (Nat.le_refl _) _
  have HC : ∀ Z, Hid (Blk (w.alloc (.cells Z 80)) q 80 Z) := fun Z => by rw [← Hq.out]; exact Blk.new w 80 Z
  obtain ⟨Z, HZ⟩ : ∃ Z, Hid ((#[.int .i64 0, .int .i64 0, .int .i64 0, .int .i64 0, .int .i64 0, .int .i64 0, .int .i64 0, .int .i64 0] : Array Value) = Z) := ⟨_, rfl⟩
  have c0 : (w.alloc (.cells Z 80)).cell? ⟨rt, 2, none⟩ = some (.int .i64 (r0 : Nat)) := (hb.alloc _).cell 2
  have c1 : (w.alloc (.cells Z 80)).cell? ⟨rt, 3, none⟩ = some (.int .i64 (r1 : Nat)) := (hb.alloc _).cell 3
  have c2 : (w.alloc (.cells Z 80)).cell? ⟨rt, 4, none⟩ = some (.int .i64 (r2 : Nat)) := (hb.alloc _).cell 4
  have c3 : (w.alloc (.cells Z 80)).cell? ⟨rt, 5, none⟩ = some (.int .i64 (r3 : Nat)) := (hb.alloc _).cell 5
  have c4 : (w.alloc (.cells Z 80)).cell? ⟨rt, 6, none⟩ = some (.int .i64 (r4 : Nat)) := (hb.alloc _).cell 6
  have c5 : (w.alloc (.cells Z 80)).cell? ⟨rt, 7, none⟩ = some (.int .i64 (r5 : Nat)) := (hb.alloc _).cell 7
  have c6 : (w.alloc (.cells Z 80)).cell? ⟨rt, 8, none⟩ = some (.int .i64 (r6 : Nat)) := (hb.alloc _).cell 8
  have c7 : (w.alloc (.cells Z 80)).cell? ⟨rt, 9, none⟩ = some (.int .i64 (r7 : Nat)) := (hb.alloc _).cell 9
  rw [← HZ.out] at c0 c1 c2 c3 c4 c5 c6 c7
  clear hb
  go_enter Tryz.func85, Tryz.ntmps85
  go_wp2_with fail
  rw [Hq.out]
  refine bodyPost_ret (results_cell_row rfl _ _ q 80 _ _ _ rfl (HC #[.int .i64 (r0 : Nat), .int .i64 (r1 : Nat), .int .i64 (r2 : Nat), .int .i64 (r3 : Nat), .int .i64 (r4 : Nat), .int .i64 (r5 : Nat), .int .i64 (r6 : Nat), .int .i64 (r7 : Nat)]).out Tryz.underlying80 rfl size80) rfl ?_
  rw [hr]
  exact ⟨rfl, Hq.out ▸ (HB _).out⟩
end Go.Proofs.YtcnjipicifkfjaaGreat

/- heap: its state. -/
namespace Go.Proofs.YtcnjipicifkfjaaGreat
open Go.RowKit
set_option linter.unusedVariables false
set_option linter.unusedSimpArgs false

/-- A heap's cells. -/
def heapC (d al rt : Nat) (rg : List Nat) (hl ca sh : Nat) (dead : Bool) : Array Value :=
  (Value.pointer (some ⟨d, 0, none⟩) :: .pointer (some ⟨al, 0, none⟩) :: .pointer (some ⟨rt, 0, none⟩) :: (ncells rg ++ [.pointer (some ⟨hl, 0, none⟩), .pointer (some ⟨ca, 0, none⟩), .pointer (some ⟨sh, 0, none⟩), .bool dead])).toArray
section
variable {d al rt hl ca sh : Nat} {rg : List Nat} {dead : Bool}
theorem heapC_size (h : rg.length = 32) : (heapC d al rt rg hl ca sh dead).size = 39 := by simp [heapC, ncells_len, h]
theorem heapC_reg (h : rg.length = 32) (i : Nat) (hi : i < 32) : (heapC d al rt rg hl ca sh dead)[3 + i]? = some (.int .i64 (rg.getD i 0 : Nat)) := by
  unfold heapC
  rw [List.getElem?_toArray, Nat.add_comm]
  simp only [List.getElem?_cons_succ]
  rw [List.getElem?_append_left (by rw [ncells_len]; omega)]
  exact ncells_at rg i (by omega)
theorem heapC_tail (h : rg.length = 32) (i : Nat) : (heapC d al rt rg hl ca sh dead)[35 + i]? = [Value.pointer (some ⟨hl, 0, none⟩), .pointer (some ⟨ca, 0, none⟩), .pointer (some ⟨sh, 0, none⟩), .bool dead][i]? := by
  unfold heapC
  rw [List.getElem?_toArray, show 35 + i = 32 + i + 1 + 1 + 1 by omega]
  simp only [List.getElem?_cons_succ]
  rw [List.getElem?_append_right (by rw [ncells_len]; omega), ncells_len, h]
  congr 1
  omega
theorem heapC_set (h : rg.length = 32) (i v : Nat) (hi : i < 32) : (heapC d al rt rg hl ca sh dead).setIfInBounds (3 + i) (.int .i64 v) = heapC d al rt (rg.set i v) hl ca sh dead := by
  unfold heapC
  rw [List.setIfInBounds_toArray, Nat.add_comm]
  simp only [List.set_cons_succ]
  rw [List.set_append_left _ _ (by rw [ncells_len]; omega)]
  congr 6
  unfold ncells
  rw [List.map_set]
theorem heapC_ext (h : rg.length = 32) : (heapC d al rt rg hl ca sh dead).extract 3 (3 + 32) = (ncells rg).toArray := by
  unfold heapC
  simp only [List.extract_toArray, List.extract_eq_take_drop, List.drop_succ_cons, List.drop_zero]
  congr 1
  rw [List.take_append_of_le_length (by rw [ncells_len]; omega), List.take_of_length_le (by rw [ncells_len]; omega)]
theorem heapC_dead (h : rg.length = 32) : (heapC d al rt rg hl ca sh dead).setIfInBounds 38 (.bool true) = heapC d al rt rg hl ca sh true := by
  unfold heapC
  rw [List.setIfInBounds_toArray]
  simp only [List.set_cons_succ]
  rw [List.set_append_right _ _ (by rw [ncells_len]; omega), ncells_len, h]
  rfl
end
/-- What a heap knows. -/
structure HS where
  A : AS
  ep : Nat
  wh : Nat
  rs : List Nat
  ws : List Nat
  rg : List Nat
  held : Nat → Bool
  shared : Nat → Bool
  C : CS
def liveF (hp : Nat) : Value := .func (.func 45) #[.pointer (some ⟨hp, 0, none⟩)] #[]
structure HeapX (w : World) (B : Nat) (b : DB) (m : Nat) (s : DS) (col : Nat → Nat) (hp al mp us fr rt hl ca sh : Nat) (S : HS) : Prop where
  dev : Dev B w b m s
  hdv : ∀ k, b.has k → col k = 0
  blk : Blk w hp 87 (heapC b.d al rt S.rg hl ca sh false)
  chp : col hp = 7
  a : AllocX w col al b.d mp us fr S.A
  r : RootR w (fun k => col k = 4) rt b.d S.ep S.wh S.rs S.ws
  h : HeldR w (fun k => col k = 5) hl al S.A.K S.held
  chl : col hl = 8
  c : CycR w col ca al S.A.K (liveF hp) S.C
  s : SetR w (fun k => col k = 6) sh (8 * S.A.K) S.shared
  rg : S.rg.length = 32
  hm : m = S.A.K * 64
  k3 : 3 ≤ S.A.K
  k4 : S.A.K ≤ 4
section
variable {w w' : World} {B m : Nat} {b : DB} {s s' : DS} {col col' : Nat → Nat} {hp al mp us fr rt hl ca sh : Nat} {S : HS} {T : Nat → Prop}
/-- A change of what is none of the heap's. -/
theorem HeapX.mod (h : HeapX w B b m s col hp al mp us fr rt hl ca sh S) (hM : Mod w w' T) (hT : ∀ k, T k → k < w.heap.size → 9 ≤ col k ∧ (col k < 20 ∨ 24 < col k)) : HeapX w' B b m s col hp al mp us fr rt hl ca sh S := by
  have hT2 : ∀ k, (col k < 9 ∨ (20 ≤ col k ∧ col k ≤ 24)) → k < w.heap.size → ¬ T k := fun k h1 h2 h3 => by have := hT k h3 h2; omega
  have hM' : Mod w w' (fun k => T k ∧ k < w.heap.size) := hM.mono (fun k hk h => ⟨h, hk⟩)
  have hT3 : ∀ k, (col k < 9 ∨ (20 ≤ col k ∧ col k ≤ 24)) → ¬ (T k ∧ k < w.heap.size) := fun k h1 h2 => hT2 k h1 h2.2 h2.1
  exact ⟨h.dev.mod hM' (fun k hk => hT3 k (.inl (by rw [h.hdv k hk]; omega))), h.hdv, hM'.blk h.blk (hT3 _ (.inl (by rw [h.chp]; omega))), h.chp, h.a.mod hM' (fun k hk => hT3 k (.inl (by omega))), h.r.mod hM' (fun k hk => hT3 k (.inl (by omega))),
    h.h.mod hM' (fun k hk => hT3 k (.inl (by omega))) (hT3 _ (.inl (by rw [h.chl]; omega))), h.chl, h.c.mod hM' (fun k hk => hT3 k (.inr hk)), h.s.mod hM' (fun k hk => hT3 k (.inl (by omega))), h.rg, h.hm, h.k3, h.k4⟩
theorem HeapX.below (h : HeapX w B b m s col hp al mp us fr rt hl ca sh S) (hb : Below w.heap.size w w') : HeapX w' B b m s col hp al mp us fr rt hl ca sh S :=
  h.mod (Mod.of_below hb) (fun k h1 h2 => absurd h2 (Nat.not_lt.2 h1))
theorem HeapX.recol (h : HeapX w B b m s col hp al mp us fr rt hl ca sh S) (hc : ∀ k, k < w.heap.size → col' k = col k) : HeapX w B b m s col' hp al mp us fr rt hl ca sh S :=
  have hf : ∀ i k, k < w.heap.size → col k = i → col' k = i := fun i k hk e => (hc k hk).trans e
  ⟨h.dev, fun k hk => (hc k (h.dev.lt k hk).2).trans (h.hdv k hk), h.blk, (hc _ h.blk.lt).trans h.chp, h.a.recol hc, h.r.weak (hf 4), h.h.weak (hf 5) (by
    obtain ⟨p, hb, _, _⟩ := h.h
    rw [hc _ hb.lt, h.chl]; omega), (hc _ (by obtain ⟨p, hb, _, _⟩ := h.h; exact hb.lt)).trans h.chl, h.c.recol hc, h.s.weak (hf 6), h.rg, h.hm, h.k3, h.k4⟩
end
section
variable {w w' : World} {B m : Nat} {b : DB} {s s' : DS} {col col' : Nat → Nat} {hp al mp us fr rt hl ca sh : Nat} {S : HS}
theorem HeldR.lt {F : Nat → Prop} {K : Nat} {st : Nat → Bool} (h : HeldR w F hl al K st) : hl < w.heap.size := by obtain ⟨p, hb, _, _⟩ := h; exact hb.lt
/-- Another set of held objects. -/
theorem HeapX.heldS (h : HeapX w B b m s col hp al mp us fr rt hl ca sh S) (hM : Mod w w' (fun k => col k = 5)) {st : Nat → Bool} (hh : HeldR w' (fun k => col k = 5) hl al S.A.K st) : HeapX w' B b m s col hp al mp us fr rt hl ca sh { S with held := st } :=
  ⟨h.dev.mod hM (fun k hk e => by have := h.hdv k hk; omega), h.hdv, hM.blk h.blk (by rw [h.chp]; omega), h.chp, h.a.mod hM (fun k hk e => by omega), h.r.mod hM (fun k hk e => by omega), hh, h.chl, h.c.mod hM (fun k hk e => by omega), h.s.mod hM (fun k hk e => by omega), h.rg, h.hm, h.k3, h.k4⟩
theorem HeapX.sharedS (h : HeapX w B b m s col hp al mp us fr rt hl ca sh S) (hM : Mod w w' (fun k => col k = 6)) {st : Nat → Bool} (hh : SetR w' (fun k => col k = 6) sh (8 * S.A.K) st) : HeapX w' B b m s col hp al mp us fr rt hl ca sh { S with shared := st } :=
  ⟨h.dev.mod hM (fun k hk e => by have := h.hdv k hk; omega), h.hdv, hM.blk h.blk (by rw [h.chp]; omega), h.chp, h.a.mod hM (fun k hk e => by omega), h.r.mod hM (fun k hk e => by omega), h.h.mod hM (fun k hk e => by omega) (by rw [h.chl]; omega), h.chl, h.c.mod hM (fun k hk e => by omega), hh, h.rg, h.hm, h.k3, h.k4⟩
theorem HeapX.regS (h : HeapX w B b m s col hp al mp us fr rt hl ca sh S) (hM : Mod w w' (fun k => k = hp)) {rg : List Nat} (hl2 : rg.length = 32) (hb : Blk w' hp 87 (heapC b.d al rt rg hl ca sh false)) : HeapX w' B b m s col hp al mp us fr rt hl ca sh { S with rg := rg } :=
  have hM7 : Mod w w' (fun k => col k = 7) := hM.mono (fun k _ e => by rw [e]; exact h.chp)
  ⟨h.dev.mod hM7 (fun k hk e => by have := h.hdv k hk; omega), h.hdv, hb, h.chp, h.a.mod hM7 (fun k hk e => by omega), h.r.mod hM7 (fun k hk e => by omega), h.h.mod hM7 (fun k hk e => by omega) (by rw [h.chl]; omega), h.chl, h.c.mod hM7 (fun k hk e => by omega), h.s.mod hM7 (fun k hk e => by omega), hl2, h.hm, h.k3, h.k4⟩
theorem HeapX.devS (h : HeapX w B b m s col hp al mp us fr rt hl ca sh S) (hM : Mod w w' b.has) (hd : Dev B w' b m s') : HeapX w' B b m s' col hp al mp us fr rt hl ca sh S :=
  have hM7 : Mod w w' (fun k => col k = 0) := hM.mono (fun k _ e => h.hdv k e)
  ⟨hd, h.hdv, hM7.blk h.blk (by rw [h.chp]; omega), h.chp, h.a.mod hM7 (fun k hk e => by omega), h.r.mod hM7 (fun k hk e => by omega), h.h.mod hM7 (fun k hk e => by omega) (by rw [h.chl]; omega), h.chl, h.c.mod hM7 (fun k hk e => by omega), h.s.mod hM7 (fun k hk e => by omega), h.rg, h.hm, h.k3, h.k4⟩
theorem HeapX.rootS (h : HeapX w B b m s col hp al mp us fr rt hl ca sh S) (hM : Mod w w' (fun k => k = rt)) {ep wh : Nat} {rs ws : List Nat} (hr : RootR w' (fun k => col k = 4) rt b.d ep wh rs ws) : HeapX w' B b m s col hp al mp us fr rt hl ca sh { S with ep := ep, wh := wh, rs := rs, ws := ws } :=
  have hM7 : Mod w w' (fun k => col k = 4) := hM.mono (fun k _ e => by rw [e]; exact h.r.2.2.2)
  ⟨h.dev.mod hM7 (fun k hk e => by have := h.hdv k hk; omega), h.hdv, hM7.blk h.blk (by rw [h.chp]; omega), h.chp, h.a.mod hM7 (fun k hk e => by omega), hr, h.h.mod hM7 (fun k hk e => by omega) (by rw [h.chl]; omega), h.chl, h.c.mod hM7 (fun k hk e => by omega), h.s.mod hM7 (fun k hk e => by omega), h.rg, h.hm, h.k3, h.k4⟩
end
/-- A heap's colours. -/
def hcol (c : Nat) : Prop := c < 9 ∨ (20 ≤ c ∧ c ≤ 24)
/-- A heap, alive, within some blocks. -/
def HeapR (w : World) (G : Nat → Prop) (B : Nat) (b : DB) (m : Nat) (s : DS) (hp : Nat) (S : HS) : Prop :=
  ∃ col al mp us fr rt hl ca sh, HeapX w B b m s col hp al mp us fr rt hl ca sh S ∧ ∀ k, k < w.heap.size → hcol (col k) → G k
/-- A heap whose device has stopped. -/
def HeapD (w : World) (B : Nat) (b : DB) (m : Nat) (s : DS) (hp : Nat) : Prop :=
  ∃ al rt rg hl ca sh, rg.length = 32 ∧ Blk w hp 87 (heapC b.d al rt rg hl ca sh true) ∧ Dev B w b m s ∧ ¬ b.has hp
def HOut (w : World) (G : Nat → Prop) (B : Nat) (b : DB) (m : Nat) (E : DS × Bool) (hp : Nat) (S : HS) : Prop :=
  (E.2 = true ∧ HeapR w G B b m E.1 hp S) ∨ (E.2 = false ∧ HeapD w B b m E.1 hp)
def GrowB (G : Nat → Prop) (w w' : World) (k : Nat) : Prop := G k ∨ (w.heap.size ≤ k ∧ k < w'.heap.size)
section
variable {w w' : World} {B m : Nat} {b : DB} {s : DS} {hp : Nat} {S : HS} {G G' T : Nat → Prop} {E : DS × Bool}
theorem HeapR.weak (h : HeapR w G B b m s hp S) (hG : ∀ k, k < w.heap.size → G k → G' k) : HeapR w G' B b m s hp S := by
  obtain ⟨col, al, mp, us, fr, rt, hl, ca, sh, hX, hc⟩ := h
  exact ⟨col, al, mp, us, fr, rt, hl, ca, sh, hX, fun k hk h => hG k hk (hc k hk h)⟩
/-- What is none of the heap's may change; new blocks are none of it. -/
theorem HeapR.mod (h : HeapR w G B b m s hp S) (hM : Mod w w' T) (hT : ∀ k, G k → ¬ T k) : HeapR w' G B b m s hp S := by
  obtain ⟨col, al, mp, us, fr, rt, hl, ca, sh, hX, hc⟩ := h
  have hX1 := hX.recol (colW_lt col w 9)
  refine ⟨colW col w 9, al, mp, us, fr, rt, hl, ca, sh, hX1.mod hM (fun k h1 h2 => ?_), fun k hk h => ?_⟩
  · rw [colW_lt _ _ _ _ h2]
    have : ¬ hcol (col k) := fun hh => hT k (hc k h2 hh) h1
    unfold hcol at this
    omega
  · by_cases hkw : k < w.heap.size
    · rw [colW_lt _ _ _ _ hkw] at h
      exact hc k hkw h
    · rw [colW_ge _ _ _ _ (by omega)] at h
      unfold hcol at h
      omega
theorem HeapR.below (h : HeapR w G B b m s hp S) (hb : Below w.heap.size w w') : HeapR w' G B b m s hp S := by
  refine (h.weak (G' := fun k => G k ∧ k < w.heap.size) (fun k hk h => ⟨h, hk⟩)).mod (Mod.of_below hb) (fun k h1 h2 => by omega) |>.weak (fun k _ h => h.1)
theorem HeapD.mod (h : HeapD w B b m s hp) (hM : Mod w w' T) (h1 : ¬ T hp) (h2 : ∀ k, b.has k → ¬ T k) : HeapD w' B b m s hp := by
  obtain ⟨al, rt, rg, hl, ca, sh, h3, h4, h5, h6⟩ := h
  exact ⟨al, rt, rg, hl, ca, sh, h3, hM.blk h4 h1, h5.mod hM h2, h6⟩
theorem HeapD.below (h : HeapD w B b m s hp) (hb : Below w.heap.size w w') : HeapD w' B b m s hp := by
  obtain ⟨al, rt, rg, hl, ca, sh, h3, h4, h5, h6⟩ := h
  exact ⟨al, rt, rg, hl, ca, sh, h3, h4.below hb h4.lt, h5.below hb (Nat.le_refl _), h6⟩
end
end Go.Proofs.YtcnjipicifkfjaaGreat

/- alloc: Place. -/
namespace Go.Proofs.YtcnjipicifkfjaaGreat
open Go.RowKit
set_option linter.unusedVariables false
set_option linter.unusedSimpArgs false

/-- An object's place is right: it begins a cell of its class, in a block of that class. -/
def Pl (s : DS) (m K k p : Nat) (hs : List (Nat × Nat)) (a : Nat) : Prop :=
  ∃ d bl i, ObjAt s m a p d ∧ cof (1 + p + d) = k ∧ CellAt K k a bl i ∧ hs.getD bl (0, 0) = (1, k)
set_option maxRecDepth 100000 in
set_option maxHeartbeats 2000000 in
theorem place_any (B : Nat) (b : DB) (m : Nat) (s : DS) (col : Nat → Nat) (ap mp us fr a p : Nat) (S : AS) (w : World) (h : Dev B w b m s) (hA : AllocX w col ap b.d mp us fr S) (hP : Pl s m S.K S.k p S.hs a) (hm : m = S.K * 64) (hK0 : 0 < S.K) (hK : S.K ≤ 150) :
    Calls Tryz.prog 141 #[.pointer (some ⟨ap, 0, none⟩), .int .i64 a] w fun e w' => (∃ d : Nat, e = .returned (.tuple #[.agg #[.int .i64 p, .int .i64 d], .bool true])) ∧ Below w.heap.size w w' := by
  obtain ⟨d, bl, i, ho, hk, hcell, hh⟩ := hP
  obtain ⟨t, x, T, X, hmb, hT, hX, d1, d2, d3, d4, d5, d6⟩ := hA.m
  have HD : Hid (∀ wr, Below w.heap.size w wr → Dev B wr b m s) := fun wr hb => h.below hb (Nat.le_refl _)
  have Htl : Hid (∀ wr, Below w.heap.size w wr → Calls Tryz.prog 137 #[.pointer (some ⟨t, 0, none⟩)] wr fun e w' => ∃ g cap, e = .returned (.slice (some ⟨g, 0, none⟩) S.K cap) ∧ Own w' wr.heap.size 178 3 (some ⟨g, 0, none⟩) S.K cap (hcells S.hs) ∧ Below wr.heap.size wr w') :=
    fun wr hb => tall_any T t b.d S.K S.hs wr (hT.below hb (Nat.le_refl _)) hK0 (by omega)
  have Hpl : Hid (∀ (g cap base : Nat) wr, Below w.heap.size w wr → Own wr base 178 3 (some ⟨g, 0, none⟩) S.K cap (hcells S.hs) → Calls Tryz.prog 188 #[.pointer (some ⟨b.d, 0, none⟩), .agg #[.int .i64 S.K], .slice (some ⟨g, 0, none⟩) S.K cap, .int .i64 a] wr fun e w' => e = .returned (.tuple #[.agg #[.int .i64 p, .int .i64 d], .bool true]) ∧ Below wr.heap.size wr w') :=
    fun g cap base wr hb hO => placed_any B b m s S.K a p d bl i g S.K cap S.hs wr (HD.out wr hb) ho (by rw [hk]; exact hcell) hK hm (hO.base_ (Nat.zero_le _)) (by rw [hk]; exact hh)
  have Hb1 : Hid (∀ wr, Below w.heap.size w wr → wr.cell? ⟨ap, 0, none⟩ = some (.pointer (some ⟨mp, 0, none⟩)) ∧ wr.cell? ⟨ap, 1, none⟩ = some (.pointer (some ⟨b.d, 0, none⟩)) ∧ wr.cell? ⟨ap, 2, none⟩ = some (.int .i64 S.K) ∧ wr.cell? ⟨mp, 0, none⟩ = some (.pointer (some ⟨t, 0, none⟩))) := by
    intro wr hb
    have h1 := hA.b.below hb hA.b.lt
    have h2 := hmb.below hb hmb.lt
    exact ⟨h1.cell 0, h1.cell 1, h1.cell 2, h2.cell 0⟩
  obtain ⟨n4, Hn4⟩ : ∃ n, Hid (w.heap.size = n) := ⟨_, rfl⟩
  have L1 := Lib.hid ((Loc.nil Nob w).box 51 #[.int .i64 0, .int .i64 0] n4 Hn4.out)
  clear h hA hmb hT hX ho hk hcell hh d1 d2 d3 d4 d5 d6
  go_enter Tryz.func141, Tryz.ntmps141
  go_wp2_with fail
  rw [Hn4.out]
  generalize w.alloc _ = w1 at *
  have LD := Lib.hid L1.out.drew
  obtain ⟨c0, c1, c2, c3⟩ := Hb1.out _ LD.out.below
  have HC0 := Lib.hid (Hb1.out _ LD.out.below)
  clear L1
  go_region_held3 (fun w' => w'.cell? ⟨ap, 0, none⟩ = some (.pointer (some ⟨mp, 0, none⟩)) ∧ w'.cell? ⟨ap, 1, none⟩ = some (.pointer (some ⟨b.d, 0, none⟩)) ∧ w'.cell? ⟨ap, 2, none⟩ = some (.int .i64 S.K) ∧ w'.cell? ⟨mp, 0, none⟩ = some (.pointer (some ⟨t, 0, none⟩)))
    (first | exact HC0.out | exact HC2.out | exact HC3.out | exact Hb1.out _ ((L3.out.set 0 (.int .i64 p)).set 1 (.int .i64 d)).below)
    (first
      | (go_at_call 137; refine (Htl.out _ LD.out.below).mono ?_; rintro e w2 ⟨g, cap, rfl, hO2, hb2⟩; have L2 := Lib.hid (LD.out.call hb2 (Nat.le_refl _)); have HO2 := Lib.hid hO2; have HC2 := Lib.hid (Hb1.out _ L2.out.below); clear hb2 hO2)
      | (go_at_call 188; refine (Hpl.out _ _ _ _ L2.out.below HO2.out).mono ?_; rintro e w3 ⟨rfl, hb3⟩; have L3 := Lib.hid (L2.out.call hb3 (Nat.le_refl _)); have HC3 := Lib.hid (Hb1.out _ L3.out.below); have z0 : w3.cell? ⟨n4, 0, none⟩ = some (.int .i64 0) := L3.out.b0.cell 0; have z1 : w3.cell? ⟨n4, 1, none⟩ = some (.int .i64 0) := L3.out.b0.cell 1; have f0 := L3.out.b0.frozen 0; have f1 := L3.out.b0.frozen 1; clear hb3))
  have L4 := Lib.hid ((L3.out.set 0 (.int .i64 p)).set 1 (.int .i64 d))
  clear z0 z1 f0 f1
  go_wp2_with fail
  have q0 := L4.out.b0.cell 0
  have q1 := L4.out.b0.cell 1
  simp at q0 q1
  refine bodyPost_ret (v := .tuple #[.agg #[.int .i64 p, .int .i64 d], .bool true]) (by simp [results, Tryz.results141, go_sem, q0, q1]) rfl ?_
  exact ⟨⟨_, rfl⟩, L4.out.below⟩
end Go.Proofs.YtcnjipicifkfjaaGreat
