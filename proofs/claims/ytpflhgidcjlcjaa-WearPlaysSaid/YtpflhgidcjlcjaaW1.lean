/- The walks of New, Place, move, Write. -/
import Derived.Test.YtpflhgidcjlcjaaProg
import Derived.Test.YtpflhgidcjlcjaaMod
import Derived.Test.YtpflhgidcjlcjaaOpen
import Derived.Test.YtpflhgidcjlcjaaWear
import Derived.WalkKit
import Derived.BigQuiet
import Derived.Deep.QuietTactic
import Derived.Handy
import Derived.WalkLawsBesides
import Derived.WalkSpells
import Derived.Laws.MakeOwn
import Derived.StillTailTactics
import Derived.Deep.RegionHeld3
namespace Go.Proofs.Ytpflhgidcjlcjaa
open Go.RowKit
set_option linter.unusedVariables false
set_option linter.unusedSimpArgs false

def icells (l : List Nat) : List Value := l.map fun n => Value.int .i64 (n : Nat)
theorem icells_at (l : List Nat) (j : Nat) (h : j < l.length) : (icells l)[j]? = some (.int .i64 (l.getD j 0 : Nat)) := by simp [icells, h, List.getD_eq_getElem?_getD]
theorem icells_len (l : List Nat) : (icells l).length = l.length := by simp [icells]
theorem icells_bump (l : List Nat) (i : Nat) {v : Int} (hv : v = (l.getD i 0 : Nat) + 1) : (icells l).toArray.setIfInBounds i (.int .i64 v) = (icells (bump l i)).toArray := by
  subst hv
  apply Array.ext'
  simp [icells, bump, List.map_set]
theorem info3 : (Try.prog.info? 3).map (fun i => (i.size, i.bytes, i.zero)) = some (1, 8, some (.int .i64 0)) := by kernel_rfl
theorem info3s : ∃ i, Try.prog.info? 3 = some i ∧ i.zero = some (.int .i64 0) ∧ i.size = 1 ∧ i.bytes = 8 := by
  obtain ⟨i, hi, hi2⟩ := Option.map_eq_some_iff.1 info3
  simp only [Prod.mk.injEq] at hi2
  exact ⟨i, hi, hi2.2.2, hi2.1, hi2.2.1⟩
theorem mk31 (m : Nat) (L : Int) (h : L = m) (hm : m ≤ 1000000) :
    ∀ w : World, (Instr.makeSlice 31 (.int .i64 L) (.int .i64 L)).run Try.prog w = .ok (.slice (some ⟨w.heap.size, 0, none⟩) m m) (w.alloc (.cells (madeCells #[.int .i64 0] m) 3)) := by
  intro w
  subst h
  obtain ⟨i, hi, h3, h1, h2⟩ := info3s
  have hr := run_make (P := Try.prog) w 31 3 i (.int .i64 0) Try.underlying31 hi h3 .i64 .i64 m m (by omega) (by omega) (by rw [h2]; omega) (by omega)
  rw [hr, h1]
  simp [Value.cells]
theorem made_zero (m : Nat) : madeCells #[.int .i64 0] m = (icells (List.replicate m 0)).toArray := by
  apply Array.ext'
  rw [toList_madeCells_one]
  simp [icells]

/-- A leveller's cells. -/
def lcells (gw : Nat) (s : Lv) : Array Value := #[.int .i64 s.N, .int .i64 s.K, .int .i64 s.S, .int .i64 s.G, .int .i64 s.W, .int .i64 s.M, .slice (some ⟨gw, 0, none⟩) (s.N + 1) (s.N + 1)]
/-- A leveller in memory. -/
structure LAt (w : World) (gl gw : Nat) (s : Lv) : Prop where
  l : Blk w gl 47 (lcells gw s)
  w : Blk w gw 3 (icells s.worn).toArray
theorem LAt.ne {w : World} {gl gw : Nat} {s : Lv} (h : LAt w gl gw s) : gl ≠ gw := by
  rintro rfl
  have h1 := h.l
  have h2 := h.w
  unfold Blk at h1 h2
  rw [h1] at h2
  injection h2 with h2
  injection h2 with _ h2
  exact absurd h2 (by decide)
theorem LAt.below {w w' : World} {gl gw B : Nat} {s : Lv} (h : LAt w gl gw s) (hb : Below B w w') (hB : w.heap.size ≤ B) : LAt w' gl gw s :=
  ⟨h.l.below hb (Nat.lt_of_lt_of_le h.l.lt hB), h.w.below hb (Nat.lt_of_lt_of_le h.w.lt hB)⟩
theorem LAt.drewN {w : World} {gl gw : Nat} {s : Lv} (h : LAt w gl gw s) (n : Nat) : LAt (w.drewN n) gl gw s := ⟨h.l, h.w⟩

theorem new_no (n k : Int) (w : World) (h : n < 1 ∨ 65536 < n ∨ k < 1 ∨ 65536 < k) :
    Calls Try.prog 7 #[.int .i64 n, .int .i64 k] w fun e w' => e = .returned (.tuple #[.pointer none, .int .i64 26]) ∧ w = w' := by
  by_cases h1 : n < 1
  · clear h
    go_enter Try.func7, Try.ntmps7
    go_wp2_with fail
    go_ret2
    exact ⟨rfl, rfl⟩
  · by_cases h2 : 65536 < n
    · clear h
      go_enter Try.func7, Try.ntmps7
      go_wp2_with fail
      go_ret2
      exact ⟨rfl, rfl⟩
    · by_cases h3 : k < 1
      · clear h
        go_enter Try.func7, Try.ntmps7
        go_wp2_with fail
        go_ret2
        exact ⟨rfl, rfl⟩
      · have h4 : 65536 < k := by omega
        have hd : decide ((65536 : Int) < k) = true := by rw [decide_eq_true_eq]; omega
        clear h
        go_enter Try.func7, Try.ntmps7
        go_wp2_with fail
        go_ret2
        exact ⟨rfl, rfl⟩

theorem new_ok (n k : Nat) (w : World) (h1 : 1 ≤ n) (h2 : n ≤ 65536) (h3 : 1 ≤ k) (h4 : k ≤ 65536) :
    Calls Try.prog 7 #[.int .i64 n, .int .i64 k] w fun e w' => ∃ gl gw, e = .returned (.tuple #[.pointer (some ⟨gl, 0, none⟩), .int .i64 0]) ∧ LAt w' gl gw (new n k) ∧ w.heap.size ≤ gl ∧ w.heap.size ≤ gw ∧ Below w.heap.size w w' := by
  have hmk := mk31 (n + 1) ((n : Int) + 1) (by omega) (by omega)
  have hd : decide ((65536 : Int) < (k : Int)) = false := by rw [decide_eq_false_iff_not]; omega
  go_enter Try.func7, Try.ntmps7
  go_wp2_with fail
  go_ret2
  refine ⟨w.heap.size + 1, w.heap.size, rfl, ⟨?_, ?_⟩, by omega, Nat.le_refl _, ((Below.refl _ w).alloc (Nat.le_refl _) _).alloc (by simp) _⟩
  · have := Blk.new (w.alloc (.cells (madeCells #[.int .i64 0] (n + 1)) 3)) 47 (lcells w.heap.size (new n k))
    rw [show (w.alloc (.cells (madeCells #[.int .i64 0] (n + 1)) 3)).heap.size = w.heap.size + 1 by simp] at this
    exact this
  · have := (Blk.new w 3 (madeCells #[.int .i64 0] (n + 1))).alloc (.cells (lcells w.heap.size (new n k)) 47)
    rw [made_zero] at this
    simp only [made_zero]
    exact this

theorem place_yesq (gl gw x : Nat) (s : Lv) (w : World) (hs : Fine s) (hx : x < s.N) (hl : LAt w gl gw s) :
    Calls Try.prog 14 #[.pointer (some ⟨gl, 0, none⟩), .int .i64 x] w fun e w' => e = .returned (.int .i64 (place s x : Nat)) ∧ ∃ m, w' = w.drewN m := by
  have a0 := hl.l.cell 0
  have a2 := hl.l.cell 2
  have a3 := hl.l.cell 3
  unfold lcells at a0 a2 a3
  simp only [List.getElem?_toArray, List.getElem?_cons_zero, List.getElem?_cons_succ] at a0 a2 a3
  have n1 := hs.n1
  have n2 := hs.n2
  have st := hs.st
  have gp := hs.gp
  obtain ⟨q, Hq⟩ : ∃ q, Hid ((x + s.S) % s.N = q) := ⟨_, rfl⟩
  have Hp : Hid (place s x = if s.G ≤ q then q + 1 else q) := by show place s x = _; unfold place; rw [Hq.out]
  have hq : q < s.N := by rw [← Hq.out]; exact Nat.mod_lt _ (by omega)
  have hqi : ((x : Int) + (s.S : Int)) % (s.N : Int) = (q : Int) := by rw [← Hq.out]; simp
  generalize s.N = N at *
  generalize s.S = S at *
  generalize s.G = G at *
  clear hl hs
  by_cases hg : G ≤ q
  · have HP : Hid (place s x = q + 1) := by show place s x = _; rw [Hp.out, if_pos hg]
    go_enter Try.func14, Try.ntmps14
    go_wp2_with fail
    go_quiet (fail)
    simp only [hqi]
    go_wp2_with fail
    go_ret
    rw [HP.out]
    exact ⟨by go_num, _, rfl⟩
  · have HP : Hid (place s x = q) := by show place s x = _; rw [Hp.out, if_neg hg]
    go_enter Try.func14, Try.ntmps14
    go_wp2_with fail
    go_quiet (fail)
    simp only [hqi]
    go_wp2_with fail
    go_ret
    rw [HP.out]
    exact ⟨rfl, _, rfl⟩

theorem place_noq (gl gw : Nat) (x : Int) (s : Lv) (w : World) (hs : Fine s) (hx : x < 0 ∨ s.N ≤ x) (hl : LAt w gl gw s) :
    Calls Try.prog 14 #[.pointer (some ⟨gl, 0, none⟩), .int .i64 x] w fun e w' => e = .returned (.int .i64 (-1)) ∧ ∃ m, w' = w.drewN m := by
  have a0 := hl.l.cell 0
  unfold lcells at a0
  simp only [List.getElem?_toArray, List.getElem?_cons_zero, List.getElem?_cons_succ] at a0
  generalize s.N = N at *
  clear hl hs
  by_cases h0 : x < 0
  · clear hx
    go_enter Try.func14, Try.ntmps14
    go_wp2_with fail
    go_ret
    exact ⟨rfl, 0, rfl⟩
  · have hd : decide ((N : Int) ≤ x) = true := by rw [decide_eq_true_eq]; omega
    clear hx
    go_enter Try.func14, Try.ntmps14
    go_wp2_with fail
    go_ret
    exact ⟨rfl, 0, rfl⟩

theorem place_yes (gl gw x : Nat) (s : Lv) (w : World) (hs : Fine s) (hx : x < s.N) (hl : LAt w gl gw s) :
    Calls Try.prog 14 #[.pointer (some ⟨gl, 0, none⟩), .int .i64 x] w fun e w' => e = .returned (.int .i64 (place s x : Nat)) ∧ Below w.heap.size w w' :=
  (place_yesq gl gw x s w hs hx hl).mono fun e w' ⟨he, m, hm⟩ => ⟨he, by rw [hm]; exact below_drewN (Below.refl _ _) _⟩
theorem place_no (gl gw : Nat) (x : Int) (s : Lv) (w : World) (hs : Fine s) (hx : x < 0 ∨ s.N ≤ x) (hl : LAt w gl gw s) :
    Calls Try.prog 14 #[.pointer (some ⟨gl, 0, none⟩), .int .i64 x] w fun e w' => e = .returned (.int .i64 (-1)) ∧ Below w.heap.size w w' :=
  (place_noq gl gw x s w hs hx hl).mono fun e w' ⟨he, m, hm⟩ => ⟨he, by rw [hm]; exact below_drewN (Below.refl _ _) _⟩
theorem quiet_more {P : Program} {f : FuncId} {args : Array Value} {w : World} {n : Nat} {v : Value}
    (h : Calls P f args (w.drewN n) fun e w' => e = .returned v ∧ ∃ m, w' = (w.drewN n).drewN m) : Calls P f args (w.drewN n) fun e w'' => e = .returned v ∧ ∃ m, w'' = w.drewN m :=
  h.mono fun _ _ ⟨he, m, hm⟩ => ⟨he, n + m, by rw [hm, World.drewN_drewN]⟩

set_option maxHeartbeats 1000000 in
theorem move_any (gl gw : Nat) (s : Lv) (w : World) (hs : Fine s) (hm : s.M ≤ 1099511627776) (hw : s.W ≤ 1099511627776) (hl : LAt w gl gw s) :
    Calls Try.prog 21 #[.pointer (some ⟨gl, 0, none⟩)] w fun e w' => e = .returned (.agg #[.int .i64 (frm s : Nat), .int .i64 (s.G : Nat)]) ∧ LAt w' gl gw (move s) ∧ Mod w w' (fun k => k = gl ∨ k = gw) := by
  obtain ⟨N, K, S, G, W, M, wn⟩ := s
  have a0 := hl.l.cell 0
  have a2 := hl.l.cell 2
  have a3 := hl.l.cell 3
  have a5 := hl.l.cell 5
  have a6 := hl.l.cell 6
  have f2 := hl.l.frozen 2
  have f3 := hl.l.frozen 3
  have f5 := hl.l.frozen 5
  unfold lcells at a0 a2 a3 a5 a6
  simp only [List.getElem?_toArray, List.getElem?_cons_zero, List.getElem?_cons_succ] at a0 a2 a3 a5 a6
  have hne := hl.ne
  have hll := hl.l.lt
  have hwl := hl.w.lt
  have HL := Lib.hid hl
  have n1 : 1 ≤ N := hs.n1
  have n2 : N ≤ 65536 := hs.n2
  have st : S < N := hs.st
  have gp : G ≤ N := hs.gp
  have bnd : wn.getD G 0 ≤ W + M := hs.wb G
  have bnd0 : wn.getD 0 0 ≤ W + M := hs.wb 0
  have hlen : wn.length = N + 1 := hs.len
  have Hlen := Lib.hid hlen
  simp only at hm hw
  clear hlen
  have HF := Lib.hid hs
  clear hl hs
  by_cases hg : G = 0
  · have w0 : w.cell? ⟨gw, 0, none⟩ = some (.int .i64 (wn.getD 0 0 : Nat)) := by
      refine (HL.out.w.cell 0).trans ?_
      rw [List.getElem?_toArray]
      exact icells_at _ _ (by rw [Hlen.out]; omega)
    have g0 := HL.out.w.frozen 0
    go_enter Try.func21, Try.ntmps21
    go_wp2_with fail
    have HX : Hid (Blk ((((w.setCell ⟨gl, 5, none⟩ (.int .i64 ((M : Int) + 1))).setCell ⟨gl, 3, none⟩ (.int .i64 (N : Nat))).alloc (.cells #[.int .i64 0, .int .i64 0] 28)).alloc (.cells #[.int .i64 (N : Nat), .int .i64 0] 28)) gl 47
        #[.int .i64 N, .int .i64 K, .int .i64 S, .int .i64 N, .int .i64 W, .int .i64 ((M : Int) + 1), .slice (some ⟨gw, 0, none⟩) (N + 1) (N + 1)]) :=
      Blk.conv ((((HL.out.l.set_ 5 _).set_ 3 _).alloc _).alloc _) (by simp [lcells])
    have HY : Hid (Blk ((((w.setCell ⟨gl, 5, none⟩ (.int .i64 ((M : Int) + 1))).setCell ⟨gl, 3, none⟩ (.int .i64 (N : Nat))).alloc (.cells #[.int .i64 0, .int .i64 0] 28)).alloc (.cells #[.int .i64 (N : Nat), .int .i64 0] 28)) gw 3 (icells wn).toArray) :=
      (((HL.out.w.far hne.symm _).far hne.symm _).alloc _).alloc _
    have HM : Hid (Mod w ((((w.setCell ⟨gl, 5, none⟩ (.int .i64 ((M : Int) + 1))).setCell ⟨gl, 3, none⟩ (.int .i64 (N : Nat))).alloc (.cells #[.int .i64 0, .int .i64 0] 28)).alloc (.cells #[.int .i64 (N : Nat), .int .i64 0] 28)) (fun k => k = gl ∨ k = gw)) :=
      ((((Mod.refl w _).set (p := ⟨gl, 5, none⟩) (.inr (.inl rfl)) _).set (p := ⟨gl, 3, none⟩) (.inr (.inl rfl)) _).alloc _).alloc _
    have HZ := Lib.hid (Blk.new (((w.setCell ⟨gl, 5, none⟩ (.int .i64 ((M : Int) + 1))).setCell ⟨gl, 3, none⟩ (.int .i64 (N : Nat))).alloc (.cells #[.int .i64 0, .int .i64 0] 28)) 28 #[.int .i64 (N : Nat), .int .i64 0])
    have HR := Lib.hid ((Blk.new ((w.setCell ⟨gl, 5, none⟩ (.int .i64 ((M : Int) + 1))).setCell ⟨gl, 3, none⟩ (.int .i64 (N : Nat))) 28 #[.int .i64 0, .int .i64 0]).alloc (.cells #[.int .i64 (N : Nat), .int .i64 0] 28))
    rw [show ((w.setCell ⟨gl, 5, none⟩ (.int .i64 ((M : Int) + 1))).setCell ⟨gl, 3, none⟩ (.int .i64 (N : Nat))).heap.size = w.heap.size by simp [World.setCell]] at HR
    rw [show ((((w.setCell ⟨gl, 5, none⟩ (.int .i64 ((M : Int) + 1))).setCell ⟨gl, 3, none⟩ (.int .i64 (N : Nat))).alloc (.cells #[.int .i64 0, .int .i64 0] 28))).heap.size = w.heap.size + 1 by simp [World.setCell]] at HZ
    generalize World.alloc _ _ = w1 at *
    have b0 := HX.out.cell 0
    have b2 := HX.out.cell 2
    have b3 := HX.out.cell 3
    have b6 := HX.out.cell 6
    have c2 := HX.out.frozen 2
    have z0 := HZ.out.cell 0
    have z1 := HZ.out.cell 1
    simp only [List.getElem?_toArray, List.getElem?_cons_zero, List.getElem?_cons_succ] at b0 b2 b3 b6 z0 z1
    clear a0 a2 a3 a5 a6 f2 f3 f5 w0 g0
    obtain ⟨q, Hq⟩ : ∃ q, Hid ((S + 1) % N = q) := ⟨_, rfl⟩
    have hN0 : ¬ N = 0 := by omega
    have hwr : IntKind.i64.wrap ((S : Int) + 1) = (S : Int) + 1 := by rw [IntKind.wrap_i64]; omega
    have hmod : ((S : Int) + 1).tmod (N : Int) = (q : Int) := by
      rw [Int.tmod_eq_emod_of_nonneg (by omega), ← Hq.out]
      simp
    go_still_tail 11, (by kernel_rfl)
    have HXq := Lib.hid (HX.out.drewN 1)
    have HYq := Lib.hid (HY.out.drewN 1)
    have HMq := Lib.hid (HM.out.drewN 1)
    have HZq := Lib.hid (HZ.out.drewN 1)
    have HRq := Lib.hid (HR.out.drewN 1)
    have b2' : (w1.drewN 1).cell? ⟨gl, 2, none⟩ = _ := b2
    have c2' : (w1.drewN 1).frozen? ⟨gl, 2, none⟩ = false := c2
    have b6' : (w1.drewN 1).cell? ⟨gl, 6, none⟩ = _ := b6
    have z0' : (w1.drewN 1).cell? ⟨w.heap.size + 1, 0, none⟩ = _ := z0
    have z1' : (w1.drewN 1).cell? ⟨w.heap.size + 1, 1, none⟩ = _ := z1
    change wpList _ _ _ _ _ (w1.drewN 1)
    generalize w1.drewN 1 = w2 at *
    clear b0 b2 b3 b6 c2 z0 z1 HX HY HM HZ HR
    have w0 : w2.cell? ⟨gw, 0, none⟩ = some (.int .i64 (wn.getD 0 0 : Nat)) := by
      refine (HYq.out.cell 0).trans ?_
      rw [List.getElem?_toArray]
      exact icells_at _ _ (by rw [Hlen.out]; omega)
    have g0 := HYq.out.frozen 0
    go_wp2_with fail
    have HX3 := Lib.hid (HXq.out.set_ 2 (.int .i64 (q : Nat)))
    have HY3 := Lib.hid (HYq.out.far (p := ⟨gl, 2, none⟩) hne.symm (.int .i64 (q : Nat)))
    have HM3 := Lib.hid (HMq.out.set (p := ⟨gl, 2, none⟩) (.inr (.inl rfl)) (.int .i64 (q : Nat)))
    have HZ3 := Lib.hid (HZq.out.far (p := ⟨gl, 2, none⟩) (show w.heap.size + 1 ≠ gl by omega) (.int .i64 (q : Nat)))
    have HR3 := Lib.hid (HRq.out.far (p := ⟨gl, 2, none⟩) (show w.heap.size ≠ gl by omega) (.int .i64 (q : Nat)))
    clear b2' c2' b6' z0' z1' w0 g0 HXq HYq HMq HZq HRq
    generalize w2.setCell _ _ = w3 at *
    have b6 := HX3.out.cell 6
    have z0 := HZ3.out.cell 0
    have z1 := HZ3.out.cell 1
    simp only [List.getElem?_toArray, List.getElem?_cons_zero, List.getElem?_cons_succ, Array.getElem?_setIfInBounds] at b6 z0 z1
    simp at b6
    have w0 : w3.cell? ⟨gw, 0, none⟩ = some (.int .i64 (wn.getD 0 0 : Nat)) := by
      refine (HY3.out.cell 0).trans ?_
      rw [List.getElem?_toArray]
      exact icells_at _ _ (by rw [Hlen.out]; omega)
    have g0 := HY3.out.frozen 0
    obtain ⟨y, Hy⟩ : ∃ y, Hid (wn.getD 0 0 = y) := ⟨_, rfl⟩
    rw [Hy.out] at w0 bnd0
    have hwr2 : IntKind.i64.wrap ((y : Int) + 1) = (y : Int) + 1 := by rw [IntKind.wrap_i64]; omega
    go_still_tail 9, (by kernel_rfl)
    have HX4 := Lib.hid (HX3.out.drewN 1)
    have HY4 := Lib.hid (HY3.out.drewN 1)
    have HM4 := Lib.hid (HM3.out.drewN 1)
    have HR4 := Lib.hid (HR3.out.drewN 1)
    have z0' : (w3.drewN 1).cell? ⟨w.heap.size + 1, 0, none⟩ = _ := z0
    have z1' : (w3.drewN 1).cell? ⟨w.heap.size + 1, 1, none⟩ = _ := z1
    have w0' : (w3.drewN 1).cell? ⟨gw, 0, none⟩ = _ := w0
    have g0' : (w3.drewN 1).frozen? ⟨gw, 0, none⟩ = false := g0
    change wpList _ _ _ _ _ (w3.drewN 1)
    generalize w3.drewN 1 = w4 at *
    clear b6 z0 z1 w0 g0 HX3 HY3 HM3 HZ3 HR3
    have r0 := HR4.out.cell 0
    have r1 := HR4.out.cell 1
    have t0 := HR4.out.frozen 0
    have t1 := HR4.out.frozen 1
    simp only [List.getElem?_toArray, List.getElem?_cons_zero, List.getElem?_cons_succ] at r0 r1
    have hgwn : ¬ gw = w.heap.size := by omega
    go_wp2_with fail
    have HRf : Hid (Blk (((w4.setCell ⟨gw, 0, none⟩ (.int .i64 ((y : Int) + 1))).setCell ⟨w.heap.size, 0, none⟩ (.int .i64 (N : Nat))).setCell ⟨w.heap.size, 1, none⟩ (.int .i64 0)) w.heap.size 28 #[.int .i64 (N : Nat), .int .i64 0]) :=
      Blk.conv (((HR4.out.far (p := ⟨gw, 0, none⟩) (show w.heap.size ≠ gw by omega) _).set_ 0 _).set_ 1 _) (by simp)
    have HXf : Hid (Blk (((w4.setCell ⟨gw, 0, none⟩ (.int .i64 ((y : Int) + 1))).setCell ⟨w.heap.size, 0, none⟩ (.int .i64 (N : Nat))).setCell ⟨w.heap.size, 1, none⟩ (.int .i64 0)) gl 47 (lcells gw ⟨N, K, q, N, W, M + 1, bump wn 0⟩)) :=
      Blk.conv (((HX4.out.far (p := ⟨gw, 0, none⟩) hne _).far (p := ⟨w.heap.size, 0, none⟩) (show gl ≠ w.heap.size by omega) _).far (p := ⟨w.heap.size, 1, none⟩) (show gl ≠ w.heap.size by omega) _) (by simp [lcells])
    have HYf : Hid (Blk (((w4.setCell ⟨gw, 0, none⟩ (.int .i64 ((y : Int) + 1))).setCell ⟨w.heap.size, 0, none⟩ (.int .i64 (N : Nat))).setCell ⟨w.heap.size, 1, none⟩ (.int .i64 0)) gw 3 (icells (bump wn 0)).toArray) :=
      Blk.conv (((HY4.out.set_ 0 _).far (p := ⟨w.heap.size, 0, none⟩) (show gw ≠ w.heap.size by omega) _).far (p := ⟨w.heap.size, 1, none⟩) (show gw ≠ w.heap.size by omega) _) (icells_bump wn 0 (by rw [Hy.out]))
    have HMf : Hid (Mod w (((w4.setCell ⟨gw, 0, none⟩ (.int .i64 ((y : Int) + 1))).setCell ⟨w.heap.size, 0, none⟩ (.int .i64 (N : Nat))).setCell ⟨w.heap.size, 1, none⟩ (.int .i64 0)) (fun k => k = gl ∨ k = gw)) :=
      ((HM4.out.set (p := ⟨gw, 0, none⟩) (.inr (.inr rfl)) _).set (p := ⟨w.heap.size, 0, none⟩) (.inl (Nat.le_refl _)) _).set (p := ⟨w.heap.size, 1, none⟩) (.inl (Nat.le_refl _)) _
    generalize World.setCell _ _ _ = w5 at *
    have d0 := HRf.out.cell 0
    have d1 := HRf.out.cell 1
    simp only [List.getElem?_toArray, List.getElem?_cons_zero, List.getElem?_cons_succ] at d0 d1
    have HE : Hid (frm ⟨N, K, S, G, W, M, wn⟩ = N ∧ move ⟨N, K, S, G, W, M, wn⟩ = ⟨N, K, q, N, W, M + 1, bump wn 0⟩) := by
      unfold frm move
      rw [if_pos hg, if_pos hg, Hq.out]
      exact ⟨rfl, rfl⟩
    refine bodyPost_ret (v := .agg #[.int .i64 (N : Nat), .int .i64 0]) (by simp [results, Try.results21, go_sem, d0, d1]) rfl ?_
    rw [HE.out.1, HE.out.2]
    refine ⟨?_, ⟨HXf.out, HYf.out⟩, HMf.out⟩
    rw [hg]
    rfl
  · have hg1 : 1 ≤ G := by omega
    have w0 : w.cell? ⟨gw, G, none⟩ = some (.int .i64 (wn.getD G 0 : Nat)) := by
      refine (HL.out.w.cell G).trans ?_
      rw [List.getElem?_toArray]
      exact icells_at _ _ (by rw [Hlen.out]; omega)
    have g0 := HL.out.w.frozen G
    have hgb : ((G : Int) == 0) = false := by rw [beq_eq_false_iff_ne]; omega
    go_enter Try.func21, Try.ntmps21
    go_wp2_with fail
    have HX : Hid (Blk ((w.setCell ⟨gl, 5, none⟩ (.int .i64 ((M : Int) + 1))).alloc (.cells #[.int .i64 0, .int .i64 0] 28)) gl 47
        #[.int .i64 N, .int .i64 K, .int .i64 S, .int .i64 G, .int .i64 W, .int .i64 ((M : Int) + 1), .slice (some ⟨gw, 0, none⟩) (N + 1) (N + 1)]) :=
      Blk.conv ((HL.out.l.set_ 5 _).alloc _) (by simp [lcells])
    have HY : Hid (Blk ((w.setCell ⟨gl, 5, none⟩ (.int .i64 ((M : Int) + 1))).alloc (.cells #[.int .i64 0, .int .i64 0] 28)) gw 3 (icells wn).toArray) :=
      (HL.out.w.far hne.symm _).alloc _
    have HM : Hid (Mod w ((w.setCell ⟨gl, 5, none⟩ (.int .i64 ((M : Int) + 1))).alloc (.cells #[.int .i64 0, .int .i64 0] 28)) (fun k => k = gl ∨ k = gw)) :=
      ((Mod.refl w _).set (p := ⟨gl, 5, none⟩) (.inr (.inl rfl)) _).alloc _
    have HR := Lib.hid (Blk.new (w.setCell ⟨gl, 5, none⟩ (.int .i64 ((M : Int) + 1))) 28 #[.int .i64 0, .int .i64 0])
    rw [show (w.setCell ⟨gl, 5, none⟩ (.int .i64 ((M : Int) + 1))).heap.size = w.heap.size by simp [World.setCell]] at HR
    generalize World.alloc _ _ = w1 at *
    have b3 := HX.out.cell 3
    have c3 := HX.out.frozen 3
    simp only [List.getElem?_toArray, List.getElem?_cons_zero, List.getElem?_cons_succ] at b3
    clear a0 a2 a3 a5 a6 f2 f3 f5 w0 g0
    have hwr : IntKind.i64.wrap ((G : Int) - 1) = (G : Int) - 1 := by rw [IntKind.wrap_i64]; omega
    have hnew := World.new_ne w1 ⟨gl, 3, none⟩ b3
    go_region_held3 (fun w' => w'.cell? ⟨gl, 3, none⟩ = some (.int .i64 (G : Nat))) (go_keep) (fail)
    obtain ⟨nb, Hnb⟩ : ∃ nb, Hid (w1.heap.size = nb) := ⟨_, rfl⟩
    have hnb : w.heap.size < nb := by rw [← Hnb.out]; exact HR.out.lt
    have HZ : Hid (Blk (w1.alloc (.cells #[.int .i64 ((G : Int) - 1), .int .i64 (G : Nat)] 28)).drew nb 28 #[.int .i64 ((G : Int) - 1), .int .i64 (G : Nat)]) := by
      rw [← Hnb.out]
      exact (Blk.new w1 28 _).drew
    have HX2 := Lib.hid ((HX.out.alloc (.cells #[.int .i64 ((G : Int) - 1), .int .i64 (G : Nat)] 28)).drew)
    have HY2 := Lib.hid ((HY.out.alloc (.cells #[.int .i64 ((G : Int) - 1), .int .i64 (G : Nat)] 28)).drew)
    have HR2 := Lib.hid ((HR.out.alloc (.cells #[.int .i64 ((G : Int) - 1), .int .i64 (G : Nat)] 28)).drew)
    have HM2 : Hid (Mod w (w1.alloc (.cells #[.int .i64 ((G : Int) - 1), .int .i64 (G : Nat)] 28)).drew (fun k => k = gl ∨ k = gw)) := (HM.out.alloc _).drewN 1
    rw [Hnb.out]
    clear b3 c3 hnew HX HY HR HM Hnb
    generalize World.drew _ = w2 at *
    have b3 := HX2.out.cell 3
    have c3 := HX2.out.frozen 3
    have b6 := HX2.out.cell 6
    have z0 := HZ.out.cell 0
    have z1 := HZ.out.cell 1
    simp only [List.getElem?_toArray, List.getElem?_cons_zero, List.getElem?_cons_succ] at b3 b6 z0 z1
    have w0 : w2.cell? ⟨gw, G, none⟩ = some (.int .i64 (wn.getD G 0 : Nat)) := by
      refine (HY2.out.cell G).trans ?_
      rw [List.getElem?_toArray]
      exact icells_at _ _ (by rw [Hlen.out]; omega)
    have g0 := HY2.out.frozen G
    have hnbl : ¬ nb = gl := by omega
    have hnbw : ¬ nb = gw := by omega
    go_wp2_with fail
    have HX3 := Lib.hid (HX2.out.set_ 3 (.int .i64 ((G : Int) - 1)))
    have HY3 := Lib.hid (HY2.out.far (p := ⟨gl, 3, none⟩) hne.symm (.int .i64 ((G : Int) - 1)))
    have HM3 := Lib.hid (HM2.out.set (p := ⟨gl, 3, none⟩) (.inr (.inl rfl)) (.int .i64 ((G : Int) - 1)))
    have HZ3 := Lib.hid (HZ.out.far (p := ⟨gl, 3, none⟩) hnbl (.int .i64 ((G : Int) - 1)))
    have HR3 := Lib.hid (HR2.out.far (p := ⟨gl, 3, none⟩) (show w.heap.size ≠ gl by omega) (.int .i64 ((G : Int) - 1)))
    clear b3 c3 b6 z0 z1 w0 g0 HX2 HY2 HM2 HZ HR2
    generalize w2.setCell _ _ = w3 at *
    have b6 := HX3.out.cell 6
    have z0 := HZ3.out.cell 0
    have z1 := HZ3.out.cell 1
    simp only [List.getElem?_toArray, List.getElem?_cons_zero, List.getElem?_cons_succ, Array.getElem?_setIfInBounds] at b6 z0 z1
    simp at b6
    have w0 : w3.cell? ⟨gw, G, none⟩ = some (.int .i64 (wn.getD G 0 : Nat)) := by
      refine (HY3.out.cell G).trans ?_
      rw [List.getElem?_toArray]
      exact icells_at _ _ (by rw [Hlen.out]; omega)
    have g0 := HY3.out.frozen G
    obtain ⟨y, Hy⟩ : ∃ y, Hid (wn.getD G 0 = y) := ⟨_, rfl⟩
    rw [Hy.out] at w0 bnd
    have hwr2 : IntKind.i64.wrap ((y : Int) + 1) = (y : Int) + 1 := by rw [IntKind.wrap_i64]; omega
    have hG0 : (0 : Int) ≤ (G : Int) := by omega
    have hG1 : (G : Int) < (N : Int) + 1 := by omega
    have hG2 : G < N + 1 := by omega
    go_still_tail 9, (by kernel_rfl)
    have HX4 := Lib.hid (HX3.out.drewN 1)
    have HY4 := Lib.hid (HY3.out.drewN 1)
    have HM4 := Lib.hid (HM3.out.drewN 1)
    have HR4 := Lib.hid (HR3.out.drewN 1)
    have z0' : (w3.drewN 1).cell? ⟨nb, 0, none⟩ = _ := z0
    have z1' : (w3.drewN 1).cell? ⟨nb, 1, none⟩ = _ := z1
    have w0' : (w3.drewN 1).cell? ⟨gw, G, none⟩ = _ := w0
    have g0' : (w3.drewN 1).frozen? ⟨gw, G, none⟩ = false := g0
    change wpList _ _ _ _ _ (w3.drewN 1)
    generalize w3.drewN 1 = w4 at *
    clear b6 z0 z1 w0 g0 HX3 HY3 HM3 HZ3 HR3
    have r0 := HR4.out.cell 0
    have r1 := HR4.out.cell 1
    have t0 := HR4.out.frozen 0
    have t1 := HR4.out.frozen 1
    simp only [List.getElem?_toArray, List.getElem?_cons_zero, List.getElem?_cons_succ] at r0 r1
    have hgwn : ¬ gw = w.heap.size := by omega
    go_wp2_with fail
    have HRf : Hid (Blk (((w4.setCell ⟨gw, G, none⟩ (.int .i64 ((y : Int) + 1))).setCell ⟨w.heap.size, 0, none⟩ (.int .i64 ((G : Int) - 1))).setCell ⟨w.heap.size, 1, none⟩ (.int .i64 (G : Nat))) w.heap.size 28 #[.int .i64 ((G : Int) - 1), .int .i64 (G : Nat)]) :=
      Blk.conv (((HR4.out.far (p := ⟨gw, G, none⟩) (show w.heap.size ≠ gw by omega) _).set_ 0 _).set_ 1 _) (by simp)
    have HXf : Hid (Blk (((w4.setCell ⟨gw, G, none⟩ (.int .i64 ((y : Int) + 1))).setCell ⟨w.heap.size, 0, none⟩ (.int .i64 ((G : Int) - 1))).setCell ⟨w.heap.size, 1, none⟩ (.int .i64 (G : Nat))) gl 47 (lcells gw ⟨N, K, S, G - 1, W, M + 1, bump wn G⟩)) :=
      Blk.conv (((HX4.out.far (p := ⟨gw, G, none⟩) hne _).far (p := ⟨w.heap.size, 0, none⟩) (show gl ≠ w.heap.size by omega) _).far (p := ⟨w.heap.size, 1, none⟩) (show gl ≠ w.heap.size by omega) _) (by simp [lcells]; omega)
    have HYf : Hid (Blk (((w4.setCell ⟨gw, G, none⟩ (.int .i64 ((y : Int) + 1))).setCell ⟨w.heap.size, 0, none⟩ (.int .i64 ((G : Int) - 1))).setCell ⟨w.heap.size, 1, none⟩ (.int .i64 (G : Nat))) gw 3 (icells (bump wn G)).toArray) :=
      Blk.conv (((HY4.out.set_ G _).far (p := ⟨w.heap.size, 0, none⟩) (show gw ≠ w.heap.size by omega) _).far (p := ⟨w.heap.size, 1, none⟩) (show gw ≠ w.heap.size by omega) _) (icells_bump wn G (by rw [Hy.out]))
    have HMf : Hid (Mod w (((w4.setCell ⟨gw, G, none⟩ (.int .i64 ((y : Int) + 1))).setCell ⟨w.heap.size, 0, none⟩ (.int .i64 ((G : Int) - 1))).setCell ⟨w.heap.size, 1, none⟩ (.int .i64 (G : Nat))) (fun k => k = gl ∨ k = gw)) :=
      ((HM4.out.set (p := ⟨gw, G, none⟩) (.inr (.inr rfl)) _).set (p := ⟨w.heap.size, 0, none⟩) (.inl (Nat.le_refl _)) _).set (p := ⟨w.heap.size, 1, none⟩) (.inl (Nat.le_refl _)) _
    generalize World.setCell _ _ _ = w5 at *
    have d0 := HRf.out.cell 0
    have d1 := HRf.out.cell 1
    simp only [List.getElem?_toArray, List.getElem?_cons_zero, List.getElem?_cons_succ] at d0 d1
    have HE : Hid (frm ⟨N, K, S, G, W, M, wn⟩ = G - 1 ∧ move ⟨N, K, S, G, W, M, wn⟩ = ⟨N, K, S, G - 1, W, M + 1, bump wn G⟩) := by
      unfold frm move
      rw [if_neg hg, if_neg hg]
      exact ⟨rfl, rfl⟩
    refine bodyPost_ret (v := .agg #[.int .i64 ((G : Int) - 1), .int .i64 (G : Nat)]) (by simp [results, Try.results21, go_sem, d0, d1]) rfl ?_
    rw [HE.out.1, HE.out.2]
    refine ⟨?_, ⟨HXf.out, HYf.out⟩, HMf.out⟩
    rw [show ((G - 1 : Nat) : Int) = (G : Int) - 1 by omega]
end Go.Proofs.Ytpflhgidcjlcjaa
