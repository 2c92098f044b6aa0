/- Plain law: what a crash leaves, word by word. -/
import Derived.Test.YtcnjipicifkfjaaGreatRm32
import Derived.Test.YtcnjipicifkfjaaGreatRm19
import Derived.Test.YtcnjipicifkfjaaGreatRm18
import Derived.Test.YtcnjipicifkfjaaGreatRm03
import Derived.Test.YtcnjipicifkfjaaGreatRm16
import Derived.LoopN
import Derived.Deep.LoopGhost
import Derived.Test.YtcnjipicifkfjaaGreatRm20
import Derived.Shelf.Slices.In.SortNone

namespace Go.Proofs.YtcnjipicifkfjaaGreat
open Go.RowKit
set_option linter.unusedVariables false
set_option linter.unusedSimpArgs false

/-- An image: each line as it was, or (of the lines T) as it is now. -/
structure Img (I : List Nat) (m : Nat) (L0 C : List Nat) (T : Nat → Prop) (ch : Nat → Bool) : Prop where
  t : ∀ l, ch l = true → T l
  len : I.length = 8 * m
  at_ : ∀ j, I.getD j 0 = if ch (j / 8) then C.getD j 0 else L0.getD j 0
theorem fresh_rest (L : List Nat) (m : Nat) (h : L.length = 8 * m) : Rest (fresh L m) m :=
  ⟨⟨h, h, by show (zerosN (8 * m)).length = _; simp [zerosN], by show (falsesN m).length = m; simp [falsesN], by show (falsesN m).length = m; simp [falsesN]⟩, rfl, fun l => (by show (falsesN m).getD l false = false; unfold falsesN; rw [List.getD_eq_getElem?_getD, List.getElem?_replicate]; split <;> rfl), fun l => (by show (falsesN m).getD l false = false; unfold falsesN; rw [List.getD_eq_getElem?_getD, List.getElem?_replicate]; split <;> rfl)⟩
/-- What stores leave of a word. -/
theorem cR_len (ps : List (Nat × Nat)) : ∀ C, (cR C ps).length = C.length := by
  induction ps with
  | nil => intro C; rfl
  | cons p ps ih => intro C; show (cR (C.set p.1 p.2) ps).length = _; rw [ih, List.length_set]
theorem cR_out (ps : List (Nat × Nat)) : ∀ C j, (∀ p ∈ ps, p.1 ≠ j) → (cR C ps).getD j 0 = C.getD j 0 := by
  induction ps with
  | nil => intro C j _; rfl
  | cons p ps ih =>
    intro C j h
    show (cR (C.set p.1 p.2) ps).getD j 0 = _
    rw [ih _ j (fun q hq => h q (List.mem_cons_of_mem _ hq)), getD_set, if_neg (fun e => h p List.mem_cons_self e.1)]
/-- Stores at addresses all unlike: each word is as its store says. -/
theorem cR_at (ps : List (Nat × Nat)) : ∀ C p, p ∈ ps → (ps.map (·.1)).Nodup → p.1 < C.length → (cR C ps).getD p.1 0 = p.2 := by
  induction ps with
  | nil => intro C p h; cases h
  | cons q ps ih =>
    intro C p h hn hl
    have hn2 := List.nodup_cons.1 hn
    show (cR (C.set q.1 q.2) ps).getD p.1 0 = _
    rcases List.mem_cons.1 h with rfl | h1
    · rw [cR_out ps _ _ (fun x hx e => hn2.1 (by have := List.mem_map_of_mem (f := (·.1)) hx; rwa [e] at this)), getD_set, if_pos ⟨rfl, hl⟩]
    · exact ih _ p h1 hn2.2 (by rw [List.length_set]; exact hl)
end Go.Proofs.YtcnjipicifkfjaaGreat

/- trace: New, reach. -/
namespace Go.Proofs.YtcnjipicifkfjaaGreat
open Go.RowKit
set_option linter.unusedVariables false
set_option linter.unusedSimpArgs false

def seenF (st : Nat → Bool) (x : Nat) : Option Value := if st x then some (.bool true) else none
/-- A tracer: its own blocks, and the headers' row. -/
structure TraceX (w : World) (B : Nat) (tr d K : Nat) (hs : List (Nat × Nat)) (g gcap sm bm : Nat) (A : Option Addr) (c : Nat) (st : Nat → Bool) (opn : List Nat) : Prop where
  b : Blk w tr 269 #[.pointer (some ⟨d, 0, none⟩), .int .i64 K, .slice (some ⟨g, 0, none⟩) K gcap, .map (some sm), .slice A opn.length c, .map (some bm)]
  h : Own w 0 178 3 (some ⟨g, 0, none⟩) K gcap (hcells hs)
  s : MapF w sm natK (seenF st)
  bad : ∃ q, w.heap[bm]? = some (.map #[] q)
  o : Own w B 3 1 A opn.length c (ncells opn)
  ne : sm ≠ bm
  ht : B ≤ tr
  hsm : B ≤ sm
  hbm : B ≤ bm
section
variable {w w' : World} {B tr d K g gcap sm bm c : Nat} {hs : List (Nat × Nat)} {A : Option Addr} {st : Nat → Bool} {opn : List Nat}
theorem TraceX.bml (h : TraceX w B tr d K hs g gcap sm bm A c st opn) : bm < w.heap.size := by
  obtain ⟨q, hq⟩ := h.bad
  rcases Nat.lt_or_ge bm w.heap.size with h | h
  · exact h
  · rw [Array.getElem?_eq_none h] at hq; cases hq
theorem TraceX.below {B0 : Nat} (h : TraceX w B tr d K hs g gcap sm bm A c st opn) (hb : Below B0 w w') (hB : w.heap.size ≤ B0) : TraceX w' B tr d K hs g gcap sm bm A c st opn := by
  have hbl := h.bml
  obtain ⟨q, hq⟩ := h.bad
  exact ⟨h.b.below hb (Nat.lt_of_lt_of_le h.b.lt hB), h.h.below hb hB, h.s.below hb (Nat.lt_of_lt_of_le h.s.size hB), ⟨q, (hb.block bm (Nat.lt_of_lt_of_le hbl hB)).trans hq⟩, h.o.below hb hB, h.ne, h.ht, h.hsm, h.hbm⟩
theorem TraceX.smt (h : TraceX w B tr d K hs g gcap sm bm A c st opn) : sm ≠ tr := by
  intro e
  obtain ⟨es, cl, hm, _⟩ := h.s
  have h1 := h.b
  rw [← e] at h1
  have h2 := hm.at_
  unfold Blk at h1
  rw [h1] at h2
  cases h2
theorem TraceX.smg (h : TraceX w B tr d K hs g gcap sm bm A c st opn) {a : Addr} {e t n cp : Nat} {xs : List Value} {B0 : Nat} (ho : Own w B0 e t (some a) n cp xs) : sm ≠ a.block := by
  intro e
  obtain ⟨es, cl, hm, _⟩ := h.s
  have h2 := hm.at_
  rcases ho.form with ⟨h3, _⟩ | ⟨g', cur, h3, _, hb, _⟩
  · cases h3
  · cases h3
    unfold Blk at hb
    rw [e] at h2
    simp only at h2
    rw [hb] at h2
    cases h2
end
theorem zeroValue4 : ∀ w, (zeroValue 4).run Tryz.prog w = .ok (.bool false) w := by
  intro w
  exact Tryz.zeroValue4 w
set_option maxRecDepth 100000 in
theorem trnew_any (d K g gcap : Nat) (hs : List (Nat × Nat)) (w : World) (h : Own w 0 178 3 (some ⟨g, 0, none⟩) K gcap (hcells hs)) :
    Calls Tryz.prog 181 #[.pointer (some ⟨d, 0, none⟩), .agg #[.int .i64 K], .slice (some ⟨g, 0, none⟩) K gcap] w fun e w' => ∃ tr sm bm, e = .returned (.pointer (some ⟨tr, 0, none⟩)) ∧ TraceX w' w.heap.size tr d K hs g gcap sm bm none 0 (fun _ => false) [] ∧ Below w.heap.size w w' := by
  have hmm := @run_makeMap Tryz.prog
  obtain ⟨q, Hq⟩ : ∃ q, Hid (w.heap.size = q) := ⟨_, rfl⟩
  have HB : Hid (Below w.heap.size w ((((w.alloc (.cells #[.int .i64 K] 64)).alloc (.map #[] 0)).alloc (.map #[] 0)).alloc (.cells #[.pointer (some ⟨d, 0, none⟩), .int .i64 K, .slice (some ⟨g, 0, none⟩) K gcap, .map (some (q + 1)), .slice none 0 0, .map (some (q + 2))] 269))) :=
    ((((Below.refl _ w).alloc (Nat.le_refl _) _).alloc (by simp) _).alloc (by simp; omega) _).alloc (by simp; omega) _
  have HX : Hid (TraceX ((((w.alloc (.cells #[.int .i64 K] 64)).alloc (.map #[] 0)).alloc (.map #[] 0)).alloc (.cells #[.pointer (some ⟨d, 0, none⟩), .int .i64 K, .slice (some ⟨g, 0, none⟩) K gcap, .map (some (q + 1)), .slice none 0 0, .map (some (q + 2))] 269)) w.heap.size (q + 3) d K hs g gcap (q + 1) (q + 2) none 0 (fun _ => false) []) := by
    have h1 : (w.alloc (.cells #[.int .i64 K] 64)).heap.size = q + 1 := by rw [World.size_alloc, Hq.out]
    have h2 : ((w.alloc (.cells #[.int .i64 K] 64)).alloc (.map #[] 0)).heap.size = q + 2 := by rw [World.size_alloc, h1]
    have h3 : (((w.alloc (.cells #[.int .i64 K] 64)).alloc (.map #[] 0)).alloc (.map #[] 0)).heap.size = q + 3 := by rw [World.size_alloc, h2]
    have hs := MapF.made (w.alloc (.cells #[.int .i64 K] 64)) (q + 1) h1 natK
    refine ⟨by rw [← h3]; exact Blk.new _ 269 _, h.below HB.out (Nat.le_refl _), (hs.mod ((Mod.refl _ Nob).alloc _) (fun h => h)).mod ((Mod.refl _ Nob).alloc _) (fun h => h), ⟨0, ?_⟩, Own.nil _ _ _ _, by omega, by rw [Hq.out]; omega, by rw [Hq.out]; omega, by rw [Hq.out]; omega⟩
    rw [Below.heap_alloc _ _ _ (by rw [h3]; omega), ← h2]
    exact heap_alloc_new _ _
  clear h
  go_enter Tryz.func181, Tryz.ntmps181
  go_wp2_with fail
  go_ret
  rw [Hq.out] at HX HB ⊢
  exact ⟨q + 3, q + 1, q + 2, rfl, HX.out, HB.out⟩
theorem key3T : KeyT Tryz.prog 3 natK := natT Tryz.underlying3
set_option maxRecDepth 100000 in
set_option maxHeartbeats 1000000 in
theorem reach_no (tr d K g gcap sm bm c B a x y : Nat) (hs : List (Nat × Nat)) (A : Option Addr) (st : Nat → Bool) (opn : List Nat) (w : World) (X Y : Int) (h : TraceX w B tr d K hs g gcap sm bm A c st opn) (hB : B ≤ w.heap.size) (ha : a = 0 ∨ st a = true) :
    Calls Tryz.prog 222 #[.pointer (some ⟨tr, 0, none⟩), .agg #[.int .i64 X, .int .i64 Y], .int .i64 a] w fun e w' => e = .returned (.int .i64 0) ∧ TraceX w' B tr d K hs g gcap sm bm A c st opn ∧ Below B w w' := by
  have hb := below_box w (.cells #[.int .i64 X, .int .i64 Y] 272)
  have HX := Lib.hid (h.below hb (Nat.le_refl _))
  have HB := Lib.hid (hb.mono hB)
  have c3 : (w.alloc (.cells #[.int .i64 X, .int .i64 Y] 272)).cell? ⟨tr, 3, none⟩ = some (.map (some sm)) := HX.out.b.cell 3
  have hlk := HX.out.s.look key3T Tryz.underlying266 zeroValue4 a
  clear h hb
  rcases ha with rfl | ha
  · clear hlk
    go_enter Tryz.func222, Tryz.ntmps222
    go_wp2_with fail
    go_ret
    exact ⟨rfl, HX.out, HB.out⟩
  · have : (seenF st a).getD (.bool false) = .bool true := by simp [seenF, ha]
    rw [this] at hlk
    simp only [natK] at hlk
    clear this
    by_cases ha0 : a = 0
    · subst ha0
      go_enter Tryz.func222, Tryz.ntmps222
      go_wp2_with fail
      go_ret
      exact ⟨rfl, HX.out, HB.out⟩
    · have e1 : ((a : Int) == 0) = false := by rw [beq_eq_false_iff_ne]; omega
      have e2 : decide ((a : Int) = 0) = false := by rw [decide_eq_false_iff_not]; omega
      have e3 : decide (a = 0) = false := by rw [decide_eq_false_iff_not]; omega
      go_enter Tryz.func222, Tryz.ntmps222
      go_wp2_with fail
      go_ret
      exact ⟨rfl, HX.out, HB.out⟩
theorem ncells_snoc' (l : List Nat) (x : Nat) : ncells (l ++ [x]) = ncells l ++ [.int .i64 (x : Nat)] := by simp [ncells]
theorem seenF_put (st : Nat → Bool) (a x : Nat) : putF (seenF st) a (.bool true) x = seenF (addS st a) x := by
  unfold putF seenF addS
  by_cases h : x = a
  · simp [h]
  · simp [h]
set_option maxRecDepth 100000 in
set_option maxHeartbeats 2000000 in
theorem reach_yes (B0 : Nat) (b : DB) (m : Nat) (s : DS) (tr K k g gcap sm bm c B a : Nat) (hs : List (Nat × Nat)) (A : Option Addr) (st : Nat → Bool) (opn : List Nat) (w : World) (X Y : Int) (hD : Dev B0 w b m s) (h : TraceX w B tr b.d K hs g gcap sm bm A c st opn) (hB : B ≤ w.heap.size) (ha : 0 < a) (ha2 : st a = false)
    (hP : Pl s m K k 1 hs a) (hm : m = K * 64) (hK : K ≤ 150) (hol : opn.length ≤ 1000) (hgB : g < B) (hbB : ∀ k, b.has k → k < B) :
    Calls Tryz.prog 222 #[.pointer (some ⟨tr, 0, none⟩), .agg #[.int .i64 X, .int .i64 Y], .int .i64 a] w fun e w' => e = .returned (.int .i64 0) ∧ (∃ A' c', TraceX w' B tr b.d K hs g gcap sm bm A' c' (addS st a) (opn ++ [a])) ∧ Below B w w' := by
  obtain ⟨dd, bl, i, ho, hk, hcell, hh⟩ := hP
  obtain ⟨i0, hi0, hz0, hz1, hz2⟩ := info3s
  obtain ⟨n1, Hn1⟩ : ∃ n, Hid (w.heap.size = n) := ⟨_, rfl⟩
  have L1 := Lib.hid ((Loc.nil Nob w).box 272 #[.int .i64 X, .int .i64 Y] n1 Hn1.out)
  have HDb : Hid (∀ wr, Below w.heap.size w wr → Dev B0 wr b m s) := fun wr hb => hD.below hb (Nat.le_refl _)
  have HXb : Hid (∀ wr, Below w.heap.size w wr → TraceX wr B tr b.d K hs g gcap sm bm A c st opn) := fun wr hb => h.below hb (Nat.le_refl _)
  have Hpl : Hid (∀ wr, Below w.heap.size w wr → Calls Tryz.prog 188 #[.pointer (some ⟨b.d, 0, none⟩), .agg #[.int .i64 K], .slice (some ⟨g, 0, none⟩) K gcap, .int .i64 a] wr fun e w' => e = .returned (.tuple #[.agg #[.int .i64 1, .int .i64 dd], .bool true]) ∧ Below wr.heap.size wr w') :=
    fun wr hb => placed_any B0 b m s K a 1 dd bl i g K gcap hs wr (HDb.out wr hb) ho (by rw [hk]; exact hcell) hK hm (HXb.out wr hb).h (by rw [hk]; exact hh)
  have hlk := fun wr hb => (HXb.out wr hb).s.look key3T Tryz.underlying266 zeroValue4 a
  have hsd : (seenF st a).getD (.bool false) = .bool false := by simp [seenF, ha2]
  rw [hsd] at hlk
  simp only [natK] at hlk
  have Hlk := Lib.hid hlk
  have e1 : ((a : Int) == 0) = false := by rw [beq_eq_false_iff_ne]; omega
  have e2 : decide ((a : Int) = 0) = false := by rw [decide_eq_false_iff_not]; omega
  have e3 : decide (a = 0) = false := by rw [decide_eq_false_iff_not]; omega
  have hlk1 := Hlk.out _ L1.out.below
  have c3 : (w.alloc (.cells #[.int .i64 X, .int .i64 Y] 272)).cell? ⟨tr, 3, none⟩ = some (.map (some sm)) := (HXb.out _ L1.out.below).b.cell 3
  have Hal : Hid (a ≤ 1000000) := by have := ho.le; show a ≤ 1000000; omega
  clear hD h ho hk hcell hh ha2 hlk hsd
  go_enter Tryz.func222, Tryz.ntmps222
  go_wp2_with fail
  rw [Hn1.out]
  clear hlk1 c3
  generalize w.alloc _ = w1 at *
  have L := Lib.hid L1.out.drew
  have c0 : w1.cell? ⟨tr, 0, none⟩ = some (.pointer (some ⟨b.d, 0, none⟩)) := (HXb.out _ L1.out.below).b.cell 0
  have c1 : w1.cell? ⟨tr, 1, none⟩ = some (.int .i64 K) := (HXb.out _ L1.out.below).b.cell 1
  have c2 : w1.cell? ⟨tr, 2, none⟩ = some (.slice (some ⟨g, 0, none⟩) K gcap) := (HXb.out _ L1.out.below).b.cell 2
  have HC : Hid (∀ wr, Below w.heap.size w wr → wr.cell? ⟨tr, 0, none⟩ = some (.pointer (some ⟨b.d, 0, none⟩)) ∧ wr.cell? ⟨tr, 1, none⟩ = some (.int .i64 K) ∧ wr.cell? ⟨tr, 2, none⟩ = some (.slice (some ⟨g, 0, none⟩) K gcap)) :=
    fun wr hb => ⟨(HXb.out _ hb).b.cell 0, (HXb.out _ hb).b.cell 1, (HXb.out _ hb).b.cell 2⟩
  obtain ⟨n5, Hn5⟩ : ∃ n, Hid (w1.heap.size = n) := ⟨_, rfl⟩
  have L5 := Lib.hid (L1.out.box 51 #[.int .i64 0, .int .i64 0] n5 Hn5.out).drew
  go_region_held3 (fun w' => w'.cell? ⟨tr, 0, none⟩ = some (.pointer (some ⟨b.d, 0, none⟩)) ∧ w'.cell? ⟨tr, 1, none⟩ = some (.int .i64 K) ∧ w'.cell? ⟨tr, 2, none⟩ = some (.slice (some ⟨g, 0, none⟩) K gcap))
    (first | exact HC.out _ L.out.below | exact HC.out _ L5.out.below | exact HC.out _ (L.out.alloc _).below | exact HC.out _ L6.out.below | exact HC.out _ ((L6.out.set 0 (.int .i64 1)).set 1 (.int .i64 dd)).below)
    (first
      | (go_at_call 188; refine (Hpl.out _ L.out.below).mono ?_; rintro e w2 ⟨rfl, hb2⟩; replace L := Lib.hid (L.out.call hb2 (Nat.le_refl _)); clear hb2)
      | (go_at_call 188; refine (Hpl.out _ L5.out.below).mono ?_; rintro e w2 ⟨rfl, hb2⟩; have L6 := Lib.hid (L5.out.call hb2 (Nat.le_refl _)); clear hb2; rw [Hn5.out]; have z0 : w2.cell? ⟨n5, 0, none⟩ = some (.int .i64 0) := L6.out.b0.cell 0; have z1 : w2.cell? ⟨n5, 1, none⟩ = some (.int .i64 0) := L6.out.b0.cell 1; have f0 := L6.out.b0.frozen 0; have f1 := L6.out.b0.frozen 1))
  all_goals
    clear c0 c1 c2
    first
      | (have HBW := Lib.hid (L.out.box 51 #[.int .i64 (1 : Nat), .int .i64 dd] w2.heap.size rfl).below
         generalize w2.alloc _ = W at *)
      | (have HBW := Lib.hid ((L6.out.set 0 (.int .i64 1)).set 1 (.int .i64 dd)).below
         clear z0 z1 f0 f1
         generalize (w2.setCell _ _).setCell _ _ = W at *)
    have HX := Lib.hid (HXb.out W HBW.out)
    have c3 : W.cell? ⟨tr, 3, none⟩ = some (.map (some sm)) := HX.out.b.cell 3
    obtain ⟨w7, hput, hF7, hM7⟩ := HX.out.s.put key3T Tryz.underlying266 a (.bool true)
    simp only [natK] at hput
    have hB7 := hM7.blk HX.out.b (fun e => HX.out.smt e.symm)
    have hO7 := HX.out.o.mod hM7 (fun ad had e => by subst had; exact HX.out.smg HX.out.o e.symm)
    have hH7 := HX.out.h.mod hM7 (fun ad had e => by cases had; exact HX.out.smg HX.out.h e.symm)
    obtain ⟨bq, hbq⟩ := HX.out.bad
    have hbad7 := (hM7.block bm HX.out.bml (fun e => HX.out.ne e.symm)).trans hbq
    have HW7 : Hid (Below B w w7) := Below.mod (HBW.out.mono hB) hM7 (Nat.le_trans hB HBW.out.size) (fun k _ e => by rw [e]; exact HX.out.hsm)
    have HB7 := Lib.hid hB7
    have HO7 := Lib.hid hO7
    have HH7 := Lib.hid hH7
    have HF7 := Lib.hid hF7
    have HBd := Lib.hid hbad7
    have HNE := Lib.hid (show sm ≠ bm ∧ B ≤ tr ∧ B ≤ sm ∧ B ≤ bm ∧ sm ≠ tr ∧ sm ≠ g from ⟨HX.out.ne, HX.out.ht, HX.out.hsm, HX.out.hbm, HX.out.smt, HX.out.smg HX.out.h⟩)
    have c4 : w7.cell? ⟨tr, 4, none⟩ = some (.slice A opn.length c) := hB7.cell 4
    have hwB : B ≤ w7.heap.size := Nat.le_trans (Nat.le_trans hB HBW.out.size) hM7.size
    clear hF7 hM7 hB7 hO7 hH7 hbq hbad7 HX HBW
    obtain ⟨ol, Hol⟩ : ∃ ol, Hid (opn.length = ol) := ⟨_, rfl⟩
    rw [Hol.out] at HO7 c4 hol HB7
    go_wp2_with (at_builtin; (refine append_elem rfl (.tmp 53) (.tmp 55) 60 rfl B 3 i0 _ 1 8 Tryz.underlying60 hi0 hz0 hz1 hz2 rfl (by omega) A ol c (ncells opn) rfl HO7.out [.int .i64 a] rfl rfl (by simp [Value.oneCell']) (by unfold maxLen; omega) (by omega) hwB ?_))
    intro A8 c8 w8 hO8 hM8 hat8
    have HB8 := Lib.hid (hM8.blk HB7.out (fun e => by
      obtain ⟨ad, had, e⟩ := e
      exact HO7.out.ne HB7.out (by decide) ad had e))
    have HF8 := Lib.hid (HF7.out.mod hM8 (fun e => by
      obtain ⟨ad, had, e⟩ := e
      obtain ⟨es, cl, hm, _⟩ := HF7.out
      have h2 := hm.at_
      subst had
      rcases HO7.out.form with ⟨h3, _⟩ | ⟨g', cur, h3, _, hb, _⟩
      · cases h3
      · cases h3
        unfold Blk at hb
        simp only at e
        rw [← e, hb] at h2
        cases h2))
    have HBd8 : Hid (∃ q, w8.heap[bm]? = some (.map #[] q)) := by
      refine ⟨bq, (hM8.block bm ?_ ?_).trans HBd.out⟩
      · rcases Nat.lt_or_ge bm w7.heap.size with h | h
        · exact h
        · have := HBd.out
          rw [Array.getElem?_eq_none h] at this; cases this
      · rintro ⟨ad, had, e⟩
        subst had
        rcases HO7.out.form with ⟨h3, _⟩ | ⟨g', cur, h3, _, hb, _⟩
        · cases h3
        · cases h3
          unfold Blk at hb
          simp only at e
          have h2 := HBd.out
          rw [← e, hb] at h2
          cases h2
    have HH8 := Lib.hid (HH7.out.mod hM8 (fun a0 ha0 e => by
      cases ha0
      obtain ⟨ad, had, e⟩ := e
      have := (HO7.out.lt ad had).1
      simp only at e
      omega))
    have HW8 : Hid (Below B w w8) := Below.mod HW7.out hM8 hwB (fun k _ e => by obtain ⟨ad, had, e⟩ := e; rw [← e]; exact (HO7.out.lt ad had).1)
    have HO8 := Lib.hid hO8
    have c5 : w8.cell? ⟨tr, 4, none⟩ = some (.slice A ol c) := HB8.out.cell 4
    have f5 := HB8.out.frozen 4
    have hw8 : B ≤ w8.heap.size := Nat.le_trans hwB hM8.size
    clear hO8 hM8 hat8 HF7 HH7 HBd HB7 HO7 c4
    go_wp2_with fail
    go_ret
    have hB9 := HB8.out.set_ 4 (.slice A8 (ol + 1) c8)
    have hM9 : Mod w8 (w8.setCell ⟨tr, 4, none⟩ (.slice A8 (ol + 1) c8)) (fun k => k = tr) := Mod.set (p := ⟨tr, 4, none⟩) (Mod.refl w8 (fun k => k = tr)) (.inr rfl) _
    have hl : (opn ++ [a]).length = ol + 1 := by rw [List.length_append, Hol.out]; rfl
    have hne := HNE.out
    refine ⟨rfl, ⟨A8, c8, ?_⟩, Below.mod HW8.out hM9 hw8 (fun k _ e => by rw [e]; exact hne.2.1)⟩
    refine ⟨by rw [hl]; exact hB9, HH8.out.mod hM9 (fun a0 ha0 e => by cases ha0; simp only at e; omega), ?_, ?_, ?_, hne.1, hne.2.1, hne.2.2.1, hne.2.2.2.1⟩
    · obtain ⟨es, cl, hm, hx⟩ := (HF8.out.mod hM9 (fun e => hne.2.2.2.2.1 e))
      exact ⟨es, cl, hm, fun x => by rw [← hx x, seenF_put]⟩
    · obtain ⟨q, hq⟩ := HBd8.out
      refine ⟨q, (hM9.block bm ?_ ?_).trans hq⟩
      · rcases Nat.lt_or_ge bm w8.heap.size with h | h
        · exact h
        · rw [Array.getElem?_eq_none h] at hq; cases hq
      · rintro rfl
        have h2 := HB8.out
        unfold Blk at h2
        rw [hq] at h2
        cases h2
    · rw [hl, ncells_snoc']
      exact HO8.out.mod hM9 (fun a0 ha0 e => HO8.out.ne HB8.out (by decide) a0 ha0 e)
end Go.Proofs.YtcnjipicifkfjaaGreat

/- trace: Root, Step, Run, along a pile. -/
namespace Go.Proofs.YtcnjipicifkfjaaGreat
open Go.RowKit
set_option linter.unusedVariables false
set_option linter.unusedSimpArgs false

/-- The address of the t-th object of a pile. -/
def adr (t : Nat) : Nat := 509 + 3 * t
/-- A pile of j objects lies on a device. -/
structure PileIn (s : DS) (m K : Nat) (hs : List (Nat × Nat)) (j : Nat) : Prop where
  pl : ∀ t, 1 ≤ t → t ≤ j → Pl s m K 1 1 hs (adr t)
  nx : ∀ t, 1 ≤ t → t ≤ j → s.C.getD (adr t + 1) 0 = if t = 1 then 0 else adr (t - 1)
def seenP (i j : Nat) : Nat → Bool := fun x => decide (adr i ≤ x ∧ x ≤ adr j ∧ x % 3 = 2)
theorem seenP_none (j x : Nat) : seenP (j + 1) j x = false := by unfold seenP adr; rw [decide_eq_false_iff_not]; omega
theorem seenP_add (i j x : Nat) (h : i ≤ j) : addS (seenP (i + 1) j) (adr i) x = seenP i j x := by
  unfold addS seenP adr
  rw [← Bool.decide_or, decide_eq_decide]
  omega
theorem seenP_at (i j : Nat) : seenP (i + 1) j (adr i) = false := by unfold seenP adr; rw [decide_eq_false_iff_not]; omega
section
variable {w w' : World} {B tr d K g gcap sm bm c : Nat} {hs : List (Nat × Nat)} {A : Option Addr} {st : Nat → Bool} {opn : List Nat}
theorem TraceX.conv {st' : Nat → Bool} (h : TraceX w B tr d K hs g gcap sm bm A c st opn) (e : ∀ x, st x = st' x) : TraceX w B tr d K hs g gcap sm bm A c st' opn := by
  have : st = st' := funext e
  rwa [← this]
theorem TraceX.bmt (h : TraceX w B tr d K hs g gcap sm bm A c st opn) : bm ≠ tr := by
  intro e
  obtain ⟨q, hq⟩ := h.bad
  have h1 := h.b
  rw [← e] at h1
  unfold Blk at h1
  rw [h1] at hq
  cases hq
theorem TraceX.put4 (h : TraceX w B tr d K hs g gcap sm bm A c st opn) (A' : Option Addr) (c' : Nat) (opn' : List Nat) (ho : Own w B 3 1 A' opn'.length c' (ncells opn')) :
    TraceX (w.setCell ⟨tr, 4, none⟩ (.slice A' opn'.length c')) B tr d K hs g gcap sm bm A' c' st opn' ∧ Mod w (w.setCell ⟨tr, 4, none⟩ (.slice A' opn'.length c')) (fun k => k = tr) := by
  have hM : Mod w (w.setCell ⟨tr, 4, none⟩ (.slice A' opn'.length c')) (fun k => k = tr) := Mod.set (p := ⟨tr, 4, none⟩) (Mod.refl w (fun k => k = tr)) (.inr rfl) _
  obtain ⟨q, hq⟩ := h.bad
  exact ⟨⟨h.b.set_ 4 _, h.h.mod hM (fun a ha => h.h.ne h.b (by decide) a ha), h.s.mod hM h.smt, ⟨q, (hM.block bm h.bml h.bmt).trans hq⟩, ho.mod hM (fun a ha => ho.ne h.b (by decide) a ha), h.ne, h.ht, h.hsm, h.hbm⟩, hM⟩
end
set_option maxRecDepth 100000 in
theorem root_zero (tr d K g gcap sm bm c B : Nat) (hs : List (Nat × Nat)) (A : Option Addr) (st : Nat → Bool) (opn : List Nat) (w : World) (h : TraceX w B tr d K hs g gcap sm bm A c st opn) (hB : B ≤ w.heap.size) :
    Calls Tryz.prog 182 #[.pointer (some ⟨tr, 0, none⟩), .int .i64 0] w fun e w' => e = .returned (.int .i64 0) ∧ TraceX w' B tr d K hs g gcap sm bm A c st opn ∧ Below B w w' := by
  have Hr := Lib.hid (reach_no tr d K g gcap sm bm c B 0 0 0 hs A st opn w (-1) 0 h hB (.inl rfl))
  clear h
  go_enter Tryz.func182, Tryz.ntmps182
  go_wp2_with fail
  refine Hr.out.mono ?_
  rintro e w' ⟨rfl, hX, hb⟩
  have HX := Lib.hid hX
  have HB := Lib.hid hb
  clear hX hb
  go_wp2_with fail
  go_ret
  exact ⟨rfl, HX.out, HB.out⟩
set_option maxRecDepth 100000 in
theorem root_at (B0 : Nat) (b : DB) (m : Nat) (s : DS) (tr K g gcap sm bm c B j : Nat) (hs : List (Nat × Nat)) (A : Option Addr) (w : World) (hD : Dev B0 w b m s) (h : TraceX w B tr b.d K hs g gcap sm bm A c (fun _ => false) []) (hB : B ≤ w.heap.size) (hj : 1 ≤ j)
    (hP : PileIn s m K hs j) (hm : m = K * 64) (hK : K ≤ 150) (hgB : g < B) (hbB : ∀ k, b.has k → k < B) :
    Calls Tryz.prog 182 #[.pointer (some ⟨tr, 0, none⟩), .int .i64 (adr j : Nat)] w fun e w' => e = .returned (.int .i64 0) ∧ (∃ A' c', TraceX w' B tr b.d K hs g gcap sm bm A' c' (seenP j j) [adr j]) ∧ Below B w w' := by
  have Hr := Lib.hid (reach_yes B0 b m s tr K 1 g gcap sm bm c B (adr j) hs A (fun _ => false) [] w (-1) 0 hD h hB (by unfold adr; omega) rfl (hP.pl j hj (Nat.le_refl _)) hm hK (by simp) hgB hbB)
  generalize hadr : adr j = a at *
  clear h
  go_enter Tryz.func182, Tryz.ntmps182
  go_wp2_with fail
  refine Hr.out.mono ?_
  rintro e w' ⟨rfl, ⟨A', c', hX⟩, hb⟩
  have HX := Lib.hid hX
  have HB := Lib.hid hb
  clear hX hb
  go_wp2_with fail
  go_ret
  refine ⟨rfl, ⟨A', c', ?_⟩, HB.out⟩
  refine HX.out.conv (fun x => ?_)
  rw [← hadr, ← seenP_add j j x (Nat.le_refl _)]
  unfold addS
  rw [seenP_none]
set_option maxRecDepth 100000 in
theorem trstep_end (tr d K g gcap sm bm c B : Nat) (hs : List (Nat × Nat)) (A : Option Addr) (st : Nat → Bool) (w : World) (h : TraceX w B tr d K hs g gcap sm bm A c st []) :
    Calls Tryz.prog 223 #[.pointer (some ⟨tr, 0, none⟩)] w fun e w' => e = .returned (.bool false) ∧ w = w' := by
  have c4 : w.cell? ⟨tr, 4, none⟩ = some (.slice A 0 c) := h.b.cell 4
  clear h
  go_enter Tryz.func223, Tryz.ntmps223
  go_wp2_with fail
  go_ret
  exact ⟨rfl, rfl⟩
set_option maxRecDepth 100000 in
set_option maxHeartbeats 2000000 in
theorem trstep_any (B0 : Nat) (b : DB) (m : Nat) (s : DS) (tr K g gcap sm bm c B i j : Nat) (hs : List (Nat × Nat)) (A : Option Addr) (w : World) (hD : Dev B0 w b m s) (h : TraceX w B tr b.d K hs g gcap sm bm A c (seenP i j) [adr i]) (hB : B ≤ w.heap.size) (hi : 1 ≤ i) (hij : i ≤ j) (hj : j ≤ 170)
    (hP : PileIn s m K hs j) (hm : m = K * 64) (hK : K ≤ 150) (hgB : g < B) (hbB : ∀ k, b.has k → k < B) :
    Calls Tryz.prog 223 #[.pointer (some ⟨tr, 0, none⟩)] w fun e w' => e = .returned (.bool true) ∧ (∃ A' c', TraceX w' B tr b.d K hs g gcap sm bm A' c' (if i = 1 then seenP 1 j else seenP (i - 1) j) (if i = 1 then [] else [adr (i - 1)])) ∧ Below B w w' := by
  obtain ⟨R1, HR1⟩ : ∃ R, Hid ((if i = 1 then seenP 1 j else seenP (i - 1) j) = R) := ⟨_, rfl⟩
  obtain ⟨R2, HR2⟩ : ∃ R, Hid ((if i = 1 then [] else [adr (i - 1)]) = R) := ⟨_, rfl⟩
  rw [HR1.out, HR2.out]
  obtain ⟨gA, rfl, hgA, hgA2, hcap1, hcap2, hcell, hfz⟩ := h.o.at_ (by simp)
  have c4 : w.cell? ⟨tr, 4, none⟩ = some (.slice (some ⟨gA, 0, none⟩) 1 c) := h.b.cell 4
  have y0 : w.cell? ⟨gA, 0, none⟩ = some (.int .i64 (adr i : Nat)) := hcell 0 _ rfl
  have f4 := h.b.frozen 4
  have HX := Lib.hid h
  have HD := Lib.hid hD
  have ha : adr i ≤ 10000 := by unfold adr; omega
  obtain ⟨a, Ha⟩ : ∃ a, Hid (adr i = a) := ⟨_, rfl⟩
  rw [Ha.out] at y0 ha HX
  clear hcell hfz h hD
  go_enter Tryz.func223, Tryz.ntmps223
  go_wp2_with fail
  go_region
  obtain ⟨w1, Hw1⟩ : ∃ w1, Hid (w.drew = w1) := ⟨_, rfl⟩
  rw [Hw1.out]
  have HX1 : Hid (TraceX w1 B tr b.d K hs g gcap sm bm (some ⟨gA, 0, none⟩) c (seenP i j) [a]) := by rw [← Hw1.out]; exact HX.out.below (below_drewN (Below.refl w.heap.size w) 1) (Nat.le_refl _)
  have HD1 : Hid (Dev B0 w1 b m s) := by rw [← Hw1.out]; exact HD.out.drewN 1
  have HB1 : Hid (Below B w w1) := by rw [← Hw1.out]; exact below_drewN (Below.refl B w) 1
  have c4' : w1.cell? ⟨tr, 4, none⟩ = some (.slice (some ⟨gA, 0, none⟩) 1 c) := HX1.out.b.cell 4
  have f4' := HX1.out.b.frozen 4
  clear c4 y0 f4 HX HD
  go_wp2_with fail
  go_region
  have hsz1 : B ≤ w1.heap.size := Nat.le_trans hB HB1.out.size
  obtain ⟨hXp, hMp⟩ := HX1.out.put4 (some ⟨gA, 0, none⟩) c [] (HX1.out.o.cut (k := 0) (Nat.zero_le _))
  have hWd : Below (w1.setCell ⟨tr, 4, none⟩ (.slice (some ⟨gA, 0, none⟩) 0 c)).heap.size (w1.setCell ⟨tr, 4, none⟩ (.slice (some ⟨gA, 0, none⟩) 0 c)) (w1.setCell ⟨tr, 4, none⟩ (.slice (some ⟨gA, 0, none⟩) 0 c)).drew := below_drewN (Below.refl _ _) 1
  have HX2 : Hid (TraceX (w1.setCell ⟨tr, 4, none⟩ (.slice (some ⟨gA, 0, none⟩) 0 c)).drew B tr b.d K hs g gcap sm bm (some ⟨gA, 0, none⟩) c (seenP i j) []) := hXp.below hWd (Nat.le_refl _)
  have hBp : Below B w1 (w1.setCell ⟨tr, 4, none⟩ (.slice (some ⟨gA, 0, none⟩) 0 c)) := hMp.below hsz1 (fun k e => by rw [e]; exact HX1.out.ht)
  have HB2 : Hid (Below B w (w1.setCell ⟨tr, 4, none⟩ (.slice (some ⟨gA, 0, none⟩) 0 c)).drew) := (HB1.out.trans hBp).trans (hWd.mono (Nat.le_trans hsz1 hBp.size))
  have HD2 : Hid (Dev B0 (w1.setCell ⟨tr, 4, none⟩ (.slice (some ⟨gA, 0, none⟩) 0 c)).drew b m s) := (HD1.out.mod hMp (fun k h1 h2 => by have h3 := hbB k h1; have h4 := HX1.out.ht; omega)).drewN 1
  clear hXp hMp hWd hBp HX1 HD1 HB1 c4' f4'
  generalize (w1.setCell _ _).drew = w2 at *
  have c0 : w2.cell? ⟨tr, 0, none⟩ = some (.pointer (some ⟨b.d, 0, none⟩)) := HX2.out.b.cell 0
  have hsz2 : B ≤ w2.heap.size := Nat.le_trans hB HB2.out.size
  obtain ⟨_, dd, bl, ii, hoA, _, _, _⟩ : True ∧ Pl s m K 1 1 hs (adr i) := ⟨trivial, hP.pl i hi hij⟩
  have hnx := hP.nx i hi hij
  obtain ⟨v, Hv⟩ : ∃ v, Hid ((if i = 1 then 0 else adr (i - 1)) = v) := ⟨_, rfl⟩
  rw [Hv.out] at hnx
  have hvl : v ≤ 10000 := by rw [← Hv.out]; unfold adr; split <;> omega
  have Hpt := Lib.hid (ptrs_any B0 b m s (adr i) 1 dd w2 HD2.out hoA (fun _ => by rw [hnx]; omega) (by omega))
  rw [show ptrsL s (adr i) 1 = [v] by unfold ptrsL; rw [hnx]; rfl, Ha.out] at Hpt
  have Hre : Hid (∀ wr, Below w2.heap.size w2 wr → Calls Tryz.prog 222 #[.pointer (some ⟨tr, 0, none⟩), .agg #[.int .i64 a, .int .i64 0], .int .i64 v] wr fun e w' => e = .returned (.int .i64 0) ∧ (∃ A' c', TraceX w' B tr b.d K hs g gcap sm bm A' c' (if i = 1 then seenP 1 j else seenP (i - 1) j) (if i = 1 then [] else [adr (i - 1)])) ∧ Below B wr w') := by
    intro wr hb
    have hX := HX2.out.below hb (Nat.le_refl _)
    have hszr : B ≤ wr.heap.size := Nat.le_trans hsz2 hb.size
    by_cases h1 : i = 1
    · subst h1
      have hv0 : v = 0 := by rw [← Hv.out]; rfl
      subst hv0
      refine (reach_no tr b.d K g gcap sm bm c B 0 0 0 hs _ _ _ wr a 0 hX hszr (.inl rfl)).mono ?_
      rintro e w' ⟨rfl, hX', hb'⟩
      exact ⟨rfl, ⟨_, _, by rw [if_pos rfl, if_pos rfl]; exact hX'⟩, hb'⟩
    · have hv0 : v = adr (i - 1) := by rw [← Hv.out, if_neg h1]
      have hii : i = i - 1 + 1 := by omega
      refine (reach_yes B0 b m s tr K 1 g gcap sm bm c B v hs _ (seenP i j) [] wr a 0 (HD2.out.below hb (Nat.le_refl _)) hX hszr (by rw [hv0]; unfold adr; omega) ?_ (by rw [hv0]; exact hP.pl (i - 1) (by omega) (by omega)) hm hK (by simp) hgB hbB).mono ?_
      · rw [hv0, hii]
        exact seenP_at (i - 1) j
      · rintro e w' ⟨rfl, ⟨A', c', hX'⟩, hb'⟩
        refine ⟨rfl, ⟨A', c', ?_⟩, hb'⟩
        rw [if_neg h1, if_neg h1, ← hv0]
        refine hX'.conv (fun x => ?_)
        rw [← seenP_add (i - 1) j x (by omega), ← hii, hv0]
  rw [HR1.out, HR2.out] at Hre
  clear hoA hnx HX2 HD2 hP
  go_wp2_with fail
  refine Hpt.out.mono ?_
  rintro e w3 ⟨A3, cap3, rfl, hO3, hb3⟩
  obtain ⟨g3, rfl, hg3, hg32, _, _, hcell3, _⟩ := hO3.at_ (by simp)
  have y3 : w3.cell? ⟨g3, 0, none⟩ = some (.int .i64 v) := hcell3 0 _ rfl
  have Hre2 := Lib.hid (Hre.out w3 hb3)
  have HB3 : Hid (Below B w w3) := HB2.out.trans (hb3.mono hsz2)
  clear hO3 hb3 hcell3 c0 Hre HB2
  simp only [List.length_cons, List.length_nil]
  go_wp2_with fail
  refine wp_loop_rounds 2 ?_
  rw [rounds_succ]
  go_wp2_with fail
  refine Hre2.out.mono ?_
  rintro e w4 ⟨rfl, ⟨A4, c4, hX4⟩, hb4⟩
  have HX4 := Lib.hid hX4
  have HB4 : Hid (Below B w w4) := HB3.out.trans hb4
  clear hX4 hb4
  go_wp2_with fail
  rw [rounds_succ]
  go_wp2_with fail
  go_ret
  exact ⟨rfl, ⟨A4, c4, HX4.out⟩, HB4.out⟩
end Go.Proofs.YtcnjipicifkfjaaGreat

/- trace: Seen. -/
namespace Go.Proofs.YtcnjipicifkfjaaGreat
open Go.RowKit
set_option linter.unusedVariables false
set_option linter.unusedSimpArgs false

theorem sort_none (w : World) : Calls Tryz.prog 193 #[.slice none 0 0] w fun e w' => e = .returned (.tuple #[]) ∧ w' = w := Any.slices_Sort_int_none Tryz.lays189 none 0 w
set_option maxRecDepth 100000 in
set_option maxHeartbeats 2000000 in
theorem trseen_any (w : World) (B tr d K g gcap sm bm c : Nat) (hs : List (Nat × Nat)) (A : Option Addr) (st : Nat → Bool) (opn ts : List Nat) (h : TraceX w B tr d K hs g gcap sm bm A c st opn) (hl : ts.Nodup) (hx : ∀ x, x ∈ ts ↔ st x = true) (hsrt : ts.Pairwise (· ≤ ·)) (htl : ts.length ≤ 1000) :
    Calls Tryz.prog 184 #[.pointer (some ⟨tr, 0, none⟩)] w fun e w' => ∃ A' cap', e = .returned (.slice A' ts.length cap') ∧ Own w' w.heap.size 3 1 A' ts.length cap' (ncells ts) ∧ Below w.heap.size w w' := by
  obtain ⟨i0, hi0, hz0, hz1, hz2⟩ := info3s
  obtain ⟨es, clock, hm, hf⟩ := h.s
  have c3 : w.cell? ⟨tr, 3, none⟩ = some (.map (some sm)) := h.b.cell 3
  obtain ⟨q, Hq⟩ : ∃ q, Hid (w.heap.size = q) := ⟨_, rfl⟩
  have hrg := run_range_map (P := Tryz.prog) hm Tryz.underlying266
  have HR := Lib.hid (Rng.start hm q Hq.out)
  have HB := Lib.hid (below_box w (.mapIter (some sm) clock #[] clock))
  have hsl : sm < w.heap.size := h.s.size
  have Hsl := Lib.hid hsl
  have Hfe := Lib.hid hf
  have Hl := Lib.hid hl
  have Hx := Lib.hid hx
  have Hsrt := Lib.hid hsrt
  have Hes : Hid (es.length = ts.length) := by
    have : (es.map (·.1)).Perm ts := by
      rw [List.perm_ext_iff_of_nodup hm.keys hl]
      intro x
      rw [hx]
      constructor
      · intro hmm
        obtain ⟨e, he, rfl⟩ := List.mem_map.1 hmm
        have := getE_of_mem hm.keys (x := e.1) (v := e.2.1) (b := e.2.2) he
        rw [← hf] at this
        unfold seenF at this
        split at this
        · assumption
        · cases this
      · intro hst
        have := hf x
        unfold seenF at this
        rw [if_pos hst] at this
        obtain ⟨b, hb⟩ := getE_mem this.symm
        exact List.mem_map.2 ⟨_, hb, rfl⟩
    have := this.length_eq
    rwa [List.length_map] at this
  have HQ1 : Hid (q < (w.alloc (.mapIter (some sm) clock #[] clock)).heap.size) := by show _ < _; rw [World.size_alloc, Hq.out]; omega
  clear h hm hf hl hx hsrt hsl
  go_enter Tryz.func184, Tryz.ntmps184
  go_wp2_with fail
  rw [Hq.out]
  clear hrg c3
  generalize w.alloc _ = w1 at *
  go_loopg [3] (es.length + 1) (fun k v wr => ∃ A n cap vs, v = .slice A n cap ∧ n = vs.length ∧ es.length + 1 = k + vs.length ∧ Own wr w.heap.size 3 1 A n cap (ncells (vs.map (·.1))) ∧ Rng wr sm q es clock vs ∧ Below w.heap.size w wr ∧ q < wr.heap.size)
  case atStart => exact ⟨none, 0, 0, [], rfl, rfl, by simp, Own.nil _ _ _ _, HR.out, HB.out, HQ1.out⟩
  case round =>
    clear HR HB
    obtain ⟨A, n, cap, vs, rfl, hn, hk, hO, hR, hB, hqw⟩ := hrel
    rcases hR.next (P := Tryz.prog) with ⟨hall, hnx⟩ | ⟨e, he, hv, w2, hnx, hR2, hM2, hen⟩
    · have HP : Hid ((vs.map (·.1)).Perm ts) := hR.perm hall st Hfe.out ts Hl.out Hx.out
      have hvl : vs.length = ts.length := by rw [← HP.out.length_eq, List.length_map]
      have HO := Lib.hid hO
      have HB := Lib.hid hB
      have Hvl := Lib.hid (hn.trans hvl)
      clear hR hO hB hall hvl
      have hnA : (A = none ∧ n = 0 ∧ cap = 0) ∨ ∃ g, A = some ⟨g, 0, none⟩ := by
        rcases HO.out.form with h | ⟨g, _, h, _⟩
        · exact .inl h
        · exact .inr ⟨g, h⟩
      rcases hnA with ⟨rfl, rfl, rfl⟩ | ⟨g, rfl⟩
      · have Hts : Hid (ts = []) := List.eq_nil_of_length_eq_zero Hvl.out.symm
        have hso := Lib.hid (sort_none wr)
        clear hn hk
        go_wp2_with fail
        refine hso.out.mono ?_
        rintro e w3 ⟨rfl, rfl⟩
        go_wp2_with fail
        go_ret
        rw [Hts.out]
        exact ⟨none, 0, rfl, Own.nil _ _ _ _, HB.out⟩
      · have hso := Lib.hid (sort_any w.heap.size g n cap (vs.map (·.1)) ts wr HO.out (by have := Hvl.out; omega) HP.out Hsrt.out)
        clear hn hk
        have Hgw := Lib.hid (HO.out.lt _ rfl).1
        go_wp2_with fail
        refine hso.out.mono ?_
        rintro e w3 ⟨rfl, hO3, hM3⟩
        have HO3 := Lib.hid hO3
        have HB3 : Hid (Below w.heap.size w w3) := Below.mod HB.out hM3 HB.out.size (fun k _ e => by rw [e]; exact Hgw.out)
        clear hO3 hM3 hso
        go_wp2_with fail
        go_ret
        rw [← Hvl.out]
        exact ⟨_, cap, rfl, HO3.out, HB3.out⟩
    · have hlt : vs.length + 1 ≤ es.length := by
        have h1 : (vs ++ [e]).length ≤ es.length := List.Nodup.length_le_of_subset hR2.nd (fun x hx => hR2.sub x hx)
        simpa using h1
      simp only [natK] at hnx hen
      have HO2 := Lib.hid (hO.mod hM2 (fun a ha hq2 => by
        obtain ⟨seen, h1, _⟩ := hR.i
        rcases hO.form with ⟨h3, _⟩ | ⟨g', cur, h3, _, hb, _⟩
        · rw [h3] at ha; cases ha
        · rw [h3] at ha
          cases ha
          unfold Blk at hb
          simp only at hq2
          rw [hq2, h1] at hb
          cases hb))
      have HB2 : Hid (Below w.heap.size w w2) := Below.mod hB hM2 hB.size (fun k _ e => by rw [e, ← Hq.out]; exact Nat.le_refl _)
      have HR2 := Lib.hid hR2
      have hw2 : w.heap.size ≤ w2.heap.size := HB2.out.size
      have hn2 : n ≤ 1000 := by have := Hes.out; omega
      have Hk := Lib.hid hk
      have Hn := Lib.hid hn
      have HqL := Lib.hid (Nat.lt_of_lt_of_le hqw hM2.size)
      have Hlt := Lib.hid hlt
      clear hR hR2 hO hB hM2 hk hn hqw hlt
      go_wp2_with (at_builtin; (refine append_elem rfl (.tmp 14) (.tmp 16) 60 rfl w.heap.size 3 i0 _ 1 8 Tryz.underlying60 hi0 hz0 hz1 hz2 rfl (by omega) A n cap (ncells (vs.map (·.1))) rfl HO2.out [.int .i64 e.1] rfl rfl (by simp [Value.oneCell']) (by unfold maxLen; omega) (by omega) hw2 ?_))
      intro A4 c4 w4 hO4 hM4 hat4
      have HO4 := Lib.hid hO4
      have HR4 := Lib.hid (HR2.out.mod hM4 (fun h => by
        obtain ⟨ad, had, e⟩ := h
        have := (HO2.out.lt ad had).1
        have := Hsl.out
        omega) (fun h => by
        obtain ⟨ad, had, e⟩ := h
        obtain ⟨seen, h1, _⟩ := HR2.out.i
        rcases HO2.out.form with ⟨h3, _⟩ | ⟨g', cur, h3, _, hb, _⟩
        · rw [h3] at had; cases had
        · rw [h3] at had
          cases had
          unfold Blk at hb
          simp only at e
          rw [e, h1] at hb
          cases hb))
      have HB4 : Hid (Below w.heap.size w w4) := Below.mod HB2.out hM4 hw2 (fun k _ h => by obtain ⟨ad, had, e⟩ := h; rw [← e]; exact (HO2.out.lt ad had).1)
      have HqL4 := Lib.hid (Nat.lt_of_lt_of_le HqL.out hM4.size)
      clear hO4 hM4 hat4 HO2 HR2 HB2
      go_wp2_with fail
      go_roundg (gk - 1)
      case measure =>
        have := Hk.out
        have := Hlt.out
        omega
      case rel =>
        refine ⟨A4, n + 1, c4, vs ++ [e], rfl, by rw [List.length_append, Hn.out]; rfl, by have := Hk.out; have := Hlt.out; rw [List.length_append]; simp; omega, ?_, HR4.out, HB4.out, HqL4.out⟩
        rw [List.map_append, List.map_cons, List.map_nil, ncells_snoc']
        exact HO4.out
end Go.Proofs.YtcnjipicifkfjaaGreat
