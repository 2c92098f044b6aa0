/- ohead: headers of objects. -/
import Derived.Test.YtcnjipicifkfjaaGreatRm04
import Derived.Laws.CopyOwn
import Derived.Deep.AppendLies

namespace Go.Proofs.YtcnjipicifkfjaaGreat
open Go.RowKit
set_option linter.unusedVariables false
set_option linter.unusedSimpArgs false

/-- Objects that are spoken of: one pointer and one word, or no pointer and few words. -/
def Obj (p d : Nat) : Prop := (p = 1 ∧ d = 1) ∨ (p = 0 ∧ d ≤ 60)
def onum (p d : Nat) : Nat := 165 + 256 * p + 16384 * d
def oword (at_ p d : Nat) : Nat := sealN (onum p d) at_
theorem Obj.le {p d : Nat} (h : Obj p d) : p ≤ 1 ∧ d ≤ 60 ∧ onum p d < 1000000 := by
  unfold onum
  rcases h with ⟨rfl, rfl⟩ | ⟨rfl, h⟩ <;> omega
theorem puts_obj (p d : Nat) (h : Obj p d) : putM 165 8 6 p = ((165 + 256 * p : Nat) : Int) ∧ putM ((165 + 256 * p : Nat) : Int) 14 15 d = (onum p d : Nat) := by
  rcases h with ⟨rfl, rfl⟩ | ⟨rfl, h⟩
  · decide
  · have : ∀ d : Fin 61, putM 165 8 6 (0 : Nat) = ((165 + 256 * 0 : Nat) : Int) ∧ putM ((165 + 256 * 0 : Nat) : Int) 14 15 (d.1 : Nat) = (onum 0 d.1 : Nat) := by decide +kernel
    exact this ⟨d, by omega⟩
theorem gets_obj (p d : Nat) (h : Obj p d) : getM (onum p d : Nat) 8 6 = p ∧ getM (onum p d : Nat) 14 15 = d := by
  rcases h with ⟨rfl, rfl⟩ | ⟨rfl, h⟩
  · decide
  · have : ∀ d : Fin 61, getM (onum 0 d.1 : Nat) 8 6 = (0 : Nat) ∧ getM (onum 0 d.1 : Nat) 14 15 = (d.1 : Nat) := by decide +kernel
    exact this ⟨d, by omega⟩

theorem osize_any (p d : Nat) (w : World) (hp : p ≤ 63) (hd : d ≤ 16384) : Calls Tryz.prog 48 #[.agg #[.int .i64 p, .int .i64 d]] w fun e w' => e = .returned (.int .i64 ((1 + p + d : Nat) : Int)) ∧ Below w.heap.size w w' := by
  obtain ⟨s, Hs⟩ : ∃ s, Hid (1 + p + d = s) := ⟨_, rfl⟩
  rw [Hs.out]
  go_enter Tryz.func48, Tryz.ntmps48
  have HB := Lib.hid (below_box w (.cells #[.int .i64 p, .int .i64 d] 51))
  go_wp2_with fail
  generalize w.alloc _ = w0 at *
  refine (csz_any p d w0 hp hd).mono ?_
  rintro e w1 ⟨rfl, rfl⟩
  rw [Hs.out]
  go_wp2_with fail
  go_ret
  exact ⟨rfl, HB.out⟩
theorem osmall_any (p d : Nat) (w : World) (hp : p ≤ 63) (h : 1 + p + d ≤ 256) : Calls Tryz.prog 51 #[.agg #[.int .i64 p, .int .i64 d]] w fun e w' => e = .returned (.tuple #[.int .i64 (cof (1 + p + d) : Nat), .bool true]) ∧ Below w.heap.size w w' := by
  have H1 := Lib.hid (fun w => osize_any p d w hp (by omega))
  have H2 := Lib.hid (fun w => cof_any (1 + p + d) w (by omega) h)
  obtain ⟨s, Hs⟩ : ∃ s, Hid (1 + p + d = s) := ⟨_, rfl⟩
  rw [Hs.out] at H1 H2 h ⊢
  obtain ⟨c, Hc⟩ : ∃ c, Hid (cof s = c) := ⟨_, rfl⟩
  rw [Hc.out] at H2 ⊢
  go_enter Tryz.func51, Tryz.ntmps51
  have HB := Lib.hid (below_box w (.cells #[.int .i64 p, .int .i64 d] 51))
  go_wp2_with fail
  generalize w.alloc _ = w0 at *
  refine (H1.out w0).mono ?_
  rintro e w1 ⟨rfl, hb⟩
  have HB1 := Lib.hid (HB.out.trans (hb.mono HB.out.size))
  clear hb HB
  go_wp2_with fail
  refine (H2.out w1).mono ?_
  rintro e w2 ⟨rfl, hb⟩
  have HB2 := Lib.hid (HB1.out.trans (hb.mono HB1.out.size))
  clear hb HB1
  go_wp2_with fail
  go_ret2
  exact ⟨rfl, HB2.out⟩

theorem oenc_any (at_ p d : Nat) (w : World) (h : Obj p d) (ha : at_ < 1000000) :
    Calls Tryz.prog 162 #[.agg #[.int .i64 p, .int .i64 d], .int .i64 at_] w fun e w' => e = .returned (.int .u64 (oword at_ p d : Nat)) ∧ Below w.heap.size w w' := by
  obtain ⟨p1, p2⟩ := puts_obj p d h
  obtain ⟨n1, n2, n3⟩ := h.le
  have H1 := Lib.hid (fun w => osize_any p d w (by omega) (by omega))
  obtain ⟨m, Hm⟩ : ∃ m, Hid (165 + 256 * p = m) := ⟨_, rfl⟩
  have hm : m < 1000000 := by rw [← Hm.out]; omega
  rw [Hm.out] at p1 p2
  have HP := Lib.hid (And.intro p1 p2)
  obtain ⟨n, Hn⟩ : ∃ n, Hid (onum p d = n) := ⟨_, rfl⟩
  unfold oword
  rw [Hn.out] at HP n3 ⊢
  clear p1 p2 h
  obtain ⟨s, Hs⟩ : ∃ s, Hid (1 + p + d = s) := ⟨_, rfl⟩
  have hs : 1 ≤ s := by rw [← Hs.out]; omega
  have hs2 : ((s : Int) == 0) = false := by rw [beq_eq_false_iff_ne]; omega
  have hs3 : (s == 0) = false := by rw [beq_eq_false_iff_ne]; omega
  rw [Hs.out] at H1
  obtain ⟨N, HN⟩ : ∃ N, Hid (w.heap.size = N) := ⟨_, rfl⟩
  go_enter Tryz.func162, Tryz.ntmps162
  have HB := Lib.hid (below_box w (.cells #[.int .i64 p, .int .i64 d] 51))
  have HX := Lib.hid (Blk.new w 51 #[.int .i64 p, .int .i64 d])
  have hsz : w.heap.size < (w.alloc (.cells #[.int .i64 p, .int .i64 d] 51)).heap.size := by simp
  rw [HN.out] at HX hsz
  go_wp2_with fail
  rw [HN.out]
  generalize w.alloc _ = w0 at *
  refine (H1.out w0).mono ?_
  rintro e w1 ⟨rfl, hb⟩
  have HB1 := Lib.hid (HB.out.trans (hb.mono HB.out.size))
  have HX1 := HX.out.below hb hsz
  have x0 := HX1.cell 0
  have x1 := HX1.cell 1
  simp only [List.getElem?_toArray, List.getElem?_cons_zero, List.getElem?_cons_succ] at x0 x1
  clear hb HB HX HX1
  go_wp2_with fail
  refine (put_any 165 p 8 6 w1 (by omega) (by omega) (by omega)).mono ?_
  rintro e w' ⟨rfl, rfl⟩
  rw [HP.out.1]
  go_wp2_with fail
  refine (put_any m d 14 15 w1 (by omega) (by omega) (by omega)).mono ?_
  rintro e w' ⟨rfl, rfl⟩
  rw [HP.out.2]
  go_wp2_with fail
  refine (seal_any n at_ w1 (by omega) (by omega)).mono ?_
  rintro e w2 ⟨rfl, hb2⟩
  have HB2 := Lib.hid (HB1.out.trans (hb2.mono HB1.out.size))
  clear hb2
  go_wp2_with fail
  go_ret
  exact ⟨rfl, HB2.out⟩

theorem optr_any (p d : Nat) (i : Nat) (w : World) (hi : i < p) (hp : p ≤ 63) :
    Calls Tryz.prog 172 #[.agg #[.int .i64 p, .int .i64 d], .int .i64 i] w fun e w' => e = .returned (.tuple #[.int .i64 ((1 + i : Nat) : Int), .bool true]) ∧ Below w.heap.size w w' := by
  have h1 : (1 : Int) + (i : Int) = ((1 + i : Nat) : Int) := by omega
  obtain ⟨s, Hs⟩ : ∃ s, Hid (1 + i = s) := ⟨_, rfl⟩
  have hsb : s ≤ 64 := by rw [← Hs.out]; omega
  rw [Hs.out] at h1 ⊢
  go_enter Tryz.func172, Tryz.ntmps172
  have HB := Lib.hid (below_box w (.cells #[.int .i64 p, .int .i64 d] 51))
  have HX := Lib.hid (Blk.new w 51 #[.int .i64 p, .int .i64 d])
  have x0 := HX.out.cell 0
  simp only [List.getElem?_toArray, List.getElem?_cons_zero, List.getElem?_cons_succ] at x0
  go_wp2_with fail
  go_quiet (fail)
  go_wp2_with fail
  go_ret2
  exact ⟨by first | (simp; done) | (simp; omega), below_drewN HB.out _⟩
theorem odata_any (p d : Nat) (i : Nat) (w : World) (hi : i < d) (hp : p ≤ 63) (hd : d ≤ 16384) :
    Calls Tryz.prog 173 #[.agg #[.int .i64 p, .int .i64 d], .int .i64 i] w fun e w' => e = .returned (.tuple #[.int .i64 ((1 + p + i : Nat) : Int), .bool true]) ∧ Below w.heap.size w w' := by
  have h1 : (1 : Int) + (p : Int) + (i : Int) = ((1 + p + i : Nat) : Int) := by omega
  obtain ⟨s, Hs⟩ : ∃ s, Hid (1 + p + i = s) := ⟨_, rfl⟩
  have hsb : s ≤ 100000 := by rw [← Hs.out]; omega
  rw [Hs.out] at h1 ⊢
  go_enter Tryz.func173, Tryz.ntmps173
  have HB := Lib.hid (below_box w (.cells #[.int .i64 p, .int .i64 d] 51))
  have HX := Lib.hid (Blk.new w 51 #[.int .i64 p, .int .i64 d])
  have x0 := HX.out.cell 0
  have x1 := HX.out.cell 1
  simp only [List.getElem?_toArray, List.getElem?_cons_zero, List.getElem?_cons_succ] at x0 x1
  go_wp2_with fail
  go_quiet (fail)
  go_wp2_with fail
  go_ret2
  exact ⟨by first | (simp; done) | (simp; omega), below_drewN HB.out _⟩

theorem odec_any (at_ p d : Nat) (w : World) (h : Obj p d) (ha : at_ < 1000000) :
    Calls Tryz.prog 175 #[.int .i64 at_, .int .u64 (oword at_ p d : Nat)] w fun e w' => e = .returned (.tuple #[.agg #[.int .i64 p, .int .i64 d], .int .i64 0]) ∧ Below w.heap.size w w' := by
  obtain ⟨p1, p2⟩ := gets_obj p d h
  have HP := Lib.hid (And.intro p1 p2)
  obtain ⟨n1, n2, n3⟩ := h.le
  have HE : Hid (∀ w, Calls Tryz.prog 162 #[.agg #[.int .i64 p, .int .i64 d], .int .i64 at_] w fun e w' => e = .returned (.int .u64 (oword at_ p d : Nat)) ∧ Below w.heap.size w w') := fun w => oenc_any at_ p d w h ha
  obtain ⟨n, Hn⟩ : ∃ n, Hid (onum p d = n) := ⟨_, rfl⟩
  unfold oword at HE ⊢
  rw [Hn.out] at HP n3 HE ⊢
  clear p1 p2 h
  go_enter Tryz.func175, Tryz.ntmps175
  have HB0 := Lib.hid (below_box w (.cells #[.int .i64 0, .int .i64 0] 51))
  have HX0 := Lib.hid (Blk.new w 51 #[.int .i64 0, .int .i64 0])
  have hsz : w.heap.size < (w.alloc (.cells #[.int .i64 0, .int .i64 0] 51)).heap.size := by simp
  obtain ⟨N, HN⟩ : ∃ N, Hid (w.heap.size = N) := ⟨_, rfl⟩
  rw [HN.out] at HX0 hsz
  go_wp2_with fail
  rw [HN.out]
  generalize w.alloc _ = w0 at *
  refine (open_seal n at_ w0 (by omega) (by omega)).mono ?_
  rintro e w1 ⟨rfl, hb1⟩
  have HB1 := Lib.hid (HB0.out.trans (hb1.mono HB0.out.size))
  have HX1 := Lib.hid (HX0.out.below hb1 hsz)
  have hsz1 := Nat.lt_of_lt_of_le hsz hb1.size
  clear hb1 hsz HB0 HX0
  go_wp2_with fail
  refine (get_any n 8 6 w1 (by omega) (by omega) (by omega)).mono ?_
  rintro e w' ⟨rfl, rfl⟩
  rw [HP.out.1]
  go_wp2_with fail
  refine (get_any n 14 15 w1 (by omega) (by omega) (by omega)).mono ?_
  rintro e w' ⟨rfl, rfl⟩
  rw [HP.out.2]
  go_wp2_with fail
  refine (HE.out _).mono ?_
  rintro e w2 ⟨rfl, hb2⟩
  have HB2 := Lib.hid ((HB1.out.alloc HB1.out.size _).trans (hb2.mono (by have := HB1.out.size; simp; omega)))
  have HX2 := Lib.hid (Blk.below (Blk.new w1 51 #[.int .i64 p, .int .i64 d]) hb2 (by simp))
  have HX3 := Lib.hid ((HX1.out.alloc (.cells #[.int .i64 p, .int .i64 d] 51)).below hb2 (by simp; omega))
  obtain ⟨M, HM⟩ : ∃ M, Hid (w1.heap.size = M) := ⟨_, rfl⟩
  have x0 := HX2.out.cell 0
  have x1 := HX2.out.cell 1
  have y0 := HX3.out.cell 0
  have y1 := HX3.out.cell 1
  have f0 := HX3.out.frozen 0
  have f1 := HX3.out.frozen 1
  simp only [List.getElem?_toArray, List.getElem?_cons_zero, List.getElem?_cons_succ] at x0 x1 y0 y1
  rw [HM.out] at x0 x1 hsz1 ⊢
  clear hb2 HX2
  go_wp2_with fail
  have HF := Lib.hid ((HX3.out.set_ 0 (.int .i64 p)).set_ 1 (.int .i64 d))
  have HG := Lib.hid ((HB2.out.setCell (p := ⟨N, 0, none⟩) (by rw [← HN.out]; exact Nat.le_refl _) (.int .i64 p)).setCell (p := ⟨N, 1, none⟩) (by rw [← HN.out]; exact Nat.le_refl _) (.int .i64 d))
  have z0 := HF.out.cell 0
  have z1 := HF.out.cell 1
  simp at z0 z1
  refine bodyPost_ret (v := .tuple #[.agg #[.int .i64 p, .int .i64 d], .int .i64 0]) (by simp [results, Tryz.results175, go_sem, z0, z1]) rfl ?_
  exact ⟨rfl, HG.out⟩
end Go.Proofs.YtcnjipicifkfjaaGreat

/- nvm: a device; step, Get, Len, Store. -/
namespace Go.Proofs.YtcnjipicifkfjaaGreat
open Go.RowKit
set_option linter.unusedVariables false
set_option linter.unusedSimpArgs false

theorem Mod.cell {w w' : World} {g : Nat} (h : Mod w w' (fun k => k = g)) (i : Nat) (u : Value) : Mod w (w'.setCell ⟨g, i, none⟩ u) (fun k => k = g) := Mod.set (p := ⟨g, i, none⟩) h (.inr rfl) u
/-- A device in plain words: what lasts, the cache, what was flushed; dirty and pending lines; steps, fuse. -/
structure DS where
  L : List Nat
  C : List Nat
  F : List Nat
  D : List Bool
  P : List Bool
  steps : Int
  fuse : Int
  armed : Bool
  dead : Bool
def DS.can (s : DS) : Bool := !(s.dead || (s.armed && s.fuse == 0))
def DS.die (s : DS) : DS := { s with dead := true }
def DS.tick (s : DS) : DS := { s with fuse := wrap64 (s.fuse - 1), steps := wrap64 (s.steps + 1) }
/-- n words in m lines. -/
structure DS.Fits (s : DS) (m : Nat) : Prop where
  l : s.L.length = 8 * m
  c : s.C.length = 8 * m
  f : s.F.length = 8 * m
  d : s.D.length = m
  p : s.P.length = m

/-- Where a device lies: its block, and its rows' blocks and capacities. -/
structure DB where
  d : Nat
  gl : Nat
  gc : Nat
  gf : Nat
  gd : Nat
  gp : Nat
  cl : Nat
  cc : Nat
  cf : Nat
  cd : Nat
  cp : Nat
def DB.has (b : DB) (k : Nat) : Prop := k = b.d ∨ k = b.gl ∨ k = b.gc ∨ k = b.gf ∨ k = b.gd ∨ k = b.gp
def dcells (b : DB) (m : Nat) (s : DS) : Array Value :=
  #[.slice (some ⟨b.gl, 0, none⟩) (8 * m) b.cl, .slice (some ⟨b.gc, 0, none⟩) (8 * m) b.cc, .slice (some ⟨b.gf, 0, none⟩) (8 * m) b.cf, .slice (some ⟨b.gd, 0, none⟩) m b.cd, .slice (some ⟨b.gp, 0, none⟩) m b.cp, .int .i64 s.steps, .int .i64 s.fuse, .bool s.armed, .bool s.dead]
def blcells (l : List Bool) : List Value := l.map Value.bool
theorem blcells_len (l : List Bool) : (blcells l).length = l.length := by simp [blcells]
theorem blcells_at (l : List Bool) (j : Nat) (h : j < l.length) : (blcells l)[j]? = some (.bool (l.getD j false)) := by simp [blcells, h, List.getD_eq_getElem?_getD]

structure Dev (B : Nat) (w : World) (b : DB) (m : Nat) (s : DS) : Prop where
  o : Blk w b.d 90 (dcells b m s)
  l : Own w B 28 1 (some ⟨b.gl, 0, none⟩) (8 * m) b.cl (wcells s.L)
  c : Own w B 28 1 (some ⟨b.gc, 0, none⟩) (8 * m) b.cc (wcells s.C)
  f : Own w B 28 1 (some ⟨b.gf, 0, none⟩) (8 * m) b.cf (wcells s.F)
  d : Own w B 4 1 (some ⟨b.gd, 0, none⟩) m b.cd (blcells s.D)
  p : Own w B 4 1 (some ⟨b.gp, 0, none⟩) m b.cp (blcells s.P)
  ne : b.gl ≠ b.gc ∧ b.gl ≠ b.gf ∧ b.gc ≠ b.gf ∧ b.gd ≠ b.gp
  hB : B ≤ b.d
theorem Dev.fits {B : Nat} {w : World} {b : DB} {m : Nat} {s : DS} (h : Dev B w b m s) : s.Fits m := by
  have h1 := h.l.len
  have h2 := h.c.len
  have h3 := h.f.len
  have h4 := h.d.len
  have h5 := h.p.len
  rw [wcells_len] at h1 h2 h3
  rw [blcells_len] at h4 h5
  exact ⟨by omega, by omega, by omega, by omega, by omega⟩
theorem Dev.mod {B : Nat} {w w' : World} {b : DB} {m : Nat} {s : DS} {S : Nat → Prop} (h : Dev B w b m s) (hm : Mod w w' S) (hs : ∀ k, b.has k → ¬ S k) : Dev B w' b m s :=
  ⟨hm.blk h.o (hs _ (.inl rfl)), h.l.mod hm (fun a ha => by cases ha; exact hs _ (.inr (.inl rfl))), h.c.mod hm (fun a ha => by cases ha; exact hs _ (.inr (.inr (.inl rfl)))), h.f.mod hm (fun a ha => by cases ha; exact hs _ (.inr (.inr (.inr (.inl rfl))))),
   h.d.mod hm (fun a ha => by cases ha; exact hs _ (.inr (.inr (.inr (.inr (.inl rfl)))))), h.p.mod hm (fun a ha => by cases ha; exact hs _ (.inr (.inr (.inr (.inr (.inr rfl)))))), h.ne, h.hB⟩
theorem Dev.lt {B : Nat} {w : World} {b : DB} {m : Nat} {s : DS} (h : Dev B w b m s) : ∀ k, b.has k → B ≤ k ∧ k < w.heap.size := by
  rintro k (rfl | rfl | rfl | rfl | rfl | rfl)
  · exact ⟨h.hB, h.o.lt⟩
  · exact h.l.lt _ rfl
  · exact h.c.lt _ rfl
  · exact h.f.lt _ rfl
  · exact h.d.lt _ rfl
  · exact h.p.lt _ rfl
theorem Dev.below {B B0 : Nat} {w w' : World} {b : DB} {m : Nat} {s : DS} (h : Dev B w b m s) (hb : Below B0 w w') (hB : w.heap.size ≤ B0) : Dev B w' b m s :=
  h.mod (Mod.of_below hb) (fun k hk hS => by have := (h.lt k hk).2; omega)
theorem Dev.drewN {B : Nat} {w : World} {b : DB} {m : Nat} {s : DS} (h : Dev B w b m s) (q : Nat) : Dev B (w.drewN q) b m s :=
  ⟨h.o.drewN q, h.l.drewN q, h.c.drewN q, h.f.drewN q, h.d.drewN q, h.p.drewN q, h.ne, h.hB⟩
theorem Dev.nd {B : Nat} {w : World} {b : DB} {m : Nat} {s : DS} (h : Dev B w b m s) : b.gl ≠ b.d ∧ b.gc ≠ b.d ∧ b.gf ≠ b.d ∧ b.gd ≠ b.d ∧ b.gp ≠ b.d ∧ b.gl ≠ b.gd ∧ b.gl ≠ b.gp ∧ b.gc ≠ b.gd ∧ b.gc ≠ b.gp ∧ b.gf ≠ b.gd ∧ b.gf ≠ b.gp := by
  have ap : ∀ {e e' : TypeId} {n n' c c' g g' : Nat} {xs xs' : List Value}, Own w B e 1 (some ⟨g, 0, none⟩) n c xs → Own w B e' 1 (some ⟨g', 0, none⟩) n' c' xs' → e ≠ e' → g ≠ g' := by
    intro e e' n n' c c' g g' xs xs' h1 h2 hne hg
    rcases h2.form with ⟨h3, _⟩ | ⟨g2, cur, h0, _, h4, _⟩
    · cases h3
    · cases h0
      exact h1.ne h4 hne _ rfl hg
  exact ⟨fun e => h.l.ne h.o (by decide) _ rfl e, fun e => h.c.ne h.o (by decide) _ rfl e, fun e => h.f.ne h.o (by decide) _ rfl e, fun e => h.d.ne h.o (by decide) _ rfl e, fun e => h.p.ne h.o (by decide) _ rfl e,
    ap h.l h.d (by decide), ap h.l h.p (by decide), ap h.c h.d (by decide), ap h.c h.p (by decide), ap h.f h.d (by decide), ap h.f h.p (by decide)⟩

/-- The device's own cells, for a walk. -/
theorem Dev.cells {B : Nat} {w : World} {b : DB} {m : Nat} {s : DS} (h : Dev B w b m s) :
    w.cell? ⟨b.d, 0, none⟩ = some (.slice (some ⟨b.gl, 0, none⟩) (8 * m) b.cl) ∧ w.cell? ⟨b.d, 1, none⟩ = some (.slice (some ⟨b.gc, 0, none⟩) (8 * m) b.cc) ∧ w.cell? ⟨b.d, 2, none⟩ = some (.slice (some ⟨b.gf, 0, none⟩) (8 * m) b.cf) ∧
    w.cell? ⟨b.d, 3, none⟩ = some (.slice (some ⟨b.gd, 0, none⟩) m b.cd) ∧ w.cell? ⟨b.d, 4, none⟩ = some (.slice (some ⟨b.gp, 0, none⟩) m b.cp) ∧
    w.cell? ⟨b.d, 5, none⟩ = some (.int .i64 s.steps) ∧ w.cell? ⟨b.d, 6, none⟩ = some (.int .i64 s.fuse) ∧ w.cell? ⟨b.d, 7, none⟩ = some (.bool s.armed) ∧ w.cell? ⟨b.d, 8, none⟩ = some (.bool s.dead) :=
  ⟨h.o.cell 0, h.o.cell 1, h.o.cell 2, h.o.cell 3, h.o.cell 4, h.o.cell 5, h.o.cell 6, h.o.cell 7, h.o.cell 8⟩
theorem Dev.fz {B : Nat} {w : World} {b : DB} {m : Nat} {s : DS} (h : Dev B w b m s) (i : Nat) : w.frozen? ⟨b.d, i, none⟩ = false := h.o.frozen i

theorem Dev.die {B : Nat} {w : World} {b : DB} {m : Nat} {s : DS} (h : Dev B w b m s) : Dev B (w.setCell ⟨b.d, 8, none⟩ (.bool true)) b m s.die := by
  have hm : Mod w (w.setCell ⟨b.d, 8, none⟩ (.bool true)) (fun k => k = b.d) := (Mod.refl w (fun k => k = b.d)).cell 8 _
  obtain ⟨n1, n2, n3, n4, n5, _⟩ := h.nd
  exact ⟨Blk.conv (h.o.set_ 8 _) (by simp [dcells, DS.die]), h.l.mod hm (fun a ha => by cases ha; exact n1), h.c.mod hm (fun a ha => by cases ha; exact n2), h.f.mod hm (fun a ha => by cases ha; exact n3), h.d.mod hm (fun a ha => by cases ha; exact n4), h.p.mod hm (fun a ha => by cases ha; exact n5), h.ne, h.hB⟩
theorem Dev.tick {B : Nat} {w : World} {b : DB} {m : Nat} {s : DS} (h : Dev B w b m s) : Dev B ((w.setCell ⟨b.d, 6, none⟩ (.int .i64 (wrap64 (s.fuse - 1)))).setCell ⟨b.d, 5, none⟩ (.int .i64 (wrap64 (s.steps + 1)))) b m s.tick := by
  have hm : Mod w ((w.setCell ⟨b.d, 6, none⟩ (.int .i64 (wrap64 (s.fuse - 1)))).setCell ⟨b.d, 5, none⟩ (.int .i64 (wrap64 (s.steps + 1)))) (fun k => k = b.d) := ((Mod.refl w (fun k => k = b.d)).cell 6 _).cell 5 _
  obtain ⟨n1, n2, n3, n4, n5, _⟩ := h.nd
  exact ⟨Blk.conv ((h.o.set_ 6 _).set_ 5 _) (by simp [dcells, DS.tick]), h.l.mod hm (fun a ha => by cases ha; exact n1), h.c.mod hm (fun a ha => by cases ha; exact n2), h.f.mod hm (fun a ha => by cases ha; exact n3), h.d.mod hm (fun a ha => by cases ha; exact n4), h.p.mod hm (fun a ha => by cases ha; exact n5), h.ne, h.hB⟩

theorem step_any (B : Nat) (b : DB) (m : Nat) (s : DS) (w : World) (h : Dev B w b m s) :
    Calls Tryz.prog 163 #[.pointer (some ⟨b.d, 0, none⟩)] w fun e w' => e = .returned (.bool s.can) ∧ Dev B w' b m (if s.can then s.tick else s.die) ∧ Mod w w' (fun k => k = b.d) := by
  obtain ⟨_, _, _, _, _, c5, c6, c7, c8⟩ := h.cells
  have f5 := h.fz 5
  have f6 := h.fz 6
  have f8 := h.fz 8
  have H := Lib.hid h
  have hc : (s.can = false ∧ (s.dead = true ∨ (s.dead = false ∧ s.armed = true ∧ (s.fuse == 0) = true))) ∨ (s.can = true ∧ s.dead = false ∧ (s.armed = false ∨ (s.armed = true ∧ (s.fuse == 0) = false))) := by
    unfold DS.can
    cases s.dead <;> cases s.armed <;> cases (s.fuse == 0) <;> simp
  clear h
  have Hdie : Hid (Dev B (w.setCell ⟨b.d, 8, none⟩ (.bool true)) b m s.die) := H.out.die
  have Htick : Hid (Dev B ((w.setCell ⟨b.d, 6, none⟩ (.int .i64 (wrap64 (s.fuse - 1)))).setCell ⟨b.d, 5, none⟩ (.int .i64 (wrap64 (s.steps + 1)))) b m s.tick) := H.out.tick
  have Hm1 : Hid (Mod w (w.setCell ⟨b.d, 8, none⟩ (.bool true)) (fun k => k = b.d)) := (Mod.refl w (fun k => k = b.d)).cell 8 _
  have Hm2 : Hid (Mod w ((w.setCell ⟨b.d, 6, none⟩ (.int .i64 (wrap64 (s.fuse - 1)))).setCell ⟨b.d, 5, none⟩ (.int .i64 (wrap64 (s.steps + 1)))) (fun k => k = b.d)) := ((Mod.refl w (fun k => k = b.d)).cell 6 _).cell 5 _
  rcases hc with ⟨hcan, hx | ⟨hx, hy, hz⟩⟩ | ⟨hcan, hx, hy | ⟨hy, hz⟩⟩
  · rw [hx] at c8
    rw [hcan]
    clear hcan hx
    go_enter Tryz.func163, Tryz.ntmps163
    go_wp2_with fail
    go_ret
    exact ⟨rfl, Hdie.out, Hm1.out⟩
  · rw [hx] at c8
    rw [hy] at c7
    rw [hcan]
    clear hcan hx hy
    go_enter Tryz.func163, Tryz.ntmps163
    go_wp2_with fail
    go_ret
    exact ⟨rfl, Hdie.out, Hm1.out⟩
  · rw [hx] at c8
    rw [hy] at c7
    rw [hcan]
    clear hcan hx hy
    go_enter Tryz.func163, Tryz.ntmps163
    go_wp2_with fail
    go_ret
    exact ⟨rfl, Htick.out, Hm2.out⟩
  · rw [hx] at c8
    rw [hy] at c7
    rw [hcan]
    clear hcan hx hy
    go_enter Tryz.func163, Tryz.ntmps163
    go_wp2_with fail
    go_ret
    exact ⟨rfl, Htick.out, Hm2.out⟩

theorem get_yes (B : Nat) (b : DB) (m : Nat) (s : DS) (at_ : Nat) (w : World) (h : Dev B w b m s) (ha : at_ < 8 * m) (hm : m ≤ 100000) :
    Calls Tryz.prog 123 #[.pointer (some ⟨b.d, 0, none⟩), .int .i64 at_] w fun e w' => e = .returned (.int .u64 (s.C.getD at_ 0 : Nat)) ∧ w = w' := by
  obtain ⟨_, c1, _⟩ := h.cells
  have hf := h.fits
  obtain ⟨_, e, _, _, _, _, hx, _⟩ := h.c.at_ (by omega)
  cases e
  have x0 := hx at_ _ (wcells_at s.C at_ (by rw [hf.c]; exact ha))
  clear hx hf h
  generalize s.C.getD at_ 0 = x at *
  obtain ⟨n, Hn⟩ : ∃ n, Hid (8 * m = n) := ⟨_, rfl⟩
  have hn : n ≤ 1000000 := by rw [← Hn.out]; omega
  rw [Hn.out] at c1 ha
  go_enter Tryz.func123, Tryz.ntmps123
  go_wp2_with fail
  go_ret
  exact ⟨rfl, rfl⟩
theorem len_any (B : Nat) (b : DB) (m : Nat) (s : DS) (w : World) (h : Dev B w b m s) :
    Calls Tryz.prog 43 #[.pointer (some ⟨b.d, 0, none⟩)] w fun e w' => e = .returned (.int .i64 ((8 * m : Nat) : Int)) ∧ w = w' := by
  obtain ⟨_, c1, _⟩ := h.cells
  clear h
  obtain ⟨n, Hn⟩ : ∃ n, Hid (8 * m = n) := ⟨_, rfl⟩
  rw [Hn.out] at c1 ⊢
  go_enter Tryz.func43, Tryz.ntmps43
  go_wp2_with fail
  go_ret
  exact ⟨rfl, rfl⟩

/-- One step of a device: a store, a flush, a fence. -/
inductive Step where
  | st (a v : Nat)
  | fl (l : Nat)
  | fe
def lineOf (l : List Nat) (i : Nat) : List Nat := (l.drop (8 * i)).take 8
def fenceOne (s : DS) (i : Nat) : DS :=
  if s.P.getD i false then
    let L := splice s.L (8 * i) (lineOf s.F i)
    { s with L := L, P := s.P.set i false, D := s.D.set i (decide (lineOf L i ≠ lineOf s.C i)) }
  else s
def fenceTo (s : DS) : Nat → DS
  | 0 => s
  | i + 1 => fenceOne (fenceTo s i) i
def Step.run (s : DS) : Step → DS
  | .st a v => { s with C := s.C.set a v, D := s.D.set (a / 8) true }
  | .fl l => if s.D.getD l false then { s with P := s.P.set l true, F := splice s.F (8 * l) (lineOf s.C l) } else s
  | .fe => fenceTo s s.P.length
/-- Steps, till one can't be done: what is then, and were all done? -/
def exec (s : DS) : List Step → DS × Bool
  | [] => (s, true)
  | o :: os => if s.can then exec (o.run s.tick) os else (s.die, false)
theorem exec_append (s : DS) (a b : List Step) : exec s (a ++ b) = if (exec s a).2 then exec (exec s a).1 b else exec s a := by
  induction a generalizing s with
  | nil => simp [exec]
  | cons o a ih =>
    simp only [List.cons_append, exec]
    split
    · exact ih _
    · rfl
/-- What a call answers of the device. -/
def ecode (ok : Bool) : Int := if ok then 0 else 3
def DB.rows (b : DB) (k : Nat) : Prop := k = b.d ∨ k = b.gl ∨ k = b.gc ∨ k = b.gf ∨ k = b.gd ∨ k = b.gp

theorem wcells_set (l : List Nat) (i v : Nat) : (wcells l).set i (.int .u64 (v : Nat)) = wcells (l.set i v) := by simp [wcells, List.map_set]
theorem blcells_set (l : List Bool) (i : Nat) (v : Bool) : (blcells l).set i (.bool v) = blcells (l.set i v) := by simp [blcells, List.map_set]

theorem Dev.store {B : Nat} {w : World} {b : DB} {m : Nat} {s : DS} (h : Dev B w b m s) (a v : Nat) (ha : a < 8 * m) :
    Dev B ((w.setCell ⟨b.gc, a, none⟩ (.int .u64 (v : Nat))).setCell ⟨b.gd, a / 8, none⟩ (.bool true)) b m (Step.run s (.st a v)) := by
  obtain ⟨n1, n2, n3, n4, n5, n6, n7, n8, n9, n10, n11⟩ := h.nd
  obtain ⟨e1, e2, e3, e4⟩ := h.ne
  have hm1 : Mod w (w.setCell ⟨b.gc, a, none⟩ (.int .u64 (v : Nat))) (fun k => k = b.gc) := (Mod.refl w (fun k => k = b.gc)).cell a _
  have hm2 : Mod (w.setCell ⟨b.gc, a, none⟩ (.int .u64 (v : Nat))) ((w.setCell ⟨b.gc, a, none⟩ (.int .u64 (v : Nat))).setCell ⟨b.gd, a / 8, none⟩ (.bool true)) (fun k => k = b.gd) := (Mod.refl _ (fun k => k = b.gd)).cell (a / 8) _
  have one : ∀ {e : TypeId} {n c g : Nat} {xs : List Value}, Own w B e 1 (some ⟨g, 0, none⟩) n c xs → g ≠ b.gc → g ≠ b.gd → Own ((w.setCell ⟨b.gc, a, none⟩ (.int .u64 (v : Nat))).setCell ⟨b.gd, a / 8, none⟩ (.bool true)) B e 1 (some ⟨g, 0, none⟩) n c xs :=
    fun ho h1 h2 => (ho.mod hm1 (fun a ha => by cases ha; exact h1)).mod hm2 (fun a ha => by cases ha; exact h2)
  refine ⟨hm2.blk (hm1.blk h.o (fun e => n2 e.symm)) (fun e => n4 e.symm), one h.l e1 n6, ?_, one h.f (fun e => e3 e.symm) n10, ?_, one h.p (fun e => n9 e.symm) (fun e => e4 e.symm), h.ne, h.hB⟩
  · have := h.c.set_ (j := a) (by omega) (.int .u64 (v : Nat))
    rw [wcells_set] at this
    exact this.mod hm2 (fun a ha => by cases ha; exact n8)
  · have := (h.d.mod hm1 (fun a ha => by cases ha; exact fun e => n8 e.symm)).set_ (j := a / 8) (by omega) (.bool true)
    rw [blcells_set] at this
    exact this

theorem store_any (B : Nat) (b : DB) (m : Nat) (s : DS) (a v : Nat) (w : World) (h : Dev B w b m s) (ha : a < 8 * m) (hm : m ≤ 100000) :
    Calls Tryz.prog 115 #[.pointer (some ⟨b.d, 0, none⟩), .int .i64 a, .int .u64 v] w fun e w' => e = .returned (.int .i64 (ecode (exec s [.st a v]).2)) ∧ Dev B w' b m (exec s [.st a v]).1 ∧ Mod w w' b.has := by
  obtain ⟨_, c1, _⟩ := h.cells
  have H := Lib.hid h
  obtain ⟨n, Hn⟩ : ∃ n, Hid (8 * m = n) := ⟨_, rfl⟩
  have hn : n ≤ 1000000 := by rw [← Hn.out]; omega
  have ha8 := ha
  rw [Hn.out] at c1 ha
  have HE : Hid (exec s [.st a v] = if s.can then (Step.run s.tick (.st a v), true) else (s.die, false)) := rfl
  clear h
  obtain ⟨E, He⟩ : ∃ E, Hid (exec s [.st a v] = E) := ⟨_, rfl⟩
  rw [He.out] at HE ⊢
  go_enter Tryz.func115, Tryz.ntmps115
  go_wp2_with fail
  refine (step_any B b m s w H.out).mono ?_
  rintro e w1 ⟨rfl, hd, hm1⟩
  have HM1 := Lib.hid hm1
  cases hcan : s.can with
  | false =>
    rw [hcan] at hd HE
    have HD := Lib.hid hd
    have HE2 : Hid (E = (s.die, false)) := HE.out
    clear hd hm1 hcan HE c1
    go_wp2_with fail
    go_ret
    rw [HE2.out]
    exact ⟨rfl, HD.out, HM1.out.mono (fun k _ hk => .inl hk)⟩
  | true =>
    rw [hcan] at hd HE
    have HD : Hid (Dev B w1 b m s.tick) := hd
    have HE2 : Hid (E = (Step.run s.tick (.st a v), true)) := HE.out
    obtain ⟨_, d1, _, d3, _⟩ := HD.out.cells
    obtain ⟨_, e, _, _, _, _, hx, hf⟩ := HD.out.c.at_ (by omega)
    cases e
    have x0 := hx a _ (wcells_at _ a (by rw [HD.out.fits.c]; omega))
    have fx := hf a
    obtain ⟨_, e, _, _, _, _, hy, hg⟩ := HD.out.d.at_ (by omega)
    cases e
    have y0 := hy (a / 8) _ (blcells_at _ (a / 8) (by rw [HD.out.fits.d]; omega))
    have fy := hg (a / 8)
    obtain ⟨q, Hq⟩ : ∃ q, Hid (a / 8 = q) := ⟨_, rfl⟩
    have hq : (a : Int) / 8 = (q : Int) := by rw [← Hq.out]; omega
    have hq2 : q < m := by rw [← Hq.out]; omega
    have HS := Lib.hid (HD.out.store a v (by omega))
    have ne1 : ¬ b.gc = b.gd := HD.out.nd.2.2.2.2.2.2.2.1
    have ne2 : ¬ b.gd = b.gc := fun e => ne1 e.symm
    have ne3 : ¬ b.gc = b.d := HD.out.nd.2.1
    have ne4 : ¬ b.d = b.gc := fun e => ne3 e.symm
    rw [Hq.out] at y0 fy HS
    rw [Hn.out] at d1
    clear hd hm1 hcan HE c1 hx hf hy hg
    go_wp2_with fail
    go_ret
    rw [HE2.out]
    exact ⟨rfl, HS.out, (HM1.out.mono (fun k _ hk => .inl hk)).trans (Mod.set (p := ⟨b.gd, q, none⟩) (Mod.set (p := ⟨b.gc, a, none⟩) (Mod.refl w1 b.has) (.inr (.inr (.inr (.inl rfl)))) _) (.inr (.inr (.inr (.inr (.inr (.inl rfl)))))) _) (fun k _ h => h)⟩
end Go.Proofs.YtcnjipicifkfjaaGreat
