/- nvm: a device; step, Get, Len, Store. -/
import Derived.Test.YtcnjipicifkfjaaGreatEv03
import Derived.Laws.CopyOwn
import Derived.Deep.AppendLies

namespace Go.Proofs.YtcnjipicifkfjaaGreat
open Go.RowKit
set_option linter.unusedVariables false
set_option linter.unusedSimpArgs false

theorem Mod.cell {w w' : World} {g : Nat} (h : Mod w w' (fun k => k = g)) (i : Nat) (u : Value) : Mod w (w'.setCell ⟨g, i, none⟩ u) (fun k => k = g) := Mod.set (p := ⟨g, i, none⟩) h (.inr rfl) u
/-- A device in plain words: what lasts, the cache, what was flushed; dirty and pending lines; steps, fuse. -/
structure DS where
  L : List Nat
  C : List Nat
  F : List Nat
  D : List Bool
  P : List Bool
  steps : Int
  fuse : Int
  armed : Bool
  dead : Bool
def DS.can (s : DS) : Bool := !(s.dead || (s.armed && s.fuse == 0))
def DS.die (s : DS) : DS := { s with dead := true }
def DS.tick (s : DS) : DS := { s with fuse := wrap64 (s.fuse - 1), steps := wrap64 (s.steps + 1) }
/-- n words in m lines. -/
structure DS.Fits (s : DS) (m : Nat) : Prop where
  l : s.L.length = 8 * m
  c : s.C.length = 8 * m
  f : s.F.length = 8 * m
  d : s.D.length = m
  p : s.P.length = m

/-- Where a device lies: its block, and its rows' blocks and capacities. -/
structure DB where
  d : Nat
  gl : Nat
  gc : Nat
  gf : Nat
  gd : Nat
  gp : Nat
  cl : Nat
  cc : Nat
  cf : Nat
  cd : Nat
  cp : Nat
def DB.has (b : DB) (k : Nat) : Prop := k = b.d ∨ k = b.gl ∨ k = b.gc ∨ k = b.gf ∨ k = b.gd ∨ k = b.gp
def dcells (b : DB) (m : Nat) (s : DS) : Array Value :=
  #[.slice (some ⟨b.gl, 0, none⟩) (8 * m) b.cl, .slice (some ⟨b.gc, 0, none⟩) (8 * m) b.cc, .slice (some ⟨b.gf, 0, none⟩) (8 * m) b.cf, .slice (some ⟨b.gd, 0, none⟩) m b.cd, .slice (some ⟨b.gp, 0, none⟩) m b.cp, .int .i64 s.steps, .int .i64 s.fuse, .bool s.armed, .bool s.dead]
def blcells (l : List Bool) : List Value := l.map Value.bool
theorem blcells_len (l : List Bool) : (blcells l).length = l.length := by simp [blcells]
theorem blcells_at (l : List Bool) (j : Nat) (h : j < l.length) : (blcells l)[j]? = some (.bool (l.getD j false)) := by simp [blcells, h, List.getD_eq_getElem?_getD]

structure Dev (B : Nat) (w : World) (b : DB) (m : Nat) (s : DS) : Prop where
  o : Blk w b.d 90 (dcells b m s)
  l : Own w B 28 1 (some ⟨b.gl, 0, none⟩) (8 * m) b.cl (wcells s.L)
  c : Own w B 28 1 (some ⟨b.gc, 0, none⟩) (8 * m) b.cc (wcells s.C)
  f : Own w B 28 1 (some ⟨b.gf, 0, none⟩) (8 * m) b.cf (wcells s.F)
  d : Own w B 4 1 (some ⟨b.gd, 0, none⟩) m b.cd (blcells s.D)
  p : Own w B 4 1 (some ⟨b.gp, 0, none⟩) m b.cp (blcells s.P)
  ne : b.gl ≠ b.gc ∧ b.gl ≠ b.gf ∧ b.gc ≠ b.gf ∧ b.gd ≠ b.gp
  hB : B ≤ b.d
theorem Dev.fits {B : Nat} {w : World} {b : DB} {m : Nat} {s : DS} (h : Dev B w b m s) : s.Fits m := by
  have h1 := h.l.len
  have h2 := h.c.len
  have h3 := h.f.len
  have h4 := h.d.len
  have h5 := h.p.len
  rw [wcells_len] at h1 h2 h3
  rw [blcells_len] at h4 h5
  exact ⟨by omega, by omega, by omega, by omega, by omega⟩
theorem Dev.mod {B : Nat} {w w' : World} {b : DB} {m : Nat} {s : DS} {S : Nat → Prop} (h : Dev B w b m s) (hm : Mod w w' S) (hs : ∀ k, b.has k → ¬ S k) : Dev B w' b m s :=
  ⟨hm.blk h.o (hs _ (.inl rfl)), h.l.mod hm (fun a ha => by cases ha; exact hs _ (.inr (.inl rfl))), h.c.mod hm (fun a ha => by cases ha; exact hs _ (.inr (.inr (.inl rfl)))), h.f.mod hm (fun a ha => by cases ha; exact hs _ (.inr (.inr (.inr (.inl rfl))))),
   h.d.mod hm (fun a ha => by cases ha; exact hs _ (.inr (.inr (.inr (.inr (.inl rfl)))))), h.p.mod hm (fun a ha => by cases ha; exact hs _ (.inr (.inr (.inr (.inr (.inr rfl)))))), h.ne, h.hB⟩
theorem Dev.lt {B : Nat} {w : World} {b : DB} {m : Nat} {s : DS} (h : Dev B w b m s) : ∀ k, b.has k → B ≤ k ∧ k < w.heap.size := by
  rintro k (rfl | rfl | rfl | rfl | rfl | rfl)
  · exact ⟨h.hB, h.o.lt⟩
  · exact h.l.lt _ rfl
  · exact h.c.lt _ rfl
  · exact h.f.lt _ rfl
  · exact h.d.lt _ rfl
  · exact h.p.lt _ rfl
theorem Dev.below {B B0 : Nat} {w w' : World} {b : DB} {m : Nat} {s : DS} (h : Dev B w b m s) (hb : Below B0 w w') (hB : w.heap.size ≤ B0) : Dev B w' b m s :=
  h.mod (Mod.of_below hb) (fun k hk hS => by have := (h.lt k hk).2; omega)
theorem Dev.drewN {B : Nat} {w : World} {b : DB} {m : Nat} {s : DS} (h : Dev B w b m s) (q : Nat) : Dev B (w.drewN q) b m s :=
  ⟨h.o.drewN q, h.l.drewN q, h.c.drewN q, h.f.drewN q, h.d.drewN q, h.p.drewN q, h.ne, h.hB⟩
theorem Dev.nd {B : Nat} {w : World} {b : DB} {m : Nat} {s : DS} (h : Dev B w b m s) : b.gl ≠ b.d ∧ b.gc ≠ b.d ∧ b.gf ≠ b.d ∧ b.gd ≠ b.d ∧ b.gp ≠ b.d ∧ b.gl ≠ b.gd ∧ b.gl ≠ b.gp ∧ b.gc ≠ b.gd ∧ b.gc ≠ b.gp ∧ b.gf ≠ b.gd ∧ b.gf ≠ b.gp := by
  have ap : ∀ {e e' : TypeId} {n n' c c' g g' : Nat} {xs xs' : List Value}, Own w B e 1 (some ⟨g, 0, none⟩) n c xs → Own w B e' 1 (some ⟨g', 0, none⟩) n' c' xs' → e ≠ e' → g ≠ g' := by
    intro e e' n n' c c' g g' xs xs' h1 h2 hne hg
    rcases h2.form with ⟨h3, _⟩ | ⟨g2, cur, h0, _, h4, _⟩
    · cases h3
    · cases h0
      exact h1.ne h4 hne _ rfl hg
  exact ⟨fun e => h.l.ne h.o (by decide) _ rfl e, fun e => h.c.ne h.o (by decide) _ rfl e, fun e => h.f.ne h.o (by decide) _ rfl e, fun e => h.d.ne h.o (by decide) _ rfl e, fun e => h.p.ne h.o (by decide) _ rfl e,
    ap h.l h.d (by decide), ap h.l h.p (by decide), ap h.c h.d (by decide), ap h.c h.p (by decide), ap h.f h.d (by decide), ap h.f h.p (by decide)⟩

/-- The device's own cells, for a walk. -/
theorem Dev.cells {B : Nat} {w : World} {b : DB} {m : Nat} {s : DS} (h : Dev B w b m s) :
    w.cell? ⟨b.d, 0, none⟩ = some (.slice (some ⟨b.gl, 0, none⟩) (8 * m) b.cl) ∧ w.cell? ⟨b.d, 1, none⟩ = some (.slice (some ⟨b.gc, 0, none⟩) (8 * m) b.cc) ∧ w.cell? ⟨b.d, 2, none⟩ = some (.slice (some ⟨b.gf, 0, none⟩) (8 * m) b.cf) ∧
    w.cell? ⟨b.d, 3, none⟩ = some (.slice (some ⟨b.gd, 0, none⟩) m b.cd) ∧ w.cell? ⟨b.d, 4, none⟩ = some (.slice (some ⟨b.gp, 0, none⟩) m b.cp) ∧
    w.cell? ⟨b.d, 5, none⟩ = some (.int .i64 s.steps) ∧ w.cell? ⟨b.d, 6, none⟩ = some (.int .i64 s.fuse) ∧ w.cell? ⟨b.d, 7, none⟩ = some (.bool s.armed) ∧ w.cell? ⟨b.d, 8, none⟩ = some (.bool s.dead) :=
  ⟨h.o.cell 0, h.o.cell 1, h.o.cell 2, h.o.cell 3, h.o.cell 4, h.o.cell 5, h.o.cell 6, h.o.cell 7, h.o.cell 8⟩
theorem Dev.fz {B : Nat} {w : World} {b : DB} {m : Nat} {s : DS} (h : Dev B w b m s) (i : Nat) : w.frozen? ⟨b.d, i, none⟩ = false := h.o.frozen i

theorem Dev.die {B : Nat} {w : World} {b : DB} {m : Nat} {s : DS} (h : Dev B w b m s) : Dev B (w.setCell ⟨b.d, 8, none⟩ (.bool true)) b m s.die := by
  have hm : Mod w (w.setCell ⟨b.d, 8, none⟩ (.bool true)) (fun k => k = b.d) := (Mod.refl w (fun k => k = b.d)).cell 8 _
  obtain ⟨n1, n2, n3, n4, n5, _⟩ := h.nd
  exact ⟨Blk.conv (h.o.set_ 8 _) (by simp [dcells, DS.die]), h.l.mod hm (fun a ha => by cases ha; exact n1), h.c.mod hm (fun a ha => by cases ha; exact n2), h.f.mod hm (fun a ha => by cases ha; exact n3), h.d.mod hm (fun a ha => by cases ha; exact n4), h.p.mod hm (fun a ha => by cases ha; exact n5), h.ne, h.hB⟩
theorem Dev.tick {B : Nat} {w : World} {b : DB} {m : Nat} {s : DS} (h : Dev B w b m s) : Dev B ((w.setCell ⟨b.d, 6, none⟩ (.int .i64 (wrap64 (s.fuse - 1)))).setCell ⟨b.d, 5, none⟩ (.int .i64 (wrap64 (s.steps + 1)))) b m s.tick := by
  have hm : Mod w ((w.setCell ⟨b.d, 6, none⟩ (.int .i64 (wrap64 (s.fuse - 1)))).setCell ⟨b.d, 5, none⟩ (.int .i64 (wrap64 (s.steps + 1)))) (fun k => k = b.d) := ((Mod.refl w (fun k => k = b.d)).cell 6 _).cell 5 _
  obtain ⟨n1, n2, n3, n4, n5, _⟩ := h.nd
  exact ⟨Blk.conv ((h.o.set_ 6 _).set_ 5 _) (by simp [dcells, DS.tick]), h.l.mod hm (fun a ha => by cases ha; exact n1), h.c.mod hm (fun a ha => by cases ha; exact n2), h.f.mod hm (fun a ha => by cases ha; exact n3), h.d.mod hm (fun a ha => by cases ha; exact n4), h.p.mod hm (fun a ha => by cases ha; exact n5), h.ne, h.hB⟩

theorem step_any (B : Nat) (b : DB) (m : Nat) (s : DS) (w : World) (h : Dev B w b m s) :
    Calls Tryz.prog 163 #[.pointer (some ⟨b.d, 0, none⟩)] w fun e w' => e = .returned (.bool s.can) ∧ Dev B w' b m (if s.can then s.tick else s.die) ∧ Mod w w' (fun k => k = b.d) := by
  obtain ⟨_, _, _, _, _, c5, c6, c7, c8⟩ := h.cells
  have f5 := h.fz 5
  have f6 := h.fz 6
  have f8 := h.fz 8
  have H := Lib.hid h
  have hc : (s.can = false ∧ (s.dead = true ∨ (s.dead = false ∧ s.armed = true ∧ (s.fuse == 0) = true))) ∨ (s.can = true ∧ s.dead = false ∧ (s.armed = false ∨ (s.armed = true ∧ (s.fuse == 0) = false))) := by
    unfold DS.can
    cases s.dead <;> cases s.armed <;> cases (s.fuse == 0) <;> simp
  clear h
  have Hdie : Hid (Dev B (w.setCell ⟨b.d, 8, none⟩ (.bool true)) b m s.die) := H.out.die
  have Htick : Hid (Dev B ((w.setCell ⟨b.d, 6, none⟩ (.int .i64 (wrap64 (s.fuse - 1)))).setCell ⟨b.d, 5, none⟩ (.int .i64 (wrap64 (s.steps + 1)))) b m s.tick) := H.out.tick
  have Hm1 : Hid (Mod w (w.setCell ⟨b.d, 8, none⟩ (.bool true)) (fun k => k = b.d)) := (Mod.refl w (fun k => k = b.d)).cell 8 _
  have Hm2 : Hid (Mod w ((w.setCell ⟨b.d, 6, none⟩ (.int .i64 (wrap64 (s.fuse - 1)))).setCell ⟨b.d, 5, none⟩ (.int .i64 (wrap64 (s.steps + 1)))) (fun k => k = b.d)) := ((Mod.refl w (fun k => k = b.d)).cell 6 _).cell 5 _
  rcases hc with ⟨hcan, hx | ⟨hx, hy, hz⟩⟩ | ⟨hcan, hx, hy | ⟨hy, hz⟩⟩
  · rw [hx] at c8
    rw [hcan]
    clear hcan hx
    go_enter Tryz.func163, Tryz.ntmps163
    go_wp2_with fail
    go_ret
    exact ⟨rfl, Hdie.out, Hm1.out⟩
  · rw [hx] at c8
    rw [hy] at c7
    rw [hcan]
    clear hcan hx hy
    go_enter Tryz.func163, Tryz.ntmps163
    go_wp2_with fail
    go_ret
    exact ⟨rfl, Hdie.out, Hm1.out⟩
  · rw [hx] at c8
    rw [hy] at c7
    rw [hcan]
    clear hcan hx hy
    go_enter Tryz.func163, Tryz.ntmps163
    go_wp2_with fail
    go_ret
    exact ⟨rfl, Htick.out, Hm2.out⟩
  · rw [hx] at c8
    rw [hy] at c7
    rw [hcan]
    clear hcan hx hy
    go_enter Tryz.func163, Tryz.ntmps163
    go_wp2_with fail
    go_ret
    exact ⟨rfl, Htick.out, Hm2.out⟩

theorem get_yes (B : Nat) (b : DB) (m : Nat) (s : DS) (at_ : Nat) (w : World) (h : Dev B w b m s) (ha : at_ < 8 * m) (hm : m ≤ 100000) :
    Calls Tryz.prog 123 #[.pointer (some ⟨b.d, 0, none⟩), .int .i64 at_] w fun e w' => e = .returned (.int .u64 (s.C.getD at_ 0 : Nat)) ∧ w = w' := by
  obtain ⟨_, c1, _⟩ := h.cells
  have hf := h.fits
  obtain ⟨_, e, _, _, _, _, hx, _⟩ := h.c.at_ (by omega)
  cases e
  have x0 := hx at_ _ (wcells_at s.C at_ (by rw [hf.c]; exact ha))
  clear hx hf h
  generalize s.C.getD at_ 0 = x at *
  obtain ⟨n, Hn⟩ : ∃ n, Hid (8 * m = n) := ⟨_, rfl⟩
  have hn : n ≤ 1000000 := by rw [← Hn.out]; omega
  rw [Hn.out] at c1 ha
  go_enter Tryz.func123, Tryz.ntmps123
  go_wp2_with fail
  go_ret
  exact ⟨rfl, rfl⟩
theorem len_any (B : Nat) (b : DB) (m : Nat) (s : DS) (w : World) (h : Dev B w b m s) :
    Calls Tryz.prog 43 #[.pointer (some ⟨b.d, 0, none⟩)] w fun e w' => e = .returned (.int .i64 ((8 * m : Nat) : Int)) ∧ w = w' := by
  obtain ⟨_, c1, _⟩ := h.cells
  clear h
  obtain ⟨n, Hn⟩ : ∃ n, Hid (8 * m = n) := ⟨_, rfl⟩
  rw [Hn.out] at c1 ⊢
  go_enter Tryz.func43, Tryz.ntmps43
  go_wp2_with fail
  go_ret
  exact ⟨rfl, rfl⟩

/-- One step of a device: a store, a flush, a fence. -/
inductive Step where
  | st (a v : Nat)
  | fl (l : Nat)
  | fe
def lineOf (l : List Nat) (i : Nat) : List Nat := (l.drop (8 * i)).take 8
def fenceOne (s : DS) (i : Nat) : DS :=
  if s.P.getD i false then
    let L := splice s.L (8 * i) (lineOf s.F i)
    { s with L := L, P := s.P.set i false, D := s.D.set i (decide (lineOf L i ≠ lineOf s.C i)) }
  else s
def fenceTo (s : DS) : Nat → DS
  | 0 => s
  | i + 1 => fenceOne (fenceTo s i) i
def Step.run (s : DS) : Step → DS
  | .st a v => { s with C := s.C.set a v, D := s.D.set (a / 8) true }
  | .fl l => if s.D.getD l false then { s with P := s.P.set l true, F := splice s.F (8 * l) (lineOf s.C l) } else s
  | .fe => fenceTo s s.P.length
/-- Steps, till one can't be done: what is then, and were all done? -/
def exec (s : DS) : List Step → DS × Bool
  | [] => (s, true)
  | o :: os => if s.can then exec (o.run s.tick) os else (s.die, false)
theorem exec_append (s : DS) (a b : List Step) : exec s (a ++ b) = if (exec s a).2 then exec (exec s a).1 b else exec s a := by
  induction a generalizing s with
  | nil => simp [exec]
  | cons o a ih =>
    simp only [List.cons_append, exec]
    split
    · exact ih _
    · rfl
/-- What a call answers of the device. -/
def ecode (ok : Bool) : Int := if ok then 0 else 3
def DB.rows (b : DB) (k : Nat) : Prop := k = b.d ∨ k = b.gl ∨ k = b.gc ∨ k = b.gf ∨ k = b.gd ∨ k = b.gp

theorem wcells_set (l : List Nat) (i v : Nat) : (wcells l).set i (.int .u64 (v : Nat)) = wcells (l.set i v) := by simp [wcells, List.map_set]
theorem blcells_set (l : List Bool) (i : Nat) (v : Bool) : (blcells l).set i (.bool v) = blcells (l.set i v) := by simp [blcells, List.map_set]

theorem Dev.store {B : Nat} {w : World} {b : DB} {m : Nat} {s : DS} (h : Dev B w b m s) (a v : Nat) (ha : a < 8 * m) :
    Dev B ((w.setCell ⟨b.gc, a, none⟩ (.int .u64 (v : Nat))).setCell ⟨b.gd, a / 8, none⟩ (.bool true)) b m (Step.run s (.st a v)) := by
  obtain ⟨n1, n2, n3, n4, n5, n6, n7, n8, n9, n10, n11⟩ := h.nd
  obtain ⟨e1, e2, e3, e4⟩ := h.ne
  have hm1 : Mod w (w.setCell ⟨b.gc, a, none⟩ (.int .u64 (v : Nat))) (fun k => k = b.gc) := (Mod.refl w (fun k => k = b.gc)).cell a _
  have hm2 : Mod (w.setCell ⟨b.gc, a, none⟩ (.int .u64 (v : Nat))) ((w.setCell ⟨b.gc, a, none⟩ (.int .u64 (v : Nat))).setCell ⟨b.gd, a / 8, none⟩ (.bool true)) (fun k => k = b.gd) := (Mod.refl _ (fun k => k = b.gd)).cell (a / 8) _
  have one : ∀ {e : TypeId} {n c g : Nat} {xs : List Value}, Own w B e 1 (some ⟨g, 0, none⟩) n c xs → g ≠ b.gc → g ≠ b.gd → Own ((w.setCell ⟨b.gc, a, none⟩ (.int .u64 (v : Nat))).setCell ⟨b.gd, a / 8, none⟩ (.bool true)) B e 1 (some ⟨g, 0, none⟩) n c xs :=
    fun ho h1 h2 => (ho.mod hm1 (fun a ha => by cases ha; exact h1)).mod hm2 (fun a ha => by cases ha; exact h2)
  refine ⟨hm2.blk (hm1.blk h.o (fun e => n2 e.symm)) (fun e => n4 e.symm), one h.l e1 n6, ?_, one h.f (fun e => e3 e.symm) n10, ?_, one h.p (fun e => n9 e.symm) (fun e => e4 e.symm), h.ne, h.hB⟩
  · have := h.c.set_ (j := a) (by omega) (.int .u64 (v : Nat))
    rw [wcells_set] at this
    exact this.mod hm2 (fun a ha => by cases ha; exact n8)
  · have := (h.d.mod hm1 (fun a ha => by cases ha; exact fun e => n8 e.symm)).set_ (j := a / 8) (by omega) (.bool true)
    rw [blcells_set] at this
    exact this

theorem store_any (B : Nat) (b : DB) (m : Nat) (s : DS) (a v : Nat) (w : World) (h : Dev B w b m s) (ha : a < 8 * m) (hm : m ≤ 100000) :
    Calls Tryz.prog 115 #[.pointer (some ⟨b.d, 0, none⟩), .int .i64 a, .int .u64 v] w fun e w' => e = .returned (.int .i64 (ecode (exec s [.st a v]).2)) ∧ Dev B w' b m (exec s [.st a v]).1 ∧ Mod w w' b.has := by
  obtain ⟨_, c1, _⟩ := h.cells
  have H := Lib.hid h
  obtain ⟨n, Hn⟩ : ∃ n, Hid (8 * m = n) := ⟨_, rfl⟩
  have hn : n ≤ 1000000 := by rw [← Hn.out]; omega
  have ha8 := ha
  rw [Hn.out] at c1 ha
  have HE : Hid (exec s [.st a v] = if s.can then (Step.run s.tick (.st a v), true) else (s.die, false)) := rfl
  clear h
  obtain ⟨E, He⟩ : ∃ E, Hid (exec s [.st a v] = E) := ⟨_, rfl⟩
  rw [He.out] at HE ⊢
  go_enter Tryz.func115, Tryz.ntmps115
  go_wp2_with fail
  refine (step_any B b m s w H.out).mono ?_
  rintro e w1 ⟨rfl, hd, hm1⟩
  have HM1 := Lib.hid hm1
  cases hcan : s.can with
  | false =>
    rw [hcan] at hd HE
    have HD := Lib.hid hd
    have HE2 : Hid (E = (s.die, false)) := HE.out
    clear hd hm1 hcan HE c1
    go_wp2_with fail
    go_ret
    rw [HE2.out]
    exact ⟨rfl, HD.out, HM1.out.mono (fun k _ hk => .inl hk)⟩
  | true =>
    rw [hcan] at hd HE
    have HD : Hid (Dev B w1 b m s.tick) := hd
    have HE2 : Hid (E = (Step.run s.tick (.st a v), true)) := HE.out
    obtain ⟨_, d1, _, d3, _⟩ := HD.out.cells
    obtain ⟨_, e, _, _, _, _, hx, hf⟩ := HD.out.c.at_ (by omega)
    cases e
    have x0 := hx a _ (wcells_at _ a (by rw [HD.out.fits.c]; omega))
    have fx := hf a
    obtain ⟨_, e, _, _, _, _, hy, hg⟩ := HD.out.d.at_ (by omega)
    cases e
    have y0 := hy (a / 8) _ (blcells_at _ (a / 8) (by rw [HD.out.fits.d]; omega))
    have fy := hg (a / 8)
    obtain ⟨q, Hq⟩ : ∃ q, Hid (a / 8 = q) := ⟨_, rfl⟩
    have hq : (a : Int) / 8 = (q : Int) := by rw [← Hq.out]; omega
    have hq2 : q < m := by rw [← Hq.out]; omega
    have HS := Lib.hid (HD.out.store a v (by omega))
    have ne1 : ¬ b.gc = b.gd := HD.out.nd.2.2.2.2.2.2.2.1
    have ne2 : ¬ b.gd = b.gc := fun e => ne1 e.symm
    have ne3 : ¬ b.gc = b.d := HD.out.nd.2.1
    have ne4 : ¬ b.d = b.gc := fun e => ne3 e.symm
    rw [Hq.out] at y0 fy HS
    rw [Hn.out] at d1
    clear hd hm1 hcan HE c1 hx hf hy hg
    go_wp2_with fail
    go_ret
    rw [HE2.out]
    exact ⟨rfl, HS.out, (HM1.out.mono (fun k _ hk => .inl hk)).trans (Mod.set (p := ⟨b.gd, q, none⟩) (Mod.set (p := ⟨b.gc, a, none⟩) (Mod.refl w1 b.has) (.inr (.inr (.inr (.inl rfl)))) _) (.inr (.inr (.inr (.inr (.inr (.inl rfl)))))) _) (fun k _ h => h)⟩
end Go.Proofs.YtcnjipicifkfjaaGreat

/- nvm: part, Flush, Fence, Persist. -/
namespace Go.Proofs.YtcnjipicifkfjaaGreat
open Go.RowKit
set_option linter.unusedVariables false
set_option linter.unusedSimpArgs false

theorem cell_mod {w w' : World} {S : Nat → Prop} {p : Addr} {v : Value} (m : Mod w w' S) (h : w.cell? p = some v) (hs : ¬ S p.block) : w'.cell? p = some v :=
  (World.cell?_of_block (m.block p.block (cell_lt h) hs)).trans h
theorem frozen_mod {w w' : World} {S : Nat → Prop} {p : Addr} (m : Mod w w' S) (hlt : p.block < w.heap.size) (h : w.frozen? p = false) (hs : ¬ S p.block) : w'.frozen? p = false :=
  (World.frozen?_of_block (m.block p.block hlt hs)).trans h
theorem run_slice_sub {P : Program} (t e : TypeId) (ht : P.underlying t = some (.slice e)) (hs : (P.info? e).map (·.size) = some 1) (g o n cap l h : Nat) (h1 : l ≤ h) (h2 : h ≤ cap) (h3 : l < cap) (L H : Int) (hL : L = l) (hH : H = h) (w : World) :
    (Instr.slice t (.slice (some ⟨g, o, none⟩) n cap) (some (.int .i64 L)) (some (.int .i64 H)) none).run P w = .ok (.slice (some ⟨g, o + l, none⟩) (h - l) (cap - l)) w := by
  subst hL hH
  have he : P.elem t = e := by simp [Program.elem, ht]
  cases hq : P.info? e with
  | none => simp [hq] at hs
  | some i =>
    have hsz : i.size = 1 := by simpa [hq] using hs
    rw [run_slice_lh w t _ n cap (by rw [he]; exact ht) .i64 .i64 l h (by omega) (by omega) (by omega), he]
    simp only [sizeOf, typeInfo, Sem.run_bind, run_program, Result.andThen_ok, hq, Sem.run_pure, hsz, sliced, Int.toNat_natCast, Nat.mul_one, Option.map_some]
    rw [if_neg (by omega)]
    have hadd : (⟨g, o, none⟩ : Addr).add l = ⟨g, o + l, none⟩ := by unfold Addr.add; split <;> simp_all
    rw [hadd]
theorem size28 : (Tryz.prog.info? 28).map (·.size) = some 1 := by kernel_rfl
theorem part_any (p : Value) (g n cap l : Nat) (w : World) (h1 : 8 * l + 8 ≤ n) (h2 : n ≤ cap) (h3 : cap ≤ maxLen) (h4 : l ≤ 1000000) :
    Calls Tryz.prog 91 #[p, .slice (some ⟨g, 0, none⟩) n cap, .int .i64 l] w fun e w' => e = .returned (.slice (some ⟨g, 8 * l, none⟩) 8 (cap - 8 * l)) ∧ w = w' := by
  unfold maxLen at h3
  have hs : ∀ w, (Instr.slice 22 (.slice (some ⟨g, 0, none⟩) n cap) (some (.int .i64 ((l : Int) * 8))) (some (.int .i64 (((l : Int) + 1) * 8))) none).run Tryz.prog w = .ok (.slice (some ⟨g, 8 * l, none⟩) 8 (cap - 8 * l)) w := by
    intro w
    have := run_slice_sub 22 28 Tryz.underlying22 size28 g 0 n cap (8 * l) (8 * l + 8) (by omega) (by omega) (by omega) ((l : Int) * 8) (((l : Int) + 1) * 8) (by omega) (by omega) w
    rw [this, Nat.zero_add, show 8 * l + 8 - 8 * l = 8 by omega]
  obtain ⟨r, Hr⟩ : ∃ r, Hid (8 * l = r) := ⟨_, rfl⟩
  rw [Hr.out] at hs ⊢
  clear h1 h2
  go_enter Tryz.func91, Tryz.ntmps91
  go_wp2_with fail
  go_ret
  exact ⟨rfl, rfl⟩

theorem splice_take (L cs : List Value) (k n : Nat) (h : k + cs.length ≤ n) : (splice L k cs).take n = splice (L.take n) k cs := by
  unfold splice
  apply List.ext_getElem?
  intro i
  simp only [List.getElem?_take, List.getElem?_append, List.length_take, List.getElem?_drop]
  by_cases h1 : i < min k L.length
  · rw [if_pos (by omega), if_pos h1, if_pos (by omega), if_pos (by omega), if_pos (by omega), if_pos (by omega)]
  · rw [if_neg h1, if_neg (by omega : ¬ i < min k (min n L.length))]
    by_cases hk : k ≤ L.length
    · rw [Nat.min_eq_left hk, Nat.min_eq_left (by omega : k ≤ min n L.length)]
      by_cases h2 : i - k < cs.length
      · rw [if_pos h2, if_pos h2, if_pos (by omega)]
      · rw [if_neg h2, if_neg h2]
        by_cases h3 : i < n
        · rw [if_pos h3, if_pos (by omega)]
        · rw [if_neg h3, if_neg (by omega)]
    · rw [Nat.min_eq_right (by omega : L.length ≤ k), Nat.min_eq_right (by omega : min n L.length ≤ k), Nat.min_eq_right (by omega : L.length ≤ n)]
      by_cases h2 : i - L.length < cs.length
      · rw [if_pos h2, if_pos h2, if_pos (by omega)]
      · rw [if_neg h2, if_neg h2, List.getElem?_eq_none (by omega)]
        simp
/-- 'copy(a row's part, cells)' at a step of a region that draws its order. -/
theorem step_copy_rd {P : Program} {ops : Array Oper} {o : Oper} {a : Act} {w : World} {K : Act → World → Prop} {Q : Exit → Act → World → Prop} {E : Prop} (hgd : o.guard = none) (d s : Operand) (dT sT : TypeId)
    (ho : o.op = .call { callee := .builtin .copy, args := #[d, s], argTypes := #[dT, sT] }) (elem : TypeId) (hu : P.underlying dT = some (.slice elem)) (hsz : (P.info? elem).map (·.size) = some 1)
    (B g k n cap dLen dCap : Nat) (xs : List Value) (hd : a.eval d = .slice (some ⟨g, k, none⟩) dLen dCap) (hown : Own w B elem 1 (some ⟨g, 0, none⟩) n cap xs)
    (gs os m c2 : Nat) (vs : List Value) (hs : a.eval s = .slice (some ⟨gs, os, none⟩) m c2) (hr : Rd w 1 (some ⟨gs, os, none⟩) m vs) (hm0 : 0 < m) (hm : m ≤ dLen) (hfit : k + m ≤ n) (h1 : ∀ v ∈ vs, v.oneCell' = true)
    (h : ∀ w', Own w' B elem 1 (some ⟨g, 0, none⟩) n cap (splice xs k vs) → Mod w w' (fun b => b = g) → K (a.put o.dst (goInt m)) w') :
    if Region.wanted o (yielded ops a.tmps) = true then Oper.wp P o a w K Q else E := by
  have hw : Region.wanted o (yielded ops a.tmps) = true := by simp [Region.wanted, hgd]
  rw [if_pos hw]
  have hlen : vs.length = m := by have := hr.1; omega
  obtain ⟨_, _, e, _, hc⟩ := hr.2 hm0
  cases e
  have hl := hown.len
  rcases hown.form with ⟨h2, _⟩ | ⟨g', cur, e, hB, hblk, h3, h4, h5, h6⟩
  · cases h2
  · cases e
    have hcl : cur.toList.length = cap := by rw [Array.length_toList, h5, Nat.mul_one]
    have hrun := run_copy_row (P := P) w dT sT o.type elem g k dLen dCap ⟨gs, os, none⟩ m c2 cur elem vs hu hsz hblk (by rw [hlen]; exact (Nat.min_eq_left hm).symm)
      (fun j u hu => by
        have hadd : (⟨gs, os, none⟩ : Addr).add j = ⟨gs, os + j, none⟩ := by unfold Addr.add; split <;> simp_all
        rw [hadd]
        exact hc j u hu) (by rw [hlen, h5]; omega) h1
    unfold Oper.wp
    simp [execOp, ho, resolve, invoke, builtin, hd, hs, hrun, Result.andThen]
    rw [hlen]
    refine h _ ⟨?_, .inr ⟨g, _, rfl, hB, hblk.setRow _, h3, h4, ?_, ?_⟩⟩ (mod_setRow w g _)
    · rw [length_splice _ _ _ (by omega)]; exact hl
    · have := length_splice cur.toList k vs (by omega)
      unfold splice at this
      rw [hlen] at this
      rw [List.size_toArray, this, hcl, Nat.mul_one]
    · have := splice_take cur.toList vs k (n * 1) (by omega)
      rw [h6] at this
      unfold splice at this ⊢
      rw [hlen] at this ⊢
      exact this

theorem lineOf_len (l : List Nat) (i m : Nat) (h : l.length = 8 * m) (hi : i < m) : (lineOf l i).length = 8 := by
  unfold lineOf
  rw [List.length_take, List.length_drop]
  omega
theorem Own.line {B : Nat} {w : World} {g n cap m : Nat} {l : List Nat} (h : Own w B 28 1 (some ⟨g, 0, none⟩) n cap (wcells l)) (i : Nat) (hn : n = 8 * m) (hi : i < m) : Rd w 1 (some ⟨g, 8 * i, none⟩) 8 (wcells (lineOf l i)) := by
  have hl : l.length = 8 * m := by have := h.len; rw [wcells_len] at this; omega
  obtain ⟨_, e, _, hg, _, _, hx, _⟩ := h.at_ (by omega)
  cases e
  refine ⟨by rw [wcells_len, lineOf_len l i m hl hi], fun _ => ⟨g, 8 * i, rfl, hg, fun j u hu => hx _ u ?_⟩⟩
  unfold lineOf wcells at hu
  rw [List.map_take, List.map_drop, List.getElem?_take, List.getElem?_drop] at hu
  split at hu
  · exact hu
  · cases hu
theorem wcells_one {l : List Nat} : ∀ u ∈ wcells l, u.oneCell' = true := by
  intro u hu
  simp only [wcells, List.mem_map] at hu
  obtain ⟨_, _, rfl⟩ := hu
  rfl
theorem wcells_splice (l m : List Nat) (k : Nat) : splice (wcells l) k (wcells m) = wcells (splice l k m) := by
  unfold wcells splice
  simp [List.map_take, List.map_drop]

theorem Dev.flush {B : Nat} {w w1 w2 : World} {b : DB} {m : Nat} {s : DS} {l : Nat} (h : Dev B w b m s) (hl : l < m) (hD : s.D.getD l false = true) (h1 : w1 = w.setCell ⟨b.gp, l, none⟩ (.bool true))
    (hO : Own w2 B 28 1 (some ⟨b.gf, 0, none⟩) (8 * m) b.cf (splice (wcells s.F) (8 * l) (wcells (lineOf s.C l)))) (hM : Mod w1 w2 (fun k => k = b.gf)) : Dev B w2 b m (Step.run s (.fl l)) := by
  obtain ⟨n1, n2, n3, n4, n5, n6, n7, n8, n9, n10, n11⟩ := h.nd
  obtain ⟨e1, e2, e3, e4⟩ := h.ne
  have hm1 : Mod w w1 (fun k => k = b.gp) := by rw [h1]; exact (Mod.refl w (fun k => k = b.gp)).cell l _
  have one : ∀ {e : TypeId} {n c g : Nat} {xs : List Value}, Own w B e 1 (some ⟨g, 0, none⟩) n c xs → g ≠ b.gp → g ≠ b.gf → Own w2 B e 1 (some ⟨g, 0, none⟩) n c xs :=
    fun ho h1 h2 => (ho.mod hm1 (fun a ha => by cases ha; exact h1)).mod hM (fun a ha => by cases ha; exact h2)
  have hr : Step.run s (.fl l) = { s with P := s.P.set l true, F := splice s.F (8 * l) (lineOf s.C l) } := by show (if _ then _ else _) = _; rw [if_pos hD]
  rw [hr]
  refine ⟨hM.blk (hm1.blk h.o (fun e => n5 e.symm)) (fun e => n3 e.symm), one h.l n7 e2, one h.c n9 e3, ?_, one h.d (fun e => e4 e) (fun e => n10 e.symm), ?_, h.ne, h.hB⟩
  · rw [wcells_splice] at hO; exact hO
  · have := h.p.set_ (j := l) (by omega) (.bool true)
    rw [blcells_set] at this
    rw [← h1] at this
    exact this.mod hM (fun a ha => by cases ha; exact fun e => n11 e.symm)

set_option maxRecDepth 100000 in
set_option maxHeartbeats 2000000 in
theorem flush_any (B : Nat) (b : DB) (m : Nat) (s : DS) (l : Nat) (w : World) (h : Dev B w b m s) (hl : l < m) (hm : m ≤ 100000) :
    Calls Tryz.prog 167 #[.pointer (some ⟨b.d, 0, none⟩), .int .i64 l] w fun e w' => e = .returned (.int .i64 (ecode (exec s [.fl l]).2)) ∧ Dev B w' b m (exec s [.fl l]).1 ∧ Mod w w' b.has := by
  obtain ⟨_, _, _, c3, _⟩ := h.cells
  have H := Lib.hid h
  have HE : Hid (exec s [.fl l] = if s.can then (Step.run s.tick (.fl l), true) else (s.die, false)) := rfl
  clear h
  obtain ⟨E, He⟩ : ∃ E, Hid (exec s [.fl l] = E) := ⟨_, rfl⟩
  rw [He.out] at HE ⊢
  go_enter Tryz.func167, Tryz.ntmps167
  go_wp2_with fail
  refine (step_any B b m s w H.out).mono ?_
  rintro e w1 ⟨rfl, hd, hm1⟩
  have HM1 := Lib.hid hm1
  cases hcan : s.can with
  | false =>
    rw [hcan] at hd HE
    have HD := Lib.hid hd
    have HE2 : Hid (E = (s.die, false)) := HE.out
    clear hd hm1 hcan HE c3
    go_wp2_with fail
    go_ret
    rw [HE2.out]
    exact ⟨rfl, HD.out, HM1.out.mono (fun k _ hk => .inl hk)⟩
  | true =>
    rw [hcan] at hd HE
    have HD : Hid (Dev B w1 b m s.tick) := hd
    have HE2 : Hid (E = (Step.run s.tick (.fl l), true)) := HE.out
    clear hd hm1 hcan HE c3
    obtain ⟨_, d1, d2, d3, d4, _⟩ := HD.out.cells
    obtain ⟨_, e, _, _, _, _, hy, _⟩ := HD.out.d.at_ (by omega)
    cases e
    have y0 := hy l _ (blcells_at _ l (by rw [HD.out.fits.d]; exact hl))
    clear hy
    obtain ⟨t, Ht⟩ : ∃ t, Hid (s.tick = t) := ⟨_, rfl⟩
    rw [Ht.out] at HD HE2 y0
    cases hDl : t.D.getD l false with
    | false =>
      have HE3 : Hid (E = (t, true)) := by show E = _; rw [HE2.out]; simp only [Step.run]; rw [if_neg (by rw [hDl]; simp)]
      rw [hDl] at y0
      clear hDl HE2
      go_wp2_with fail
      go_ret
      rw [HE3.out]
      exact ⟨rfl, HD.out, HM1.out.mono (fun k _ hk => .inl hk)⟩
    | true =>
      rw [hDl] at y0
      have HDl := Lib.hid hDl
      clear hDl
      obtain ⟨_, e, _, hgp, _, _, hz, hfz⟩ := HD.out.p.at_ (by omega)
      cases e
      have z0 := hz l _ (blcells_at _ l (by rw [HD.out.fits.p]; exact hl))
      have z1 := hfz l
      obtain ⟨_, e, _, hgf, hf1, hf2, _⟩ := HD.out.f.at_ (by omega)
      cases e
      obtain ⟨_, e, _, hgc, hc1, hc2, _⟩ := HD.out.c.at_ (by omega)
      cases e
      have ne5 : ¬ b.gp = b.d := HD.out.nd.2.2.2.2.1
      have ne6 : ¬ b.d = b.gp := fun e => ne5 e.symm
      have ne7 : ¬ b.gf = b.gp := HD.out.nd.2.2.2.2.2.2.2.2.2.2
      have ne8 : ¬ b.gc = b.gp := HD.out.nd.2.2.2.2.2.2.2.2.1
      have ne9 : ¬ b.gf = b.d := HD.out.nd.2.2.1
      clear hz hfz
      go_wp2_with fail
      obtain ⟨w2, Hw2⟩ : ∃ w2, Hid (w1.setCell ⟨b.gp, l, none⟩ (.bool true) = w2) := ⟨_, rfl⟩
      have hm2 : Mod w1 w2 (fun k => k = b.gp) := by rw [← Hw2.out]; exact (Mod.refl w1 (fun k => k = b.gp)).cell l _
      have HM2 := Lib.hid hm2
      have k10 : w2.cell? ⟨b.d, 1, none⟩ = some (.slice (some ⟨b.gc, 0, none⟩) (8 * m) b.cc) := cell_mod hm2 d1 ne6
      have k1 : w2.drew.cell? ⟨b.d, 1, none⟩ = some (.slice (some ⟨b.gc, 0, none⟩) (8 * m) b.cc) := k10
      have k20 : w2.cell? ⟨b.d, 2, none⟩ = some (.slice (some ⟨b.gf, 0, none⟩) (8 * m) b.cf) := cell_mod hm2 d2 ne6
      have k2 : w2.drew.cell? ⟨b.d, 2, none⟩ = some (.slice (some ⟨b.gf, 0, none⟩) (8 * m) b.cf) := k20
      have HF2 : Hid (Own w2.drew B 28 1 (some ⟨b.gf, 0, none⟩) (8 * m) b.cf (wcells t.F)) := (HD.out.f.mod hm2 (fun a ha => by cases ha; exact ne7)).drewN 1
      have HC2 : Hid (Rd w2.drew 1 (some ⟨b.gc, 8 * l, none⟩) 8 (wcells (lineOf t.C l))) := ((HD.out.c.mod hm2 (fun a ha => by cases ha; exact ne8)).line l rfl hl).drewN 1
      rw [Hw2.out]
      clear hm2 d1 d2 d3 d4 y0 z0 z1 k10 k20
      have Hpart : Hid (∀ (w : World) (p : Value) (g cap : Nat), 8 * m ≤ cap → cap ≤ maxLen → Calls Tryz.prog 91 #[p, .slice (some ⟨g, 0, none⟩) (8 * m) cap, .int .i64 l] w fun e w' => e = .returned (.slice (some ⟨g, 8 * l, none⟩) 8 (cap - 8 * l)) ∧ w = w') :=
        fun w p g cap h1 h2 => part_any p g (8 * m) cap l w (by omega) h1 h2 (by omega)
      go_region_held3 (fun w' => w'.cell? ⟨b.d, 1, none⟩ = some (.slice (some ⟨b.gc, 0, none⟩) (8 * m) b.cc) ∧ w'.cell? ⟨b.d, 2, none⟩ = some (.slice (some ⟨b.gf, 0, none⟩) (8 * m) b.cf))
        (first | exact ⟨k1, k2⟩ | exact ⟨cell_mod hM3 k1 (fun e => ne9 e.symm), cell_mod hM3 k2 (fun e => ne9 e.symm)⟩)
        (first
          | (go_at_call 91; refine (Hpart.out _ _ _ _ (by assumption) (by assumption)).mono ?_; rintro e w' ⟨rfl, rfl⟩)
          | (refine step_copy_rd (by rfl) _ _ 22 22 (by rfl) 28 Tryz.underlying22 size28 B b.gf (8 * l) (8 * m) b.cf 8 _ _ (by rfl) HF2.out b.gc (8 * l) 8 _ _ (by rfl) HC2.out (by omega) (by omega) (by omega) wcells_one ?_; intro w3 hO3 hM3))
      have HD3 := Lib.hid (HD.out.flush hl HDl.out Hw2.out.symm hO3 ⟨hM3.os, hM3.tape, hM3.output, hM3.size, hM3.block⟩)
      have HM3 : Hid (Mod w1 w3 b.has) := (HM2.out.mono (S' := b.has) (fun k _ hk => .inr (.inr (.inr (.inr (.inr hk)))))).trans (⟨hM3.os, hM3.tape, hM3.output, hM3.size, hM3.block⟩ : Mod w2 w3 (fun k => k = b.gf)) (fun k _ hk => .inr (.inr (.inr (.inl hk))))
      clear hO3 hM3
      go_wp2_with fail
      go_ret
      rw [HE2.out]
      exact ⟨rfl, HD3.out, (HM1.out.mono (S' := b.has) (fun k _ hk => .inl hk)).trans HM3.out (fun k _ hk => hk)⟩

theorem equal_any (A1 A2 : Option Addr) (n c1 c2 : Nat) (l1 l2 : List Nat) (w : World) (hn : n ≤ 1000) (h1 : Rd w 1 A1 n (wcells l1)) (h2 : Rd w 1 A2 n (wcells l2)) :
    Calls Tryz.prog 214 #[.slice A1 n c1, .slice A2 n c2] w fun e w' => e = .returned (.bool (decide (l1 = l2))) ∧ ∃ q, w' = w.drewN q := by
  have H1 := Lib.hid h1
  have H2 := Lib.hid h2
  have Hl1 : Hid (l1.length = n) := by have := h1.1; rw [wcells_len] at this; show _ = _; omega
  have Hl2 : Hid (l2.length = n) := by have := h2.1; rw [wcells_len] at this; show _ = _; omega
  clear h1 h2
  go_enter Tryz.func214, Tryz.ntmps214
  go_wp2_with fail
  go_loopw [13] (fun v13 wr => ∃ i q : Nat, v13 = .int .i64 i ∧ i ≤ n ∧ (∀ j, j < i → l1.getD j 0 = l2.getD j 0) ∧ wr = w.drewN q) (fun v13 _ => n - (intOf v13).toNat)
  case atStart => exact ⟨0, 0, rfl, Nat.zero_le _, fun j hj => absurd hj (Nat.not_lt_zero _), rfl⟩
  case round =>
    obtain ⟨i, q, rfl, hi, hall, hwr⟩ := hrel
    have Hall := Lib.hid hall
    have Hwr := Lib.hid hwr
    clear hall hwr
    by_cases hin : i < n
    · obtain ⟨g1, o1, rfl, hg1, hx1⟩ := H1.out.2 (by omega)
      obtain ⟨g2, o2, rfl, hg2, hx2⟩ := H2.out.2 (by omega)
      have y1 : wr.cell? ⟨g1, o1 + i, none⟩ = some (.int .u64 (l1.getD i 0 : Nat)) := by rw [Hwr.out]; exact hx1 i _ (wcells_at l1 i (by rw [Hl1.out]; exact hin))
      have y2 : wr.cell? ⟨g2, o2 + i, none⟩ = some (.int .u64 (l2.getD i 0 : Nat)) := by rw [Hwr.out]; exact hx2 i _ (wcells_at l2 i (by rw [Hl2.out]; exact hin))
      clear hx1 hx2
      by_cases hy : l1.getD i 0 = l2.getD i 0
      · have HN : Hid (∀ j, j < i + 1 → l1.getD j 0 = l2.getD j 0) := by
          intro j hj
          rcases Nat.lt_or_ge j i with h | h
          · exact Hall.out j h
          · obtain rfl : j = i := by omega
            exact hy
        rw [← hy] at y2
        clear hy
        generalize l1.getD i 0 = y at *
        go_wp2_with fail
        go_quiet (fail)
        go_wp2_with fail
        exact ⟨⟨i + 1, q + nq, by go_num, by omega, HN.out, by rw [Hwr.out]; exact World.drewN_drewN _ _ _⟩, by simp [intOf]; omega⟩
      · have HN : Hid (decide (l1 = l2) = false) := by show _ = _; rw [decide_eq_false_iff_not]; intro h; exact hy (by rw [h])
        have hyb : ((l1.getD i 0 : Int) == (l2.getD i 0 : Int)) = false := by rw [beq_eq_false_iff_ne]; omega
        have hyb2 : (l1.getD i 0 == l2.getD i 0) = false := by rw [beq_eq_false_iff_ne]; omega
        clear hy
        generalize l1.getD i 0 = y at *
        generalize l2.getD i 0 = z at *
        go_wp2_with fail
        go_quiet (fail)
        go_wp2_with fail
        go_ret
        rw [HN.out]
        exact ⟨rfl, q + nq, by rw [Hwr.out]; exact World.drewN_drewN _ _ _⟩
    · obtain rfl : i = n := by omega
      have HN : Hid (decide (l1 = l2) = true) := by
        show _ = _
        rw [decide_eq_true_eq]
        apply List.ext_getElem (by rw [Hl1.out, Hl2.out])
        intro j a b
        have := Hall.out j (by rw [Hl1.out] at a; exact a)
        simpa [List.getD_eq_getElem?_getD, a, b] using this
      go_wp2_with fail
      go_ret
      rw [HN.out]
      exact ⟨rfl, q, Hwr.out⟩
end Go.Proofs.YtcnjipicifkfjaaGreat
