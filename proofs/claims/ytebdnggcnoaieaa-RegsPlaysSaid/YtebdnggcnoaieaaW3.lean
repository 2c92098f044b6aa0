/- Set at every argument; the page's example; the arguments opened. -/
import Derived.Test.YtebdnggcnoaieaaW2
import Derived.Test.YtebdnggcnoaieaaOpen
import Derived.Deep.Strs
namespace Go.Proofs.Ytebdnggcnoaieaa
open Go.RowKit Go.ChangeShapes Go.WideShapes Go.Joins
set_option linter.unusedVariables false
set_option linter.unusedSimpArgs false

/-- The file behind a Set, and what Set answers. -/
def setf (fs : List Int) (m r x : Int) : List Int := if okName m r ∧ 0 ≤ x then fs.set (m.toNat * 8 + r.toNat) x else fs
def setk (m r x : Int) : Int := if okName m r ∧ 0 ≤ x then 0 else 1
theorem setf_length (fs : List Int) (m r x : Int) : (setf fs m r x).length = fs.length := by
  unfold setf
  split <;> simp

theorem set_any (g : Nat) (m r x : Int) (fs : List Int) (w : World) (hf : fs.length = 32) (hB : Blk w g 30 (fcells fs)) :
    Calls Try.prog 6 #[.pointer (some ⟨g, 0, none⟩), .agg #[.int .i64 m, .int .i64 r], .int .i64 x] w fun e w' => e = .returned (.int .i64 (setk m r x)) ∧
      Blk w' g 30 (fcells (setf fs m r x)) ∧ Mod w w' (fun k => k = g) := by
  unfold setk setf
  by_cases h : okName m r ∧ 0 ≤ x
  · rw [if_pos h, if_pos h]
    obtain ⟨⟨a1, a2, a3, a4⟩, hx⟩ := h
    have := set_yes g m.toNat r.toNat x fs w (by omega) (by omega) hx hf hB
    rw [Int.toNat_of_nonneg a1, Int.toNat_of_nonneg a3] at this
    exact this
  · rw [if_neg h, if_neg h]
    refine (set_no g m r x w ?_).mono ?_
    · by_cases h1 : okName m r
      · right
        rcases Int.lt_or_le x 0 with h2 | h2
        · exact h2
        · exact absurd ⟨h1, h2⟩ h
      · exact .inl h1
    · rintro e w' ⟨rfl, hb⟩
      exact ⟨rfl, hB.below hb hB.lt, (Mod.of_below hb).mono (fun k hk h => by omega)⟩

theorem named_ex : idxs ((List.replicate 32 0).set 10 600) 600 32 = [10] := by decide

theorem fcells_zero : fcells (List.replicate 32 0) = #[.int .i64 0, .int .i64 0, .int .i64 0, .int .i64 0, .int .i64 0, .int .i64 0, .int .i64 0, .int .i64 0, .int .i64 0, .int .i64 0, .int .i64 0, .int .i64 0, .int .i64 0, .int .i64 0, .int .i64 0, .int .i64 0,
    .int .i64 0, .int .i64 0, .int .i64 0, .int .i64 0, .int .i64 0, .int .i64 0, .int .i64 0, .int .i64 0, .int .i64 0, .int .i64 0, .int .i64 0, .int .i64 0, .int .i64 0, .int .i64 0, .int .i64 0, .int .i64 0] := rfl

theorem awake_any (w : World) : Calls Try.prog 5 #[] w fun e w' => e = .returned (.bool true) ∧ Below w.heap.size w w' := by
  have e1 : setk 1 2 600 = 0 := by decide
  have e2 : setf (List.replicate 32 0) 1 2 600 = (List.replicate 32 0).set 10 600 := by decide
  have E := Lib.hid (And.intro e1 e2)
  clear e1 e2
  go_enter Try.func5, Try.ntmps5
  go_wp2_with fail
  refine (set_any w.heap.size 1 2 600 (List.replicate 32 0) _ (by simp) (by rw [fcells_zero]; exact Blk.new _ _ _)).mono ?_
  rintro e w1 ⟨rfl, hB, hM⟩
  rw [E.out.1]
  rw [E.out.2] at hB
  have HB := Lib.hid hB
  have Hb := Lib.hid (Below.mod ((Below.refl _ w).alloc (Nat.le_refl _) _) hM (by simp) (fun k _ hk => by rw [hk]; exact Nat.le_refl _))
  clear hB hM E
  go_wp2_with fail
  refine (named_any _ 600 _ w1 (by simp) HB.out).mono ?_
  rintro e w2 ⟨_, rfl, A, n, cap, rfl, hn, hO, hb2, hB2⟩
  rw [named_ex] at hn hO
  have hn1 : n = 1 := hn
  subst hn1
  obtain ⟨g, rfl, hg1, hg2, hcap1, hcap2, hc, _⟩ := hO.at_ (by omega)
  unfold maxLen at hcap2
  have c0 : w2.cell? ⟨g, 0, none⟩ = some (.int .i64 1) := hc 0 _ rfl
  have c1 : w2.cell? ⟨g, 1, none⟩ = some (.int .i64 2) := hc 1 _ rfl
  have Hb2 := Lib.hid (Hb.out.trans (hb2.mono Hb.out.size))
  clear hn hO hc hb2 HB Hb
  go_wp2_with fail
  go_ret
  exact ⟨rfl, Hb2.out⟩

section
variable {H : Type} {enc : TypeId × Value → H} {w : World} {base : Nat} {spare : Nat → Bool} {held : Bool} {r : Reach} {b0 : Nat} {t e : TypeId} {v : Value} {d : DataW H} {p : List MemPlace}

theorem open_name (hv : Value.okWide Try.prog w r b0 24 v) (h : DataW.Trod enc Try.prog w base spare held 24 v d p) :
    ∃ m n, v = .agg #[.int .i64 m, .int .i64 n] ∧ (Lit.int .i64 m).wf = true ∧ (Lit.int .i64 n).wf = true := by
  obtain ⟨v0, v1, y0, y1, n, rfl, _, _, h0, h1⟩ := open_agg2 Try.underlying24 (by kernel_rfl) (by kernel_rfl) hv h
  obtain ⟨x, e0, _, w0⟩ := DataW.trod_int Try.underlying3 h0
  obtain ⟨x', e1, _, w1⟩ := DataW.trod_int Try.underlying3 h1
  simp at e0 e1
  subst e0 e1
  exact ⟨x, x', rfl, w0, w1⟩

theorem four_of {l : List Value} (h : l.length = 4) : ∃ a b c d, l = [a, b, c, d] := by
  match l, h with
  | [a, b, c, d], _ => exact ⟨a, b, c, d, rfl⟩

/-- A call's cells. -/
def opCells (z : Int × Int × Int × Int) : List Value := [.int .i64 z.1, .int .i64 z.2.1, .int .i64 z.2.2.1, .int .i64 z.2.2.2]

theorem open_ops (hv : Value.okWide Try.prog w r b0 22 v) (h : DataW.Trod enc Try.prog w base spare held 22 v d p) :
    ∃ A n cap, ∃ zs : List (Int × Int × Int × Int), v = .slice A n cap ∧ n ≤ cap ∧ cap ≤ maxLen ∧ zs.length = n ∧ Row w A n 4 (fun i => opCells (zs.getD i (0, 0, 0, 0))) ∧
      ∀ i, i < n → (Lit.int .i64 (zs.getD i (0, 0, 0, 0)).1).wf = true ∧ (Lit.int .i64 (zs.getD i (0, 0, 0, 0)).2.1).wf = true ∧ (Lit.int .i64 (zs.getD i (0, 0, 0, 0)).2.2.1).wf = true ∧ (Lit.int .i64 (zs.getD i (0, 0, 0, 0)).2.2.2).wf = true := by
  obtain ⟨A, n, cap, V, rfl, hn, hcap, hrow, hel⟩ := open_row (sz := 4) Try.underlying22 (by kernel_rfl) (by omega) hv h
  have k3 : Try.prog.cellsOf 3 = 1 := by kernel_rfl
  have k24 : Try.prog.cellsOf 24 = 2 := by kernel_rfl
  have hx : ∀ i, i < n → ∃ z : Int × Int × Int × Int, V i = opCells z ∧ (Lit.int .i64 z.1).wf = true ∧ (Lit.int .i64 z.2.1).wf = true ∧ (Lit.int .i64 z.2.2.1).wf = true ∧ (Lit.int .i64 z.2.2.2).wf = true := by
    intro i hi
    obtain ⟨hl, m, y, hy⟩ := hel i hi
    obtain ⟨c0, c1, c2, c3, hV⟩ := four_of hl
    rw [hV] at hy
    obtain ⟨y0, y1, y2, m', _, _, g0, g1, g2⟩ := Go.Deep.trod_struct3 Try.underlying34 hy
    simp [k3, k24] at g0 g1 g2
    obtain ⟨z0, z1, m'', _, _, g3, g4⟩ := trod_struct2 Try.underlying24 g1
    simp [k3] at g3 g4
    obtain ⟨x0, e0, _, w0⟩ := DataW.trod_int Try.underlying3 g0
    obtain ⟨x1, e1, _, w1⟩ := DataW.trod_int Try.underlying3 g3
    obtain ⟨x2, e2, _, w2⟩ := DataW.trod_int Try.underlying3 g4
    obtain ⟨x3, e3, _, w3⟩ := DataW.trod_int Try.underlying3 g2
    simp at e0 e1 e2 e3
    subst e0 e1 e2 e3
    exact ⟨(x0, x1, x2, x3), hV, w0, w1, w2, w3⟩
  obtain ⟨zs, hzl, hz⟩ := list_of ((0, 0, 0, 0) : Int × Int × Int × Int) hx
  exact ⟨A, n, cap, zs, rfl, hn, hcap, hzl, hrow.conv fun i hi => (hz i hi).1, fun i hi => (hz i hi).2⟩
end
end Go.Proofs.Ytebdnggcnoaieaa
