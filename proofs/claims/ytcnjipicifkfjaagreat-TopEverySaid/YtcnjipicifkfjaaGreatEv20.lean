/- bitmap: All, List (a range over a function). -/
import Derived.Test.YtcnjipicifkfjaaGreatEv18
import Derived.RangeFuncBox
import Derived.RangeFuncNested
import Derived.RangeFuncLeaves
import Derived.Shelf.Abstract
import Derived.OwnWalkIn
import Derived.TacticsInMore
import Derived.LoopNIn
import Derived.LoopIn
import Derived.Test.YtcnjipicifkfjaaGreatEv19

namespace Go.Proofs.YtcnjipicifkfjaaGreat
open Go.RowKit Go.Shelf
set_option linter.unusedVariables false
set_option linter.unusedSimpArgs false

attribute [local go_sem] Oper.semAt_some

/-- A set's list, rising. -/
def setL (s : Nat → Bool) (n : Nat) : List Nat := (List.range (64 * n)).filter s
/-- Those below an address. -/
def setTo (s : Nat → Bool) (a : Nat) : List Nat := (List.range a).filter s
theorem setTo_next {s : Nat → Bool} {a x : Nat} (h : a ≤ x) (hx : s x = true) (hn : ∀ j, a ≤ j → j < x → s j = false) : setTo s (x + 1) = setTo s a ++ [x] := by
  unfold setTo
  obtain ⟨k, rfl⟩ : ∃ k, x = a + k := ⟨x - a, by omega⟩
  rw [List.range_succ, List.filter_append, List.range_add, List.filter_append]
  have e : ((List.range k).map (a + ·)).filter s = [] := by
    rw [List.filter_eq_nil_iff]
    intro y hy
    simp only [List.mem_map, List.mem_range] at hy
    obtain ⟨j, hj, rfl⟩ := hy
    rw [hn _ (by omega) (by omega)]
    decide
  rw [e, List.append_nil]
  simp [hx]
theorem setTo_end {s : Nat → Bool} {a n : Nat} (ha : a ≤ 64 * n) (hn : ∀ j, a ≤ j → s j = false) : setTo s a = setL s n := by
  unfold setTo setL
  obtain ⟨k, hk⟩ : ∃ k, 64 * n = a + k := ⟨64 * n - a, by omega⟩
  rw [hk, List.range_add, List.filter_append]
  have e : ((List.range k).map (a + ·)).filter s = [] := by
    rw [List.filter_eq_nil_iff]
    intro y hy
    simp only [List.mem_map, List.mem_range] at hy
    obtain ⟨j, hj, rfl⟩ := hy
    rw [hn _ (by omega)]
    decide
  rw [e, List.append_nil]
theorem setTo_pre (s : Nat → Bool) {a b : Nat} (h : a ≤ b) : setTo s a <+: setTo s b := by
  unfold setTo
  obtain ⟨k, rfl⟩ : ∃ k, b = a + k := ⟨b - a, by omega⟩
  rw [List.range_add, List.filter_append]
  exact List.prefix_append _ _
theorem setL_len (s : Nat → Bool) (n : Nat) : (setL s n).length ≤ 64 * n := by
  unfold setL
  exact Nat.le_trans (List.length_filter_le _ _) (by rw [List.length_range]; exact Nat.le_refl _)
/-- Where the iterator stands: what came; the next one. -/
def ItS (s : Nat → Bool) (n : Nat) (pre : List Nat) (x : Nat) (ok : Bool) : Prop :=
  ∃ a, a ≤ 64 * n ∧ pre = setTo s a ∧ NextS s a x ok

/-- What a round keeps. -/
def KeepB (n0 Bn : Nat) (q : Value) (A B : World) : Prop := Below n0 A B ∧ (Boxed A Bn 85 q → Boxed B Bn 85 q)
theorem keepB_t {n0 Bn : Nat} {q : Value} {A B C : World} (h : KeepB n0 Bn q A B) (k : KeepB n0 Bn q B C) : KeepB n0 Bn q A C := ⟨h.1.trans k.1, fun x => k.2 (h.2 x)⟩
theorem keepB_b {n0 Bn : Nat} {q : Value} {w : World} (hn : n0 ≤ w.heap.size) (W : World) (l : Nat) (o o' : Go.Obj) (hl : w.heap.size ≤ l) (h : W.heap[l]? = some o) (hc : o.isCells = false) (hw : o.isWalk = false) : KeepB n0 Bn q W (W.putObj l o') :=
  ⟨belowK_b hn W l o o' hl h hc hw, fun hb => hb.kept (grownBy_putObj' W l o') (fun e => by
    cases e
    rw [show W.heap[Bn]? = _ from hb] at h
    cases h
    cases hc)⟩

set_option maxRecDepth 100000 in
set_option maxHeartbeats 1000000 in
theorem ball1_in (F : Nat → Prop) (m l Bn n0 p n : Nat) (s : Nat → Bool) (hm : 1 ≤ m) (hn0 : 0 < n) (hn : n ≤ 10000) (hF : ∀ k, F k → k < n0) (J Jx : List Nat → World → Prop)
    (hY : ∀ pre (x : Nat) W, J pre W → pre.length < (setL s n).length → YieldAt Fence.wide (m - 1) Tryz.prog l #[.int .i64 (x : Int)] W fun e W' =>
      (e = .returned (.bool true) ∧ J (pre ++ [x]) W' ∧ KeepB n0 Bn (.pointer (some ⟨p, 0, none⟩)) W W') ∨ (e = .returned (.bool false) ∧ Jx (pre ++ [x]) W'))
    (W : World) (hBx : Boxed W Bn 85 (.pointer (some ⟨p, 0, none⟩))) (hS : SetR W F p n s) (h0 : J [] W) :
    CallsIn Fence.wide m Tryz.prog 205 #[.func (.yield l) #[] #[], .pointer (some ⟨Bn, 0, none⟩)] W fun e W' => (∃ v, e = .returned v) ∧
      ((∃ ys, ys = setL s n ∧ J ys W') ∨ (∃ pre, pre <+: setL s n ∧ Jx pre W')) := by
  refine callsIn_of_wp Tryz.func205 rfl trivial ?_ rfl
  simp only [Tryz.ntmps205, List.size_toArray, List.length_cons, List.length_nil, Nat.reduceAdd, Nat.reduceSub, Array.replicate_succ, Array.replicate_zero, List.push_toArray, List.append_toArray, List.nil_append, List.cons_append]
  have Hnext : Hid (∀ w' a, SetR w' F p n s → a ≤ 64 * n → Calls Tryz.prog 206 #[.pointer (some ⟨p, 0, none⟩), .int .i64 (a : Int)] w' (NextR s a w')) := fun w' a h ha => bnext_any F p n a s w' h hn0 (by omega) (by omega)
  have HS := Lib.hid hS
  have h0' := Lib.hid h0
  have HBx := Lib.hid hBx
  have hBn := hBx.cell
  clear hS h0 hBx
  gi_wp2_with (refine ⟨trivial, ?_⟩; gi_at_call 206; refine (callsIn_wide.2 (Hnext.out _ 0 HS.out (Nat.zero_le _))).mono ?_; rintro e w' ⟨⟨x, ok, rfl, hx⟩, rfl⟩)
  have Hx : Hid (ItS s n [] x ok) := ⟨0, Nat.zero_le _, by simp [setTo], hx⟩
  clear hx
  gi_loopw [3, 4] (fun v3 v4 wr => ∃ (pre : List Nat) (x : Nat) (ok : Bool), v3 = .int .i64 (x : Int) ∧ v4 = .bool ok ∧ ItS s n pre x ok ∧ KeepB n0 Bn (.pointer (some ⟨p, 0, none⟩)) W wr ∧ J pre wr)
    (fun v3 v4 _ => match v4 with | .bool true => 64 * n + 1 - (intOf v3).toNat | _ => 0)
  case atStart => exact ⟨[], x, ok, rfl, rfl, Hx.out, ⟨Below.refl _ _, fun h => h⟩, h0'.out⟩
  case round =>
    clear Hx
    obtain ⟨pre, x, ok, rfl, rfl, hI, hB, hJ⟩ := hrel
    have HI := Lib.hid hI
    have HB := Lib.hid hB
    have HJ := Lib.hid hJ
    clear hI hB hJ
    cases ok with
    | false =>
      have HE : Hid (pre = setL s n) := by
        obtain ⟨a, ha, rfl, hx⟩ := HI.out
        rcases hx with ⟨h1, _⟩ | ⟨_, _, h1⟩
        · cases h1
        · exact setTo_end ha h1
      gi_wp2
      go_end0
      exact ⟨⟨_, rfl⟩, .inl ⟨pre, HE.out, HJ.out⟩⟩
    | true =>
      obtain ⟨a, ha, hpre, hx⟩ := HI.out
      have hx' : a ≤ x ∧ s x = true ∧ ∀ j, a ≤ j → j < x → s j = false := by
        rcases hx with ⟨_, h1⟩ | ⟨h1, _⟩
        · exact h1
        · cases h1
      obtain ⟨hax, hsx, hbe⟩ := hx'
      have hxn : x < 64 * n := by
        rcases Nat.lt_or_ge x (64 * n) with h1 | h1
        · exact h1
        · have := HS.out.out x h1
          rw [this] at hsx
          cases hsx
      have hsn := setTo_next hax hsx hbe
      have hpl : pre.length < (setL s n).length := by
        have h1 := (setTo_pre s (show x + 1 ≤ 64 * n by omega)).length_le
        rw [hsn, List.length_append] at h1
        simp only [List.length_cons, List.length_nil] at h1
        rw [hpre]
        show _ < (setTo s (64 * n)).length
        omega
      have HN : Hid (pre ++ [x] = setTo s (x + 1)) := by rw [hpre]; exact hsn.symm
      obtain ⟨fn, tmps, assign, body, hy, hR⟩ := hY pre x wr HJ.out hpl
      clear hx hax hsx hbe hsn hpl hpre ha HI
      have HRm := Lib.hid hR
      clear hR
      gi_wp2
      refine HRm.out.mono ?_
      clear HRm hy
      rintro e W3 (⟨rfl, hJ3, hk3⟩ | ⟨rfl, hJx3⟩)
      · have HJ3 := Lib.hid hJ3
        have HB3 := Lib.hid (keepB_t HB.out hk3)
        have hc3 : W3.cell? ⟨Bn, 0, none⟩ = some (.pointer (some ⟨p, 0, none⟩)) := (HB3.out.2 HBx.out).cell
        have HS3 : Hid (SetR W3 F p n s) := by
          obtain ⟨g, cap, L, many, hb0, ho, h1, h2, h3, h4⟩ := HS.out
          refine ⟨g, cap, L, many, hb0.below HB3.out.1 (hF _ h3), ho.mod (Mod.of_below HB3.out.1) (fun a ha => by cases ha; have := hF _ h4; simp only; omega), h1, h2, h3, h4⟩
        clear hJ3 hk3
        gi_wp2_with (refine ⟨trivial, ?_⟩; gi_at_call 206; refine (callsIn_wide.2 (Hnext.out _ (x + 1) HS3.out (by omega))).mono ?_; rintro e w' ⟨⟨x2, ok2, rfl, hx2⟩, rfl⟩)
        go_roundw
        case rel => exact ⟨pre ++ [x], x2, ok2, rfl, rfl, ⟨x + 1, by omega, HN.out, hx2⟩, HB3.out, HJ3.out⟩
        case measure =>
          rcases hx2 with ⟨rfl, h1, _⟩ | ⟨rfl, rfl, _⟩
          · simp [intOf]; omega
          · simp [intOf]; omega
      · have HX3 : Hid (Jx (pre ++ [x]) W3) := hJx3
        have HP : Hid (pre ++ [x] <+: setL s n) := by show _ <+: _; rw [HN.out]; exact setTo_pre s (by omega)
        clear hJx3
        gi_wp2
        refine bodyPost_ret (results_none rfl _ _ _) rfl ?_
        exact ⟨⟨_, rfl⟩, .inr ⟨pre ++ [x], HP.out, HX3.out⟩⟩

set_option maxHeartbeats 1000000 in
theorem ball_in (m p : Nat) (w : World) :
    CallsIn Fence.wide m Tryz.prog 156 #[.pointer (some ⟨p, 0, none⟩)] w fun e w' => e = .returned (.func (.func 205) #[] #[.pointer (some ⟨w.heap.size, 0, none⟩)]) ∧ w' = w.alloc (.cells #[.pointer (some ⟨p, 0, none⟩)] 85) := by
  refine callsIn_of_wp Tryz.func156 rfl trivial ?_ rfl
  simp only [Tryz.ntmps156, List.size_toArray, List.length_cons, List.length_nil, Nat.reduceAdd, Nat.reduceSub, Array.replicate_succ, Array.replicate_zero, List.push_toArray, List.append_toArray, List.nil_append, List.cons_append]
  gi_wp2
  go_ret
  exact ⟨rfl, rfl⟩

theorem ball_stops (F : Nat → Prop) (m Bn n0 p n : Nat) (s : Nat → Bool) (hm : 1 ≤ m) (hn0 : 0 < n) (hn : n ≤ 10000) (hF : ∀ k, F k → k < n0) (w : World) (hc : Boxed w Bn 85 (.pointer (some ⟨p, 0, none⟩))) (hS : SetR w F p n s) :
    SeqStopsK Fence.wide m Tryz.prog 205 #[.pointer (some ⟨Bn, 0, none⟩)] (fun x : Nat => #[Value.int .i64 (x : Int)]) (KeepB n0 Bn (.pointer (some ⟨p, 0, none⟩))) (fun ys => ys = setL s n) (fun pre => pre <+: setL s n) (setL s n).length w := fun l J Jx W hW _ _ hY h0 =>
  ball1_in F m l Bn n0 p n s hm hn0 hn hF J Jx hY W ((hW.block Bn (by
    rcases Nat.lt_or_ge Bn w.heap.size with h1 | h1
    · exact h1
    · exact absurd ((Array.getElem?_eq_none h1).symm.trans (show w.heap[Bn]? = _ from hc)) (by simp))).trans hc) (hS.below hW (Nat.le_refl _)) h0

theorem info3z : (Tryz.prog.info? 3).map (fun i => (i.zero, i.size, i.bytes)) = some (some (.int .i64 0), 1, 8) := by kernel_rfl
set_option maxRecDepth 100000 in
set_option maxHeartbeats 2000000 in
theorem blist_in (F : Nat → Prop) (p n : Nat) (s : Nat → Bool) (w : World) (hS : SetR w F p n s) (hn0 : 0 < n) (hn : n ≤ 10000) :
    CallsIn Fence.wide 4 Tryz.prog 111 #[.pointer (some ⟨p, 0, none⟩)] w fun e W' => ∃ v, e = .returned v ∧ W'.ownsRow w.heap.size 3 1 v (setL s n).length (ncells (setL s n)) ∧ Below w.heap.size w W' := by
  obtain ⟨i0, hi, hz0, hz1, hz2⟩ := info_parts info3z
  have hsl := setL_len s n
  have HSw : Hid (SetR w (fun k => F k ∧ k < w.heap.size) p n s) := hS.weak (fun k h1 h2 => ⟨h2, h1⟩)
  clear hS
  refine callsIn_of_wp_marks Tryz.func111 rfl trivial ?_ rfl
  simp only [Tryz.ntmps111, List.size_toArray, List.length_cons, List.length_nil, Nat.reduceAdd, Nat.reduceSub, Array.replicate_succ, Array.replicate_zero, List.push_toArray, List.append_toArray, List.nil_append, List.cons_append]
  gi_wp2_with (refine ⟨trivial, ?_⟩; gi_at_call 156; refine (ball_in _ p _).mono ?_; rintro e w' ⟨rfl, rfl⟩)
  have bO := Boxed.new w 60 (.slice none 0 0)
  have bN := Boxed.new (w.alloc (.cells #[.slice none 0 0] 60)) 85 (.pointer (some ⟨p, 0, none⟩))
  rw [World.size_alloc] at bN
  have hB0 : Below w.heap.size w ((w.alloc (.cells #[.slice none 0 0] 60)).alloc (.cells #[.pointer (some ⟨p, 0, none⟩)] 85)) := ((Below.refl _ w).alloc (Nat.le_refl _) _).alloc (by simp) _
  have HSl : Hid (SetR ((w.alloc (.cells #[.slice none 0 0] 60)).alloc (.cells #[.pointer (some ⟨p, 0, none⟩)] 85)) (fun k => F k ∧ k < w.heap.size) p n s) := HSw.out.below hB0 (Nat.le_refl _)
  refine wpIn_rangeFunc_ownG rfl (by omega) (gf := 205) (lb := #[.pointer (some ⟨w.heap.size + 1, 0, none⟩)]) rfl trivial (enters_of Tryz.func205 (by kernel_rfl) rfl)
    (ball_stops (fun k => F k ∧ k < w.heap.size) (4 - 1) (w.heap.size + 1) w.heap.size p n s (by omega) hn0 hn (fun k h => h.2) _ bN HSl.out) keepB_t (keepB_b (by simp; omega)) (Below.refl _ _) (fun _ => rfl)
    (fun pre W => (∃ v, Boxed W w.heap.size 60 v ∧ W.ownsRow w.heap.size 3 1 v pre.length (ncells pre) ∧ True) ∧ Boxed W (w.heap.size + 1) 85 (.pointer (some ⟨p, 0, none⟩)) ∧ Below w.heap.size w W)
    (fun _ _ _ => False)
    (OwnFrom.and (Own.from (holdsRow_own w.heap.size w.heap.size 60 3 1 (fun pre : List Nat => pre.length) (fun pre => ncells pre) (fun _ _ => True)) _) (OwnFrom.and (Own.from (boxed_own _ _ _) _) (ownFrom_below (Nat.le_refl _) (by simp; omega))))
    (fun _ _ _ _ _ hs _ _ => hs)
    ⟨⟨_, bO.alloc _, World.ownsRow_nil _ _ _ _, trivial⟩, bN, hB0⟩
    (fun x => { tmps := #[.pointer (some ⟨p, 0, none⟩), undef, .slice none 0 0, .pointer (some ⟨w.heap.size, 0, none⟩), .int .i64 (x : Int), .pointer (some ⟨p, 0, none⟩), .func (.func 205) #[] #[.pointer (some ⟨w.heap.size + 1, 0, none⟩)], .int .i64 (x : Int), undef, undef, undef, undef, undef], defers := [] }) ?assign ?body ?done ?stop
  case assign =>
    intro l x W K hK
    gi_wp2
    exact hK
  case body =>
    rintro l pre x W ⟨⟨v, hv, hrow, _⟩, hbN, hB⟩ hlt
    have hc := hv.cell
    have hne := hbN.not_row (by decide) hrow
    gi_wp2_with (gi_at_builtin; refine wpListIn_append_own _ rfl _ _ 60 rfl w.heap.size 3 i0 (.int .i64 0) 1 8 Tryz.underlying60 hi hz0 hz1 hz2 rfl (by decide) _ _ _ rfl (hrow.alloc _) ⟨W.heap.size, 0, none⟩ 1 1 [.int .i64 (x : Int)] rfl rfl (cell_one_new _ _ _) (by simp [Value.oneCell']) (by unfold maxLen; omega) (by omega) (by have := hB.size; simp; omega) ?_; intro v' w1 hown' hgrow _; obtain ⟨g', cap', rfl⟩ := ownsRow_succ hown'; obtain ⟨hv1, hv2, hr2, hk2, hb2⟩ := hv.appended (by decide) hrow hB.size (Nat.le_refl _) hown' hgrow; have hc1 := hv1.cell; have hf1 := hv1.frozen)
    have hbN2 : Boxed (w1.setCell ⟨w.heap.size, 0, none⟩ (.slice (some ⟨g', 0, none⟩) (pre.length + 1) cap')) (w.heap.size + 1) 85 (.pointer (some ⟨p, 0, none⟩)) :=
      (Below.heap_setCell w1 ⟨w.heap.size, 0, none⟩ _ (w.heap.size + 1) (by simp)).trans ((hbN.alloc _).kept hgrow hne)
    exact ⟨hk2.from _, ⟨hb2, fun _ => hbN2⟩, ⟨_, hv2, by simpa [ncells] using hr2, trivial⟩, hbN2, hB.trans hb2⟩
  case done =>
    rintro D ys W hD rfl ⟨⟨v, hv, hrow, _⟩, hbN, hB⟩ hK
    have hc := hv.cell
    gi_wp2
    refine ⟨by simp, .inl ⟨_, _, rfl, run_takeDeferred hK, ?_⟩⟩
    exact ⟨_, results_tmp rfl _ _ _, v, rfl, ownsRow_putObj hrow _ hK rfl, hB.trans (belowK_b (w := w) (Nat.le_refl _) W D _ _ (by simp at hD; omega) hK rfl rfl)⟩
  case stop =>
    rintro D c pre W _ _ h _
    exact h.elim
theorem blist_any (F : Nat → Prop) (p n : Nat) (s : Nat → Bool) (w : World) (hS : SetR w F p n s) (hn0 : 0 < n) (hn : n ≤ 10000) :
    Calls Tryz.prog 111 #[.pointer (some ⟨p, 0, none⟩)] w fun e w' => ∃ A cap, e = .returned (.slice A (setL s n).length cap) ∧ Own w' w.heap.size 3 1 A (setL s n).length cap (ncells (setL s n)) ∧ Below w.heap.size w w' := by
  refine ((callsIn_wide (n := 4)).1 (blist_in F p n s w hS hn0 hn)).mono ?_
  rintro e w' ⟨v, rfl, hr, hb⟩
  obtain ⟨A, cap, rfl, ho⟩ := Own.of_row hr
  exact ⟨A, cap, rfl, ho, hb⟩
end Go.Proofs.YtcnjipicifkfjaaGreat

/- hold: Reset, List. -/
namespace Go.Proofs.YtcnjipicifkfjaaGreat
open Go.RowKit
set_option linter.unusedVariables false
set_option linter.unusedSimpArgs false

/-- What a set of held objects is behind Add of the first k of a list. -/
def resetM (used : Nat → Bool) (nx : Nat → Nat) (N : Nat) (l : List Nat) : Nat → (Nat → Bool)
  | 0 => fun _ => false
  | k + 1 => addM used nx N (resetM used nx N l k) (l.getD k 0)
set_option maxRecDepth 100000 in
set_option maxHeartbeats 2000000 in
theorem hreset_any (B : Nat) (b : DB) (m : Nat) (s : DS) (F : Nat → Prop) (col : Nat → Nat) (hl ap p n cap : Nat) (A : Option Addr) (l : List Nat) (S : AS) (st : Nat → Bool) (w : World) (h : Dev B w b m s) (hA : AllocR w col ap b.d S) (hH : HeldR w F hl ap S.K st)
    (hd : ∀ k, b.has k → col k = 0) (hF : ∀ k, F k → 4 ≤ col k ∧ col k ≠ 8) (hFw : ∀ k, F k → k < w.heap.size) (ho : OB s m S.used p) (h0 : S.used 0 = false) (hm : m = S.K * 64) (hK0 : 0 < S.K) (hK : S.K ≤ 150)
    (hr : Rd w 1 A n (ncells l)) (hn : n ≤ 100000) (hA2 : ∀ a, A = some a → ¬ F a.block) (hl2 : ∀ j, l.getD j 0 ≤ 1099511627776) :
    Calls Tryz.prog 46 #[.pointer (some ⟨hl, 0, none⟩), .slice A n cap] w fun e w' => (∃ v, e = .returned v) ∧ HeldR w' F hl ap S.K (resetM S.used (nx s p) (512 * S.K + 1) l n) ∧ Mod w w' F := by
  have hln : l.length = n := by have := hr.1; rw [ncells_len] at this; omega
  have Hln := Lib.hid hln
  have HRd : Hid (∀ wr, Mod w wr F → Rd wr 1 A n (ncells l)) := fun wr hM => hr.mod hM hA2
  have HD : Hid (∀ wr, Mod w wr F → Dev B wr b m s) := fun wr hM => h.mod hM (fun k h1 h2 => by have := hd k h1; have := (hF k h2).1; omega)
  have HA : Hid (∀ wr, Mod w wr F → AllocR wr col ap b.d S) := fun wr hM => hA.mod hM (fun k h1 h2 => by have := hF k h2; omega)
  have Had : Hid (∀ (a : Nat) st wr, Mod w wr F → HeldR wr F hl ap S.K st → a ≤ 1099511627776 → Calls Tryz.prog 79 #[.pointer (some ⟨hl, 0, none⟩), .int .i64 a] wr fun e w' => (∃ v, e = .returned v) ∧ HeldR w' F hl ap S.K (addM S.used (nx s p) (512 * S.K + 1) st a) ∧ Mod wr w' F) :=
    fun a st wr hM hH ha => hadd_any B b m s F col hl ap p a S st wr (HD.out wr hM) (HA.out wr hM) hH hd hF (fun k hk => Nat.lt_of_lt_of_le (hFw k hk) hM.size) ho h0 hm hK ha
  obtain ⟨hp, hb, hS, hf⟩ := hH
  have Hcl := Lib.hid (bclear_any F hp (8 * S.K) st w hS (by omega) (by omega))
  have Hb := Lib.hid (fun w' hM => hb.lt |> fun _ => (Mod.blk (w' := w') hM hb hf))
  have Hf := Lib.hid hf
  have c1 : w.cell? ⟨hl, 1, none⟩ = some (.pointer (some ⟨hp, 0, none⟩)) := hb.cell 1
  have Hl2 := Lib.hid hl2
  clear h hA hd hF ho h0 hm hK0 hr hA2 hl2 hln hb hS hf hFw
  generalize nx s p = nxf at *
  generalize 512 * S.K + 1 = N at *
  go_enter Tryz.func46, Tryz.ntmps46
  go_wp2_with fail
  refine Hcl.out.mono ?_
  rintro e w1 ⟨⟨v, rfl⟩, hS1, hM1⟩
  have HH1 : Hid (HeldR w1 F hl ap S.K (resetM S.used nxf N l 0)) := ⟨hp, Hb.out _ hM1, hS1, Hf.out⟩
  have HM1 := Lib.hid hM1
  clear hS1 hM1 Hcl c1
  go_wp2_with fail
  go_loopw [13] (fun v13 wr => ∃ k : Nat, v13 = .int .i64 k ∧ k ≤ n ∧ Mod w wr F ∧ HeldR wr F hl ap S.K (resetM S.used nxf N l k)) (fun v13 _ => n - (intOf v13).toNat)
  case atStart => exact ⟨0, rfl, Nat.zero_le _, HM1.out, HH1.out⟩
  case round =>
    clear HM1 HH1
    obtain ⟨k, rfl, hk, hM, hH⟩ := hrel
    have HM := Lib.hid hM
    have HH := Lib.hid hH
    clear hM hH
    by_cases hlt : k < n
    · obtain ⟨g, off, rfl, hg, hc⟩ := (HRd.out wr HM.out).2 (by omega)
      have y0 : wr.cell? ⟨g, off + k, none⟩ = some (.int .i64 (l.getD k 0 : Nat)) := hc k _ (ncells_at l k (by rw [Hln.out]; exact hlt))
      have HC := Lib.hid (Had.out _ _ _ HM.out HH.out (Hl2.out k))
      have HE : Hid (resetM S.used nxf N l (k + 1) = addM S.used nxf N (resetM S.used nxf N l k) (l.getD k 0)) := rfl
      rw [← HE.out] at HC
      generalize l.getD k 0 = x at *
      clear hc
      go_wp2_with fail
      refine HC.out.mono ?_
      rintro e w2 ⟨⟨v2, rfl⟩, hH2, hM2⟩
      have HH2 := Lib.hid hH2
      have HM2 := Lib.hid (HM.out.trans hM2 (fun k _ h => h))
      clear hH2 hM2 HC HH HM
      go_wp2_with fail
      exact ⟨⟨k + 1, by go_num, by omega, HM2.out, HH2.out⟩, by simp [intOf]; omega⟩
    · obtain rfl : k = n := by omega
      go_wp2_with fail
      first
        | go_end0
        | skip
      exact ⟨⟨_, rfl⟩, HH.out, HM.out⟩
theorem hlist_any (F : Nat → Prop) (hl ap K : Nat) (st : Nat → Bool) (w : World) (h : HeldR w F hl ap K st) (hK0 : 0 < K) (hK : K ≤ 150) :
    Calls Tryz.prog 66 #[.pointer (some ⟨hl, 0, none⟩)] w fun e w' => ∃ A cap, e = .returned (.slice A (setL st (8 * K)).length cap) ∧ Own w' w.heap.size 3 1 A (setL st (8 * K)).length cap (ncells (setL st (8 * K))) ∧ Below w.heap.size w w' := by
  obtain ⟨hp, hb, hS, hf⟩ := h
  have c1 : w.cell? ⟨hl, 1, none⟩ = some (.pointer (some ⟨hp, 0, none⟩)) := hb.cell 1
  have Hh := Lib.hid (blist_any F hp (8 * K) st w hS (by omega) (by omega))
  clear hb hS hf
  generalize setL st (8 * K) = L at *
  go_enter Tryz.func66, Tryz.ntmps66
  go_wp2_with fail
  refine Hh.out.mono ?_
  rintro e w1 ⟨A, cap, rfl, hO, hB⟩
  have HO := Lib.hid hO
  have HB := Lib.hid hB
  clear hO hB
  go_wp2_with fail
  go_ret
  exact ⟨A, cap, rfl, HO.out, HB.out⟩
end Go.Proofs.YtcnjipicifkfjaaGreat

/- cycle: New (stack.New, mark.New, sweep.New). -/
namespace Go.Proofs.YtcnjipicifkfjaaGreat
open Go.RowKit
set_option linter.unusedVariables false
set_option linter.unusedSimpArgs false

theorem snew_any (n : Nat) (w : World) :
    Calls Tryz.prog 144 #[.int .i64 n] w fun e w' => ∃ p, e = .returned (.pointer (some ⟨p, 0, none⟩)) ∧ w.heap.size ≤ p ∧ Blk w' p 244 #[.slice none 0 0, .int .i64 n, .int .i64 0] ∧ Below w.heap.size w w' := by
  have hmax : max (n : Int) 0 = (n : Int) := by omega
  obtain ⟨n1, Hn1⟩ : ∃ k, Hid (w.heap.size = k) := ⟨_, rfl⟩
  go_enter Tryz.func144, Tryz.ntmps144
  go_wp2_with fail
  rw [Hn1.out]
  have L := (Loc.nil Nob w).box 244 #[.slice none 0 0, .int .i64 n, .int .i64 0] n1 Hn1.out
  have hL := L.below
  rw [Hn1.out] at hL
  go_ret
  exact ⟨n1, rfl, Nat.le_refl _, L.b0, hL⟩
/-- What a collector knows: which objects are marked, gone through; its stack, its bound, how many were missed; the cursor; the sweep's block; what is gone; the phase. -/
structure CS where
  mkd : Nat → Bool
  sc : Nat → Bool
  stk : List Nat
  most : Nat
  missed : Nat
  again : Bool
  cur : Nat
  blk : Nat
  gone : List Nat
  phase : Nat
  cycles : Nat
  steps : Nat
structure MarkX (w : World) (col : Nat → Nat) (mk ap K : Nat) (m1 m2 sk : Nat) (A : Option Addr) (cap : Nat) (C : CS) : Prop where
  b : Blk w mk 211 #[.pointer (some ⟨ap, 0, none⟩), .pointer (some ⟨m1, 0, none⟩), .pointer (some ⟨m2, 0, none⟩), .pointer (some ⟨sk, 0, none⟩), .bool C.again, .int .i64 C.cur]
  s : Blk w sk 244 #[.slice A C.stk.length cap, .int .i64 C.most, .int .i64 C.missed]
  o : Own w 0 3 1 A C.stk.length cap (ncells C.stk)
  m : SetR w (fun k => col k = 21) m1 (8 * K) C.mkd
  c : SetR w (fun k => col k = 22) m2 (8 * K) C.sc
  cb : col mk = 20
  cs : col sk = 20
  co : ∀ a, A = some a → col a.block = 23
structure CycX (w : World) (col : Nat → Nat) (ca ap K : Nat) (fv : Value) (mk sw m1 m2 sk : Nat) (A : Option Addr) (cap : Nat) (G : Option Addr) (gcap : Nat) (C : CS) : Prop where
  b : Blk w ca 118 #[.pointer (some ⟨ap, 0, none⟩), .pointer (some ⟨mk, 0, none⟩), .pointer (some ⟨sw, 0, none⟩), fv, .int .i64 C.phase, .int .i64 C.cycles, .int .i64 C.steps]
  x : MarkX w col mk ap K m1 m2 sk A cap C
  wb : Blk w sw 213 #[.pointer (some ⟨ap, 0, none⟩), .pointer (some ⟨mk, 0, none⟩), .int .i64 C.blk, .slice G C.gone.length gcap]
  g : Own w 0 3 1 G C.gone.length gcap (ncells C.gone)
  cb : col ca = 20
  cw : col sw = 20
  cg : ∀ a, G = some a → col a.block = 24
def CycR (w : World) (col : Nat → Nat) (ca ap K : Nat) (fv : Value) (C : CS) : Prop := ∃ mk sw m1 m2 sk A cap G gcap, CycX w col ca ap K fv mk sw m1 m2 sk A cap G gcap C
section
variable {w w' : World} {col col' : Nat → Nat} {ca ap K mk sw m1 m2 sk cap gcap : Nat} {fv : Value} {A G : Option Addr} {C : CS} {T : Nat → Prop}
theorem MarkX.mod (h : MarkX w col mk ap K m1 m2 sk A cap C) (m : Mod w w' T) (hs : ∀ k, 20 ≤ col k ∧ col k ≤ 24 → ¬ T k) : MarkX w' col mk ap K m1 m2 sk A cap C :=
  ⟨m.blk h.b (hs _ (by simp [h.cb])), m.blk h.s (hs _ (by simp [h.cs])), h.o.mod m (fun a ha => hs _ (by simp [h.co a ha])), h.m.mod m (fun k hk => hs k (by simp [hk])), h.c.mod m (fun k hk => hs k (by simp [hk])), h.cb, h.cs, h.co⟩
theorem CycX.mod (h : CycX w col ca ap K fv mk sw m1 m2 sk A cap G gcap C) (m : Mod w w' T) (hs : ∀ k, 20 ≤ col k ∧ col k ≤ 24 → ¬ T k) : CycX w' col ca ap K fv mk sw m1 m2 sk A cap G gcap C :=
  ⟨m.blk h.b (hs _ (by simp [h.cb])), h.x.mod m hs, m.blk h.wb (hs _ (by simp [h.cw])), h.g.mod m (fun a ha => hs _ (by simp [h.cg a ha])), h.cb, h.cw, h.cg⟩
theorem CycR.mod (h : CycR w col ca ap K fv C) (m : Mod w w' T) (hs : ∀ k, 20 ≤ col k ∧ col k ≤ 24 → ¬ T k) : CycR w' col ca ap K fv C := by
  obtain ⟨mk, sw, m1, m2, sk, A, cap, G, gcap, h⟩ := h
  exact ⟨mk, sw, m1, m2, sk, A, cap, G, gcap, h.mod m hs⟩
theorem CycR.below {B : Nat} (h : CycR w col ca ap K fv C) (hb : Below B w w') (hB : w.heap.size ≤ B) : CycR w' col ca ap K fv C := by
  obtain ⟨mk, sw, m1, m2, sk, A, cap, G, gcap, h⟩ := h
  exact ⟨mk, sw, m1, m2, sk, A, cap, G, gcap, ⟨h.b.below hb (Nat.lt_of_lt_of_le h.b.lt hB), ⟨h.x.b.below hb (Nat.lt_of_lt_of_le h.x.b.lt hB), h.x.s.below hb (Nat.lt_of_lt_of_le h.x.s.lt hB), h.x.o.below hb hB, h.x.m.below hb hB, h.x.c.below hb hB, h.x.cb, h.x.cs, h.x.co⟩,
    h.wb.below hb (Nat.lt_of_lt_of_le h.wb.lt hB), h.g.below hb hB, h.cb, h.cw, h.cg⟩⟩
theorem MarkX.recol (h : MarkX w col mk ap K m1 m2 sk A cap C) (hc : ∀ k, k < w.heap.size → col' k = col k) : MarkX w col' mk ap K m1 m2 sk A cap C :=
  ⟨h.b, h.s, h.o, h.m.weak (fun k hk e => (hc k hk).trans e), h.c.weak (fun k hk e => (hc k hk).trans e), (hc _ h.b.lt).trans h.cb, (hc _ h.s.lt).trans h.cs, fun a ha => (hc _ (h.o.lt a ha).2).trans (h.co a ha)⟩
theorem CycX.recol (h : CycX w col ca ap K fv mk sw m1 m2 sk A cap G gcap C) (hc : ∀ k, k < w.heap.size → col' k = col k) : CycX w col' ca ap K fv mk sw m1 m2 sk A cap G gcap C :=
  ⟨h.b, h.x.recol hc, h.wb, h.g, (hc _ h.b.lt).trans h.cb, (hc _ h.wb.lt).trans h.cw, fun a ha => (hc _ (h.g.lt a ha).2).trans (h.cg a ha)⟩
theorem CycR.recol (h : CycR w col ca ap K fv C) (hc : ∀ k, k < w.heap.size → col' k = col k) : CycR w col' ca ap K fv C := by
  obtain ⟨mk, sw, m1, m2, sk, A, cap, G, gcap, h⟩ := h
  exact ⟨mk, sw, m1, m2, sk, A, cap, G, gcap, h.recol hc⟩
end
def CS.new (K most : Nat) : CS := ⟨fun _ => false, fun _ => false, [], most, 0, false, 512 * K, K, [], 0, 0, 0⟩
def colM (col : Nat → Nat) (a b c : Nat) : Nat → Nat := fun k => if k < a then col k else if k < b then 21 else if k < c then 22 else 20
theorem mnew_any (B : Nat) (b : DB) (m : Nat) (s : DS) (col : Nat → Nat) (ap most : Nat) (S : AS) (w : World) (h : Dev B w b m s) (hA : AllocR w col ap b.d S) (hm : m = S.K * 64) (hK0 : 0 < S.K) (hK : S.K ≤ 150) :
    Calls Tryz.prog 98 #[.pointer (some ⟨ap, 0, none⟩), .int .i64 most] w fun e w' => ∃ mk m1 m2 sk q q2, e = .returned (.pointer (some ⟨mk, 0, none⟩)) ∧ w.heap.size ≤ q ∧ q ≤ q2 ∧ q2 ≤ w'.heap.size ∧ (∀ C : CS, C.mkd = (fun _ => false) → C.sc = (fun _ => false) → C.stk = [] → C.most = most → C.missed = 0 → C.again = false → C.cur = 512 * S.K → MarkX w' (colM col w.heap.size q q2) mk ap S.K m1 m2 sk none 0 C) ∧ Below w.heap.size w w' := by
  have Hd := Lib.hid (adev_any col ap b.d S w hA)
  have Hl := Lib.hid (len_any B b m s w h)
  have Hn := Lib.hid (fun w => bnew_any (8 * S.K) w (by omega) (by omega))
  have Hs := Lib.hid (fun w => snew_any most w)
  obtain ⟨N, HN⟩ : ∃ N, Hid (8 * m = N) := ⟨_, rfl⟩
  rw [HN.out] at Hl
  rw [show 64 * (8 * S.K) = N by rw [← HN.out, hm]; omega] at Hn
  have HN2 : Hid (512 * S.K = N) := by show _ = _; rw [← HN.out, hm]; omega
  clear h hA
  go_enter Tryz.func98, Tryz.ntmps98
  go_wp2_with fail
  refine Hd.out.mono ?_
  rintro e w1 ⟨rfl, rfl⟩
  go_wp2_with fail
  refine Hl.out.mono ?_
  rintro e w1 ⟨rfl, rfl⟩
  go_wp2_with fail
  refine (Hn.out _).mono ?_
  rintro e w1 ⟨m1, rfl, hS1, hb1⟩
  have HS1 := Lib.hid hS1
  have HB1 := Lib.hid hb1
  clear hS1 hb1 Hd Hl
  go_wp2_with fail
  refine (Hn.out _).mono ?_
  rintro e w2 ⟨m2, rfl, hS2, hb2⟩
  have HS2 := Lib.hid hS2
  have HB2 := Lib.hid hb2
  clear hS2 hb2 Hn
  go_wp2_with fail
  refine (Hs.out _).mono ?_
  rintro e w3 ⟨sk, rfl, hs1, hs2, hb3⟩
  have HS3 : Hid (w2.heap.size ≤ sk ∧ Blk w3 sk 244 #[.slice none 0 0, .int .i64 most, .int .i64 0]) := ⟨hs1, hs2⟩
  have HB3 := Lib.hid hb3
  clear hs1 hs2 hb3 Hs
  obtain ⟨n4, Hn4⟩ : ∃ k, Hid (w3.heap.size = k) := ⟨_, rfl⟩
  go_wp2_with fail
  rw [Hn4.out]
  go_ret
  have L := (Loc.nil Nob w3).box 211 #[.pointer (some ⟨ap, 0, none⟩), .pointer (some ⟨m1, 0, none⟩), .pointer (some ⟨m2, 0, none⟩), .pointer (some ⟨sk, 0, none⟩), .bool false, .int .i64 N] n4 Hn4.out
  have hb4 := L.below
  have h1 := HB1.out.size
  have h2 := HB2.out.size
  have h3 := HB3.out.size
  have h4 := hb4.size
  refine ⟨n4, m1, m2, sk, w1.heap.size, w2.heap.size, rfl, h1, h2, by omega, ?_, HB1.out.trans ((HB2.out.mono h1).trans ((HB3.out.mono (by omega)).trans (hb4.mono (by omega))))⟩
  intro C e1 e2 e3 e4 e5 e6 e7
  have hn4 := Hn4.out
  have hsk := HS3.out.1
  refine ⟨?_, ?_, ?_, ?_, ?_, ?_, ?_, ?_⟩
  · rw [e6, e7, HN2.out]; exact L.b0
  · rw [e3, e4, e5]; exact HS3.out.2.below hb4 HS3.out.2.lt
  · rw [e3]; exact Own.nil _ _ _ _
  · rw [e1]
    have hh := HS1.out.weak (F' := fun k => colM col w.heap.size w1.heap.size w2.heap.size k = 21) (fun k hk hk2 => by simp only [colM]; rw [if_neg (by omega), if_pos hk])
    exact ((hh.below HB2.out (Nat.le_refl _)).below HB3.out (Nat.le_refl _)).below hb4 (Nat.le_refl _)
  · rw [e2]
    have hh := HS2.out.weak (F' := fun k => colM col w.heap.size w1.heap.size w2.heap.size k = 22) (fun k hk hk2 => by simp only [colM]; rw [if_neg (by omega), if_neg (by omega), if_pos hk])
    exact (hh.below HB3.out (Nat.le_refl _)).below hb4 (Nat.le_refl _)
  · simp only [colM]; rw [if_neg (by omega), if_neg (by omega), if_neg (by omega)]
  · simp only [colM]; rw [if_neg (by omega), if_neg (by omega), if_neg (by omega)]
  · rintro a ha; cases ha
theorem swnew_any (col : Nat → Nat) (ap d mk : Nat) (S : AS) (w : World) (hA : AllocR w col ap d S) :
    Calls Tryz.prog 99 #[.pointer (some ⟨ap, 0, none⟩), .pointer (some ⟨mk, 0, none⟩)] w fun e w' => ∃ sw, e = .returned (.pointer (some ⟨sw, 0, none⟩)) ∧ w.heap.size ≤ sw ∧ Blk w' sw 213 #[.pointer (some ⟨ap, 0, none⟩), .pointer (some ⟨mk, 0, none⟩), .int .i64 S.K, .slice none 0 0] ∧ Below w.heap.size w w' := by
  obtain ⟨mp, us, fr, h1, h2, h3, h4, h5⟩ := hA
  obtain ⟨t, x, T, X, hb, hT, hX, d1, d2, d3, d4, d5, d6⟩ := h2
  have c0 : w.cell? ⟨ap, 0, none⟩ = some (.pointer (some ⟨mp, 0, none⟩)) := h1.cell 0
  have c1 : w.cell? ⟨mp, 0, none⟩ = some (.pointer (some ⟨t, 0, none⟩)) := hb.cell 0
  have Hl := Lib.hid (tlen_any T t d S.K S.hs w hT)
  obtain ⟨n1, Hn1⟩ : ∃ k, Hid (w.heap.size = k) := ⟨_, rfl⟩
  clear h1 h3 h4 h5 hb hT hX d1 d2 d3 d4 d5 d6
  go_enter Tryz.func99, Tryz.ntmps99
  go_wp2_with fail
  refine Hl.out.mono ?_
  rintro e w1 ⟨rfl, rfl⟩
  go_wp2_with fail
  rw [Hn1.out]
  have L := (Loc.nil Nob w).box 213 #[.pointer (some ⟨ap, 0, none⟩), .pointer (some ⟨mk, 0, none⟩), .int .i64 S.K, .slice none 0 0] n1 Hn1.out
  have hL := L.below
  rw [Hn1.out] at hL
  go_ret
  exact ⟨n1, rfl, Nat.le_refl _, L.b0, hL⟩
theorem cnew_any (B : Nat) (b : DB) (m : Nat) (s : DS) (col : Nat → Nat) (ap most : Nat) (fn : Fn) (v1 v2 : Array Value) (S : AS) (w : World) (h : Dev B w b m s) (hA : AllocR w col ap b.d S) (hm : m = S.K * 64) (hK0 : 0 < S.K) (hK : S.K ≤ 150) :
    Calls Tryz.prog 44 #[.pointer (some ⟨ap, 0, none⟩), .int .i64 most, (.func fn v1 v2)] w fun e w' => ∃ ca col', e = .returned (.pointer (some ⟨ca, 0, none⟩)) ∧ (∀ k, k < w.heap.size → col' k = col k) ∧ CycR w' col' ca ap S.K (.func fn v1 v2) (CS.new S.K most) ∧ Below w.heap.size w w' := by
  have Hm := Lib.hid (mnew_any B b m s col ap most S w h hA hm hK0 hK)
  have HA := Lib.hid hA
  clear h hA
  go_enter Tryz.func44, Tryz.ntmps44
  go_wp2_with fail
  refine Hm.out.mono ?_
  rintro e w1 ⟨mk, m1, m2, sk, q, q2, rfl, hq1, hq2, hq3, hM, hb1⟩
  have HM := Lib.hid (hM (CS.new S.K most) rfl rfl rfl rfl rfl rfl rfl)
  have HB1 := Lib.hid hb1
  have HQ : Hid (w.heap.size ≤ q ∧ q ≤ q2 ∧ q2 ≤ w1.heap.size) := ⟨hq1, hq2, hq3⟩
  have Hw := Lib.hid (swnew_any col ap b.d mk S w1 (HA.out.below hb1 (Nat.le_refl _)))
  clear hM hb1 hq1 hq2 hq3 Hm
  go_wp2_with fail
  refine Hw.out.mono ?_
  rintro e w2 ⟨sw, rfl, hsw, hb, hb2⟩
  have HW : Hid (w1.heap.size ≤ sw ∧ Blk w2 sw 213 #[.pointer (some ⟨ap, 0, none⟩), .pointer (some ⟨mk, 0, none⟩), .int .i64 S.K, .slice none 0 0]) := ⟨hsw, hb⟩
  have HB2 := Lib.hid hb2
  clear hsw hb hb2 Hw
  obtain ⟨n4, Hn4⟩ : ∃ k, Hid (w2.heap.size = k) := ⟨_, rfl⟩
  go_wp2_with fail
  rw [Hn4.out]
  go_ret
  have L := (Loc.nil Nob w2).box 118 #[.pointer (some ⟨ap, 0, none⟩), .pointer (some ⟨mk, 0, none⟩), .pointer (some ⟨sw, 0, none⟩), (.func fn v1 v2), .int .i64 0, .int .i64 0, .int .i64 0] n4 Hn4.out
  have hb4 := L.below
  have h1 := HB1.out.size
  have h2 := HB2.out.size
  have h4 := hb4.size
  have hq := HQ.out
  have hw := HW.out.1
  have hn4 := Hn4.out
  refine ⟨n4, colM col w.heap.size q q2, rfl, fun k hk => by simp only [colM]; rw [if_pos hk], ⟨mk, sw, m1, m2, sk, none, 0, none, 0, ?_⟩, HB1.out.trans ((HB2.out.mono h1).trans (hb4.mono (by omega)))⟩
  have hx := HM.out
  refine ⟨L.b0, ⟨(hx.b.below HB2.out hx.b.lt).below hb4 (hx.b.below HB2.out hx.b.lt).lt, (hx.s.below HB2.out hx.s.lt).below hb4 (hx.s.below HB2.out hx.s.lt).lt, (hx.o.below HB2.out (Nat.le_refl _)).below hb4 (Nat.le_refl _), (hx.m.below HB2.out (Nat.le_refl _)).below hb4 (Nat.le_refl _), (hx.c.below HB2.out (Nat.le_refl _)).below hb4 (Nat.le_refl _), hx.cb, hx.cs, hx.co⟩,
    HW.out.2.below hb4 HW.out.2.lt, Own.nil _ _ _ _, ?_, ?_, fun a ha => by cases ha⟩
  · simp only [colM]; rw [if_neg (by omega), if_neg (by omega), if_neg (by omega)]
  · simp only [colM]; rw [if_neg (by omega), if_neg (by omega), if_neg (by omega)]
/-- Made, Stored: while the collector is idle. -/
theorem cmade_idle (col : Nat → Nat) (ca ap K a : Nat) (fv : Value) (C : CS) (w : World) (h : CycR w col ca ap K fv C) (hp : C.phase = 0) :
    Calls Tryz.prog 61 #[.pointer (some ⟨ca, 0, none⟩), .int .i64 a] w fun e w' => (∃ v, e = .returned v) ∧ w = w' := by
  obtain ⟨mk, sw, m1, m2, sk, A, cap, G, gcap, hx⟩ := h
  have c4 : w.cell? ⟨ca, 4, none⟩ = some (.int .i64 0) := by have := hx.b.cell 4; rw [hp] at this; exact this
  clear hx
  go_enter Tryz.func61, Tryz.ntmps61
  go_wp2_with fail
  first
    | go_end0
    | skip
  exact ⟨⟨_, rfl⟩, rfl⟩
theorem cstored_idle (col : Nat → Nat) (ca ap K a : Nat) (fv : Value) (C : CS) (w : World) (h : CycR w col ca ap K fv C) (hp : C.phase = 0) :
    Calls Tryz.prog 124 #[.pointer (some ⟨ca, 0, none⟩), .int .i64 a] w fun e w' => (∃ v, e = .returned v) ∧ w = w' := by
  obtain ⟨mk, sw, m1, m2, sk, A, cap, G, gcap, hx⟩ := h
  have c4 : w.cell? ⟨ca, 4, none⟩ = some (.int .i64 0) := by have := hx.b.cell 4; rw [hp] at this; exact this
  clear hx
  go_enter Tryz.func124, Tryz.ntmps124
  go_wp2_with fail
  first
    | go_end0
    | skip
  exact ⟨⟨_, rfl⟩, rfl⟩
end Go.Proofs.YtcnjipicifkfjaaGreat
