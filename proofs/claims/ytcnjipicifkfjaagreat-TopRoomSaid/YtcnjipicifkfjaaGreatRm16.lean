/- bitmap: Clear, Next; bits: Count, Lowest. -/
import Derived.Test.YtcnjipicifkfjaaGreatRm10
import Derived.Lib.SliceRun
import Derived.Test.YtcnjipicifkfjaaGreatRm04
import Derived.Test.YtcnjipicifkfjaaGreatRm01
import Derived.Test.YtcnjipicifkfjaaGreatRm07
import Derived.LoopN
import Derived.Test.YtcnjipicifkfjaaGreatRm15

namespace Go.Proofs.YtcnjipicifkfjaaGreat
open Go.RowKit
set_option linter.unusedVariables false
set_option linter.unusedSimpArgs false

theorem run_clear_row {P : Program} (w : World) (t e ty : TypeId) (z : Value) (ht : P.underlying t = some (.slice e)) (hv : ∀ w, (zeroValue e).run P w = .ok z w) (hz : z.cells = #[z]) (h1 : z.oneCell' = true) (g n c : Nat) (hn : 0 < n)
    (cur : Array Value) (te : TypeId) (hg : w.heap[g]? = some (.cells cur te (0, 0))) (hfit : n ≤ cur.size) :
    (Builtin.clear_ #[t] ty #[.slice (some ⟨g, 0, none⟩) n c]).run P w = .ok (.tuple #[]) (w.setRow g (List.replicate n z ++ cur.toList.drop n).toArray) := by
  have hzc : (Builtin.zeroCells z.cells n).toList = List.replicate n z := by
    rw [hz]
    simp [Builtin.zeroCells]
    apply List.ext_getElem
    · simp
    · intro i h1 h2
      simp [Nat.mod_one]
  have hst := run_storeCells_at P g 0 te (List.replicate n z) 0 cur w hg (by simpa using hfit) (by intro v hv'; rw [List.eq_of_mem_replicate hv']; exact h1)
  simp only [Nat.add_zero, List.take_zero, List.nil_append, List.length_replicate, Nat.zero_add] at hst
  obtain ⟨m, rfl⟩ : ∃ m, n = m + 1 := ⟨n - 1, by omega⟩
  simp [Builtin.clear_, run_underlying ht, hv, hzc, hst]
theorem clear_own {P : Program} {ops : Array Oper} {rest : List Oper} {o : Oper} {a : Act} {w : World} {Q : Exit → Act → World → Prop} (hgd : o.guard = none) (x : Operand) (t e : TypeId) (z : Value)
    (ho : o.op = .call { callee := .builtin .clear, args := #[x], argTypes := #[t] }) (ht : P.underlying t = some (.slice e)) (hv : ∀ w, (zeroValue e).run P w = .ok z w) (hz : z.cells = #[z]) (h1 : z.oneCell' = true)
    (g n cap : Nat) (xs : List Value) (hx : a.eval x = .slice (some ⟨g, 0, none⟩) n cap) (hn : 0 < n) (B : Nat) (hown : Own w B e 1 (some ⟨g, 0, none⟩) n cap xs)
    (h : ∀ w', Own w' B e 1 (some ⟨g, 0, none⟩) n cap (List.replicate n z) → Mod w w' (fun k => k = g) → wpList P ops Q rest (a.put o.dst (.tuple #[])) w') :
    wpList P ops Q (o :: rest) a w := by
  refine wpList_plain hgd fun K hK => ?_
  rcases hown.form with ⟨h0, _⟩ | ⟨g', cur, e', hB, hblk, h3, h4, h5, h6⟩
  · cases h0
  · cases e'
    have hrun := run_clear_row (P := P) w t e o.type z ht hv hz h1 g n cap hn cur e hblk (by omega)
    unfold Oper.wp execOp
    simp only [ho, resolve, invoke, builtin, Sem.run_bind, Sem.run_pure, Result.andThen_ok, List.map_toArray, List.map_cons, List.map_nil, hx, hrun]
    refine hK _ _ (h _ ⟨by simp, .inr ⟨g, _, rfl, hB, hblk.setRow _, h3, h4, ?_, ?_⟩⟩ (mod_setRow w g _))
    · simp; omega
    · simp [List.take_append]
theorem zeroValue28 : ∀ w, (zeroValue 28).run Tryz.prog w = .ok (.int .u64 0) w := fun w => by kernel_rfl

theorem bclear_any (F : Nat → Prop) (p n : Nat) (s : Nat → Bool) (w : World) (h : SetR w F p n s) (hn0 : 0 < n) (hn : n ≤ 100000) :
    Calls Tryz.prog 100 #[.pointer (some ⟨p, 0, none⟩)] w fun e w' => (∃ v, e = .returned v) ∧ SetR w' F p n (fun _ => false) ∧ Mod w w' F := by
  obtain ⟨g, cap, L, many, hb, ho, hlt, hs, hF1, hF2⟩ := h
  have c0 : w.cell? ⟨p, 0, none⟩ = some (.slice (some ⟨g, 0, none⟩) n cap) := hb.cell 0
  have c2 : w.cell? ⟨p, 2, none⟩ = some (.int .i64 many) := hb.cell 2
  have f2 := hb.frozen 2
  have hgp : g ≠ p := ho.ne hb (by decide) _ rfl
  have HO := Lib.hid ho
  have Hb := Lib.hid hb
  clear hb ho hs
  go_enter Tryz.func100, Tryz.ntmps100
  go_wp2_with (refine clear_own rfl (.tmp 5) 22 28 _ rfl Tryz.underlying22 zeroValue28 rfl rfl g n cap _ rfl hn0 0 HO.out ?_; intro w1 hO1 hM1; have HO1 := Lib.hid hO1; have HM1 := Lib.hid hM1; have Hb1 := Lib.hid (hM1.blk Hb.out (fun e => hgp e.symm)); have d0 : w1.cell? ⟨p, 2, none⟩ = some (.int .i64 many) := Hb1.out.cell 2; have d1 := Hb1.out.frozen 2; clear hO1 hM1)
  go_end0
  refine ⟨⟨_, rfl⟩, ?_, ?_⟩
  · have m2 : Mod w1 (w1.setCell ⟨p, 2, none⟩ (.int .i64 0)) (fun k => k = p) := Mod.set (p := ⟨p, 2, none⟩) (Mod.refl _ (fun k => k = p)) (.inr rfl) _
    refine ⟨g, cap, zerosN n, 0, Blk.conv (Hb1.out.set_ 2 (.int .i64 0)) (by simp), ?_, lt64.zeros n, fun i => ?_, hF1, hF2⟩
    · have := HO1.out.mod m2 (fun a ha => by cases ha; exact hgp)
      have e : wcells (zerosN n) = List.replicate n (.int .u64 0) := by simp [wcells, zerosN]
      rw [e]
      exact this
    · unfold bitAt zerosN
      rw [List.getD_eq_getElem?_getD, List.getElem?_replicate]
      split <;> simp
  · have m2 : Mod w1 (w1.setCell ⟨p, 2, none⟩ (.int .i64 0)) F := Mod.set (p := ⟨p, 2, none⟩) (Mod.refl _ F) (.inr hF1) _
    exact (HM1.out.mono (S' := F) (fun k _ e => by rw [e]; exact hF2)).trans m2 (fun k _ hk => hk)

def cnt1 (x : Int) : Int := IntKind.u64.wrap (x - bits .and .u64 (x / 2) 6148914691236517205)
def cnt2 (x : Int) : Int := IntKind.u64.wrap (bits .and .u64 x 3689348814741910323 + bits .and .u64 (x / 4) 3689348814741910323)
def cnt3 (x : Int) : Int := bits .and .u64 (IntKind.u64.wrap (x + x / 16)) 1085102592571150095
def cntI (x : Int) : Int := wrap64 (IntKind.u64.wrap (cnt3 (cnt2 (cnt1 x)) * 72340172838076673) / 72057594037927936)
theorem count_any (x : Int) (w : World) : Calls Tryz.prog 263 #[.int .u64 x] w fun e w' => e = .returned (.int .i64 (cntI x)) ∧ w = w' := by
  go_enter Tryz.func263, Tryz.ntmps263
  go_wp2_with fail
  go_ret
  exact ⟨rfl, rfl⟩
theorem cnt_lows : (List.range 64).all (fun i => cntI ((2 ^ i - 1 : Nat) : Int) == (i : Int)) = true := by kernel_rfl
theorem cnt_low (i : Nat) (h : i < 64) : cntI ((2 ^ i - 1 : Nat) : Int) = (i : Int) := by
  have := List.all_eq_true.1 cnt_lows i (List.mem_range.2 h)
  simpa using this
theorem lowest_any (i q : Nat) (w : World) (h : 2 ^ i * (2 * q + 1) < 18446744073709551616) :
    Calls Tryz.prog 237 #[.int .u64 ((2 ^ i * (2 * q + 1) : Nat) : Int)] w fun e w' => e = .returned (.int .i64 (i : Int)) ∧ w = w' := by
  obtain ⟨hi, hi2⟩ := low_lt i q h
  have hx0 : 0 < 2 ^ i * (2 * q + 1) := Nat.mul_pos (Nat.two_pow_pos i) (by omega)
  have hneg := neg_u64 _ hx0 h
  have hand := bits_and64 (2 ^ i * (2 * q + 1)) (18446744073709551616 - 2 ^ i * (2 * q + 1)) h (by omega)
  rw [low_and i q h] at hand
  have hsub : IntKind.u64.wrap (((2 ^ i : Nat) : Int) - 1) = ((2 ^ i - 1 : Nat) : Int) := by
    have := Nat.two_pow_pos i
    rw [IntKind.wrap_u64]
    generalize 2 ^ i = y at *
    omega
  have Hc : Hid (∀ w, Calls Tryz.prog 263 #[.int .u64 ((2 ^ i - 1 : Nat) : Int)] w fun e w' => e = .returned (.int .i64 (i : Int)) ∧ w = w') := fun w => by
    have := count_any ((2 ^ i - 1 : Nat) : Int) w
    rw [cnt_low i hi] at this
    exact this
  generalize 18446744073709551616 - 2 ^ i * (2 * q + 1) = nx at *
  generalize 2 ^ i * (2 * q + 1) = x at *
  generalize 2 ^ i - 1 = pm at *
  generalize 2 ^ i = pw at *
  go_enter Tryz.func237, Tryz.ntmps237
  go_wp2_with (go_at_call 263; refine (Hc.out _).mono ?_; rintro e w' ⟨rfl, rfl⟩)
  go_ret
  exact ⟨rfl, rfl⟩

/-- What Next answers. -/
def NextR (s : Nat → Bool) (a : Nat) (w : World) (e : Ending) (w' : World) : Prop := (∃ (x : Nat) (ok : Bool), e = .returned (.tuple #[.int .i64 x, .bool ok]) ∧ NextS s a x ok) ∧ w = w'
theorem bnext_any (F : Nat → Prop) (p n a : Nat) (s : Nat → Bool) (w : World) (h : SetR w F p n s) (hn0 : 0 < n) (hn : n ≤ 100000) (ha : a ≤ 1000000000000000) :
    Calls Tryz.prog 206 #[.pointer (some ⟨p, 0, none⟩), .int .i64 a] w (NextR s a w) := by
  have hout := h.out
  obtain ⟨g, cap, L, many, hb, ho, hlt, hs, hF1, hF2⟩ := h
  have c0 : w.cell? ⟨p, 0, none⟩ = some (.slice (some ⟨g, 0, none⟩) n cap) := hb.cell 0
  have c1 : w.cell? ⟨p, 1, none⟩ = some (.int .i64 ((64 * n : Nat) : Int)) := hb.cell 1
  have hl : L.length = n := by have := ho.len; rw [wcells_len] at this; omega
  obtain ⟨_, e2, _, _, hnc, _, hx, _⟩ := ho.at_ (by omega)
  cases e2
  have Hx : Hid (∀ i, i < n → w.cell? ⟨g, i, none⟩ = some (.int .u64 (L.getD i 0 : Nat))) := fun i hi => hx i _ (wcells_at L i (by omega))
  have hmax : max (a : Int) 0 = (a : Int) := by omega
  clear hb ho hx
  by_cases hal : a < 64 * n
  · have hge : ¬ ((a : Int) ≥ ((64 * n : Nat) : Int)) := by omega
    have x0 := Hx.out (a / 64) (by omega)
    have hv := hlt (a / 64)
    have hd : a / 64 < n := by omega
    have hr : a % 64 < 64 := Nat.mod_lt _ (by decide)
    have hmask := mask_u64 (L.getD (a / 64) 0) (a % 64) hv
    have hquo : (a : Int) / 64 = ((a / 64 : Nat) : Int) := by omega
    have hrem : (a : Int) % 64 = ((a % 64 : Nat) : Int) := by omega
    have hw : IntKind.u64.wrap ((a % 64 : Nat) : Int) = ((a % 64 : Nat) : Int) := by rw [IntKind.wrap_u64]; omega
    have HA : Hid (∀ b, b < 64 → (L.getD (a / 64) 0 / 2 ^ (a % 64) * 2 ^ (a % 64)).testBit b = (decide (a ≤ 64 * (a / 64) + b) && s (64 * (a / 64) + b))) := by
      intro b hb
      rw [mask_bit, hs]
      unfold bitAt
      rw [show (64 * (a / 64) + b) / 64 = a / 64 by omega, show (64 * (a / 64) + b) % 64 = b by omega]
      congr 1
      rw [decide_eq_decide]
      omega
    have HB := Lib.hid (by omega : a / 64 * 64 ≤ a ∧ a < 64 * (a / 64) + 64)
    have hml := mask_lt (L.getD (a / 64) 0) (a % 64) hv
    have Hs := Lib.hid hs
    have Hlt := Lib.hid hlt
    generalize hM : L.getD (a / 64) 0 / 2 ^ (a % 64) * 2 ^ (a % 64) = M at *
    clear hM hs hlt hout
    generalize L.getD (a / 64) 0 = v at *
    generalize a / 64 = d at *
    generalize a % 64 = r at *
    generalize h64 : 64 * n = N at *
    have H64 := Lib.hid h64
    have hN : N ≤ 6400000 := by omega
    clear h64
    go_enter Tryz.func206, Tryz.ntmps206
    go_wp2_with fail
    go_loop [6, 7] (fun v6 v7 => ∃ i u : Nat, v6 = .int .i64 i ∧ v7 = .int .u64 u ∧ i < n ∧ a < 64 * i + 64 ∧ u < 18446744073709551616 ∧ (∀ j, a ≤ j → j < 64 * i → s j = false) ∧ ∀ b, b < 64 → u.testBit b = (decide (a ≤ 64 * i + b) && s (64 * i + b))) (fun v6 _ => n - (intOf v6).toNat)
    case atStart => exact ⟨d, M, rfl, rfl, hd, HB.out.2, hml, fun j h1 h2 => by have := HB.out.1; omega, HA.out⟩
    case round =>
      clear x0 hv hmask hquo hrem hw HA HB hml hal hge hr
      obtain ⟨i, u, rfl, rfl, hi, hai, hu, hnone, hbits⟩ := hrel
      by_cases hu0 : u = 0
      · subst hu0
        have HN : Hid (∀ j, a ≤ j → j < 64 * (i + 1) → s j = false) := by
          intro j h1 h2
          rcases Nat.lt_or_ge j (64 * i) with h3 | h3
          · exact hnone j h1 h3
          · have := hbits (j - 64 * i) (by omega)
            rw [Nat.zero_testBit, show 64 * i + (j - 64 * i) = j by omega, decide_eq_true h1, Bool.true_and] at this
            exact this.symm
        clear hnone hbits
        by_cases hi1 : i + 1 < n
        · have x0 := Hx.out (i + 1) hi1
          have hv := Hlt.out (i + 1)
          have HA : Hid (∀ b, b < 64 → (L.getD (i + 1) 0).testBit b = (decide (a ≤ 64 * (i + 1) + b) && s (64 * (i + 1) + b))) := by
            intro b hb
            rw [Hs.out, decide_eq_true (by omega), Bool.true_and]
            unfold bitAt
            rw [show (64 * (i + 1) + b) / 64 = i + 1 by omega, show (64 * (i + 1) + b) % 64 = b by omega]
          generalize L.getD (i + 1) 0 = v at *
          have hge : ¬ ((i : Int) + 1 ≥ (n : Int)) := by omega
          go_wp2_with fail
          exact ⟨⟨i + 1, v, by go_num, rfl, hi1, by omega, hv, HN.out, HA.out⟩, by simp [intOf]; omega⟩
        · have hge : (i : Int) + 1 ≥ (n : Int) := by omega
          have HZ : Hid (NextS s a 0 false) := .inr ⟨rfl, rfl, fun j hj => by
            rcases Nat.lt_or_ge j (64 * (i + 1)) with h3 | h3
            · exact HN.out j hj h3
            · rw [Hs.out]; exact bitAt_out L j (by omega)⟩
          go_wp2_with fail
          go_ret2
          exact ⟨⟨0, false, by simp, HZ.out⟩, rfl⟩
      · have hub : ((u : Int) == 0) = false := by rw [beq_eq_false_iff_ne]; omega
        obtain ⟨k, q, hkq⟩ := low_form u (by omega)
        have hlo := lowest_any k q
        rw [← hkq] at hlo
        have Hlo := Lib.hid (fun w => hlo w hu)
        have hk64 := (low_lt k q (by rw [← hkq]; exact hu)).1
        have HZ : Hid (NextS s a (64 * i + k) true) := by
          have h1 := hbits k hk64
          rw [hkq, low_at] at h1
          have h2 := h1.symm
          rw [Bool.and_eq_true, decide_eq_true_eq] at h2
          refine .inl ⟨rfl, h2.1, h2.2, fun j h3 h4 => ?_⟩
          rcases Nat.lt_or_ge j (64 * i) with h5 | h5
          · exact hnone j h3 h5
          · have := hbits (j - 64 * i) (by omega)
            rw [hkq, low_before k q _ (by omega), show 64 * i + (j - 64 * i) = j by omega, decide_eq_true h3, Bool.true_and] at this
            exact this.symm
        clear hnone hbits hkq hlo hu0
        go_wp2_with (go_at_call 237; refine (Hlo.out _).mono ?_; rintro e w' ⟨rfl, rfl⟩)
        go_ret2
        exact ⟨⟨64 * i + k, true, by simp; omega, HZ.out⟩, rfl⟩
  · have hge : ((a : Int) ≥ ((64 * n : Nat) : Int)) := by omega
    have HN : Hid (NextS s a 0 false) := .inr ⟨rfl, rfl, fun j hj => hout j (by omega)⟩
    clear hs hlt hout
    generalize h64 : 64 * n = N at *
    clear h64
    go_enter Tryz.func206, Tryz.ntmps206
    go_wp2_with fail
    go_ret2
    exact ⟨⟨0, false, by simp, HN.out⟩, rfl⟩
end Go.Proofs.YtcnjipicifkfjaaGreat

/- regs: Right, Get, Need, Set. -/
namespace Go.Proofs.YtcnjipicifkfjaaGreat
open Go.RowKit
set_option linter.unusedVariables false
set_option linter.unusedSimpArgs false

theorem mod_b {w w' : World} {F : Nat → Prop} (h : Below w.heap.size w w') : Mod w w' F := (Mod.of_below h).mono (fun k h1 h2 => absurd h2 (Nat.not_le.2 h1))
theorem nright_any (m r : Nat) (w : World) (hm : m < 4) (hr : r < 8) :
    Calls Tryz.prog 59 #[.agg #[.int .i64 m, .int .i64 r]] w fun e w' => e = .returned (.bool true) ∧ Below w.heap.size w w' := by
  have HB := Lib.hid (below_box w (.cells #[.int .i64 m, .int .i64 r] 59))
  have g1 : decide ((m : Int) < 4) = true := by rw [decide_eq_true_eq]; omega
  have g2 : decide ((r : Int) < 8) = true := by rw [decide_eq_true_eq]; omega
  have g3 : decide (m < 4) = true := by rw [decide_eq_true_eq]; omega
  have g4 : decide (r < 8) = true := by rw [decide_eq_true_eq]; omega
  go_enter Tryz.func59, Tryz.ntmps59
  go_wp2_with fail
  go_ret
  exact ⟨rfl, HB.out⟩
theorem nset_any (g m r v : Nat) (t : TypeId) (cs : Array Value) (w : World) (hb : Blk w g t cs) (hm : m < 4) (hr : r < 8) (hc : 35 ≤ cs.size) (hv : v < 1000000000) :
    Calls Tryz.prog 63 #[.pointer (some ⟨g, 3, none⟩), .agg #[.int .i64 m, .int .i64 r], .int .i64 v] w fun e w' => e = .returned (.int .i64 0) ∧ Blk w' g t (cs.setIfInBounds (3 + m * 8 + r) (.int .i64 v)) ∧ Mod w w' (fun k => k = g) := by
  have Hr := Lib.hid (fun w => nright_any m r w hm hr)
  obtain ⟨n1, Hn1⟩ : ∃ n, Hid (w.heap.size = n) := ⟨_, rfl⟩
  have L1 := Lib.hid ((Loc.nil Nob w).box 59 #[.int .i64 m, .int .i64 r] n1 Hn1.out)
  have HB := Lib.hid hb
  have hlt : 3 + m * 8 + r < cs.size := by omega
  have Hc : Hid (∃ u, cs[3 + m * 8 + r]? = some u) := ⟨_, Array.getElem?_eq_getElem hlt⟩
  clear hb hc hlt
  go_enter Tryz.func63, Tryz.ntmps63
  go_wp2_with fail
  rw [Hn1.out]
  generalize w.alloc _ = w1 at *
  refine (Hr.out _).mono ?_
  rintro e w2 ⟨rfl, hb2⟩
  have L2 := Lib.hid (L1.out.call hb2 (Nat.le_refl _))
  have x0 : w2.cell? ⟨n1, 0, none⟩ = some (.int .i64 m) := L2.out.b0.cell 0
  have x1 : w2.cell? ⟨n1, 1, none⟩ = some (.int .i64 r) := L2.out.b0.cell 1
  obtain ⟨u, hu⟩ := Hc.out
  have HB2 := Lib.hid (HB.out.below L2.out.below HB.out.lt)
  have y0 : w2.cell? ⟨g, 3 + m * 8 + r, none⟩ = some u := (HB2.out.cell _).trans hu
  have yf : w2.frozen? ⟨g, 3 + m * 8 + r, none⟩ = false := HB2.out.frozen _
  have g1 : decide ((m : Int) < 4) = true := by rw [decide_eq_true_eq]; omega
  have g2 : decide ((r : Int) < 8) = true := by rw [decide_eq_true_eq]; omega
  have g3 : decide (m < 4) = true := by rw [decide_eq_true_eq]; omega
  have g4 : decide (r < 8) = true := by rw [decide_eq_true_eq]; omega
  have g5 : decide ((v : Int) < 0) = false := by rw [decide_eq_false_iff_not]; omega
  clear hb2 L1 hu
  go_wp2_with fail
  go_region
  all_goals go_wp2_with fail
  all_goals go_ret
  all_goals exact ⟨rfl, (HB2.out.set_ _ _).drew, Mod.drewN (Mod.set (S := fun k => k = g) (p := ⟨g, 3 + m * 8 + r, none⟩) (mod_b L2.out.below) (.inr rfl) _) 1⟩
end Go.Proofs.YtcnjipicifkfjaaGreat

/- object: Ptrs. -/
namespace Go.Proofs.YtcnjipicifkfjaaGreat
open Go.RowKit
set_option linter.unusedVariables false
set_option linter.unusedSimpArgs false

/-- Where an object's pointers lead. -/
def ptrsL (s : DS) (a p : Nat) : List Nat := if p = 0 then [] else [s.C.getD (a + 1) 0]
set_option maxRecDepth 100000 in
set_option maxHeartbeats 1000000 in
theorem ptrs_any (B : Nat) (b : DB) (m : Nat) (s : DS) (a p d : Nat) (w : World) (h : Dev B w b m s) (ho : ObjAt s m a p d) (hv : p = 1 → s.C.getD (a + 1) 0 ≤ 1099511627776) (hm : m ≤ 10000) :
    Calls Tryz.prog 126 #[.pointer (some ⟨b.d, 0, none⟩), .int .i64 a] w fun e w' => ∃ A' cap', e = .returned (.tuple #[.slice A' (ptrsL s a p).length cap', .int .i64 0]) ∧ Own w' w.heap.size 3 1 A' (ptrsL s a p).length cap' (ncells (ptrsL s a p)) ∧ Below w.heap.size w w' := by
  have Hh := Lib.hid (head_any B b m s a p d w h ho hm)
  obtain ⟨i0, hi0, hz0, hz1, hz2⟩ := info3s
  have hp : p = 0 ∨ (p = 1 ∧ d = 1) := by rcases ho.o with h | h <;> omega
  rcases hp with rfl | ⟨rfl, rfl⟩
  · clear h ho hv
    go_enter Tryz.func126, Tryz.ntmps126
    go_wp2_with fail
    refine Hh.out.mono ?_
    rintro e w1 ⟨rfl, hb1⟩
    have L1 := Lib.hid ((Loc.nil Nob w).call hb1 (Nat.le_refl _))
    clear hb1
    go_wp2_with fail
    refine wp_loop_rounds 1 ?_
    rw [rounds_succ]
    go_wp2_with fail
    have L2 := L1.out.box 51 #[.int .i64 (0 : Nat), .int .i64 (d : Nat)] w1.heap.size rfl
    refine bodyPost_ret (results_tmp2 rfl _ _ _) rfl ?_
    exact ⟨none, 0, rfl, Own.nil _ _ _ _, L2.below⟩
  · have Hv := Lib.hid (hv rfl)
    obtain ⟨v, HV⟩ : ∃ v, Hid (s.C.getD (a + 1) 0 = v) := ⟨_, rfl⟩
    have Hp : Hid (∀ w', Below w.heap.size w w' → Calls Tryz.prog 76 #[.pointer (some ⟨b.d, 0, none⟩), .int .i64 a, .int .i64 0] w' fun e w'' => e = .returned (.tuple #[.int .i64 v, .int .i64 0]) ∧ Below w'.heap.size w' w'') :=
      fun w' hb => optrOf_any B b m s a v w' (h.below hb (Nat.le_refl _)) ho HV.out (HV.out ▸ Hv.out) hm
    have HL : Hid (ptrsL s a 1 = [v]) := by show _ = _; unfold ptrsL; rw [HV.out]; rfl
    rw [HL.out]
    clear h ho hv Hv HV
    go_enter Tryz.func126, Tryz.ntmps126
    go_wp2_with fail
    refine Hh.out.mono ?_
    rintro e w1 ⟨rfl, hb1⟩
    have L1 := Lib.hid ((Loc.nil Nob w).call hb1 (Nat.le_refl _))
    clear hb1
    obtain ⟨n1, Hn1⟩ : ∃ n, Hid (w1.heap.size = n) := ⟨_, rfl⟩
    have L2 := Lib.hid (L1.out.box 51 #[.int .i64 (1 : Nat), .int .i64 (1 : Nat)] n1 Hn1.out)
    go_wp2_with fail
    refine wp_loop_rounds 2 ?_
    rw [rounds_succ]
    go_wp2_with fail
    rw [Hn1.out]
    generalize w1.alloc _ = w2 at *
    refine (Hp.out _ L2.out.below).mono ?_
    rintro e w3 ⟨rfl, hb3⟩
    have L3 := Lib.hid (L2.out.call hb3 (Nat.le_refl _))
    clear hb3 L2 L1
    go_wp2_with (at_builtin; (refine append_elem rfl (.tmp 33) (.tmp 35) 60 rfl w.heap.size 3 i0 _ 1 8 Tryz.underlying60 hi0 hz0 hz1 hz2 rfl (by omega) none 0 0 [] rfl (Own.nil _ _ _ _) [.int .i64 v] rfl rfl (by simp [Value.oneCell']) (by unfold maxLen; omega) (by omega) L3.out.below.size ?_))
    intro A4 cap4 w4 hO4 hM4 hat4
    have HO4 := Lib.hid hO4
    have L4 := Lib.hid (L3.out.eff hM4 (fun k h => h.elim))
    clear hO4 hM4 hat4 L3
    go_wp2_with fail
    rw [rounds_succ]
    go_wp2_with fail
    refine bodyPost_ret (results_tmp2 rfl _ _ _) rfl ?_
    exact ⟨A4, cap4, rfl, HO4.out, L4.out.below⟩
end Go.Proofs.YtcnjipicifkfjaaGreat

/- alloc's state; Used, Device; hold: Has, New. -/
namespace Go.Proofs.YtcnjipicifkfjaaGreat
open Go.RowKit
set_option linter.unusedVariables false
set_option linter.unusedSimpArgs false

/-- What an allocator knows: how many blocks; the class that is used; headers; the run of free blocks; objects in use; free cells; cells that mutators keep. -/
structure AS where
  K : Nat
  k : Nat
  hs : List (Nat × Nat)
  o : Option (Nat × Nat)
  used : Nat → Bool
  glob : List Nat
  cs : Nat → List Nat
def AllocR (w : World) (col : Nat → Nat) (ap d : Nat) (S : AS) : Prop :=
  ∃ mp us fr, Blk w ap 110 #[.pointer (some ⟨mp, 0, none⟩), .pointer (some ⟨d, 0, none⟩), .int .i64 S.K, .pointer (some ⟨us, 0, none⟩), .pointer (some ⟨fr, 0, none⟩)] ∧ BmanR w (fun k => col k = 1) mp d S.K S.hs S.o ∧
    SetR w (fun k => col k = 2) us (8 * S.K) S.used ∧ FreeR w (fun k => col k = 3) fr S.k S.glob S.cs ∧ col ap = 8
section
variable {w w' : World} {col col' : Nat → Nat} {ap d : Nat} {S : AS} {T : Nat → Prop}
theorem AllocR.mod (h : AllocR w col ap d S) (m : Mod w w' T) (hs : ∀ k, col k = 1 ∨ col k = 2 ∨ col k = 3 ∨ col k = 8 → ¬ T k) : AllocR w' col ap d S := by
  obtain ⟨mp, us, fr, h1, h2, h3, h4, h5⟩ := h
  exact ⟨mp, us, fr, m.blk h1 (hs _ (by simp [h5])), h2.mod m (fun k hk => hs k (.inl hk)), h3.mod m (fun k hk => hs k (.inr (.inl hk))), h4.mod m (fun k hk => hs k (.inr (.inr (.inl hk)))), h5⟩
theorem AllocR.below {B : Nat} (h : AllocR w col ap d S) (hb : Below B w w') (hB : w.heap.size ≤ B) : AllocR w' col ap d S := by
  obtain ⟨mp, us, fr, h1, h2, h3, h4, h5⟩ := h
  exact ⟨mp, us, fr, h1.below hb (Nat.lt_of_lt_of_le h1.lt hB), h2.below hb hB, h3.below hb hB, h4.below hb hB, h5⟩
end
theorem aused_any (col : Nat → Nat) (ap d a : Nat) (S : AS) (w : World) (h : AllocR w col ap d S) (hK : S.K ≤ 150) (ha : a ≤ 1000000000000000) :
    Calls Tryz.prog 88 #[.pointer (some ⟨ap, 0, none⟩), .int .i64 a] w fun e w' => e = .returned (.bool (S.used a)) ∧ w = w' := by
  obtain ⟨mp, us, fr, h1, h2, h3, h4, h5⟩ := h
  have c3 : w.cell? ⟨ap, 3, none⟩ = some (.pointer (some ⟨us, 0, none⟩)) := h1.cell 3
  have Hh := Lib.hid (bhas_any _ us (8 * S.K) a S.used w h3 (by omega) ha)
  clear h1 h2 h3 h4 h5
  go_enter Tryz.func88, Tryz.ntmps88
  go_wp2_with fail
  refine Hh.out.mono ?_
  rintro e w1 ⟨rfl, rfl⟩
  go_wp2_with fail
  go_ret
  exact ⟨rfl, rfl⟩
theorem adev_any (col : Nat → Nat) (ap d : Nat) (S : AS) (w : World) (h : AllocR w col ap d S) :
    Calls Tryz.prog 97 #[.pointer (some ⟨ap, 0, none⟩)] w fun e w' => e = .returned (.pointer (some ⟨d, 0, none⟩)) ∧ w = w' := by
  obtain ⟨mp, us, fr, h1, h2, h3, h4, h5⟩ := h
  have c1 : w.cell? ⟨ap, 1, none⟩ = some (.pointer (some ⟨d, 0, none⟩)) := h1.cell 1
  clear h1 h2 h3 h4 h5
  go_enter Tryz.func97, Tryz.ntmps97
  go_wp2_with fail
  go_ret
  exact ⟨rfl, rfl⟩
/-- All objects in use lie on the device; each has p pointers. -/
def OB (s : DS) (m : Nat) (used : Nat → Bool) (p : Nat) : Prop := ∀ a, used a = true → 0 < a ∧ ∃ d, ObjAt s m a p d ∧ (p = 1 → s.C.getD (a + 1) 0 ≤ 1099511627776)
def nx (s : DS) (p a : Nat) : Nat := if p = 0 then 0 else s.C.getD (a + 1) 0
/-- A set of held objects. -/
def HeldR (w : World) (F : Nat → Prop) (hl ap K : Nat) (st : Nat → Bool) : Prop :=
  ∃ hp, Blk w hl 153 #[.pointer (some ⟨ap, 0, none⟩), .pointer (some ⟨hp, 0, none⟩)] ∧ SetR w F hp (8 * K) st ∧ ¬ F hl
section
variable {w w' : World} {F F' T : Nat → Prop} {hl ap K : Nat} {st : Nat → Bool}
theorem HeldR.mod (h : HeldR w F hl ap K st) (m : Mod w w' T) (hs : ∀ k, F k → ¬ T k) (h1 : ¬ T hl) : HeldR w' F hl ap K st := by
  obtain ⟨hp, hb, hS, hf⟩ := h
  exact ⟨hp, m.blk hb h1, hS.mod m hs, hf⟩
theorem HeldR.below {B : Nat} (h : HeldR w F hl ap K st) (hb : Below B w w') (hB : w.heap.size ≤ B) : HeldR w' F hl ap K st := by
  obtain ⟨hp, hb1, hS, hf⟩ := h
  exact ⟨hp, hb1.below hb (Nat.lt_of_lt_of_le hb1.lt hB), hS.below hb hB, hf⟩
theorem HeldR.weak (h : HeldR w F hl ap K st) (hF : ∀ k, k < w.heap.size → F k → F' k) (h1 : ¬ F' hl) : HeldR w F' hl ap K st := by
  obtain ⟨hp, hb1, hS, hf⟩ := h
  exact ⟨hp, hb1, hS.weak hF, h1⟩
end
/-- hold.New. -/
theorem hnew_any (B : Nat) (b : DB) (m : Nat) (s : DS) (col : Nat → Nat) (ap : Nat) (S : AS) (w : World) (h : Dev B w b m s) (hA : AllocR w col ap b.d S) (hm : m = S.K * 64) (hK0 : 0 < S.K) (hK : S.K ≤ 150) :
    Calls Tryz.prog 41 #[.pointer (some ⟨ap, 0, none⟩)] w fun e w' => ∃ hl, e = .returned (.pointer (some ⟨hl, 0, none⟩)) ∧ w.heap.size ≤ hl ∧ HeldR w' (fun k => w.heap.size ≤ k ∧ k ≠ hl) hl ap S.K (fun _ => false) ∧ Below w.heap.size w w' := by
  have Hd := Lib.hid (adev_any col ap b.d S w hA)
  have Hl := Lib.hid (len_any B b m s w h)
  have Hn := Lib.hid (fun w => bnew_any (8 * S.K) w (by omega) (by omega))
  obtain ⟨N, HN⟩ : ∃ N, Hid (8 * m = N) := ⟨_, rfl⟩
  rw [HN.out] at Hl
  rw [show 64 * (8 * S.K) = N by rw [← HN.out, hm]; omega] at Hn
  clear h hA
  go_enter Tryz.func41, Tryz.ntmps41
  go_wp2_with fail
  refine Hd.out.mono ?_
  rintro e w1 ⟨rfl, rfl⟩
  go_wp2_with fail
  refine Hl.out.mono ?_
  rintro e w1 ⟨rfl, rfl⟩
  go_wp2_with fail
  refine (Hn.out _).mono ?_
  rintro e w1 ⟨p, rfl, hS, hb⟩
  have HS := Lib.hid hS
  have HB := Lib.hid hb
  obtain ⟨n1, Hn1⟩ : ∃ n, Hid (w1.heap.size = n) := ⟨_, rfl⟩
  clear hS hb Hd Hl Hn
  go_wp2_with fail
  rw [Hn1.out]
  go_ret
  have hle := HB.out.size
  rw [Hn1.out] at hle
  have hb2 := below_box w1 (.cells #[.pointer (some ⟨ap, 0, none⟩), .pointer (some ⟨p, 0, none⟩)] 153)
  refine ⟨n1, rfl, hle, ⟨p, by rw [← Hn1.out]; exact Blk.new w1 153 _, ?_, by simp⟩, HB.out.trans (hb2.mono HB.out.size)⟩
  exact (HS.out.weak (F' := fun k => w.heap.size ≤ k ∧ k ≠ n1) (fun k h1 h2 => ⟨h2, by rw [← Hn1.out]; omega⟩)).below hb2 (Nat.le_refl _)
end Go.Proofs.YtcnjipicifkfjaaGreat

/- alloc: carve. -/
namespace Go.Proofs.YtcnjipicifkfjaaGreat
open Go.RowKit
set_option linter.unusedVariables false
set_option linter.unusedSimpArgs false

/-- An allocator, its parts' blocks named. -/
structure AllocX (w : World) (col : Nat → Nat) (ap d : Nat) (mp us fr : Nat) (S : AS) : Prop where
  b : Blk w ap 110 #[.pointer (some ⟨mp, 0, none⟩), .pointer (some ⟨d, 0, none⟩), .int .i64 S.K, .pointer (some ⟨us, 0, none⟩), .pointer (some ⟨fr, 0, none⟩)]
  m : BmanR w (fun k => col k = 1) mp d S.K S.hs S.o
  u : SetR w (fun k => col k = 2) us (8 * S.K) S.used
  f : FreeR w (fun k => col k = 3) fr S.k S.glob S.cs
  c : col ap = 8
section
variable {w w' : World} {col col' : Nat → Nat} {ap d mp us fr : Nat} {S : AS} {T : Nat → Prop}
theorem AllocX.r (h : AllocX w col ap d mp us fr S) : AllocR w col ap d S := ⟨mp, us, fr, h.b, h.m, h.u, h.f, h.c⟩
theorem AllocX.mod (h : AllocX w col ap d mp us fr S) (m : Mod w w' T) (hs : ∀ k, col k = 1 ∨ col k = 2 ∨ col k = 3 ∨ col k = 8 → ¬ T k) : AllocX w' col ap d mp us fr S :=
  ⟨m.blk h.b (hs _ (by simp [h.c])), h.m.mod m (fun k hk => hs k (.inl hk)), h.u.mod m (fun k hk => hs k (.inr (.inl hk))), h.f.mod m (fun k hk => hs k (.inr (.inr (.inl hk)))), h.c⟩
theorem AllocX.below {B : Nat} (h : AllocX w col ap d mp us fr S) (hb : Below B w w') (hB : w.heap.size ≤ B) : AllocX w' col ap d mp us fr S :=
  ⟨h.b.below hb (Nat.lt_of_lt_of_le h.b.lt hB), h.m.below hb hB, h.u.below hb hB, h.f.below hb hB, h.c⟩
theorem AllocX.recol (h : AllocX w col ap d mp us fr S) (hc : ∀ k, k < w.heap.size → col' k = col k) : AllocX w col' ap d mp us fr S :=
  ⟨h.b, h.m.weak (fun k hk e => (hc k hk).trans e), h.u.weak (fun k hk e => (hc k hk).trans e), h.f.weak (fun k hk e => (hc k hk).trans e), (hc ap h.b.lt).trans h.c⟩
theorem AllocX.free (h : AllocX w col ap d mp us fr S) (m : Mod w w' (fun k => col k = 3)) {g : List Nat} {c : Nat → List Nat} (hf : FreeR w' (fun k => col k = 3) fr S.k g c) : AllocX w' col ap d mp us fr { S with glob := g, cs := c } :=
  ⟨m.blk h.b (by simp [h.c]), h.m.mod m (fun k hk e => by omega), h.u.mod m (fun k hk e => by omega), hf, h.c⟩
theorem AllocX.usedS (h : AllocX w col ap d mp us fr S) (m : Mod w w' (fun k => col k = 2)) {u : Nat → Bool} (hf : SetR w' (fun k => col k = 2) us (8 * S.K) u) : AllocX w' col ap d mp us fr { S with used := u } :=
  ⟨m.blk h.b (by simp [h.c]), h.m.mod m (fun k hk e => by omega), hf, h.f.mod m (fun k hk e => by omega), h.c⟩
end
def colW (col : Nat → Nat) (w : World) (i : Nat) : Nat → Nat := fun k => if k < w.heap.size then col k else i
theorem colW_lt (col : Nat → Nat) (w : World) (i k : Nat) (h : k < w.heap.size) : colW col w i k = col k := by unfold colW; rw [if_pos h]
theorem colW_ge (col : Nat → Nat) (w : World) (i k : Nat) (h : w.heap.size ≤ k) : colW col w i k = i := by unfold colW; rw [if_neg (by omega)]
def cadr (k bl i : Nat) : Nat := bl * 512 + i * csize k
/-- The free cells of a block, the last one first: what t rounds of carve push. -/
def carveL (used : Nat → Bool) (k bl : Nat) : Nat → List Nat
  | 0 => []
  | t + 1 => carveL used k bl t ++ (if used (cadr k bl (ccells k - 1 - t)) then [] else [cadr k bl (ccells k - 1 - t)])
theorem carveL_len (used : Nat → Bool) (k bl t : Nat) : (carveL used k bl t).length ≤ t := by
  induction t with
  | zero => exact Nat.le_refl _
  | succ t ih =>
    rw [carveL, List.length_append]
    split <;> simp <;> omega
theorem carveL_mem (used : Nat → Bool) (k bl t x : Nat) (h : x ∈ carveL used k bl t) : ∃ j, j < t ∧ x = cadr k bl (ccells k - 1 - j) := by
  induction t with
  | zero => simp [carveL] at h
  | succ t ih =>
    rw [carveL, List.mem_append] at h
    rcases h with h | h
    · obtain ⟨j, hj, e⟩ := ih h
      exact ⟨j, by omega, e⟩
    · split at h
      · simp at h
      · exact ⟨t, Nat.lt_succ_self t, by simpa using h⟩
theorem cell_in (k i : Nat) (hk : k < 32) (hi : i < ccells k) : i * csize k + csize k ≤ 512 := by
  have h := csize_pos k hk
  have h1 : ccells k * csize k ≤ 512 := Nat.div_mul_le_self _ _
  have h2 : (i + 1) * csize k ≤ ccells k * csize k := Nat.mul_le_mul_right _ (by omega)
  rw [Nat.succ_mul] at h2
  omega
theorem cadr_div (k bl i : Nat) (hk : k < 32) (hi : i < ccells k) : cadr k bl i / 512 = bl := by
  have := cell_in k i hk hi
  have := csize_pos k hk
  unfold cadr
  omega
theorem cadr_inj (k bl i j : Nat) (hk : k < 32) (h : cadr k bl i = cadr k bl j) : i = j := by
  have := csize_pos k hk
  unfold cadr at h
  exact Nat.eq_of_mul_eq_mul_right (by omega : 0 < csize k) (by omega)
theorem ccells_pos (k : Nat) (hk : k < 32) : 2 ≤ ccells k ∧ ccells k ≤ 256 := by
  have h := csize_pos k hk
  unfold ccells
  constructor
  · exact (Nat.le_div_iff_mul_le (by omega)).2 (by omega)
  · exact Nat.le_trans (Nat.div_le_div_left h.1 (by omega)) (by omega)
set_option maxRecDepth 100000 in
set_option maxHeartbeats 2000000 in
theorem carve_any (col : Nat → Nat) (ap d mp us fr bl : Nat) (S : AS) (w : World) (hA : AllocX w col ap d mp us fr S) (hk : S.k < 32) (hb1 : 1 ≤ bl) (hb2 : bl < S.K) (hK : S.K ≤ 150)
    (hno : ∀ x, HasF S.glob S.cs x → x / 512 ≠ bl) (hg : S.glob.length + ccells S.k ≤ 900) (hc : ∀ m, (S.cs m).length ≤ 1000) :
    Calls Tryz.prog 143 #[.pointer (some ⟨ap, 0, none⟩), .int .i64 bl, .int .i64 S.k] w fun e w' => (∃ v, e = .returned v) ∧ AllocX w' (colW col w 3) ap d mp us fr { S with glob := S.glob ++ carveL S.used S.k bl (ccells S.k) } ∧ Mod w w' (fun k => col k = 3) := by
  have Hcc := Lib.hid (fun w => ccells_any S.k w hk)
  have Hcp := Lib.hid (ccells_pos S.k hk)
  have Hca := Lib.hid (fun i w (hi : i < ccells S.k) => caddr_any S.K S.k bl i w (by omega) hk hb1 hb2 hi)
  have Hbh : Hid (∀ (a : Nat) wr, SetR wr (fun k => colW col w 3 k = 2) us (8 * S.K) S.used → a ≤ 1000000 → Calls Tryz.prog 102 #[.pointer (some ⟨us, 0, none⟩), .int .i64 a] wr fun e w' => e = .returned (.bool (S.used a)) ∧ wr = w') :=
    fun a wr hS ha => bhas_any _ us (8 * S.K) a S.used wr hS (by omega) (by omega)
  have Hpu : Hid (∀ (t : Nat) wr, t < ccells S.k → S.used (cadr S.k bl (ccells S.k - 1 - t)) = false → w.heap.size ≤ wr.heap.size → AllocX wr (colW col w 3) ap d mp us fr { S with glob := S.glob ++ carveL S.used S.k bl t } →
      Calls Tryz.prog 190 #[.pointer (some ⟨fr, 0, none⟩), .int .i64 S.k, .int .i64 (cadr S.k bl (ccells S.k - 1 - t))] wr fun e w' => e = .returned (.int .i64 0) ∧ AllocX w' (colW col w 3) ap d mp us fr { S with glob := S.glob ++ carveL S.used S.k bl (t + 1) } ∧ Mod wr w' (fun k => colW col w 3 k = 3)) := by
    intro t wr ht hu hsz hX
    have hi : ccells S.k - 1 - t < ccells S.k := by omega
    refine (fpush_any (fun k => colW col w 3 k = 3) fr S.k (cadr S.k bl (ccells S.k - 1 - t)) (S.glob ++ carveL S.used S.k bl t) S.cs wr hX.f ?_ hc ?_).mono ?_
    · have := carveL_len S.used S.k bl t
      rw [List.length_append]
      omega
    · rintro (h | ⟨mm, h1, h2⟩)
      · rcases List.mem_append.1 h with h | h
        · exact hno _ (.inl h) (cadr_div _ _ _ hk hi)
        · obtain ⟨j, hj, e⟩ := carveL_mem _ _ _ _ _ h
          have := cadr_inj _ _ _ _ hk e
          omega
      · exact hno _ (.inr ⟨mm, h1, h2⟩) (cadr_div _ _ _ hk hi)
    · rintro e w' ⟨rfl, hf, hM⟩
      refine ⟨rfl, ?_, hM⟩
      have hf2 := hf.weak (F' := fun k => colW col w 3 k = 3) (fun k _ hk => hk.elim id (fun h => colW_ge _ _ _ _ (by omega)))
      have := hX.free hM hf2
      rw [carveL, hu]
      simpa using this
  have HX0 : Hid (AllocX w (colW col w 3) ap d mp us fr { S with glob := S.glob ++ carveL S.used S.k bl 0 }) := by
    have := hA.recol (colW_lt col w 3)
    show AllocX _ _ _ _ _ _ _ _
    simpa [carveL] using this
  have HKs : Hid (S.K ≤ 150 ∧ bl ≤ 150) := ⟨hK, by omega⟩
  have HAd : Hid (∀ i, i < ccells S.k → cadr S.k bl i ≤ 1000000) := by
    intro i hi
    have := cell_in S.k i hk hi
    have := csize_pos S.k hk
    unfold cadr
    omega
  have HCA : Hid (∀ (i : Nat) w, i < ccells S.k → Calls Tryz.prog 189 #[.agg #[.int .i64 S.K], .int .i64 S.k, .agg #[.int .i64 bl, .int .i64 i]] w fun e w' => e = .returned (.int .i64 (cadr S.k bl i : Nat)) ∧ Below w.heap.size w w') := fun i w hi => Hca.out i w hi
  have HM0 : Hid (Mod w w (fun k => col k = 3)) := Mod.refl w _
  have HCL : Hid (∀ t, S.used (cadr S.k bl (ccells S.k - 1 - t)) = true → carveL S.used S.k bl (t + 1) = carveL S.used S.k bl t) := by
    intro t hu
    rw [carveL, hu]
    simp
  clear hA hno hg hc hb2 Hca
  generalize HNN : ccells S.k = N at *
  go_enter Tryz.func143, Tryz.ntmps143
  go_wp2_with fail
  refine (Hcc.out _).mono ?_
  rintro e w1 ⟨rfl, hb⟩
  have HX1 := Lib.hid (HX0.out.below hb (Nat.le_refl _))
  have HM1 : Hid (Mod w w1 (fun k => col k = 3)) := HM0.out.trans (mod_b hb : Mod w w1 (fun k => col k = 3)) (fun _ _ h => h)
  clear hb HX0 HM0
  have hN1 : 2 ≤ N := Hcp.out.1
  have hN2 : N ≤ 256 := Hcp.out.2
  obtain ⟨q, Hq⟩ : ∃ q, Hid (N - 1 = q) := ⟨_, rfl⟩
  have w1' : IntKind.i64.wrap ((N : Int) - 1) = (q : Int) := by have := Hq.out; have h2 := IntWalk.i64_in ((N : Int) - 1) (by omega); rw [h2]; omega
  have w1'' : (N : Int) - 1 = (q : Int) := by have := Hq.out; omega
  go_wp2_with fail
  clear w1' w1''
  go_loopw [6] (fun v6 wr => ∃ t, ((∃ j : Nat, v6 = .int .i64 j ∧ j < N ∧ t = N - 1 - j) ∨ (v6 = .int .i64 (-1) ∧ t = N)) ∧ AllocX wr (colW col w 3) ap d mp us fr { S with glob := S.glob ++ carveL S.used S.k bl t } ∧ Mod w wr (fun k => col k = 3)) (fun v6 _ => (intOf v6 + 1).toNat)
  case atStart => exact ⟨0, .inl ⟨q, rfl, by have := Hq.out; omega, by have := Hq.out; omega⟩, HX1.out, HM1.out⟩
  case round =>
    clear HX1 HM1
    obtain ⟨t, hv, hX, hM⟩ := hrel
    have HX := Lib.hid hX
    have HM := Lib.hid hM
    have c2 : wr.cell? ⟨ap, 2, none⟩ = some (.int .i64 S.K) := hX.b.cell 2
    clear hX hM
    rcases hv with ⟨j, rfl, hj, rfl⟩ | ⟨rfl, rfl⟩
    · have HC := Lib.hid (HCA.out j)
      have Had := Lib.hid (HAd.out j hj)
      have ht : N - 1 - (N - 1 - j) = j := by omega
      obtain ⟨t, Ht⟩ : ∃ t, Hid (N - 1 - j = t) := ⟨_, rfl⟩
      have HP := Lib.hid (Hpu.out t)
      have HL := Lib.hid (HCL.out t)
      rw [Ht.out] at ht HX
      rw [ht] at HP HL
      obtain ⟨x, Hx⟩ : ∃ x, Hid (cadr S.k bl j = x) := ⟨_, rfl⟩
      rw [Hx.out] at HC HP HL Had
      have htN : t < N := by have := Ht.out; omega
      have g0 : decide ((j : Int) ≥ 0) = true := by rw [decide_eq_true_eq]; omega
      clear ht
      go_wp2_with fail
      refine (HC.out _ hj).mono ?_
      rintro e w2 ⟨rfl, hb2⟩
      have HX2 := Lib.hid (HX.out.below hb2 (Nat.le_refl _))
      have HM2 : Hid (Mod w w2 (fun k => col k = 3)) := HM.out.trans (mod_b hb2 : Mod wr w2 (fun k => col k = 3)) (fun _ _ h => h)
      have c3 : w2.cell? ⟨ap, 3, none⟩ = some (.pointer (some ⟨us, 0, none⟩)) := HX2.out.b.cell 3
      clear hb2 HX HM c2
      go_wp2_with fail
      refine (Hbh.out x w2 HX2.out.u Had.out).mono ?_
      rintro e _ ⟨rfl, rfl⟩
      have hnext : ∀ (v : Value) , v = .int .i64 ((j : Int) - 1) → ((∃ j : Nat, v = .int .i64 j ∧ j < N ∧ t + 1 = N - 1 - j) ∨ (v = .int .i64 (-1) ∧ t + 1 = N)) ∧ (intOf v + 1).toNat < (intOf (.int .i64 (j : Int)) + 1).toNat := by
        rintro v rfl
        have := Ht.out
        rcases Nat.eq_zero_or_pos j with h | h
        · subst h
          exact ⟨.inr ⟨rfl, by omega⟩, by simp [intOf]⟩
        · refine ⟨.inl ⟨j - 1, by congr 1; omega, by omega, by omega⟩, by simp [intOf]⟩
      have Hnext := Lib.hid hnext
      clear hnext
      cases hu : S.used x with
      | true =>
        have HX3 : Hid (AllocX w2 (colW col w 3) ap d mp us fr { S with glob := S.glob ++ carveL S.used S.k bl (t + 1) }) := by
          show AllocX _ _ _ _ _ _ _ _
          rw [HL.out hu]; exact HX2.out
        clear HX2 hu
        go_wp2_with fail
        exact ⟨⟨t + 1, (Hnext.out _ rfl).1, HX3.out, HM2.out⟩, (Hnext.out _ rfl).2⟩
      | false =>
        have Hu := Lib.hid hu
        have c4 : w2.cell? ⟨ap, 4, none⟩ = some (.pointer (some ⟨fr, 0, none⟩)) := HX2.out.b.cell 4
        clear hu
        go_wp2_with fail
        refine (HP.out w2 htN Hu.out HM2.out.size HX2.out).mono ?_
        rintro e w3 ⟨rfl, hX3, hM3⟩
        have HX3 := Lib.hid hX3
        have HM3 := Lib.hid (HM2.out.trans hM3 (fun k hk h => by rw [colW_lt col w 3 k hk] at h; exact h))
        clear hX3 hM3 HX2 HM2 c3 c4
        go_wp2_with fail
        exact ⟨⟨t + 1, (Hnext.out _ rfl).1, HX3.out, HM3.out⟩, (Hnext.out _ rfl).2⟩
    · go_wp2_with fail
      first
        | go_end0
        | skip
      exact ⟨⟨_, rfl⟩, HX.out, HM.out⟩
end Go.Proofs.YtcnjipicifkfjaaGreat
