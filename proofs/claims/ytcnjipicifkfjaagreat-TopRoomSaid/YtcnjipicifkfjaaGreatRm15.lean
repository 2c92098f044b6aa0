/- blocks.Spans. -/
import Derived.Test.YtcnjipicifkfjaaGreatRm14
import Derived.Test.YtcnjipicifkfjaaGreatRm03

namespace Go.Proofs.YtcnjipicifkfjaaGreat
open Go.RowKit
set_option linter.unusedVariables false
set_option linter.unusedSimpArgs false

theorem info165s : ∃ i, Tryz.prog.info? 165 = some i ∧ i.zero = some (.agg #[.int .i64 0, .int .i64 0]) ∧ i.size = 2 ∧ i.bytes = 16 := by
  obtain ⟨i, hi, hi2⟩ := Option.map_eq_some_iff.1 (show (Tryz.prog.info? 165).map (fun i => (i.size, i.bytes, i.zero)) = some (2, 16, some (.agg #[.int .i64 0, .int .i64 0])) by kernel_rfl)
  simp only [Prod.mk.injEq] at hi2
  exact ⟨i, hi, hi2.2.2, hi2.1, hi2.2.1⟩
/-- A span's cells. -/
def spcells (a n : Nat) : List Value := [.int .i64 a, .int .i64 n]
/-- Where Spans stands: what is out, at a block. -/
def SpanW (w : World) (a b : Nat) (v : Value) (wr : World) : Prop :=
  Below w.heap.size w wr ∧ ((b ≤ a ∧ v = .slice none 0 0) ∨ (a < b ∧ ∃ g cap, v = .slice (some ⟨g, 0, none⟩) 1 cap ∧ Own wr w.heap.size 165 2 (some ⟨g, 0, none⟩) 1 cap (spcells a (b - a))))
set_option maxRecDepth 100000 in
set_option maxHeartbeats 2000000 in
theorem spans_any (K a g cap : Nat) (hs : List (Nat × Nat)) (w : World) (hl : Own w 0 178 3 (some ⟨g, 0, none⟩) K cap (hcells hs)) (ha1 : 1 ≤ a) (ha : a < K) (hK : K ≤ 1000)
    (h1 : ∀ b, 1 ≤ b → b < a → (hs.getD b (0, 0)).1 ≠ 0) (h2 : ∀ b, a ≤ b → b < K → (hs.getD b (0, 0)).1 = 0) :
    Calls Tryz.prog 187 #[.slice (some ⟨g, 0, none⟩) K cap] w fun e w' => ∃ g' cap', e = .returned (.slice (some ⟨g', 0, none⟩) 1 cap') ∧ Own w' w.heap.size 165 2 (some ⟨g', 0, none⟩) 1 cap' (spcells a (K - a)) ∧ Below w.heap.size w w' := by
  have hl2 : hs.length = K := by have := hl.len; rw [hcells_len] at this; omega
  obtain ⟨_, e, _, hgl, hnc, hcm, hx, _⟩ := hl.at_ (by omega)
  cases e
  have Hx : Hid (∀ b wr, b < K → Below w.heap.size w wr → wr.cell? ⟨g, b * 3, none⟩ = some (.int .i64 ((hs.getD b (0, 0)).1 : Nat))) := fun b wr hb hB => (hB.cell (p := ⟨g, b * 3, none⟩) hgl).trans (hx _ _ (hcells_at hs b (by omega)).1)
  have H1 := Lib.hid h1
  have H2 := Lib.hid h2
  obtain ⟨i, hi, h3, hsz, hby⟩ := info165s
  clear hl hx h1 h2
  go_enter Tryz.func187, Tryz.ntmps187
  go_wp2_with fail
  go_loopw [3, 4] (fun v3 v4 wr => ∃ (b : Nat) (v : Value), v3 = v ∧ v4 = .int .i64 b ∧ 1 ≤ b ∧ b ≤ K ∧ SpanW w a b v wr) (fun _ v4 _ => K - (intOf v4).toNat)
  case atStart => exact ⟨1, _, rfl, rfl, Nat.le_refl _, by omega, Below.refl _ _, .inl ⟨ha1, rfl⟩⟩
  case round =>
    obtain ⟨b, v3, hv3, rfl, hb1, hb2, hW⟩ := hrel
    rw [hv3]
    clear hv3
    by_cases hbK : b < K
    · rcases Nat.lt_trichotomy b a with hba | hba | hba
      · obtain ⟨hB, hv⟩ := hW
        have hv2 : v3 = .slice none 0 0 := by
          rcases hv with ⟨_, h⟩ | ⟨h, _⟩
          · exact h
          · omega
        subst hv2
        clear hv
        have y0 := Hx.out b wr hbK hB
        have hp := H1.out b hb1 hba
        have HN : Hid (SpanW w a (b + 1) (.slice none 0 0) wr) := ⟨hB, .inl ⟨by omega, rfl⟩⟩
        generalize (hs.getD b (0, 0)).1 = p at *
        have t1 : ((p : Int) != 0) = true := by rw [bne_iff_ne]; omega
        clear hB
        go_wp2_with fail
        exact ⟨⟨b + 1, _, rfl, by go_num, by omega, by omega, HN.out⟩, by simp [intOf]; omega⟩
      · obtain ⟨hB, hv⟩ := hW
        have hv2 : v3 = .slice none 0 0 := by
          rcases hv with ⟨_, h⟩ | ⟨h, _⟩
          · exact h
          · omega
        subst hv2
        clear hv
        have y0 := Hx.out b wr hbK hB
        have hp := H2.out b (by omega) hbK
        rw [hp] at y0
        have HB := Lib.hid hB
        subst hba
        clear hp hB
        go_wp2_with fail
        go_quiet (fail)
        obtain ⟨w2, Hw2⟩ : ∃ w2, Hid (wr.drewN nq = w2) := ⟨_, rfl⟩
        rw [Hw2.out]
        have HB2 : Hid (Below w.heap.size w w2) := by rw [← Hw2.out]; exact below_drewN HB.out nq
        clear y0 HB Hw2
        go_wp2_with (at_builtin; refine append_elem rfl (.tmp 11) (.tmp 14) 162 rfl w.heap.size 165 i _ 2 16 Tryz.underlying162 hi h3 hsz hby rfl (by omega) none 0 0 [] rfl (Own.nil _ _ _ _) (spcells b 1) rfl rfl (by intro u hu; simp [spcells] at hu; rcases hu with rfl | rfl <;> rfl) (by unfold maxLen; omega) (by omega) HB2.out.size ?_)
        intro A5 cap5 w5 hO5 hM5 _
        obtain ⟨g5, rfl, _⟩ := hO5.at_ (by omega)
        have HN : Hid (SpanW w b (b + 1) (.slice (some ⟨g5, 0, none⟩) 1 cap5) w5) := by
          refine ⟨HB2.out.trans ((hM5.below (Nat.le_refl _) (fun k hk => hk.elim)).mono HB2.out.size), .inr ⟨by omega, g5, cap5, rfl, ?_⟩⟩
          rw [show b + 1 - b = 1 by omega]
          exact hO5
        clear hO5 hM5
        go_wp2_with fail
        exact ⟨⟨b + 1, _, rfl, by go_num, by omega, by omega, HN.out⟩, by simp [intOf]; omega⟩
      · obtain ⟨hB, hv⟩ := hW
        rcases hv with ⟨h, _⟩ | ⟨_, g5, cap5, rfl, hO5⟩
        · omega
        have y0 := Hx.out b wr hbK hB
        have hp := H2.out b (by omega) hbK
        rw [hp] at y0
        obtain ⟨_, e5, _, _, _, _, hx5, hf5⟩ := hO5.at_ (by omega)
        cases e5
        have z0 : wr.cell? ⟨g5, 0, none⟩ = some (.int .i64 (a : Nat)) := hx5 0 _ rfl
        have z1 : wr.cell? ⟨g5, 1, none⟩ = some (.int .i64 ((b - a : Nat) : Int)) := hx5 1 _ rfl
        have z2 := hf5 1
        have HB := Lib.hid hB
        have HO5 := Lib.hid hO5
        have hsum : IntKind.i64.wrap ((a : Int) + ((b - a : Nat) : Int)) = (b : Int) := by
          rw [show (a : Int) + ((b - a : Nat) : Int) = (b : Int) by omega]
          exact IntWalk.i64_in _ (by omega)
        have hsum2 : (a : Int) + ((b - a : Nat) : Int) = (b : Int) := by omega
        obtain ⟨n, Hn⟩ : ∃ n, Hid (b - a = n) := ⟨_, rfl⟩
        rw [Hn.out] at z1 hsum hsum2
        have hn : n ≤ 1000 := by rw [← Hn.out]; omega
        clear hp hB hO5 hx5 hf5
        go_wp2_with fail
        go_quiet (fail)
        obtain ⟨w2, Hw2⟩ : ∃ w2, Hid (wr.drewN nq = w2) := ⟨_, rfl⟩
        rw [Hw2.out]
        have HB2 : Hid (Below w.heap.size w w2) := by rw [← Hw2.out]; exact below_drewN HB.out nq
        have HO2 : Hid (Own w2 w.heap.size 165 2 (some ⟨g5, 0, none⟩) 1 cap5 (spcells a n)) := by rw [← Hw2.out, ← Hn.out]; exact HO5.out.drewN nq
        have HN : Hid (SpanW w a (b + 1) (.slice (some ⟨g5, 0, none⟩) 1 cap5) (w2.setCell ⟨g5, 1, none⟩ (.int .i64 ((n : Int) + 1)))) := by
          have h1 := HO2.out.set_ (j := 1) (by omega) (.int .i64 ((n : Int) + 1))
          refine ⟨HB2.out.setCell (p := ⟨g5, 1, none⟩) (HO2.out.lt _ rfl).1 _, .inr ⟨by omega, g5, cap5, rfl, ?_⟩⟩
          have e : spcells a (b + 1 - a) = (spcells a n).set 1 (.int .i64 ((n : Int) + 1)) := by
            have h2 : b + 1 - a = n + 1 := by have := Hn.out; omega
            rw [h2]
            rfl
          rw [e]
          exact h1
        clear y0 z0 z1 z2
        obtain ⟨_, e5, _, _, _, _, hx5, hf5⟩ := HO2.out.at_ (by omega)
        cases e5
        have z1 : w2.cell? ⟨g5, 1, none⟩ = some (.int .i64 (n : Nat)) := hx5 1 _ rfl
        have z2 := hf5 1
        clear Hw2 HB hx5 hf5 hsum hsum2
        go_wp2_with fail
        exact ⟨⟨b + 1, _, rfl, by go_num, by omega, by omega, HN.out⟩, by simp [intOf]; omega⟩
    · obtain rfl : b = K := by omega
      obtain ⟨hB, hv⟩ := hW
      rcases hv with ⟨h, _⟩ | ⟨_, g5, cap5, rfl, hO5⟩
      · omega
      have HB := Lib.hid hB
      have HO5 := Lib.hid hO5
      clear hB hO5
      go_wp2_with fail
      go_ret
      exact ⟨g5, cap5, rfl, HO5.out, HB.out⟩
theorem tspans_any (F : Nat → Prop) (t d K a : Nat) (hs : List (Nat × Nat)) (w : World) (h : TabR w F t d K hs) (ha1 : 1 ≤ a) (ha : a < K) (hK : K ≤ 1000)
    (h1 : ∀ b, 1 ≤ b → b < a → (hs.getD b (0, 0)).1 ≠ 0) (h2 : ∀ b, a ≤ b → b < K → (hs.getD b (0, 0)).1 = 0) :
    Calls Tryz.prog 139 #[.pointer (some ⟨t, 0, none⟩)] w fun e w' => ∃ g' cap', e = .returned (.slice (some ⟨g', 0, none⟩) 1 cap') ∧ Own w' w.heap.size 165 2 (some ⟨g', 0, none⟩) 1 cap' (spcells a (K - a)) ∧ Below w.heap.size w w' := by
  obtain ⟨g, cap, hb, ho, _⟩ := h
  have c2 : w.cell? ⟨t, 2, none⟩ = some (.slice (some ⟨g, 0, none⟩) K cap) := hb.cell 2
  have Hs := Lib.hid (spans_any K a g cap hs w ho ha1 ha hK h1 h2)
  clear hb ho h1 h2
  go_enter Tryz.func139, Tryz.ntmps139
  go_wp2_with fail
  refine Hs.out.mono ?_
  rintro e w1 ⟨g5, cap5, rfl, hO5, hb5⟩
  have HO5 := Lib.hid hO5
  have HB5 := Lib.hid hb5
  clear hO5 hb5
  go_wp2_with fail
  go_ret
  exact ⟨g5, cap5, rfl, HO5.out, HB5.out⟩
end Go.Proofs.YtcnjipicifkfjaaGreat

/- runs: Give, Take, Fill. -/
namespace Go.Proofs.YtcnjipicifkfjaaGreat
open Go.RowKit
set_option linter.unusedVariables false
set_option linter.unusedSimpArgs false

theorem mod_below {w w' : World} {F : Nat → Prop} (h : Below w.heap.size w w') : Mod w w' F := (Mod.of_below h).mono (fun k h1 h2 => absurd h2 (Nat.not_le.2 h1))
set_option maxRecDepth 100000 in
set_option maxHeartbeats 1000000 in
theorem xgive_none (F : Nat → Prop) (x K st n : Nat) (w : World) (h : IdxR w F x K none) (hs1 : 1 ≤ st) (hn1 : 1 ≤ n) (hKs : st + n ≤ K) (hK : K ≤ 1000) :
    Calls Tryz.prog 186 #[.pointer (some ⟨x, 0, none⟩), .int .i64 st, .int .i64 n] w fun e w' => e = .returned (.int .i64 0) ∧ IdxR w' F x K (some (st, n)) ∧ Mod w w' F := by
  have HI := Lib.hid h
  obtain ⟨s, e, hb, hs, he, f1, f2, f3, hne⟩ := h
  have c2 : w.cell? ⟨x, 2, none⟩ = some (.int .i64 K) := hb.cell 2
  have HX : Hid (∀ wr, Below w.heap.size w wr → wr.cell? ⟨x, 0, none⟩ = some (.map (some s)) ∧ wr.cell? ⟨x, 1, none⟩ = some (.map (some e)) ∧
      (∀ q, (Instr.lookup 251 (.map (some e)) (.int .i64 (st : Nat)) true).run Tryz.prog (wr.drewN q) = .ok (.tuple #[.int .i64 0, .bool false]) (wr.drewN q)) ∧
      (∀ q, (Instr.lookup 251 (.map (some s)) (.int .i64 ((st + n : Nat) : Int)) true).run Tryz.prog (wr.drewN q) = .ok (.tuple #[.int .i64 0, .bool false]) (wr.drewN q))) := by
    intro wr hB
    refine ⟨(hb.below hB hb.lt).cell 0, (hb.below hB hb.lt).cell 1, fun q => ?_, fun q => ?_⟩
    · exact ((he.below hB he.size).drewN q).look2 key3 Tryz.underlying251 zeroValue3 st
    · exact ((hs.below hB hs.size).drewN q).look2 key3 Tryz.underlying251 zeroValue3 (st + n)
  have HH : Hid (∀ (b : Nat) wr, Below w.heap.size w wr → Calls Tryz.prog 224 #[.pointer (some ⟨x, 0, none⟩), .int .i64 b] wr fun e w' => e = .returned (.bool false) ∧ Below w.heap.size wr w') :=
    fun b wr hB => (xhas_none F x K b wr (HI.out.below hB (Nat.le_refl _))).mono (fun e w' h => ⟨h.1, h.2.mono hB.size⟩)
  have HA : Hid (∀ wr, Below w.heap.size w wr → Calls Tryz.prog 226 #[.pointer (some ⟨x, 0, none⟩), .int .i64 st, .int .i64 n] wr fun e w' => (∃ v, e = .returned v) ∧ IdxR w' F x K (some (st, n)) ∧ Mod wr w' F) :=
    fun wr hB => xadd_any F x K st n wr (HI.out.below hB (Nat.le_refl _)) (by omega) (by omega)
  have g1 : decide ((st : Int) < 1) = false := by simp; omega
  have g2 : decide ((n : Int) < 1) = false := by simp; omega
  have g3 : decide ((st : Int) ≥ (K : Int)) = false := by simp; omega
  have g3' : decide (K ≤ st) = false := by simp; omega
  have g1' : decide (st < 1) = false := by simp; omega
  have g1'' : decide (st = 0) = false := by simp; omega
  have g2' : decide (n < 1) = false := by simp; omega
  have g2'' : decide (n = 0) = false := by simp; omega
  obtain ⟨r, Hr⟩ : ∃ r, Hid (K - st = r) := ⟨_, rfl⟩
  have g4 : decide ((n : Int) > (r : Int)) = false := by have := Hr.out; simp; omega
  have g4' : decide (r < n) = false := by have := Hr.out; simp; omega
  have w4 : IntKind.i64.wrap ((K : Int) - (st : Int)) = (r : Int) := by have := Hr.out; have h2 := IntWalk.i64_in ((K : Int) - (st : Int)) (by omega); rw [h2]; omega
  obtain ⟨q, Hq⟩ : ∃ q, Hid (st + n = q) := ⟨_, rfl⟩
  have w5 : IntKind.i64.wrap ((st : Int) + (n : Int)) = (q : Int) := by rw [← Hq.out]; have := IntWalk.i64_in ((st : Int) + (n : Int)) (by omega); rw [this]; omega
  have w6 : (st : Int) + (n : Int) = (q : Int) := by rw [← Hq.out]; omega
  rw [Hq.out] at HX
  have hstq : st ≤ q := by rw [← Hq.out]; omega
  have hq1 : q ≤ 1000 := by rw [← Hq.out]; omega
  clear hb hs he
  go_enter Tryz.func186, Tryz.ntmps186
  go_wp2_with fail
  clear g1 g1' g1'' g2 g2' g2'' g3 g3' g4 g4' w4 c2
  go_loopw [7] (fun v7 wr => ∃ (b : Nat), v7 = .int .i64 b ∧ st ≤ b ∧ b ≤ q ∧ Below w.heap.size w wr) (fun v7 _ => q - (intOf v7).toNat)
  case atStart => exact ⟨st, rfl, Nat.le_refl _, hstq, Below.refl _ _⟩
  case round =>
    obtain ⟨b, rfl, hb1, hb2, hB⟩ := hrel
    by_cases hbq : b < q
    · have hc := HH.out b wr hB
      have HB := Lib.hid hB
      clear hB
      go_wp2_with fail
      refine hc.mono ?_
      rintro e1 w1 ⟨rfl, hb1'⟩
      have HB1 := Lib.hid (HB.out.trans hb1')
      clear hb1' HB
      go_wp2_with fail
      exact ⟨⟨b + 1, by go_num, by omega, by omega, HB1.out⟩, by simp [intOf]; omega⟩
    · obtain rfl : b = q := by omega
      obtain ⟨c0, c1, l1, l2⟩ := HX.out wr hB
      have l1' : (Instr.lookup 251 (.map (some e)) (.int .i64 (st : Nat)) true).run Tryz.prog wr = .ok (.tuple #[.int .i64 0, .bool false]) wr := l1 0
      have l2' : (Instr.lookup 251 (.map (some s)) (.int .i64 (b : Nat)) true).run Tryz.prog wr = .ok (.tuple #[.int .i64 0, .bool false]) wr := l2 0
      have hc := HA.out wr hB
      have HB := Lib.hid hB
      clear hB
      go_wp2_with fail
      refine hc.mono ?_
      rintro e1 w1 ⟨⟨v, rfl⟩, hI1, hM1⟩
      have HR : Hid (IdxR w1 F x K (some (st, n)) ∧ Mod w w1 F) := ⟨hI1, (mod_below HB.out).trans hM1 (fun k _ h => h)⟩
      clear hI1 hM1
      go_wp2_with fail
      go_ret
      exact ⟨rfl, HR.out⟩

set_option maxRecDepth 100000 in
set_option maxHeartbeats 1000000 in
theorem fill_any (K a g cap B : Nat) (w : World) (hl : Own w B 165 2 (some ⟨g, 0, none⟩) 1 cap (spcells a (K - a))) (ha1 : 1 ≤ a) (ha : a < K) (hK : K ≤ 1000) :
    Calls Tryz.prog 138 #[.int .i64 K, .slice (some ⟨g, 0, none⟩) 1 cap] w fun e w' => ∃ x, e = .returned (.tuple #[.pointer (some ⟨x, 0, none⟩), .int .i64 0]) ∧ IdxR w' (fun b => w.heap.size ≤ b) x K (some (a, K - a)) ∧ Below w.heap.size w w' := by
  have HN := Lib.hid (xnew_any K w hK)
  obtain ⟨n, Hn⟩ : ∃ n, Hid (K - a = n) := ⟨_, rfl⟩
  rw [Hn.out] at hl
  have HL := Lib.hid hl
  have HG : Hid (∀ x wr, IdxR wr (fun b => w.heap.size ≤ b) x K none → Calls Tryz.prog 186 #[.pointer (some ⟨x, 0, none⟩), .int .i64 a, .int .i64 n] wr fun e w' => e = .returned (.int .i64 0) ∧ IdxR w' (fun b => w.heap.size ≤ b) x K (some (a, n)) ∧ Mod wr w' (fun b => w.heap.size ≤ b)) :=
    fun x wr h => xgive_none _ x K a n wr h ha1 (by have := Hn.out; omega) (by have := Hn.out; omega) hK
  clear hl
  go_enter Tryz.func138, Tryz.ntmps138
  go_wp2_with fail
  refine HN.out.mono ?_
  rintro e1 w1 ⟨x, rfl, hI1, hB1⟩
  have HI1 := Lib.hid hI1
  have HB1 := Lib.hid hB1
  obtain ⟨_, e, _, hgl, hnc, hcm, hx, hf⟩ := HL.out.at_ (by omega)
  cases e
  have z0 : w1.cell? ⟨g, 0, none⟩ = some (.int .i64 a) := (hB1.cell (p := ⟨g, 0, none⟩) hgl).trans (hx 0 _ rfl)
  have z1 : w1.cell? ⟨g, 1, none⟩ = some (.int .i64 n) := (hB1.cell (p := ⟨g, 1, none⟩) hgl).trans (hx 1 _ rfl)
  clear hI1 hB1 hx hf HN HL
  go_wp2_with fail
  refine wp_loop_rounds 2 ?_
  rw [rounds_succ]
  go_wp2_with fail
  refine (HG.out x _ (HI1.out.mod ((Mod.refl _ Nob).alloc _) (fun _ _ h => h))).mono ?_
  rintro e2 w2 ⟨rfl, hI2, hM2⟩
  have HI2 := Lib.hid hI2
  have HB2 : Hid (Below w.heap.size w w2) := (Below.mod (HB1.out.alloc HB1.out.size (.cells #[.int .i64 a, .int .i64 n] 165)) hM2 (Nat.le_trans HB1.out.size (by rw [World.size_alloc]; exact Nat.le_succ _)) (fun k _ h => h))
  clear hI2 hM2
  go_wp2_with fail
  rw [rounds_succ]
  go_wp2_with fail
  go_ret2
  rw [Hn.out]
  exact ⟨x, rfl, HI2.out, HB2.out⟩
end Go.Proofs.YtcnjipicifkfjaaGreat

/- runs: Take of one block. -/
namespace Go.Proofs.YtcnjipicifkfjaaGreat
open Go.RowKit
set_option linter.unusedVariables false
set_option linter.unusedSimpArgs false

/-- What is left of a run when its first block is taken. -/
def restO (st n : Nat) : Option (Nat × Nat) := if n ≤ 1 then none else some (st + 1, n - 1)
set_option maxRecDepth 100000 in
set_option maxHeartbeats 1000000 in
theorem take_one (F : Nat → Prop) (x K st n : Nat) (w : World) (h : IdxR w F x K (some (st, n))) (hst : st + n ≤ 1000) (hn1 : 1 ≤ n) :
    Calls Tryz.prog 207 #[.pointer (some ⟨x, 0, none⟩), .int .i64 1] w fun e w' => e = .returned (.tuple #[.int .i64 st, .int .i64 0]) ∧ IdxR w' F x K (restO st n) ∧ Mod w w' F := by
  have HI := Lib.hid h
  obtain ⟨s, e, hb, hs, he, f1, f2, f3, hne⟩ := h
  have c0 : w.cell? ⟨x, 0, none⟩ = some (.map (some s)) := hb.cell 0
  obtain ⟨bo, c, hbc, hm⟩ := hs.one_
  have hrg : (Instr.range 251 (.map (some s))).run Tryz.prog w = .ok (.pointer (some ⟨w.heap.size, 0, none⟩)) (w.alloc (.mapIter (some s) c #[] c)) := by
    simp only [Instr.range, Sem.run_bind, run_underlying Tryz.underlying251, Result.andThen_ok, MapKept.run_getObj_map hm]
    rfl
  have hsl : s < w.heap.size := hs.size
  obtain ⟨q, Hq⟩ : ∃ q, Hid (w.heap.size = q) := ⟨_, rfl⟩
  obtain ⟨w1, Hw1⟩ : ∃ w1, Hid (w.alloc (.mapIter (some s) c #[] c) = w1) := ⟨_, rfl⟩
  have hB1 : Below w.heap.size w w1 := Hw1.out ▸ ((Below.refl w.heap.size w).alloc (Nat.le_refl _) (.mapIter (some s) c #[] c))
  have hq1 : w1.heap[q]? = some (.mapIter (some s) c #[] c) := by rw [← Hw1.out, ← Hq.out]; exact heap_alloc_new w _
  have hm1 : w1.heap[s]? = some (.map #[{ key := .int .i64 (st : Int), val := .int .i64 (n : Int), born := bo }] c) := by rw [← Hw1.out]; exact (Below.heap_alloc w _ s hsl).trans hm
  have hsq : s ≠ q := by rw [← Hq.out]; omega
  have hnx : ∃ w2, (∀ ty, (Instr.next (.pointer (some ⟨q, 0, none⟩)) false ty).run Tryz.prog w1 = .ok (.tuple #[.bool true, .int .i64 (st : Int), .int .i64 (n : Int)]) w2) ∧ w2.heap[q]? = some (.mapIter (some s) c #[bo] c) ∧ Mod w1 w2 (fun k => k = q) ∧
      (Instr.entry (.pointer (some ⟨q, 0, none⟩))).run Tryz.prog w2 = .ok (.tuple #[.int .i64 (st : Int), .int .i64 (n : Int)]) w2 := by
    obtain ⟨w2, h1, h2, h3, h4⟩ := run_next_one (P := Tryz.prog) (ty := 0) hm1 hbc hq1
    exact ⟨w2, fun ty => h1, h2, h3, h4⟩
  obtain ⟨w2, hn1', hq2, hM2, hen⟩ := hnx
  have hm2 := (hM2.block s (by have := hB1.size; omega) hsq).trans hm1
  have hn2 : ∀ ty, (Instr.next (.pointer (some ⟨q, 0, none⟩)) false ty).run Tryz.prog w2 = .ok (.tuple #[.bool false]) w2 := fun ty => run_next_end (b := 0) hm2 hbc hq2
  have hB2 := (hB1.trans (hM2.below (B := w.heap.size) hB1.size (fun k e => by rw [e, ← Hq.out]; exact Nat.le_refl _)))
  have HB := Lib.hid hB2
  have y0 : w2.cell? ⟨x, 0, none⟩ = some (.map (some s)) := (hb.below hB2 hb.lt).cell 0
  have hlk : (Instr.lookup 251 (.map (some s)) (.int .i64 (st : Nat)) false).run Tryz.prog w2 = .ok (.int .i64 (n : Nat)) w2 := by
    have := (hs.below hB2 hs.size).look key3 Tryz.underlying251 zeroValue3 st
    rw [runF_at] at this
    exact this
  have HD := Lib.hid (xdrop_any F x K st n w2 (HI.out.below hB2 (Nat.le_refl _)) (by omega) (by omega))
  rw [Hw1.out, Hq.out] at hrg
  have g1 : ((n : Int) ≥ 1) := by omega
  have g2 : ¬ ((st : Int) < 0) := by omega
  clear hb hs he hm hq1 hm1 hsl hq2 hM2 hm2 hbc hB1 hB2
  go_enter Tryz.func207, Tryz.ntmps207
  go_wp2_with fail
  refine wp_loop_rounds 2 ?_
  rw [rounds_succ]
  go_wp2_with fail
  rw [rounds_succ]
  go_wp2_with fail
  refine HD.out.mono ?_
  rintro e3 w3 ⟨⟨v, rfl⟩, hI3, hM3⟩
  have HM3 : Hid (Mod w w3 F) := (mod_below HB.out).trans hM3 (fun k _ h => h)
  by_cases hn2' : n ≤ 1
  · have HI3 : Hid (IdxR w3 F x K (restO st n)) := by unfold restO; rw [if_pos hn2']; exact hI3
    have g3 : ¬ ((n : Int) > 1) := by omega
    clear hI3 hM3
    go_wp2_with fail
    go_ret2
    exact ⟨rfl, HI3.out, HM3.out⟩
  · have HA := Lib.hid (xadd_any F x K (st + 1) (n - 1) w3 hI3 (by omega) (by omega))
    have g3 : ((n : Int) > 1) := by omega
    have w3' : IntKind.i64.wrap ((n : Int) - 1) = ((n - 1 : Nat) : Int) := by rw [IntWalk.i64_in _ (by omega)]; omega
    have w4' : IntKind.i64.wrap ((st : Int) + 1) = ((st + 1 : Nat) : Int) := by rw [IntWalk.i64_in _ (by omega)]; omega
    clear hI3 hM3
    go_wp2_with fail
    have hc : Calls Tryz.prog 226 #[.pointer (some ⟨x, 0, none⟩), .int .i64 ((st : Int) + 1), .int .i64 ((n - 1 : Nat) : Int)] w3 _ := HA.out
    refine hc.mono ?_
    rintro e4 w4 ⟨⟨v4, rfl⟩, hI4, hM4⟩
    have HR : Hid (IdxR w4 F x K (restO st n) ∧ Mod w w4 F) := ⟨by unfold restO; rw [if_neg hn2']; exact hI4, HM3.out.trans hM4 (fun k _ h => h)⟩
    clear hI4 hM4 hc
    go_wp2_with fail
    go_ret2
    exact ⟨rfl, HR.out⟩
end Go.Proofs.YtcnjipicifkfjaaGreat

/- bman: Open, Geometry. -/
namespace Go.Proofs.YtcnjipicifkfjaaGreat
open Go.RowKit
set_option linter.unusedVariables false
set_option linter.unusedSimpArgs false

/-- A block manager: its table, and its index of free runs. -/
def BmanR (w : World) (F : Nat → Prop) (mp d K : Nat) (hs : List (Nat × Nat)) (o : Option (Nat × Nat)) : Prop :=
  ∃ t x T X, Blk w mp 122 #[.pointer (some ⟨t, 0, none⟩), .pointer (some ⟨x, 0, none⟩), .int .i64 K] ∧ TabR w T t d K hs ∧ IdxR w X x K o ∧ (∀ k, T k → ¬ X k) ∧ (∀ k, T k → F k) ∧ (∀ k, X k → F k) ∧ F mp ∧ ¬ T mp ∧ ¬ X mp
section
variable {w w' : World} {F F' S : Nat → Prop} {mp d K : Nat} {hs : List (Nat × Nat)} {o : Option (Nat × Nat)}
theorem BmanR.mod (h : BmanR w F mp d K hs o) (m : Mod w w' S) (hs' : ∀ k, F k → ¬ S k) : BmanR w' F mp d K hs o := by
  obtain ⟨t, x, T, X, hb, h1, h2, h3, h4, h5, h6, h7, h8⟩ := h
  exact ⟨t, x, T, X, m.blk hb (hs' _ h6), h1.mod m (fun k hk => hs' _ (h4 k hk)), h2.mod m (fun k hk => hs' _ (h5 k hk)), h3, h4, h5, h6, h7, h8⟩
theorem BmanR.weak (h : BmanR w F mp d K hs o) (hF : ∀ k, k < w.heap.size → F k → F' k) : BmanR w F' mp d K hs o := by
  obtain ⟨t, x, T, X, hb, h1, h2, h3, h4, h5, h6, h7, h8⟩ := h
  exact ⟨t, x, fun k => T k ∧ k < w.heap.size, fun k => X k ∧ k < w.heap.size, hb, h1.weak (fun k a b => ⟨b, a⟩), h2.weak (fun k a b => ⟨b, a⟩), fun k a b => h3 k a.1 b.1, fun k a => hF k a.2 (h4 k a.1), fun k a => hF k a.2 (h5 k a.1), hF _ hb.lt h6, fun a => h7 a.1, fun a => h8 a.1⟩
theorem BmanR.below {B : Nat} (h : BmanR w F mp d K hs o) (hb : Below B w w') (hB : w.heap.size ≤ B) : BmanR w' F mp d K hs o := by
  have h2 := (h.weak (F' := fun k => F k ∧ k < w.heap.size) (fun k h1 h2 => ⟨h2, h1⟩)).mod (Mod.of_below hb) (fun k hk => Nat.not_le.2 (Nat.lt_of_lt_of_le hk.2 hB))
  exact h2.weak (fun k _ hk => hk.1)
end
theorem size64 : (Tryz.prog.info? 64).map (·.size) = some 1 := by kernel_rfl
set_option maxRecDepth 100000 in
set_option maxHeartbeats 2000000 in
theorem bmgeo_any (F : Nat → Prop) (mp d K : Nat) (hs : List (Nat × Nat)) (o : Option (Nat × Nat)) (w : World) (h : BmanR w F mp d K hs o) :
    Calls Tryz.prog 49 #[.pointer (some ⟨mp, 0, none⟩)] w fun e w' => e = .returned (.agg #[.int .i64 K]) ∧ Below w.heap.size w w' := by
  obtain ⟨t, x, T, X, hb, _⟩ := h
  have c2 : (w.alloc (.cells #[.int .i64 0] 64)).cell? ⟨mp, 2, none⟩ = some (.int .i64 K) := (hb.alloc _).cell 2
  have HB := Lib.hid ((Below.refl w.heap.size w).alloc (Nat.le_refl _) (.cells #[.int .i64 0] 64))
  obtain ⟨q, Hq⟩ : ∃ q, Hid (w.heap.size = q) := ⟨_, rfl⟩
  have hN : Hid (Blk (w.alloc (.cells #[.int .i64 0] 64)) q 64 #[.int .i64 0]) := by rw [← Hq.out]; exact Blk.new w 64 _
  clear hb
  go_enter Tryz.func49, Tryz.ntmps49
  go_wp2_with fail
  rw [Hq.out]
  have HN2 : Hid (Blk (w.alloc (.cells #[.int .i64 K] 64)) q 64 #[.int .i64 K]) := by rw [← Hq.out]; exact Blk.new w 64 _
  have HB2 := Lib.hid ((Below.refl w.heap.size w).alloc (Nat.le_refl _) (.cells #[.int .i64 K] 64))
  refine bodyPost_ret (results_cell_row rfl _ _ q 64 _ _ _ rfl HN2.out Tryz.underlying64 rfl size64) rfl ?_
  rw [← Hq.out]
  exact ⟨rfl, HB2.out⟩
theorem bm_join {w w' : World} {n0 t d K x : Nat} {hs : List (Nat × Nat)} {o : Option (Nat × Nat)} (hT : TabR w (fun k => n0 < k) t d K hs) (hI : IdxR w' (fun b => w.heap.size ≤ b) x K o) (hb : Below w.heap.size w w') (hn : n0 < w.heap.size) :
    ∃ q, TabR w' (fun k => n0 < k ∧ k < q) t d K hs ∧ IdxR w' (fun k => q ≤ k) x K o ∧ n0 < q ∧ q ≤ w'.heap.size :=
  ⟨w.heap.size, (hT.weak (fun k h1 h2 => ⟨h2, h1⟩)).below hb (Nat.le_refl _), hI, hn, hb.size⟩
set_option maxRecDepth 100000 in
set_option maxHeartbeats 2000000 in
theorem bmopen_any (B : Nat) (b : DB) (m : Nat) (s : DS) (K a : Nat) (hs : List (Nat × Nat)) (w : World) (h : Dev B w b m s) (hH : HdrsIn s K hs) (hK : 2 ≤ K) (hK2 : K ≤ 200) (hm : m = K * 64)
    (ha1 : 1 ≤ a) (ha : a < K) (hk : ∀ b, (hs.getD b (0, 0)).1 ≤ 1) (h1 : ∀ b, 1 ≤ b → b < a → (hs.getD b (0, 0)).1 ≠ 0) (h2 : ∀ b, a ≤ b → b < K → (hs.getD b (0, 0)).1 = 0) :
    Calls Tryz.prog 95 #[.pointer (some ⟨b.d, 0, none⟩), .agg #[.int .i64 K]] w fun e w' => ∃ mp, e = .returned (.tuple #[.pointer (some ⟨mp, 0, none⟩), .int .i64 0]) ∧ BmanR w' (fun k => w.heap.size ≤ k) mp b.d K hs (some (a, K - a)) ∧ Below w.heap.size w w' := by
  have Hr := Lib.hid (fun w h => bopen_any B b m s K hs w h hH hK hK2 hm)
  obtain ⟨n0, Hn0⟩ : ∃ n, Hid (w.heap.size = n) := ⟨_, rfl⟩
  have L0 := Lib.hid ((Loc.nil Nob w).box 64 #[.int .i64 K] n0 Hn0.out)
  have HD := Lib.hid (h.below (below_box w (.cells #[.int .i64 K] 64)) (Nat.le_refl _))
  have Ha := Lib.hid (fun (t : Nat) (T : Nat → Prop) (w : World) (h : TabR w T t b.d K hs) => tall_any T t b.d K hs w h (by omega) (by omega))
  have Hso := Lib.hid (fun (g cap : Nat) (w : World) (h : Own w 0 178 3 (some ⟨g, 0, none⟩) K cap (hcells hs)) => sound_any g K cap hs w h (by omega) (by omega) hk)
  have Hsp := Lib.hid (fun (t : Nat) (T : Nat → Prop) (w : World) (h : TabR w T t b.d K hs) => tspans_any T t b.d K a hs w h ha1 ha (by omega) h1 h2)
  have Hfi := Lib.hid (fun (g cap B : Nat) (w : World) (h : Own w B 165 2 (some ⟨g, 0, none⟩) 1 cap (spcells a (K - a))) => fill_any K a g cap B w h ha1 ha (by omega))
  clear h hH hk h1 h2
  go_enter Tryz.func95, Tryz.ntmps95
  go_wp2_with fail
  rw [Hn0.out]
  refine (Hr.out _ HD.out).mono ?_
  rintro e w2 ⟨t, g, rfl, htt, hT, hO, hb⟩
  rw [World.size_alloc, Hn0.out] at htt
  have L2 := Lib.hid (L0.out.call hb (Nat.le_refl _))
  have HT2 : Hid (TabR w2 (fun k => n0 < k) t b.d K hs) := by
    refine ⟨g, K, hT, hO.base_ (Nat.zero_le _), htt, ?_, ?_⟩
    · have := (hO.lt _ rfl).1
      rw [World.size_alloc, Hn0.out] at this
      exact this
    · rintro rfl
      exact hO.ne hT (by decide) _ rfl rfl
  clear hT hO hb L0 HD Hr
  go_wp2_with fail
  refine (Ha.out t _ w2 HT2.out).mono ?_
  rintro e w3 ⟨g3, cap3, rfl, hO3, hB3⟩
  have L3 := Lib.hid (L2.out.call hB3 (Nat.le_refl _))
  have HT3 := Lib.hid (HT2.out.below hB3 (Nat.le_refl _))
  have hc := Hso.out g3 cap3 w3 (hO3.base_ (Nat.zero_le _))
  clear hO3 hB3 L2 HT2
  go_wp2_with fail
  refine hc.mono ?_
  rintro e _ ⟨rfl, rfl⟩
  clear hc
  go_wp2_with fail
  have LC := Lib.hid L3.out.drew
  have HT : Hid (TabR w3.drew (fun k => n0 < k) t b.d K hs) := HT3.out.mod ((Mod.refl w3 Nob).drewN 1) (fun _ _ h => h)
  clear L3 HT3
  go_region_held3 (fun w' => w'.cell? ⟨n0, 0, none⟩ = some (.int .i64 K))
    (exact LC.out.b0.cell 0)
    (first
      | (go_at_call 139; refine (Hsp.out t _ _ HT.out).mono ?_; rintro e w' ⟨g4, cap4, rfl, hO4, hb⟩; replace LC := Lib.hid (LC.out.call hb (Nat.le_refl _)); replace HT := Lib.hid (HT.out.below hb (Nat.le_refl _)); have HO := Lib.hid hO4; clear hO4 hb)
      | (go_at_call 138; refine (Hfi.out _ _ _ _ HO.out).mono ?_; rintro e w' ⟨x, rfl, hI, hb⟩; have HF := Lib.hid (bm_join HT.out hI hb LC.out.b0.lt); replace LC := Lib.hid (LC.out.call hb (Nat.le_refl _)); clear hI hb))
  all_goals
    obtain ⟨q, hT5, hI5, hq1, hq2⟩ := HF.out
    obtain ⟨mp, Hmp⟩ : ∃ n, Hid (w'.heap.size = n) := ⟨_, rfl⟩
    have LE := Lib.hid (LC.out.box 122 #[.pointer (some ⟨t, 0, none⟩), .pointer (some ⟨x, 0, none⟩), .int .i64 K] mp Hmp.out)
    have HBM : Hid (BmanR (w'.alloc (.cells #[.pointer (some ⟨t, 0, none⟩), .pointer (some ⟨x, 0, none⟩), .int .i64 K] 122)) (fun k => n0 ≤ k) mp b.d K hs (some (a, K - a))) := by
      have hm5 := (Mod.refl w' Nob).alloc (.cells #[.pointer (some ⟨t, 0, none⟩), .pointer (some ⟨x, 0, none⟩), .int .i64 K] 122)
      have hI6 := hI5.weak (F' := fun k => q ≤ k ∧ k < w'.heap.size) (fun k h1 h2 => ⟨h2, h1⟩)
      refine ⟨t, x, _, _, LE.out.b0, hT5.mod hm5 (fun _ _ h => h), hI6.mod hm5 (fun _ _ h => h), fun k h1 h2 => ?_, fun k h1 => ?_, fun k h1 => ?_, ?_, fun h1 => ?_, fun h1 => ?_⟩
      · omega
      · show n0 ≤ k; omega
      · show n0 ≤ k; omega
      · show n0 ≤ mp; have := Hmp.out; omega
      · have := Hmp.out; omega
      · have := Hmp.out; omega
    clear hT5 hI5 HF HT HO
    go_wp2_with fail
    rw [Hmp.out]
    refine bodyPost_ret (results_tmp2 rfl _ _ _) rfl ?_
    rw [Hn0.out]
    exact ⟨mp, rfl, HBM.out, Hn0.out ▸ LE.out.below⟩
end Go.Proofs.YtcnjipicifkfjaaGreat
