/- runs Total, bman FreeBlocks and Release, bitmap Between. -/
import Derived.Test.YtcnjipicifkfjaaGreatRm19
import Derived.Test.YtcnjipicifkfjaaGreatRm03
import Derived.Test.YtcnjipicifkfjaaGreatRm15
import Derived.Test.YtcnjipicifkfjaaGreatRm17
import Derived.Test.YtcnjipicifkfjaaGreatRm12
import Derived.Test.YtcnjipicifkfjaaGreatRm16
import Derived.LoopN
import Derived.Shelf.Sort.Plain
import Derived.Test.YtcnjipicifkfjaaGreatProg
import Derived.Test.YtcnjipicifkfjaaGreatRm02
import Derived.Test.YtcnjipicifkfjaaGreatRm07
import Derived.Sort.OwnSortedInts
import Derived.Test.YtcnjipicifkfjaaGreatRm08

namespace Go.Proofs.YtcnjipicifkfjaaGreat
open Go.RowKit
set_option linter.unusedVariables false
set_option linter.unusedSimpArgs false

set_option maxRecDepth 100000 in
set_option maxHeartbeats 1000000 in
theorem xtotal_one (F : Nat → Prop) (x K st n : Nat) (w : World) (h : IdxR w F x K (some (st, n))) (hst : st ≤ 1000) (hn : n ≤ 1000) :
    Calls Tryz.prog 148 #[.pointer (some ⟨x, 0, none⟩)] w fun e w' => e = .returned (.int .i64 n) ∧ Below w.heap.size w w' := by
  obtain ⟨s, e, hb, hs, he, f1, f2, f3, hne⟩ := h
  have c0 : w.cell? ⟨x, 0, none⟩ = some (.map (some s)) := hb.cell 0
  obtain ⟨bo, c, hbc, hm⟩ := hs.one_
  have hrg : (Instr.range 251 (.map (some s))).run Tryz.prog w = .ok (.pointer (some ⟨w.heap.size, 0, none⟩)) (w.alloc (.mapIter (some s) c #[] c)) := by
    simp only [Instr.range, Sem.run_bind, run_underlying Tryz.underlying251, Result.andThen_ok, MapKept.run_getObj_map hm]
    rfl
  have hsl : s < w.heap.size := hs.size
  obtain ⟨q, Hq⟩ : ∃ q, Hid (w.heap.size = q) := ⟨_, rfl⟩
  obtain ⟨w1, Hw1⟩ : ∃ w1, Hid (w.alloc (.mapIter (some s) c #[] c) = w1) := ⟨_, rfl⟩
  have hB1 : Below w.heap.size w w1 := Hw1.out ▸ ((Below.refl w.heap.size w).alloc (Nat.le_refl _) (.mapIter (some s) c #[] c))
  have hq1 : w1.heap[q]? = some (.mapIter (some s) c #[] c) := by rw [← Hw1.out, ← Hq.out]; exact heap_alloc_new w _
  have hm1 : w1.heap[s]? = some (.map #[{ key := .int .i64 (st : Int), val := .int .i64 (n : Int), born := bo }] c) := by rw [← Hw1.out]; exact (Below.heap_alloc w _ s hsl).trans hm
  have hsq : s ≠ q := by rw [← Hq.out]; omega
  have hnx : ∃ w2, (∀ ty, (Instr.next (.pointer (some ⟨q, 0, none⟩)) false ty).run Tryz.prog w1 = .ok (.tuple #[.bool true, .int .i64 (st : Int), .int .i64 (n : Int)]) w2) ∧ w2.heap[q]? = some (.mapIter (some s) c #[bo] c) ∧ Mod w1 w2 (fun k => k = q) ∧
      (Instr.entry (.pointer (some ⟨q, 0, none⟩))).run Tryz.prog w2 = .ok (.tuple #[.int .i64 (st : Int), .int .i64 (n : Int)]) w2 := by
    obtain ⟨w2, h1, h2, h3, h4⟩ := run_next_one (P := Tryz.prog) (ty := 0) hm1 hbc hq1
    exact ⟨w2, fun ty => h1, h2, h3, h4⟩
  obtain ⟨w2, hn1, hq2, hM2, hen⟩ := hnx
  have hm2 := (hM2.block s (by have := hB1.size; omega) hsq).trans hm1
  have hn2 : ∀ ty, (Instr.next (.pointer (some ⟨q, 0, none⟩)) false ty).run Tryz.prog w2 = .ok (.tuple #[.bool false]) w2 := fun ty => run_next_end (b := 0) hm2 hbc hq2
  have HB := Lib.hid (hB1.trans (hM2.below (B := w.heap.size) hB1.size (fun k e => by rw [e, ← Hq.out]; exact Nat.le_refl _)))
  rw [Hw1.out, Hq.out] at hrg
  clear hb hs he hm hq1 hm1 hsl hq2 hM2 hm2 hbc hB1
  go_enter Tryz.func148, Tryz.ntmps148
  go_wp2_with fail
  refine wp_loop_rounds 2 ?_
  rw [rounds_succ]
  go_wp2_with fail
  rw [rounds_succ]
  go_wp2_with fail
  go_ret
  exact ⟨by simp, HB.out⟩
theorem bmfree_one (F : Nat → Prop) (mp d K st n : Nat) (hs : List (Nat × Nat)) (w : World) (h : BmanR w F mp d K hs (some (st, n))) (hst : st ≤ 1000) (hn : n ≤ 1000) :
    Calls Tryz.prog 107 #[.pointer (some ⟨mp, 0, none⟩)] w fun e w' => e = .returned (.int .i64 n) ∧ Below w.heap.size w w' := by
  obtain ⟨t, x, T, X, hb, h1, h2, h3, h4, h5, h6, h7, h8⟩ := h
  have c1 : w.cell? ⟨mp, 1, none⟩ = some (.pointer (some ⟨x, 0, none⟩)) := hb.cell 1
  have Ht := Lib.hid (xtotal_one X x K st n w h2 hst hn)
  clear hb h1 h2
  go_enter Tryz.func107, Tryz.ntmps107
  go_wp2_with fail
  refine Ht.out.mono ?_
  rintro e w1 ⟨rfl, hb1⟩
  have HB1 := Lib.hid hb1
  clear hb1
  go_wp2_with fail
  go_ret
  exact ⟨rfl, HB1.out⟩
/-- Between: there is none. -/
theorem bbetween_any (F : Nat → Prop) (p n a c : Nat) (s : Nat → Bool) (w : World) (h : SetR w F p n s) (hn0 : 0 < n) (hn : n ≤ 10000) (ha : a ≤ 1000000) (hc : c ≤ 1000000) :
    Calls Tryz.prog 235 #[.pointer (some ⟨p, 0, none⟩), .int .i64 a, .int .i64 c] w fun e w' => ∃ k : Nat, e = .returned (.int .i64 k) ∧ k ≤ 1000000 ∧ ((∀ j, a ≤ j → j < c → s j = false) → k = 0) ∧ ((∃ j, a ≤ j ∧ j < c ∧ s j = true) → 0 < k) ∧ w = w' := by
  have Hn : Hid (∀ a, a ≤ 2000000 → Calls Tryz.prog 206 #[.pointer (some ⟨p, 0, none⟩), .int .i64 (a : Nat)] w (NextR s a w)) := fun a ha => bnext_any F p n a s w h hn0 (by omega) (by omega)
  have Hlt : Hid (∀ j, s j = true → j < 640000) := fun j hj => by
    by_cases e : j < 640000
    · exact e
    · have := h.out j (by omega); rw [this] at hj; cases hj
  clear h
  go_enter Tryz.func235, Tryz.ntmps235
  go_wp2_with fail
  refine (Hn.out a (by omega)).mono ?_
  rintro e w1 ⟨⟨x, ok, rfl, hnx⟩, rfl⟩
  have HNX := Lib.hid hnx
  clear hnx
  go_wp2_with fail
  go_loopw [7, 8, 9] (fun v7 v8 v9 wr => ∃ (k x a' : Nat) (ok : Bool), v7 = .int .i64 k ∧ v8 = .int .i64 x ∧ v9 = .bool ok ∧ NextS s a' x ok ∧ a ≤ a' ∧ k + a ≤ a' ∧ a' ≤ 640001 + a ∧ (0 < k → ∃ j, a ≤ j ∧ j < c ∧ s j = true) ∧ ((∃ j, a ≤ j ∧ j < a' ∧ j < c ∧ s j = true) → 0 < k) ∧ wr = w) (fun _ v8 v9 _ => match v9 with | .bool true => 640001 - (intOf v8).toNat | _ => 0)
  case atStart => exact ⟨0, x, a, ok, rfl, rfl, rfl, HNX.out, Nat.le_refl _, by omega, by omega, fun h => by omega, fun ⟨j, h1, h2, _⟩ => by omega, rfl⟩
  case round =>
    clear HNX
    obtain ⟨k, x, a', ok, rfl, rfl, rfl, hnx, haa, hka, hup, hpre, hpos, rfl⟩ := hrel
    have Hpre := Lib.hid hpre
    have Hpos := Lib.hid hpos
    clear hpre hpos
    rcases hnx with ⟨rfl, hax, hsx, hno⟩ | ⟨rfl, rfl, hno⟩
    · have Hno := Lib.hid hno
      have Hsx := Lib.hid hsx
      have hx := Hlt.out x hsx
      clear hno hsx
      by_cases hxc : x < c
      · have hd : decide ((x : Int) < (c : Int)) = true := decide_eq_true (by omega)
        have hd2 : decide (x < c) = true := decide_eq_true hxc
        go_wp2_with omega
        refine (Hn.out (x + 1) (by omega)).mono ?_
        rintro e w2 ⟨⟨x2, ok2, rfl, hnx2⟩, rfl⟩
        have HN2 : Hid (NextS s (x + 1) x2 ok2 ∧ a ≤ x + 1 ∧ (k + 1) + a ≤ x + 1 ∧ x + 1 ≤ 640001 + a ∧ (0 < k + 1 → ∃ j, a ≤ j ∧ j < c ∧ s j = true) ∧ ((∃ j, a ≤ j ∧ j < x + 1 ∧ j < c ∧ s j = true) → 0 < k + 1)) := ⟨hnx2, by omega, by omega, by omega, fun _ => ⟨x, by omega, hxc, Hsx.out⟩, fun _ => by omega⟩
        have HM : Hid ((match Value.bool ok2 with | .bool true => 640001 - (intOf (.int .i64 (x2 : Int))).toNat | _ => 0) < 640001 - x) := by
          show _ < _
          rcases hnx2 with ⟨rfl, h1, _⟩ | ⟨rfl, _⟩
          · simp [intOf]; omega
          · simp only []; omega
        clear hnx2
        go_wp2_with omega
        exact ⟨⟨k + 1, x2, x + 1, ok2, by go_num, rfl, rfl, HN2.out.1, HN2.out.2.1, HN2.out.2.2.1, HN2.out.2.2.2.1, HN2.out.2.2.2.2.1, HN2.out.2.2.2.2.2, trivial⟩, by
          have := HM.out
          simpa [intOf] using this⟩
      · have hd : decide ((x : Int) < (c : Int)) = false := decide_eq_false (by omega)
        have hd2 : decide (x < c) = false := decide_eq_false hxc
        go_wp2_with omega
        go_ret
        refine ⟨k, rfl, by omega, fun hall => ?_, fun ⟨j, h1, h2, h3⟩ => ?_, rfl⟩
        · rcases Nat.eq_zero_or_pos k with h0 | h0
          · exact h0
          · obtain ⟨j, h1, h2, h3⟩ := Hpre.out h0
            rw [hall j h1 h2] at h3; cases h3
        · by_cases hj : j < a'
          · exact Hpos.out ⟨j, h1, hj, h2, h3⟩
          · rw [Hno.out j (by omega) (by omega)] at h3; cases h3
    · have Hno := Lib.hid hno
      clear hno
      go_wp2_with omega
      go_ret
      refine ⟨k, rfl, by omega, fun hall => ?_, fun ⟨j, h1, h2, h3⟩ => ?_, rfl⟩
      · rcases Nat.eq_zero_or_pos k with h0 | h0
        · exact h0
        · obtain ⟨j, h1, h2, h3⟩ := Hpre.out h0
          rw [hall j h1 h2] at h3; cases h3
      · by_cases hj : j < a'
        · exact Hpos.out ⟨j, h1, hj, h2, h3⟩
        · rw [Hno.out j (by omega)] at h3; cases h3
/-- What a run's index makes of a block that is given back. -/
def XGive (K bl : Nat) (o o' : Option (Nat × Nat)) : Prop := ∀ (F : Nat → Prop) (x : Nat) (w : World), IdxR w F x K o → Calls Tryz.prog 186 #[.pointer (some ⟨x, 0, none⟩), .int .i64 bl, .int .i64 1] w fun e w' => e = .returned (.int .i64 0) ∧ IdxR w' F x K o' ∧ Mod w w' F
theorem xgive_n (bl : Nat) (h1 : 1 ≤ bl) (h2 : bl < 3) : XGive 3 bl none (some (bl, 1)) := fun F x w h => xgive_none F x 3 bl 1 w h h1 (by omega) (by omega) (by omega)
theorem xgive_1 : XGive 3 1 (some (2, 1)) (some (1, 2)) := fun F x w h => xgive_12 F x w h
theorem xgive_2 : XGive 3 2 (some (1, 1)) (some (1, 2)) := fun F x w h => xgive_21 F x w h
set_option maxRecDepth 100000 in
set_option maxHeartbeats 2000000 in
/-- Release, of a block of small objects. -/
theorem bmrel_any (B : Nat) (b : DB) (m : Nat) (s : DS) (F : Nat → Prop) (mp K k bl : Nat) (hs : List (Nat × Nat)) (o o' : Option (Nat × Nat)) (w : World) (h : Dev B w b m s) (hL : s.Live) (hM : BmanR w F mp b.d K hs o) (hD : ∀ k, F k → ¬ b.has k)
    (hk : hs.getD bl (0, 0) = (1, k)) (hs1 : 1 ≤ bl) (hle : bl < K) (hK : K ≤ 150) (hm : m = K * 64) (hG : XGive K bl o o') :
    Calls Tryz.prog 233 #[.pointer (some ⟨mp, 0, none⟩), .int .i64 bl] w fun e w' => e = .returned (.int .i64 0) ∧ Dev B w' b m (exec s (putS bl 0 0)).1 ∧ BmanR w' F mp b.d K (hs.set bl (0, 0)) o' ∧ Mod w w' (fun k => b.has k ∨ F k) := by
  obtain ⟨t, x, T, X, hb, hT, hX, h3, h4, h5, h6, h7, h8⟩ := hM
  have c0 : w.cell? ⟨mp, 0, none⟩ = some (.pointer (some ⟨t, 0, none⟩)) := hb.cell 0
  have Hget := Lib.hid (tget_any T t b.d K bl hs w hT hs1 hle (by omega))
  rw [hk] at Hget
  have HB := Lib.hid hb
  have HT := Lib.hid hT
  have HX := Lib.hid hX
  have HD := Lib.hid h
  have Hd := Lib.hid (⟨h3, h4, h5, h6, h7, h8⟩ : (∀ k, T k → ¬ X k) ∧ (∀ k, T k → F k) ∧ (∀ k, X k → F k) ∧ F mp ∧ ¬ T mp ∧ ¬ X mp)
  obtain ⟨l1, l2⟩ := exec_live hL (putS bl 0 0)
  obtain ⟨l3, _⟩ := exec_live hL [.st (256 + bl) (hword bl 0 0)]
  have Hput : Hid (∀ gl wr, Dev B wr b m s → TabR wr T t b.d K hs → Blk wr gl 178 #[.int .i64 0, .int .i64 0, .int .i64 0] → Calls Tryz.prog 209 #[.pointer (some ⟨t, 0, none⟩), .int .i64 bl, .slice (some ⟨gl, 0, none⟩) 1 1] wr fun e w' => e = .returned (.int .i64 0) ∧ Dev B w' b m (exec s (putS bl 0 0)).1 ∧
      TabR w' T t b.d K (hs.set bl (0, 0)) ∧ Mod wr w' (fun k => b.has k ∨ T k)) := fun gl wr h1 h2 h3' => by
    have := tput_any B b m s T t K bl 0 0 gl hs wr h1 h2 (fun k hk => hD k (h4 k hk)) h3' (.inl ⟨rfl, rfl⟩) hs1 hle hK hm
    rw [l1, l3, if_pos rfl] at this
    exact this
  clear hb hT hX h hk h3 h4 h5 h6 h7 h8 l1 l2 l3
  go_enter Tryz.func233, Tryz.ntmps233
  go_wp2_with fail
  refine Hget.out.mono ?_
  rintro e w1 ⟨rfl, hb1⟩
  obtain ⟨n5, Hn5⟩ : ∃ n, Hid (w1.heap.size = n) := ⟨_, rfl⟩
  have L1 := Lib.hid (((Loc.nil Nob w).call hb1 (Nat.le_refl _)).box 178 #[.int .i64 1, .int .i64 k, .int .i64 0] n5 Hn5.out)
  have HB1 := Lib.hid hb1
  clear hb1 Hget
  have d0 : (w1.alloc (.cells #[.int .i64 1, .int .i64 k, .int .i64 0] 178)).cell? ⟨mp, 0, none⟩ = some (.pointer (some ⟨t, 0, none⟩)) := ((HB.out.below HB1.out HB.out.lt).alloc _).cell 0
  go_wp2_with fail
  have L2 := Lib.hid (L1.out.box 178 #[.int .i64 0, .int .i64 0, .int .i64 0] (n5 + 1) (by rw [World.size_alloc, Hn5.out]))
  rw [Hn5.out]
  generalize (w1.alloc (.cells #[.int .i64 1, .int .i64 k, .int .i64 0] 178)).alloc (.cells #[.int .i64 0, .int .i64 0, .int .i64 0] 178) = W at *
  have HBW := L2.out.below
  obtain ⟨e1, e2, e3, e4, e5, e6⟩ := Hd.out
  refine (Hput.out (n5 + 1) W (HD.out.below HBW (Nat.le_refl _)) (HT.out.below HBW (Nat.le_refl _)) L2.out.b0).mono ?_
  rintro e w4 ⟨rfl, hd4, ht4, hm4⟩
  have hmp : ¬ (b.has mp ∨ T mp) := by rintro (h | h); exact hD mp e4 h; exact e5 h
  have HB4 := Lib.hid (hm4.blk (HB.out.below HBW HB.out.lt) hmp)
  have HX4 := Lib.hid ((HX.out.below HBW (Nat.le_refl _)).mod hm4 (fun k hk h => by rcases h with h | h; exact hD k (e3 k hk) h; exact e1 k h hk))
  have HD4 := Lib.hid hd4
  have HT4 := Lib.hid ht4
  have HM4 : Hid (Mod w w4 (fun k => b.has k ∨ F k)) := (mod_below HBW).trans hm4 (fun k _ h => h.imp id (e2 k))
  have hlt4 : ∀ k, b.has k → k < w4.heap.size := fun k hk => (hd4.lt k hk).2
  have Hltb : Hid (∀ k, X k → ¬ b.has k ∧ ¬ T k) := fun k hk => ⟨hD k (e3 k hk), fun h => e1 k h hk⟩
  clear hd4 ht4 hm4 HBW L1 L2 d0 hlt4 e1 e2 e3 e4 e5 e6
  have c1 : w4.cell? ⟨mp, 1, none⟩ = some (.pointer (some ⟨x, 0, none⟩)) := HB4.out.cell 1
  go_wp2_with fail
  refine (hG X x w4 HX4.out).mono ?_
  rintro e w5 ⟨rfl, hx5, hm5⟩
  have HX5 := Lib.hid hx5
  have HM5 := Lib.hid hm5
  clear hx5 hm5 c1
  go_wp2_with fail
  go_ret
  obtain ⟨e1, e2, e3, e4, e5, e6⟩ := Hd.out
  exact ⟨rfl, HD4.out.mod HM5.out (fun k hk h => (Hltb.out k h).1 hk), ⟨t, x, T, X, HM5.out.blk HB4.out e6, HT4.out.mod HM5.out (fun k hk h => (Hltb.out k h).2 hk), HX5.out, e1, e2, e3, e4, e5, e6⟩, HM4.out.trans HM5.out (fun k _ h => .inr (e3 k h))⟩
end Go.Proofs.YtcnjipicifkfjaaGreat

/- slices.Sort at whole numbers: its contract, proved once over any program, laid at this program's numbers. -/
namespace Go.Proofs
open Go.Shelf
def Tryz.lays189_ren : Go.Shelf.Ren := ⟨fun | 189 => 193 | 125 => 230 | 257 => 229 | 128 => 250 | 129 => 251 | 294 => 241 | 295 => 242 | 296 => 243 | 297 => 244 | 298 => 245 | 299 => 246 | 216 => 247 | 300 => 248 | 301 => 249 | 328 => 266 | 329 => 267 | 330 => 268 | 331 => 269 | 332 => 270 | 215 => 271 | 343 => 276 | n => n, fun | 28 => 60 | 3 => 3 | 46 => 158 | 0 => 0 | 51 => 219 | 53 => 28 | 4 => 4 | 183 => 285 | 182 => 284 | 131 => 111 | 5 => 5 | 9 => 9 | 218 => 300 | 222 => 304 | 228 => 310 | 229 => 311 | n => n, fun | n => n⟩
theorem Tryz.lays189 : Go.Proofs.Lays.n189 Tryz.prog Tryz.lays189_ren := {
  mixed := by kernel_rfl
  f125 := Tryz.func230.trans (congrArg some (by kernel_rfl))
  f128 := Tryz.func250.trans (congrArg some (by kernel_rfl))
  f129 := Tryz.func251.trans (congrArg some (by kernel_rfl))
  f189 := Tryz.func193.trans (congrArg some (by kernel_rfl))
  f215 := Tryz.func271.trans (congrArg some (by kernel_rfl))
  f216 := Tryz.func247.trans (congrArg some (by kernel_rfl))
  f257 := Tryz.func229.trans (congrArg some (by kernel_rfl))
  f294 := Tryz.func241.trans (congrArg some (by kernel_rfl))
  f295 := Tryz.func242.trans (congrArg some (by kernel_rfl))
  f296 := Tryz.func243.trans (congrArg some (by kernel_rfl))
  f297 := Tryz.func244.trans (congrArg some (by kernel_rfl))
  f298 := Tryz.func245.trans (congrArg some (by kernel_rfl))
  f299 := Tryz.func246.trans (congrArg some (by kernel_rfl))
  f300 := Tryz.func248.trans (congrArg some (by kernel_rfl))
  f301 := Tryz.func249.trans (congrArg some (by kernel_rfl))
  f328 := Tryz.func266.trans (congrArg some (by kernel_rfl))
  f329 := Tryz.func267.trans (congrArg some (by kernel_rfl))
  f330 := Tryz.func268.trans (congrArg some (by kernel_rfl))
  f331 := Tryz.func269.trans (congrArg some (by kernel_rfl))
  f332 := Tryz.func270.trans (congrArg some (by kernel_rfl))
  f343 := Tryz.func276.trans (congrArg some (by kernel_rfl))
  t0 := Tryz.underlying0
  a0 := Tryz.isAgg0
  z0 := Tryz.sizeOf0
  v0 := Tryz.zeroValue0
  t3 := Tryz.underlying3
  a3 := Tryz.isAgg3
  z3 := Tryz.sizeOf3
  v3 := Tryz.zeroValue3
  t4 := Tryz.underlying4
  a4 := Tryz.isAgg4
  z4 := Tryz.sizeOf4
  v4 := Tryz.zeroValue4
  t5 := Tryz.underlying5
  a5 := Tryz.isAgg5
  z5 := Tryz.sizeOf5
  v5 := Tryz.zeroValue5
  t9 := Tryz.underlying9
  a9 := Tryz.isAgg9
  z9 := Tryz.sizeOf9
  v9 := Tryz.zeroValue9
  t28 := Tryz.underlying60
  a28 := Tryz.isAgg60
  z28 := Tryz.sizeOf60
  v28 := Tryz.zeroValue60
  t46 := Tryz.underlying158
  a46 := Tryz.isAgg158
  z46 := Tryz.sizeOf158
  v46 := Tryz.zeroValue158
  t51 := Tryz.underlying219
  a51 := Tryz.isAgg219
  z51 := Tryz.sizeOf219
  v51 := Tryz.zeroValue219
  t53 := Tryz.underlying28
  a53 := Tryz.isAgg28
  z53 := Tryz.sizeOf28
  v53 := Tryz.zeroValue28
  t131 := Tryz.underlying111
  a131 := Tryz.isAgg111
  z131 := Tryz.sizeOf111
  v131 := Tryz.zeroValue111
  t182 := Tryz.underlying284
  a182 := Tryz.isAgg284
  z182 := Tryz.sizeOf284
  v182 := Tryz.zeroValue284
  t183 := Tryz.underlying285
  a183 := Tryz.isAgg285
  z183 := Tryz.sizeOf285
  v183 := Tryz.zeroValue285
  t218 := Tryz.underlying300
  a218 := Tryz.isAgg300
  z218 := Tryz.sizeOf300
  v218 := Tryz.zeroValue300
  t222 := Tryz.underlying304
  a222 := Tryz.isAgg304
  z222 := Tryz.sizeOf304
  v222 := Tryz.zeroValue304
  t228 := Tryz.underlying310
  a228 := Tryz.isAgg310
  z228 := Tryz.sizeOf310
  v228 := Tryz.zeroValue310
  t229 := Tryz.underlying311
  a229 := Tryz.isAgg311
  z229 := Tryz.sizeOf311
  v229 := Tryz.zeroValue311 }
open Go.Sort Go.RowKit in
theorem Tryz.slices_Sort_int (blk off cap : Nat) (zs : List Int) (w : World) (hH : Holds (Value.int .i64) w blk off zs.toArray) (hblk : blk < w.heap.size) (hsz : zs.length < 4611686018427387904) :
    Calls Tryz.prog 193 #[.slice (some ⟨blk, off, none⟩) zs.length cap] w fun e w' =>
      e = .returned (.tuple #[]) ∧ ∃ n os, w' = grow (putRow (Value.int .i64) (Sort.ahead w n) blk off (zs.mergeSort fun x y => decide (x ≤ y)).toArray) os := Any.slices_Sort_int Tryz.lays189 blk off cap zs w hH hblk hsz
end Go.Proofs

/- A range over a map of whole numbers; slices.Sort. -/
namespace Go.Proofs.YtcnjipicifkfjaaGreat
open Go.RowKit
set_option linter.unusedVariables false
set_option linter.unusedSimpArgs false

/-- Where a range over a map stands: these entries have come. -/
structure Rng (w : World) (r q : Nat) (es : List (Nat × Value × Nat)) (clock : Nat) (vs : List (Nat × Value × Nat)) : Prop where
  m : MapR w r natK es clock
  i : ∃ seen : Array Nat, w.heap[q]? = some (.mapIter (some r) clock seen clock) ∧ seen.toList = vs.map (·.2.2)
  sub : ∀ e ∈ vs, e ∈ es
  nd : vs.Nodup
theorem born_inj {es : List (Nat × Value × Nat)} (h : (es.map (·.2.2)).Nodup) {a b : Nat × Value × Nat} (ha : a ∈ es) (hb : b ∈ es) (e : a.2.2 = b.2.2) : a = b := by
  obtain ⟨i, hi, rfl⟩ := List.getElem_of_mem ha
  obtain ⟨j, hj, rfl⟩ := List.getElem_of_mem hb
  rcases Nat.lt_trichotomy i j with h1 | h1 | h1
  · exact absurd e (by have := List.pairwise_iff_getElem.1 h i j (by simpa using hi) (by simpa using hj) h1; simpa using this)
  · subst h1; rfl
  · exact absurd e.symm (by have := List.pairwise_iff_getElem.1 h j i (by simpa using hj) (by simpa using hi) h1; simpa using this)
theorem Rng.next {P : Program} {w : World} {r q clock : Nat} {es vs : List (Nat × Value × Nat)} (h : Rng w r q es clock vs) :
    ((∀ e ∈ es, e ∈ vs) ∧ ∀ ty, (Instr.next (.pointer (some ⟨q, 0, none⟩)) false ty).run P w = .ok (.tuple #[.bool false]) w) ∨
    ∃ e ∈ es, e ∉ vs ∧ ∃ w', (∀ ty, (Instr.next (.pointer (some ⟨q, 0, none⟩)) false ty).run P w = .ok (.tuple #[.bool true, natK e.1, e.2.1]) w') ∧ Rng w' r q es clock (vs ++ [e]) ∧ Mod w w' (fun k => k = q) ∧
      (Instr.entry (.pointer (some ⟨q, 0, none⟩))).run P w' = .ok (.tuple #[natK e.1, e.2.1]) w' := by
  obtain ⟨seen, hq, hs⟩ := h.i
  have hnx := run_next_at (P := P) w 0 q r clock clock seen (es.map (mkE natK)).toArray clock hq h.m.at_ (fun x hx => by
    simp only [List.mem_map] at hx
    obtain ⟨e, he, rfl⟩ := hx
    exact h.m.lt e he) (Nat.le_refl _)
  have hsn : ∀ e ∈ es, (seen.contains (mkE natK e).born = false ↔ e ∉ vs) := by
    intro e he
    rw [← Bool.not_eq_true, Array.contains_iff_mem, ← Array.mem_toList_iff, hs]
    show ¬ e.2.2 ∈ vs.map (·.2.2) ↔ _
    refine not_congr ⟨fun hm => ?_, fun hm => List.mem_map_of_mem (f := fun x : Nat × Value × Nat => x.2.2) hm⟩
    obtain ⟨e2, h2, h3⟩ := List.mem_map.1 hm
    have := born_inj h.m.born (h.sub e2 h2) he h3
    rwa [this] at h2
  have hleft : ∀ x, x ∈ (leftOf (es.map (mkE natK)).toArray seen).toList ↔ ∃ e ∈ es, mkE natK e = x ∧ e ∉ vs := by
    intro x
    simp only [leftOf, Array.toList_filter, List.mem_filter, List.mem_map]
    constructor
    · rintro ⟨⟨e, he, rfl⟩, h2⟩
      exact ⟨e, he, rfl, (hsn e he).1 (by simpa using h2)⟩
    · rintro ⟨e, he, rfl, h2⟩
      exact ⟨⟨e, he, rfl⟩, by simpa using (hsn e he).2 h2⟩
  rcases hnx with ⟨h0, h1⟩ | ⟨x, hx, w1, hw1, h1⟩
  · refine .inl ⟨fun e he => ?_, fun ty => h1⟩
    by_cases hv : e ∈ vs
    · exact hv
    · have := (hleft (mkE natK e)).2 ⟨e, he, rfl, hv⟩
      rw [Array.eq_empty_of_size_eq_zero h0] at this
      simp at this
  · obtain ⟨e, he, rfl, hv⟩ := (hleft x).1 hx
    right
    have hrq : r ≠ q := by
      rintro rfl
      have := h.m.at_
      rw [hq] at this; cases this
    have hqs : q < w1.heap.size := by
      have := (Array.getElem?_eq_some_iff.1 hq).1
      rcases hw1 with rfl | rfl <;> exact this
    have hm : Mod w1 (ChangeMaps.setBlock w1 q (.mapIter (some r) clock (seen.push (mkE natK e).born) clock)) (fun k => k = q) :=
      ⟨rfl, rfl, rfl, by simp [ChangeMaps.setBlock], fun k hk hn => by simp only [ChangeMaps.setBlock]; exact Array.getElem?_setIfInBounds_ne (fun e => hn e.symm)⟩
    have hM : Mod w (ChangeMaps.setBlock w1 q (.mapIter (some r) clock (seen.push (mkE natK e).born) clock)) (fun k => k = q) := by
      rcases hw1 with rfl | rfl
      · exact hm
      · exact ⟨hm.os, hm.tape, hm.output, hm.size, hm.block⟩
    have hh : (ChangeMaps.setBlock w1 q (.mapIter (some r) clock (seen.push (mkE natK e).born) clock)).heap[q]? = some (.mapIter (some r) clock (seen.push (mkE natK e).born) clock) := by simp [ChangeMaps.setBlock, hqs]
    have hR := h.m.mod hM hrq
    refine ⟨e, he, hv, _, fun ty => h1, ⟨hR, ⟨_, hh, by simp [hs]; rfl⟩, ?_, ?_⟩, hM, ?_⟩
    · intro e2 h2
      rcases List.mem_append.1 h2 with h2 | h2
      · exact h.sub e2 h2
      · rw [List.mem_singleton.1 h2]; exact he
    · rw [List.nodup_append]
      exact ⟨h.nd, by simp, fun a ha b hb => by rw [List.mem_singleton.1 hb]; rintro rfl; exact hv ha⟩
    · refine run_entry_at _ q r clock seen (es.map (mkE natK)).toArray clock (mkE natK e) hh hR.at_ (by simp only [List.mem_map]; exact ⟨e, he, rfl⟩) ?_
      simp only [List.map_map]
      exact h.m.born
theorem Rng.start {w : World} {r clock : Nat} {es : List (Nat × Value × Nat)} (h : MapR w r natK es clock) (q : Nat) (hq : w.heap.size = q) : Rng (w.alloc (.mapIter (some r) clock #[] clock)) r q es clock [] :=
  ⟨h.mod ((Mod.refl w Nob).alloc _) (fun h => h), ⟨#[], by rw [← hq]; exact heap_alloc_new w _, rfl⟩, fun e he => absurd he List.not_mem_nil, List.nodup_nil⟩
theorem Rng.mod {w w' : World} {r q clock : Nat} {es vs : List (Nat × Value × Nat)} {S : Nat → Prop} (h : Rng w r q es clock vs) (m : Mod w w' S) (h1 : ¬ S r) (h2 : ¬ S q) : Rng w' r q es clock vs := by
  obtain ⟨seen, hq, hs⟩ := h.i
  have hlt : q < w.heap.size := (Array.getElem?_eq_some_iff.1 hq).1
  exact ⟨h.m.mod m h1, ⟨seen, (m.block q hlt h2).trans hq, hs⟩, h.sub, h.nd⟩
/-- When all have come, the keys are a permutation of the map's. -/
theorem Rng.perm {w : World} {r q clock : Nat} {es vs : List (Nat × Value × Nat)} (h : Rng w r q es clock vs) (hall : ∀ e ∈ es, e ∈ vs) (st : Nat → Bool) (hf : ∀ x, (if st x then some (Value.bool true) else none) = getE es x) (l : List Nat) (hl : l.Nodup) (hx : ∀ x, x ∈ l ↔ st x = true) :
    (vs.map (·.1)).Perm l := by
  have hk : (es.map (·.1)).Nodup := h.m.keys
  have hvk : (vs.map (·.1)).Nodup := by
    refine List.Pairwise.map (R := fun a b => a ∈ es ∧ b ∈ es ∧ a ≠ b) _ ?_ ?_
    · rintro a b ⟨ha, hb, hne⟩ e
      obtain ⟨i, hi, rfl⟩ := List.getElem_of_mem ha
      obtain ⟨j, hj, rfl⟩ := List.getElem_of_mem hb
      rcases Nat.lt_trichotomy i j with h1 | h1 | h1
      · have := List.pairwise_iff_getElem.1 hk i j (by simpa using hi) (by simpa using hj) h1
        simp at this; exact this e
      · subst h1; exact hne rfl
      · have := List.pairwise_iff_getElem.1 hk j i (by simpa using hj) (by simpa using hi) h1
        simp at this; exact this e.symm
    · refine List.Pairwise.imp_of_mem ?_ h.nd
      intro a b ha hb hne
      exact ⟨h.sub a ha, h.sub b hb, hne⟩
  rw [List.perm_ext_iff_of_nodup hvk hl]
  intro x
  rw [hx]
  constructor
  · intro hm
    obtain ⟨e, he, rfl⟩ := List.mem_map.1 hm
    have := getE_of_mem hk (x := e.1) (v := e.2.1) (b := e.2.2) (h.sub e he)
    rw [← hf] at this
    by_cases hs : st e.1 = true
    · exact hs
    · rw [if_neg hs] at this; cases this
  · intro hs
    have := hf x
    rw [if_pos hs] at this
    obtain ⟨b, hb⟩ := getE_mem this.symm
    exact List.mem_map.2 ⟨_, hall _ hb, rfl⟩
theorem mergeSort_nat {l ts : List Nat} (hp : l.Perm ts) (hs : ts.Pairwise (· ≤ ·)) : (l.map fun x : Nat => (x : Int)).mergeSort (fun x y => decide (x ≤ y)) = ts.map fun x : Nat => (x : Int) := by
  refine List.Perm.eq_of_pairwise (le := fun a b : Int => a ≤ b) (fun a b _ _ h1 h2 => by omega) ?_ ?_ ?_
  · have := List.pairwise_mergeSort (le := fun x y : Int => decide (x ≤ y)) (by simp; omega) (by simp; omega) (l.map fun x : Nat => (x : Int))
    exact this.imp (fun h => by simpa using h)
  · rw [List.pairwise_map]
    exact hs.imp (fun h => by omega)
  · exact (List.mergeSort_perm _ _).trans (hp.map _)
/-- slices.Sort of a row of the call's own. -/
theorem sort_any (base g n cap : Nat) (l ts : List Nat) (w : World) (hO : Own w base 3 1 (some ⟨g, 0, none⟩) n cap (ncells l)) (hn : n ≤ 1000000) (hp : l.Perm ts) (hs : ts.Pairwise (· ≤ ·)) :
    Calls Tryz.prog 193 #[.slice (some ⟨g, 0, none⟩) n cap] w fun e w' => e = .returned (.tuple #[]) ∧ Own w' base 3 1 (some ⟨g, 0, none⟩) n cap (ncells ts) ∧ Mod w w' (fun k => k = g) := by
  have hl : l.length = n := by have := hO.len; rw [ncells_len] at this; omega
  rcases hO.form with ⟨h, _⟩ | ⟨g', cur, h, hb, hB, h1, h2, h3, h4⟩
  · cases h
  cases h
  have hnc : ∀ l : List Nat, ncells l = (l.map fun x : Nat => (x : Int)).map (Value.int .i64) := by intro l; simp [ncells]
  have hlen : (l.map fun x : Nat => (x : Int)).length = n := by simp [hl]
  have hc := Tryz.slices_Sort_int g 0 cap (l.map fun x : Nat => (x : Int)) w (holds_of_blockI hB (by rw [hlen, ← Nat.mul_one n, h4, hnc])) hB.lt (by rw [hlen]; omega)
  rw [mergeSort_nat hp hs, hlen] at hc
  refine hc.mono ?_
  rintro e w' ⟨rfl, m, os, rfl⟩
  have hlt : (ts.map fun x : Nat => (x : Int)).length = (l.map fun x : Nat => (x : Int)).length := by simp [hp.length_eq]
  have hr := ownsRow_sortedI (n := m) (os := os) (e := 3) hlt hb hB (by rw [hlen]; exact h1) h2 h3
  rw [hlen, ← hnc] at hr
  obtain ⟨A', c', e1, hO'⟩ := Own.of_row hr
  cases e1
  refine ⟨rfl, hO', (Mod.of_grown (grownBy_sortedI _)).mono (fun k _ h => ?_)⟩
  cases h; rfl
end Go.Proofs.YtcnjipicifkfjaaGreat

/- free: List, Len. -/
namespace Go.Proofs.YtcnjipicifkfjaaGreat
open Go.RowKit
set_option linter.unusedVariables false
set_option linter.unusedSimpArgs false

set_option maxRecDepth 100000 in
theorem len64_zero (w : World) : Calls Tryz.prog 251 #[.int .u64 0] w fun e w' => e = .returned (.int .i64 0) ∧ w = w' := by
  have h8 : wrap64 (wrap64 (Lib.len8 0)) = 0 := by kernel_rfl
  go_enter Tryz.func251, Tryz.ntmps251
  go_wp2_with fail
  go_ret
  exact ⟨by show Ending.returned (.int .i64 (wrap64 (wrap64 (Lib.len8 0)))) = _; rw [h8], rfl⟩
set_option maxRecDepth 100000 in
theorem len_zero (w : World) : Calls Tryz.prog 230 #[.int .u64 0] w fun e w' => e = .returned (.int .i64 0) ∧ w = w' := by
  have Hl := Lib.hid len64_zero
  go_enter Tryz.func230, Tryz.ntmps230
  go_wp2_with fail
  refine (Hl.out _).mono ?_
  rintro e w1 ⟨rfl, rfl⟩
  go_wp2_with fail
  go_ret
  exact ⟨rfl, rfl⟩
set_option maxRecDepth 100000 in
theorem insert_nil (w : World) : Calls Tryz.prog 241 #[.slice none 0 0, .int .i64 0, .int .i64 0] w fun e w' => (∃ v, e = .returned v) ∧ w = w' := by
  go_enter Tryz.func241, Tryz.ntmps241
  go_wp2_with fail
  refine wp_loop_rounds 1 ?_
  rw [rounds_succ]
  go_wp2_with fail
  go_end0
  exact ⟨⟨_, rfl⟩, rfl⟩
set_option maxRecDepth 100000 in
theorem pdq_nil (w : World) : Calls Tryz.prog 229 #[.slice none 0 0, .int .i64 0, .int .i64 0, .int .i64 0] w fun e w' => (∃ v, e = .returned v) ∧ w = w' := by
  have Hi := Lib.hid insert_nil
  go_enter Tryz.func229, Tryz.ntmps229
  go_wp2_with fail
  refine wp_loop_rounds 1 ?_
  rw [rounds_succ]
  go_wp2_with fail
  refine (Hi.out _).mono ?_
  rintro e w1 ⟨⟨v, rfl⟩, rfl⟩
  go_wp2_with fail
  (try simp only [Exit.inBlock, Exit.then])
  refine bodyPost_ret (results_none rfl _ _ _) rfl ?_
  exact ⟨⟨_, rfl⟩, rfl⟩
set_option maxRecDepth 100000 in
theorem sort_nil (w : World) : Calls Tryz.prog 193 #[.slice none 0 0] w fun e w' => (∃ v, e = .returned v) ∧ w = w' := by
  have Hl := Lib.hid len_zero
  have Hp := Lib.hid pdq_nil
  go_enter Tryz.func193, Tryz.ntmps193
  go_wp2_with fail
  refine (Hl.out _).mono ?_
  rintro e w1 ⟨rfl, rfl⟩
  go_wp2_with fail
  refine (Hp.out _).mono ?_
  rintro e w1 ⟨⟨v, rfl⟩, rfl⟩
  go_wp2_with fail
  go_end0
  exact ⟨⟨_, rfl⟩, rfl⟩
/-- slices.Clone, of any row. -/
theorem clone_own (B : Nat) (A : Option Addr) (n cap : Nat) (l : List Nat) (w : World) (h : Own w B 3 1 A n cap (ncells l)) (hn : n ≤ 1000000) :
    Calls Tryz.prog 192 #[.slice A n cap] w fun e w' => ∃ A' cap', e = .returned (.slice A' n cap') ∧ Own w' w.heap.size 3 1 A' n cap' (ncells l) ∧ Below w.heap.size w w' := by
  rcases h.form with ⟨rfl, rfl, rfl⟩ | ⟨g, cur, rfl, _⟩
  · have hl : ncells l = [] := List.eq_nil_of_length_eq_zero (by have := h.len; omega)
    refine (iclone_nil w).mono ?_
    rintro e w' ⟨rfl, rfl⟩
    exact ⟨none, 0, rfl, by rw [hl]; exact Own.nil _ _ _ _, Below.refl _ _⟩
  · exact iclone_any ⟨g, 0, none⟩ n cap l w hn h.rd
/-- slices.Sort, of any row: it stays there. -/
theorem sort_own (B : Nat) (A : Option Addr) (n cap : Nat) (l : List Nat) (w : World) (h : Own w B 3 1 A n cap (ncells l)) (hn : n ≤ 1000000) :
    Calls Tryz.prog 193 #[.slice A n cap] w fun e w' => (∃ v, e = .returned v) ∧ Mod w w' (fun k => ∃ a, A = some a ∧ a.block = k) := by
  rcases h.form with ⟨rfl, rfl, rfl⟩ | ⟨g, cur, rfl, _⟩
  · refine (sort_nil w).mono ?_
    rintro e w' ⟨he, rfl⟩
    exact ⟨he, Mod.refl _ _⟩
  · have hs : (l.mergeSort fun a b => decide (a ≤ b)).Pairwise (· ≤ ·) := by
      have := List.pairwise_mergeSort (le := fun a b : Nat => decide (a ≤ b)) (fun a b c h1 h2 => by simp only [decide_eq_true_eq] at h1 h2 ⊢; omega) (fun a b => by simp only [Bool.or_eq_true, decide_eq_true_eq]; omega) l
      exact this.imp (fun h => by simpa using h)
    refine (sort_any B g n cap l _ w h hn (List.mergeSort_perm l _).symm hs).mono ?_
    rintro e w' ⟨rfl, _, hM⟩
    exact ⟨⟨_, rfl⟩, hM.mono (fun k _ e => ⟨_, rfl, e.symm⟩)⟩
def csN (cs : Nat → List Nat) : Nat → List Nat
  | 0 => []
  | m + 1 => csN cs m ++ cs m
theorem csN_len (cs : Nat → List Nat) (hc : ∀ m, (cs m).length ≤ 1000) (m : Nat) : (csN cs m).length ≤ 1000 * m := by
  induction m with
  | zero => simp [csN]
  | succ m ih => rw [csN, List.length_append]; have := hc m; omega
set_option maxRecDepth 100000 in
set_option maxHeartbeats 2000000 in
theorem flist_any (F : Nat → Prop) (f k : Nat) (glob : List Nat) (cs : Nat → List Nat) (w : World) (h : FreeR w F f k glob cs) (hg : glob.length ≤ 900) (hc : ∀ m, (cs m).length ≤ 1000) :
    Calls Tryz.prog 147 #[.pointer (some ⟨f, 0, none⟩), .int .i64 k] w fun e w' => (∃ A cap, e = .returned (.slice A (glob ++ csN cs 4).length cap)) ∧ Below w.heap.size w w' := by
  obtain ⟨mb, A, cap, fm, ad, cp, hx⟩ := h
  have hk := hx.hk
  have Hr := Lib.hid (fun w => cright_yes k w hk)
  have x0 : w.cell? ⟨f, k, none⟩ = some (.slice A glob.length cap) := (hx.b.cell k).trans (fcells_at k _ mb hk)
  have k0 : (0 : Int) ≤ (k : Int) := by omega
  have k1 : (k : Int) < 32 := by omega
  have HX := Lib.hid hx
  have Hcl := Lib.hid (clone_own 0 A glob.length cap glob w hx.g (by omega))
  obtain ⟨i0, hi0, hz0, hz1, hz2⟩ := info3s
  have Hcn := Lib.hid (csN_len cs hc)
  obtain ⟨gn, Hgn⟩ : ∃ n, Hid (glob.length = n) := ⟨_, rfl⟩
  obtain ⟨N, HN⟩ : ∃ n, Hid ((glob ++ csN cs 4).length = n) := ⟨_, rfl⟩
  rw [Hgn.out] at hg x0 Hcl
  rw [HN.out]
  clear hx
  go_enter Tryz.func147, Tryz.ntmps147
  go_wp2_with fail
  refine (Hr.out _).mono ?_
  rintro e w1 ⟨rfl, rfl⟩
  go_wp2_with fail
  refine Hcl.out.mono ?_
  rintro e w1 ⟨A1, cap1, rfl, hO1, hb1⟩
  have HO1 : Hid (Own w1 w.heap.size 3 1 A1 gn cap1 (ncells (glob ++ csN cs 0))) := by rw [csN, List.append_nil]; exact hO1
  have HB1 := Lib.hid hb1
  clear hO1 hb1 x0 Hcl
  go_wp2_with fail
  go_loopw [5, 17] (fun v5 v17 wr => ∃ (m n : Nat) (Aj : Option Addr) (capj : Nat), v17 = .int .i64 m ∧ m ≤ 4 ∧ v5 = .slice Aj n capj ∧ n = (glob ++ csN cs m).length ∧ Own wr w.heap.size 3 1 Aj n capj (ncells (glob ++ csN cs m)) ∧ Below w.heap.size w wr) (fun _ v17 _ => 4 - (intOf v17).toNat)
  case atStart => exact ⟨0, gn, A1, cap1, rfl, by omega, rfl, by rw [csN, List.append_nil]; exact Hgn.out.symm, HO1.out, HB1.out⟩
  case round =>
    clear HO1 HB1
    obtain ⟨m, n, Aj, capj, rfl, hm, rfl, hnj, hOj, hBj⟩ := hrel
    have HOj := Lib.hid hOj
    have HBj := Lib.hid hBj
    have Hnj := Lib.hid hnj
    have hn5 : n ≤ 6000 := by rw [hnj, List.length_append, Hgn.out]; have := Hcn.out m; omega
    clear hOj hBj hnj
    obtain ⟨wo, rfl⟩ : ∃ wo, wo = wr := ⟨wr, rfl⟩
    by_cases hm4 : m < 4
    · have HXo := Lib.hid (HX.out.below HBj.out (Nat.le_refl _))
      have z0 : wo.cell? ⟨f, 32, none⟩ = some (.map (some mb)) := (HXo.out.b.cell 32).trans (fcells_map k _ mb)
      have hlk : (Instr.lookup 235 (.map (some mb)) (.agg #[.int .i64 (m : Nat), .int .i64 (k : Nat)]) false).run Tryz.prog wo = .ok (.slice (ad m) (cs m).length (cp m)) wo := HXo.out.look m
      have Hrd := Lib.hid (HXo.out.rd m)
      obtain ⟨q, Hq⟩ : ∃ q, Hid ((cs m).length = q) := ⟨_, rfl⟩
      have hq : q ≤ 1000 := by rw [← Hq.out]; exact hc m
      have Hnc : Hid (ncells (glob ++ csN cs m) ++ ncells (cs m) = ncells (glob ++ csN cs (m + 1)) ∧ (glob ++ csN cs (m + 1)).length = n + q) := by
        rw [csN, ← List.append_assoc]
        refine ⟨(List.map_append ..).symm, ?_⟩
        rw [@List.length_append _ (glob ++ csN cs m) (cs m), Hq.out, ← Hnj.out]
      rw [Hq.out] at hlk Hrd
      have hwo := HBj.out.size
      go_wp2_with (at_builtin; (refine append_rd rfl (.tmp 20) (.tmp 28) 60 rfl w.heap.size 3 i0 _ 1 8 Tryz.underlying60 hi0 hz0 hz1 hz2 rfl (by omega) Aj n capj _ rfl HOj.out (ad m) q (cp m) (ncells (cs m)) rfl Hrd.out ncells_one (n + q) rfl (ncells (glob ++ csN cs (m + 1))) Hnc.out.1 (by unfold maxLen; omega) (by omega) hwo ?_))
      intro A6 cap6 w6 hO6 hM6 hat6
      have HO6 := Lib.hid hO6
      have HB6 : Hid (Below w.heap.size w w6) := Below.mod HBj.out hM6 hwo (fun k _ h => by obtain ⟨a, ha, e⟩ := h; have := (HOj.out.lt a ha).1; omega)
      clear hO6 hM6 hat6 hlk z0
      go_wp2_with fail
      exact ⟨⟨m + 1, n + q, A6, cap6, by go_num, by omega, rfl, Hnc.out.2.symm, HO6.out, HB6.out⟩, by simp [intOf]; omega⟩
    · obtain rfl : m = 4 := by omega
      go_wp2_with fail
      refine (sort_own w.heap.size Aj n capj _ wo HOj.out (by omega)).mono ?_
      rintro e w6 ⟨⟨v6, rfl⟩, hM6⟩
      have HB6 : Hid (Below w.heap.size w w6) := Below.mod HBj.out hM6 HBj.out.size (fun k _ h => by obtain ⟨a, ha, e⟩ := h; have := (HOj.out.lt a ha).1; omega)
      clear hM6
      go_wp2_with fail
      go_ret
      have : n = N := Hnj.out.trans HN.out
      subst this
      exact ⟨⟨Aj, capj, rfl⟩, HB6.out⟩
theorem flen_any (F : Nat → Prop) (f k : Nat) (glob : List Nat) (cs : Nat → List Nat) (w : World) (h : FreeR w F f k glob cs) (hg : glob.length ≤ 900) (hc : ∀ m, (cs m).length ≤ 1000) :
    Calls Tryz.prog 260 #[.pointer (some ⟨f, 0, none⟩), .int .i64 k] w fun e w' => e = .returned (.int .i64 ((glob ++ csN cs 4).length : Nat)) ∧ Below w.heap.size w w' := by
  have H := Lib.hid (flist_any F f k glob cs w h hg hc)
  generalize (glob ++ csN cs 4).length = N at *
  clear h hg hc
  go_enter Tryz.func260, Tryz.ntmps260
  go_wp2_with fail
  refine H.out.mono ?_
  rintro e w1 ⟨⟨A, cap, rfl⟩, hb⟩
  have HB := Lib.hid hb
  clear hb
  go_wp2_with fail
  go_ret
  exact ⟨rfl, HB.out⟩
end Go.Proofs.YtcnjipicifkfjaaGreat
