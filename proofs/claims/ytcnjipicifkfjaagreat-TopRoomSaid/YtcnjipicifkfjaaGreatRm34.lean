/- trace: Run, Closure, along a pile. -/
import Derived.Test.YtcnjipicifkfjaaGreatRm33
import Derived.Test.YtcnjipicifkfjaaGreatRm14
import Derived.Test.YtcnjipicifkfjaaGreatRm12

namespace Go.Proofs.YtcnjipicifkfjaaGreat
open Go.RowKit
set_option linter.unusedVariables false
set_option linter.unusedSimpArgs false

/-- Where Run stands: how many rounds are to come. -/
def RunI (wr : World) (B tr d K : Nat) (hs : List (Nat × Nat)) (g gcap sm bm j k : Nat) : Prop :=
  ∃ A c, (k = 0 ∧ TraceX wr B tr d K hs g gcap sm bm A c (seenP 1 j) []) ∨ (1 ≤ k ∧ k ≤ j ∧ TraceX wr B tr d K hs g gcap sm bm A c (seenP k j) [adr k])
set_option maxRecDepth 100000 in
set_option maxHeartbeats 1000000 in
theorem trrun_any (B0 : Nat) (b : DB) (m : Nat) (s : DS) (tr K g gcap sm bm B j k : Nat) (hs : List (Nat × Nat)) (w : World) (hD : Dev B0 w b m s) (h : RunI w B tr b.d K hs g gcap sm bm j k) (hB : B ≤ w.heap.size) (hj : j ≤ 170)
    (hP : PileIn s m K hs j) (hm : m = K * 64) (hK : K ≤ 150) (hgB : g < B) (hbB : ∀ k, b.has k → k < B) :
    Calls Tryz.prog 183 #[.pointer (some ⟨tr, 0, none⟩)] w fun e w' => e = .returned (.int .i64 0) ∧ (∃ A' c', TraceX w' B tr b.d K hs g gcap sm bm A' c' (seenP 1 j) []) ∧ Below B w w' := by
  have HDb : Hid (∀ wr, Below B w wr → Dev B0 wr b m s) := fun wr hb => hD.mod (Mod.of_below hb) (fun k h1 h2 => by have := hbB k h1; omega)
  have Hst : Hid (∀ A c i wr, Below B w wr → 1 ≤ i → i ≤ j → TraceX wr B tr b.d K hs g gcap sm bm A c (seenP i j) [adr i] → Calls Tryz.prog 223 #[.pointer (some ⟨tr, 0, none⟩)] wr fun e w' => e = .returned (.bool true) ∧ (∃ A' c', TraceX w' B tr b.d K hs g gcap sm bm A' c' (if i = 1 then seenP 1 j else seenP (i - 1) j) (if i = 1 then [] else [adr (i - 1)])) ∧ Below B wr w') :=
    fun A c i wr hb hi hij hX => trstep_any B0 b m s tr K g gcap sm bm c B i j hs A wr (HDb.out wr hb) hX (Nat.le_trans hB hb.size) hi hij hj hP hm hK hgB hbB
  have Hen : Hid (∀ A c wr, TraceX wr B tr b.d K hs g gcap sm bm A c (seenP 1 j) [] → Calls Tryz.prog 223 #[.pointer (some ⟨tr, 0, none⟩)] wr fun e w' => e = .returned (.bool false) ∧ wr = w') :=
    fun A c wr hX => trstep_end tr b.d K g gcap sm bm c B hs A _ wr hX
  have H := Lib.hid h
  clear hD h hP hbB
  go_enter Tryz.func183, Tryz.ntmps183
  go_wp2_with fail
  go_loopg [] k (fun k wr => RunI wr B tr b.d K hs g gcap sm bm j k ∧ Below B w wr)
  case atStart => exact ⟨H.out, Below.refl _ _⟩
  case round =>
    clear H
    obtain ⟨⟨A, c, hR⟩, hb⟩ := hrel
    rcases hR with ⟨rfl, hX⟩ | ⟨hk1, hk2, hX⟩
    · have He := Lib.hid (Hen.out A c wr hX)
      have HX := Lib.hid hX
      have HB := Lib.hid hb
      have c5 : wr.cell? ⟨tr, 5, none⟩ = some (.map (some bm)) := hX.b.cell 5
      obtain ⟨q, hq⟩ := hX.bad
      have hlen : (Builtin.len_ #[267] 3 #[.map (some bm)]).run Tryz.prog wr = .ok (.int .i64 0) wr := by
        simp [Builtin.len_, Sem.run_bind, run_underlying Tryz.underlying267, MapKept.run_getObj_map hq, goInt]
      clear hX hb hq
      go_wp2_with fail
      refine He.out.mono ?_
      rintro e _ ⟨rfl, rfl⟩
      go_wp2_with fail
      go_ret
      exact ⟨rfl, ⟨A, c, HX.out⟩, HB.out⟩
    · have He := Lib.hid (Hst.out A c gk wr hb hk1 hk2 hX)
      have HB := Lib.hid hb
      clear hX hb
      go_wp2_with fail
      refine He.out.mono ?_
      rintro e w2 ⟨rfl, ⟨A2, c2, hX2⟩, hb2⟩
      have HX2 := Lib.hid hX2
      have HB2 : Hid (Below B w w2) := HB.out.trans hb2
      clear hX2 hb2
      go_wp2_with fail
      by_cases h1 : gk = 1
      · go_roundg 0
        case measure => omega
        case rel =>
          have := HX2.out
          rw [if_pos h1, if_pos h1] at this
          exact ⟨⟨A2, c2, .inl ⟨rfl, this⟩⟩, HB2.out⟩
      · go_roundg (gk - 1)
        case measure => omega
        case rel =>
          have := HX2.out
          rw [if_neg h1, if_neg h1] at this
          exact ⟨⟨A2, c2, .inr ⟨by omega, by omega, this⟩⟩, HB2.out⟩
/-- The addresses of a pile, rising. -/
def adrs (j : Nat) : List Nat := (List.range j).map fun t => adr (t + 1)
theorem adrs_len (j : Nat) : (adrs j).length = j := by simp [adrs]
theorem adrs_at (j i : Nat) (h : i < j) : (adrs j).getD i 0 = adr (i + 1) := by
  unfold adrs
  rw [List.getD_eq_getElem?_getD]
  simp [h]
theorem adrs_sorted (j : Nat) : (adrs j).Pairwise (· < ·) := by
  unfold adrs
  rw [List.pairwise_map]
  refine List.Pairwise.imp ?_ List.pairwise_lt_range
  intro a b h
  unfold adr
  omega
theorem adrs_nodup (j : Nat) : (adrs j).Nodup := (adrs_sorted j).imp (fun h => by omega)
theorem adrs_mem (j x : Nat) : x ∈ adrs j ↔ seenP 1 j x = true := by
  unfold adrs seenP adr
  rw [decide_eq_true_eq]
  simp only [List.mem_map, List.mem_range]
  constructor
  · rintro ⟨t, ht, rfl⟩
    omega
  · intro h
    exact ⟨(x - 512) / 3, by omega, by omega⟩
set_option maxRecDepth 100000 in
set_option maxHeartbeats 2000000 in
theorem closure_any (B0 : Nat) (b : DB) (m : Nat) (s : DS) (K g gcap j n cap : Nat) (hs : List (Nat × Nat)) (A : Option Addr) (l : List Nat) (w : World) (hD : Dev B0 w b m s) (hl : Own w 0 178 3 (some ⟨g, 0, none⟩) K gcap (hcells hs)) (hr : Rd w 1 A n (ncells l)) (hn1 : 1 ≤ n) (hn : n ≤ 1000)
    (hl0 : l.getD 0 0 = if j = 0 then 0 else adr j) (hl1 : ∀ i, 1 ≤ i → l.getD i 0 = 0) (hj : j ≤ 170) (hP : PileIn s m K hs j) (hm : m = K * 64) (hK : K ≤ 150) :
    Calls Tryz.prog 132 #[.pointer (some ⟨b.d, 0, none⟩), .agg #[.int .i64 K], .slice (some ⟨g, 0, none⟩) K gcap, .slice A n cap] w fun e w' => ∃ A' cap', e = .returned (.tuple #[.slice A' j cap', .int .i64 0]) ∧ Own w' w.heap.size 3 1 A' j cap' (ncells (adrs j)) ∧ Below w.heap.size w w' := by
  have hln : l.length = n := by have := hr.1; rw [ncells_len] at this; omega
  obtain ⟨n1, Hn1⟩ : ∃ n, Hid (w.heap.size = n) := ⟨_, rfl⟩
  have L1 := Lib.hid ((Loc.nil Nob w).box 64 #[.int .i64 K] n1 Hn1.out)
  have HB1 := Lib.hid (below_box w (.cells #[.int .i64 K] 64))
  have c0 : (w.alloc (.cells #[.int .i64 K] 64)).cell? ⟨n1, 0, none⟩ = some (.int .i64 K) := L1.out.b0.cell 0
  have Hnew := Lib.hid (trnew_any b.d K g gcap hs (w.alloc (.cells #[.int .i64 K] 64)) (hl.below (below_box w _) (Nat.le_refl _)))
  obtain ⟨B, HBB⟩ : ∃ B, Hid ((w.alloc (.cells #[.int .i64 K] 64)).heap.size = B) := ⟨_, rfl⟩
  have hB0 : w.heap.size ≤ B := by rw [← HBB.out]; exact HB1.out.size
  have hB1 : w.heap.size < B := by rw [← HBB.out, World.size_alloc]; omega
  rw [HBB.out] at Hnew
  have hg : g < B := Nat.lt_of_lt_of_le (hl.lt _ rfl).2 hB0
  have hbB : ∀ k, b.has k → k < B := fun k hk => Nat.lt_of_lt_of_le (hD.lt k hk).2 hB0
  have HDb : Hid (∀ wr, Below w.heap.size w wr → Dev B0 wr b m s) := fun wr hb => hD.below hb (Nat.le_refl _)
  have HRd : Hid (∀ wr, Below w.heap.size w wr → Rd wr 1 A n (ncells l)) := fun wr hb => hr.below hb (Nat.le_refl _)
  have Hrz : Hid (∀ tr sm bm A c st opn wr, TraceX wr B tr b.d K hs g gcap sm bm A c st opn → B ≤ wr.heap.size → Calls Tryz.prog 182 #[.pointer (some ⟨tr, 0, none⟩), .int .i64 0] wr fun e w' => e = .returned (.int .i64 0) ∧ TraceX w' B tr b.d K hs g gcap sm bm A c st opn ∧ Below B wr w') :=
    fun tr sm bm A c st opn wr hX hB => root_zero tr b.d K g gcap sm bm c B hs A st opn wr hX hB
  have Hra : Hid (∀ tr sm bm A c wr, 1 ≤ j → Below w.heap.size w wr → TraceX wr B tr b.d K hs g gcap sm bm A c (fun _ => false) [] → B ≤ wr.heap.size → Calls Tryz.prog 182 #[.pointer (some ⟨tr, 0, none⟩), .int .i64 (adr j : Nat)] wr fun e w' => e = .returned (.int .i64 0) ∧ (∃ A' c', TraceX w' B tr b.d K hs g gcap sm bm A' c' (seenP j j) [adr j]) ∧ Below B wr w') :=
    fun tr sm bm A c wr hj1 hb hX hB => root_at B0 b m s tr K g gcap sm bm c B j hs A wr (HDb.out wr hb) hX hB hj1 hP hm hK hg hbB
  have Hru : Hid (∀ tr sm bm wr, Below w.heap.size w wr → RunI wr B tr b.d K hs g gcap sm bm j j → B ≤ wr.heap.size → Calls Tryz.prog 183 #[.pointer (some ⟨tr, 0, none⟩)] wr fun e w' => e = .returned (.int .i64 0) ∧ (∃ A' c', TraceX w' B tr b.d K hs g gcap sm bm A' c' (seenP 1 j) []) ∧ Below B wr w') :=
    fun tr sm bm wr hb hX hB => trrun_any B0 b m s tr K g gcap sm bm B j j hs wr (HDb.out wr hb) hX hB hj hP hm hK hg hbB
  clear hD hl hr hP hg hbB
  go_enter Tryz.func132, Tryz.ntmps132
  go_wp2_with fail
  rw [Hn1.out]
  refine Hnew.out.mono ?_
  generalize w.alloc _ = w1 at *
  rintro e w2 ⟨tr, sm, bm, rfl, hX2, hb2⟩
  have HX2 := Lib.hid hX2
  have hsz1 : w.heap.size ≤ w1.heap.size := HB1.out.size
  have HB2 : Hid (Below w.heap.size w w2) := HB1.out.trans (hb2.mono hB0)
  have HSz2 : Hid (B ≤ w2.heap.size) := by show B ≤ _; rw [← HBB.out]; exact hb2.size
  clear hX2 hb2 c0 Hnew
  go_wp2_with fail
  go_loopw [11, 22] (fun v11 v22 wr => ∃ i : Nat, v22 = .int .i64 i ∧ v11 = .int .i64 0 ∧ i ≤ n ∧ ((i = 0 ∧ TraceX wr B tr b.d K hs g gcap sm bm none 0 (fun _ => false) []) ∨ (1 ≤ i ∧ RunI wr B tr b.d K hs g gcap sm bm j j)) ∧ Below w.heap.size w wr ∧ B ≤ wr.heap.size) (fun _ v22 _ => n - (intOf v22).toNat)
  case atStart => exact ⟨0, rfl, rfl, Nat.zero_le _, .inl ⟨rfl, HX2.out⟩, HB2.out, HSz2.out⟩
  case round =>
    clear HX2 HB2 HSz2
    obtain ⟨i, rfl, rfl, hi, hX, hb, hsz⟩ := hrel
    have HX := Lib.hid hX
    have HB := Lib.hid hb
    have HSz := Lib.hid hsz
    clear hX hb hsz
    by_cases hin : i < n
    · obtain ⟨g2, off, rfl, hg, hc⟩ := (HRd.out wr HB.out).2 (by omega)
      have y0 : wr.cell? ⟨g2, off + i, none⟩ = some (.int .i64 (l.getD i 0 : Nat)) := hc i _ (ncells_at l i (by rw [hln]; exact hin))
      have HC : Hid (Calls Tryz.prog 182 #[.pointer (some ⟨tr, 0, none⟩), .int .i64 (l.getD i 0 : Nat)] wr fun e w' => e = .returned (.int .i64 0) ∧ RunI w' B tr b.d K hs g gcap sm bm j j ∧ Below B wr w') := by
        rcases HX.out with ⟨h0, hX⟩ | ⟨h1, hX⟩
        · subst h0
          rw [hl0]
          by_cases hj0 : j = 0
          · rw [if_pos hj0]
            refine (Hrz.out tr sm bm _ _ _ _ wr hX HSz.out).mono ?_
            rintro e w' ⟨rfl, hX', hb'⟩
            refine ⟨rfl, ⟨_, _, .inl ⟨hj0, hX'.conv (fun x => ?_)⟩⟩, hb'⟩
            rw [hj0]; exact (seenP_none 0 x).symm
          · rw [if_neg hj0]
            refine (Hra.out tr sm bm _ _ wr (by omega) HB.out hX HSz.out).mono ?_
            rintro e w' ⟨rfl, ⟨A', c', hX'⟩, hb'⟩
            exact ⟨rfl, ⟨A', c', .inr ⟨by omega, Nat.le_refl _, hX'⟩⟩, hb'⟩
        · rw [hl1 i h1]
          obtain ⟨A1, c1, hX⟩ := hX
          rcases hX with ⟨h0, hX⟩ | ⟨h2, h3, hX⟩
          · refine (Hrz.out tr sm bm _ _ _ _ wr hX HSz.out).mono ?_
            rintro e w' ⟨rfl, hX', hb'⟩
            exact ⟨rfl, ⟨_, _, .inl ⟨h0, hX'⟩⟩, hb'⟩
          · refine (Hrz.out tr sm bm _ _ _ _ wr hX HSz.out).mono ?_
            rintro e w' ⟨rfl, hX', hb'⟩
            exact ⟨rfl, ⟨_, _, .inr ⟨h2, h3, hX'⟩⟩, hb'⟩
      generalize l.getD i 0 = x at *
      clear hc HX hl0 hl1
      go_wp2_with fail
      refine HC.out.mono ?_
      rintro e w3 ⟨rfl, hX3, hb3⟩
      have HX3 := Lib.hid hX3
      have HB3 : Hid (Below w.heap.size w w3) := HB.out.trans (hb3.mono hB0)
      have HSz3 := Lib.hid (Nat.le_trans HSz.out hb3.size)
      clear hX3 hb3 HC y0
      go_wp2_with fail
      exact ⟨⟨i + 1, by go_num, by go_num, by omega, .inr ⟨by omega, HX3.out⟩, HB3.out, HSz3.out⟩, by simp [intOf]; omega⟩
    · have hi0 : i = n := by omega
      have HX1 : Hid (RunI wr B tr b.d K hs g gcap sm bm j j) := by
        rcases HX.out with ⟨h0, _⟩ | ⟨_, h⟩
        · omega
        · exact h
      subst hi0
      have HC := Lib.hid (Hru.out tr sm bm wr HB.out HX1.out HSz.out)
      clear hl0 hl1 HX
      go_wp2_with fail
      refine HC.out.mono ?_
      rintro e w3 ⟨rfl, ⟨A3, c3, hX3⟩, hb3⟩
      have HS := Lib.hid (trseen_any w3 B tr b.d K g gcap sm bm c3 hs A3 (seenP 1 j) [] (adrs j) hX3 (adrs_nodup j) (adrs_mem j) ((adrs_sorted j).imp (fun h => by omega)) (by rw [adrs_len]; omega))
      rw [adrs_len] at HS
      have HB3 : Hid (Below w.heap.size w w3) := HB.out.trans (hb3.mono hB0)
      clear hX3 hb3 HC
      go_wp2_with fail
      refine HS.out.mono ?_
      rintro e w4 ⟨A4, c4, rfl, hO4, hb4⟩
      have HO4 := Lib.hid (hO4.base_ HB3.out.size)
      have HB4 : Hid (Below w.heap.size w w4) := HB3.out.trans (hb4.mono HB3.out.size)
      clear hO4 hb4 HS
      go_wp2_with fail
      go_ret2
      exact ⟨A4, c4, rfl, HO4.out, HB4.out⟩
end Go.Proofs.YtcnjipicifkfjaaGreat

/- revive: Keep. -/
namespace Go.Proofs.YtcnjipicifkfjaaGreat
open Go.RowKit
set_option linter.unusedVariables false
set_option linter.unusedSimpArgs false

theorem run_slice_sub3 {P : Program} (t e : TypeId) (ht : P.underlying t = some (.slice e)) (hs : (P.info? e).map (·.size) = some 3) (g o n cap l h : Nat) (h1 : l ≤ h) (h2 : h ≤ cap) (h3 : l < cap) (L H : Int) (hL : L = l) (hH : H = h) (w : World) :
    (Instr.slice t (.slice (some ⟨g, o, none⟩) n cap) (some (.int .i64 L)) (some (.int .i64 H)) none).run P w = .ok (.slice (some ⟨g, o + l * 3, none⟩) (h - l) (cap - l)) w := by
  subst hL hH
  have he : P.elem t = e := by simp [Program.elem, ht]
  cases hq : P.info? e with
  | none => simp [hq] at hs
  | some i =>
    have hsz : i.size = 3 := by simpa [hq] using hs
    rw [run_slice_lh w t _ n cap (by rw [he]; exact ht) .i64 .i64 l h (by omega) (by omega) (by omega), he]
    simp only [sizeOf, typeInfo, Sem.run_bind, run_program, Result.andThen_ok, hq, Sem.run_pure, hsz, sliced, Int.toNat_natCast, Option.map_some]
    rw [if_neg (by omega)]
    have hadd : (⟨g, o, none⟩ : Addr).add (l * 3) = ⟨g, o + l * 3, none⟩ := by unfold Addr.add; split <;> simp_all
    rw [hadd]
theorem size178 : (Tryz.prog.info? 178).map (·.size) = some 3 := by kernel_rfl
theorem run_copy3 {P : Program} (w : World) (dT sT ty elem : TypeId) (g o dCap g2 o2 sCap : Nat) (a b c : Value) (hu : P.underlying dT = some (.slice elem)) (hs : (P.info? elem).map (·.size) = some 3)
    (s0 : w.cell? ⟨g2, o2, none⟩ = some a) (s1 : w.cell? ⟨g2, o2 + 1, none⟩ = some b) (s2 : w.cell? ⟨g2, o2 + 2, none⟩ = some c)
    (hc : ∀ j, j < 3 → (w.cell? ⟨g, o + j, none⟩).isSome = true) (hf : ∀ j, j < 3 → w.frozen? ⟨g, o + j, none⟩ = false) (h1 : a.oneCell' = true ∧ b.oneCell' = true ∧ c.oneCell' = true) :
    (Builtin.copy_ #[dT, sT] ty #[.slice (some ⟨g, o, none⟩) 1 dCap, .slice (some ⟨g2, o2, none⟩) 1 sCap]).run P w = .ok (goInt 1) (((w.setCell ⟨g, o, none⟩ a).setCell ⟨g, o + 1, none⟩ b).setCell ⟨g, o + 2, none⟩ c) := by
  have hl := run_loadCells_list (P := P) w ⟨g2, o2, none⟩ [a, b, c] (fun j v hv => by
    have hadd : (⟨g2, o2, none⟩ : Addr).add j = ⟨g2, o2 + j, none⟩ := by unfold Addr.add; split <;> simp_all
    rw [hadd]
    match j, hv with
    | 0, hv => cases hv; exact s0
    | 1, hv => cases hv; exact s1
    | 2, hv => cases hv; exact s2
    | n + 3, hv => simp at hv)
  have hst := run_storeCells_cells (P := P) g o [a, b, c] 0 w (by simpa using hc) (by simpa using hf) (by simpa using h1)
  cases hq : P.info? elem with
  | none => simp [hq] at hs
  | some i =>
    have hi : i.size = 3 := by simpa [hq] using hs
    simp at hl
    simp [Builtin.copy_, run_underlying hu, Builtin.lenOf, Builtin.firstCells, sizeOf, typeInfo, hq, hi, hl, hst, World.setCells]
/-- The headers that are right behind i objects of a pile. -/
def keepH (hs : List (Nat × Nat)) (K i : Nat) : List (Nat × Nat) := if i = 0 then List.replicate K (0, 0) else (List.replicate K (0, 0)).set 1 (hs.getD 1 (0, 0))
theorem keepH_next (hs : List (Nat × Nat)) (K i : Nat) : (keepH hs K i).set 1 (hs.getD 1 (0, 0)) = keepH hs K (i + 1) := by
  unfold keepH
  rw [if_neg (Nat.succ_ne_zero i)]
  split
  · rfl
  · rw [List.set_set]
set_option maxRecDepth 100000 in
set_option maxHeartbeats 2000000 in
theorem keep_any (K g gcap j cap : Nat) (hs : List (Nat × Nat)) (A : Option Addr) (w : World) (hl : Own w 0 178 3 (some ⟨g, 0, none⟩) K gcap (hcells hs)) (hr : Rd w 1 A j (ncells (adrs j))) (hj : j ≤ 170) (hK : 2 ≤ K) (hK2 : K ≤ 150) (hk1 : (hs.getD 1 (0, 0)).1 ≠ 2) :
    Calls Tryz.prog 94 #[.agg #[.int .i64 K], .slice (some ⟨g, 0, none⟩) K gcap, .slice A j cap] w fun e w' => ∃ g', e = .returned (.slice (some ⟨g', 0, none⟩) K K) ∧ Own w' w.heap.size 178 3 (some ⟨g', 0, none⟩) K K (hcells (keepH hs K j)) ∧ Below w.heap.size w w' := by
  have hhl : hs.length = K := by have := hl.len; rw [hcells_len] at this; omega
  have hmk := mk143 K (by omega)
  obtain ⟨n0, Hn0⟩ : ∃ n, Hid (w.heap.size = n) := ⟨_, rfl⟩
  obtain ⟨g1, Hg1⟩ : ∃ g, Hid (w.heap.size + 1 = g) := ⟨_, rfl⟩
  have HRd : Hid (∀ wr, Below w.heap.size w wr → Rd wr 1 A j (ncells (adrs j))) := fun wr hb => hr.below hb (Nat.le_refl _)
  have HLs : Hid (∀ wr, Below w.heap.size w wr → Own wr 0 178 3 (some ⟨g, 0, none⟩) K gcap (hcells hs)) := fun wr hb => hl.below hb (Nat.le_refl _)
  have HB : Hid (Below w.heap.size w ((w.alloc (.cells #[.int .i64 K] 64)).alloc (.cells (madeCells #[.int .i64 0, .int .i64 0, .int .i64 0] (K * 3)) 178))) := (below_box w _).alloc (by simp) _
  have HN0 : Hid (Blk ((w.alloc (.cells #[.int .i64 K] 64)).alloc (.cells (madeCells #[.int .i64 0, .int .i64 0, .int .i64 0] (K * 3)) 178)) n0 64 #[.int .i64 K]) := by rw [← Hn0.out]; exact (Blk.new w 64 _).alloc _
  have HO : Hid (Own ((w.alloc (.cells #[.int .i64 K] 64)).alloc (.cells (madeCells #[.int .i64 0, .int .i64 0, .int .i64 0] (K * 3)) 178)) w.heap.size 178 3 (some ⟨g1, 0, none⟩) K K (hcells (keepH hs K 0))) := own_madeH _ _ K g1 (by rw [← Hg1.out]; simp) (by rw [← Hg1.out]; omega) (by omega)
  have Hbo := Lib.hid (fun (a : Nat) w (ha : a < K * 512) => gblockof_any K a w ha (by omega))
  have Hwh : Hid (∀ wr, Below w.heap.size w wr → Calls Tryz.prog 134 #[.slice (some ⟨g, 0, none⟩) K gcap, .int .i64 (1 : Nat)] wr fun e w' => e = .returned (.tuple #[.int .i64 0, .bool false]) ∧ wr = w') := fun wr hb => whole_no g K gcap 1 hs wr (hl.below hb (Nat.le_refl _)) (by omega) (by omega) hk1
  have Hgl := Lib.hid (hl.lt _ rfl).2
  clear hl hr
  go_enter Tryz.func94, Tryz.ntmps94
  go_wp2_with fail
  rw [Hg1.out, Hn0.out]
  generalize (w.alloc _).alloc _ = w1 at *
  clear hmk
  go_loopw [19] (fun v19 wr => ∃ i : Nat, v19 = .int .i64 i ∧ i ≤ j ∧ Blk wr n0 64 #[.int .i64 K] ∧ Own wr w.heap.size 178 3 (some ⟨g1, 0, none⟩) K K (hcells (keepH hs K i)) ∧ Below w.heap.size w wr) (fun v19 _ => j - (intOf v19).toNat)
  case atStart => exact ⟨0, rfl, Nat.zero_le _, HN0.out, HO.out, HB.out⟩
  case round =>
    clear HN0 HO HB
    obtain ⟨i, rfl, hi, hn, hO, hb⟩ := hrel
    have HN0 := Lib.hid hn
    have HO := Lib.hid hO
    have HB := Lib.hid hb
    clear hn hO hb
    by_cases hij : i < j
    · obtain ⟨g2, off, rfl, hg2, hc⟩ := (HRd.out wr HB.out).2 (by omega)
      have y0 : wr.cell? ⟨g2, off + i, none⟩ = some (.int .i64 (adr (i + 1) : Nat)) := by rw [← adrs_at j i hij]; exact hc i _ (ncells_at _ i (by rw [adrs_len]; exact hij))
      have c0 : wr.cell? ⟨n0, 0, none⟩ = some (.int .i64 K) := HN0.out.cell 0
      have HC := Lib.hid (fun w => Hbo.out (adr (i + 1)) w (by unfold adr; omega))
      rw [show adr (i + 1) / 512 = 1 by unfold adr; omega] at HC
      generalize adr (i + 1) = a at *
      clear hc
      go_wp2_with fail
      refine (HC.out _).mono ?_
      rintro e w2 ⟨rfl, hb2⟩
      have HN2 := Lib.hid (HN0.out.below hb2 HN0.out.lt)
      have HO2 := Lib.hid (HO.out.below hb2 (Nat.le_refl _))
      have HB2 := Lib.hid (HB.out.trans (hb2.mono HB.out.size))
      have hwh := Lib.hid (Hwh.out _ HB2.out)
      have g1' : decide ((K : Int) ≤ 1) = false := by rw [decide_eq_false_iff_not]; omega
      have g2' : decide (K ≤ 1) = false := by rw [decide_eq_false_iff_not]; omega
      have g3' : decide ((1 : Int) ≥ (K : Int)) = false := by rw [decide_eq_false_iff_not]; omega
      clear hb2 HN0 HO HB y0 c0 HC
      go_wp2_with fail
      refine hwh.out.mono ?_
      rintro e _ ⟨rfl, rfl⟩
      have hs1 : ∀ w, (Instr.slice 143 (.slice (some ⟨g1, 0, none⟩) K K) (some (.int .i64 1)) (some (.int .i64 2)) none).run Tryz.prog w = .ok (.slice (some ⟨g1, 3, none⟩) 1 (K - 1)) w := fun w => run_slice_sub3 143 178 Tryz.underlying143 size178 g1 0 K K 1 2 (by omega) (by omega) (by omega) 1 2 rfl rfl w
      have hgc : K ≤ gcap := by
        obtain ⟨_, e, _, _, h, _⟩ := (HLs.out w2 HB2.out).at_ (by omega)
        exact h
      have hs2 : ∀ w, (Instr.slice 143 (.slice (some ⟨g, 0, none⟩) K gcap) (some (.int .i64 1)) (some (.int .i64 2)) none).run Tryz.prog w = .ok (.slice (some ⟨g, 3, none⟩) 1 (gcap - 1)) w := fun w => run_slice_sub3 143 178 Tryz.underlying143 size178 g 0 K gcap 1 2 (by omega) (by omega) (by omega) 1 2 rfl rfl w
      obtain ⟨x1, x2, x3⟩ := hcells_at hs 1 (by omega)
      obtain ⟨_, e, _, _, _, _, hx, _⟩ := (HLs.out w2 HB2.out).at_ (by omega)
      cases e
      have z1 := hx _ _ x1
      have z2 := hx _ _ x2
      have z3 := hx _ _ x3
      obtain ⟨_, e, _, _, _, _, hy, hf⟩ := HO2.out.at_ (by omega)
      cases e
      have hkl : (keepH hs K i).length = K := by unfold keepH; split <;> simp
      have hcp : (Builtin.copy_ #[143, 143] 3 #[.slice (some ⟨g1, 3, none⟩) 1 (K - 1), .slice (some ⟨g, 3, none⟩) 1 (gcap - 1)]).run Tryz.prog w2.drew = .ok (.int .i64 1) (((w2.drew.setCell ⟨g1, 3, none⟩ (.int .i64 (hs.getD 1 (0, 0)).1)).setCell ⟨g1, 4, none⟩ (.int .i64 (hs.getD 1 (0, 0)).2)).setCell ⟨g1, 5, none⟩ (.int .i64 0)) :=
        run_copy3 w2.drew 143 143 3 178 g1 3 (K - 1) g 3 (gcap - 1) _ _ _ Tryz.underlying143 size178 z1 z2 z3 (fun jj hjj => by
          have h3 : 3 + jj < (hcells (keepH hs K i)).length := by rw [hcells_len, hkl]; omega
          have := hy (3 + jj) _ (List.getElem?_eq_getElem h3)
          show (w2.cell? ⟨g1, 3 + jj, none⟩).isSome = true
          rw [this]; rfl) (fun jj _ => hf (3 + jj)) ⟨rfl, rfl, rfl⟩
      obtain ⟨W3, HW3⟩ : ∃ W3, Hid ((((w2.drew.setCell ⟨g1, 3, none⟩ (.int .i64 (hs.getD 1 (0, 0)).1)).setCell ⟨g1, 4, none⟩ (.int .i64 (hs.getD 1 (0, 0)).2)).setCell ⟨g1, 5, none⟩ (.int .i64 0)) = W3) := ⟨_, rfl⟩
      rw [HW3.out] at hcp
      have hg1w : w.heap.size ≤ g1 := (HO2.out.lt _ rfl).1
      have hn0g : n0 ≠ g1 := by rw [← Hn0.out, ← Hg1.out]; omega
      have HO3 : Hid (Own W3 w.heap.size 178 3 (some ⟨g1, 0, none⟩) K K (hcells (keepH hs K (i + 1)))) := by
        rw [← HW3.out, ← keepH_next]
        exact (HO2.out.drewN 1).setH 1 (by omega) _ _
      have HN3 : Hid (Blk W3 n0 64 #[.int .i64 K]) := by
        rw [← HW3.out]
        exact (((HN2.out.drew).far (p := ⟨g1, 3, none⟩) hn0g _).far (p := ⟨g1, 4, none⟩) hn0g _).far (p := ⟨g1, 5, none⟩) hn0g _
      have HB3 : Hid (Below w.heap.size w W3) := by
        rw [← HW3.out]
        exact (((below_drewN HB2.out 1).setCell (p := ⟨g1, 3, none⟩) hg1w _).setCell (p := ⟨g1, 4, none⟩) hg1w _).setCell (p := ⟨g1, 5, none⟩) hg1w _
      clear x1 x2 x3 hx z1 z2 z3 hy hf hkl HO2 HN2 HB2 hwh hn0g hg1w
      go_wp2_with fail
      go_region
      clear hs1 hs2 hcp hgc g1' g2' g3'
      go_wp2_with fail
      exact ⟨⟨i + 1, by go_num, by omega, HN3.out, HO3.out, HB3.out⟩, by simp [intOf]; omega⟩
    · obtain rfl : i = j := by omega
      go_wp2_with fail
      go_ret
      exact ⟨g1, rfl, HO.out, HB.out⟩
end Go.Proofs.YtcnjipicifkfjaaGreat

/- revive: write. -/
namespace Go.Proofs.YtcnjipicifkfjaaGreat
open Go.RowKit
set_option linter.unusedVariables false
set_option linter.unusedSimpArgs false

theorem mod_b' {w w' : World} {F : Nat → Prop} (h : Below w.heap.size w w') : Mod w w' F := (Mod.of_below h).mono (fun k h1 h2 => absurd h2 (Nat.not_le.2 h1))
theorem eq178g (a b a' b' : Nat) : ∀ w, (binOp .eql 178 (.agg #[.int .i64 a, .int .i64 b, .int .i64 0]) (.agg #[.int .i64 a', .int .i64 b', .int .i64 0])).run Tryz.prog w = .ok (.bool (decide (a = a' ∧ b = b'))) w := by
  intro w
  have hf : Tryz.prog.fieldsOf 178 = #[{ name := "Kind", type := 3, offset := 0, embedded := false, tag := "", pkgPath := "", byteOffset := 0 }, { name := "Class", type := 3, offset := 1, embedded := false, tag := "", pkgPath := "", byteOffset := 8 }, { name := "Len", type := 3, offset := 2, embedded := false, tag := "", pkgPath := "", byteOffset := 16 }] := by simp [Program.fieldsOf, Tryz.underlying178]
  have h := run_equalIn_struct (P := Tryz.prog) w 9999 178 #[.int .i64 a, .int .i64 b, .int .i64 0] #[.int .i64 a', .int .i64 b', .int .i64 0] (by rw [hf]; exact Tryz.underlying178) (by kernel_rfl)
  have hi : ∀ (a b : Int), (Op.equalIn 9999 3 (.int .i64 a) (.int .i64 b)).run Tryz.prog w = .ok (a == b) w := fun a b => by
    unfold Op.equalIn
    simp [run_underlying Tryz.underlying3]
  have p0 : ∀ (a b c : Value), (part 3 #[a, b, c] 0).run Tryz.prog w = .ok a w := fun a b c => by kernel_rfl
  have p1 : ∀ (a b c : Value), (part 3 #[a, b, c] 1).run Tryz.prog w = .ok b w := fun a b c => by kernel_rfl
  have p2 : ∀ (a b c : Value), (part 3 #[a, b, c] 2).run Tryz.prog w = .ok c w := fun a b c => by kernel_rfl
  have h2 : (Op.equal 178 (.agg #[.int .i64 a, .int .i64 b, .int .i64 0]) (.agg #[.int .i64 a', .int .i64 b', .int .i64 0])).run Tryz.prog w = .ok (decide (a = a' ∧ b = b')) w := by
    show (Op.equalIn 10000 178 _ _).run Tryz.prog w = _
    rw [h, hf]
    simp only [Op.eqFields, Sem.run_bind, Sem.run_ite, p0, p1, p2, hi, Result.andThen_ok, Sem.run_pure]
    by_cases h1 : a = a' <;> by_cases h3 : b = b' <;> simp [h1, h3, Sem.run_pure]
    all_goals omega
  simp only [binOp, Sem.run_bind, h2, Result.andThen_ok, Sem.run_pure]
def wrS (was now : List (Nat × Nat)) : Nat → List Step
  | 0 => []
  | t + 1 => wrS was now t ++ (if was.getD (t + 1) (0, 0) = now.getD (t + 1) (0, 0) then [] else [.st (256 + (t + 1)) (hword (t + 1) (now.getD (t + 1) (0, 0)).1 (now.getD (t + 1) (0, 0)).2)])
def writeHS (was now : List (Nat × Nat)) (K : Nat) : List Step := if wrS was now (K - 1) = [] then [] else wrS was now (K - 1) ++ persistS 257 (K - 1)
set_option maxRecDepth 100000 in
set_option maxHeartbeats 2000000 in
theorem rvwrite_any (B : Nat) (b : DB) (m : Nat) (s : DS) (K g gcap g2 gcap2 : Nat) (was now : List (Nat × Nat)) (w : World) (h : Dev B w b m s) (hl : s.Live) (hK : 2 ≤ K) (hK2 : K ≤ 150) (hm : m = K * 64)
    (h1 : Own w 0 178 3 (some ⟨g, 0, none⟩) K gcap (hcells was)) (h2 : Own w 0 178 3 (some ⟨g2, 0, none⟩) K gcap2 (hcells now)) (hg : ¬ b.has g) (hg2 : ¬ b.has g2) (hH : ∀ b, b < K → Hdr (now.getD b (0, 0)).1 (now.getD b (0, 0)).2) :
    Calls Tryz.prog 93 #[.pointer (some ⟨b.d, 0, none⟩), .agg #[.int .i64 K], .slice (some ⟨g, 0, none⟩) K gcap, .slice (some ⟨g2, 0, none⟩) K gcap2] w fun e w' => e = .returned (.int .i64 0) ∧ Dev B w' b m (exec s (writeHS was now K)).1 ∧ Mod w w' b.has := by
  have HL := Lib.hid hl
  have hm2 : m ≤ 100000 := by omega
  have Hlt := Lib.hid h.lt
  have hwl : was.length = K := by have := h1.len; rw [hcells_len] at this; omega
  have hnl : now.length = K := by have := h2.len; rw [hcells_len] at this; omega
  have HW : Hid (∀ wr, Mod w wr b.has → Own wr 0 178 3 (some ⟨g, 0, none⟩) K gcap (hcells was)) := fun wr hM => h1.mod hM (fun a ha => by cases ha; exact hg)
  have HN : Hid (∀ wr, Mod w wr b.has → Own wr 0 178 3 (some ⟨g2, 0, none⟩) K gcap2 (hcells now)) := fun wr hM => h2.mod hM (fun a ha => by cases ha; exact hg2)
  have Hg := Lib.hid (fun (bb : Nat) (w : World) (h0 : 1 ≤ bb) (h1 : bb < K) => gheader_any K bb w h0 h1 (by omega))
  have He := Lib.hid (fun (bb kd cl : Nat) (w : World) (h1 : bb < K) (hh : Hdr kd cl) => bhenc_any bb kd cl w hh (by omega))
  obtain ⟨n0, Hn0⟩ : ∃ n, Hid (w.heap.size = n) := ⟨_, rfl⟩
  have HD0 : Hid (Dev B (w.alloc (.cells #[.int .i64 K] 64)) b m s) := h.below (below_box w _) (Nat.le_refl _)
  have HB0 : Hid (Blk (w.alloc (.cells #[.int .i64 K] 64)) n0 64 #[.int .i64 K]) := by rw [← Hn0.out]; exact Blk.new w 64 _
  have HM0 : Hid (Mod w (w.alloc (.cells #[.int .i64 K] 64)) b.has) := (Mod.refl w b.has).alloc _
  have hn0 : ¬ b.has n0 := fun hk => by have := (h.lt n0 hk).2; rw [Hn0.out] at this; omega
  obtain ⟨F, HF⟩ : ∃ F, Hid (writeHS was now K = F) := ⟨_, rfl⟩
  rw [HF.out]
  clear h hl h1 h2
  go_enter Tryz.func93, Tryz.ntmps93
  go_wp2_with fail
  rw [Hn0.out]
  generalize w.alloc _ = w1 at *
  go_loopw [9, 10] (fun v9 v10 wr => ∃ (t : Nat) (u : DS) (r : Bool), v10 = .int .i64 ((t + 1 : Nat) : Int) ∧ v9 = .bool r ∧ r = decide (wrS was now t ≠ []) ∧ t + 1 ≤ K ∧ u.Live ∧ (exec s (wrS was now t)).1 = u ∧ Dev B wr b m u ∧ Blk wr n0 64 #[.int .i64 K] ∧ Mod w wr b.has) (fun _ v10 _ => K - (intOf v10).toNat)
  case atStart => exact ⟨0, s, false, rfl, rfl, rfl, by omega, HL.out, rfl, HD0.out, HB0.out, HM0.out⟩
  case round =>
    clear HD0 HB0 HM0
    obtain ⟨t, u, r, rfl, rfl, hr, ht, hul, hu, hd, hb, hM⟩ := hrel
    have Hr := Lib.hid hr
    have Hul := Lib.hid hul
    have Hu := Lib.hid hu
    have HD := Lib.hid hd
    have HB := Lib.hid hb
    have HM := Lib.hid hM
    have hOw := HW.out wr hM
    have hOn := HN.out wr hM
    clear hr hul hu hd hb hM
    obtain ⟨j, Hj⟩ : ∃ j, Hid (t + 1 = j) := ⟨_, rfl⟩
    have hj1 : 1 ≤ j := by rw [← Hj.out]; omega
    rw [Hj.out] at ht ⊢
    by_cases hjK : j < K
    · obtain ⟨x1, x2, x3⟩ := hcells_at was j (by omega)
      obtain ⟨_, e, _, _, _, _, hx, _⟩ := hOw.at_ (by omega)
      cases e
      have a1 := hx _ _ x1
      have a2 := hx _ _ x2
      have a3 := hx _ _ x3
      obtain ⟨x1, x2, x3⟩ := hcells_at now j (by omega)
      obtain ⟨_, e, _, _, _, _, hx, _⟩ := hOn.at_ (by omega)
      cases e
      have b1 := hx _ _ x1
      have b2 := hx _ _ x2
      have b3 := hx _ _ x3
      have HS : Hid (wrS was now j = wrS was now t ++ (if was.getD j (0, 0) = now.getD j (0, 0) then [] else [.st (256 + j) (hword j (now.getD j (0, 0)).1 (now.getD j (0, 0)).2)])) := by show _ = _; rw [← Hj.out]; rfl
      have HH := Lib.hid (hH j hjK)
      have hpe : (was.getD j (0, 0) = now.getD j (0, 0)) ↔ ((was.getD j (0, 0)).1 = (now.getD j (0, 0)).1 ∧ (was.getD j (0, 0)).2 = (now.getD j (0, 0)).2) := Prod.ext_iff
      rw [show (if was.getD j (0, 0) = now.getD j (0, 0) then ([] : List Step) else [.st (256 + j) (hword j (now.getD j (0, 0)).1 (now.getD j (0, 0)).2)]) = if ((was.getD j (0, 0)).1 = (now.getD j (0, 0)).1 ∧ (was.getD j (0, 0)).2 = (now.getD j (0, 0)).2) then [] else [.st (256 + j) (hword j (now.getD j (0, 0)).1 (now.getD j (0, 0)).2)] by simp only [hpe]] at HS
      generalize (was.getD j (0, 0)).1 = p1 at *
      generalize (was.getD j (0, 0)).2 = p2 at *
      generalize (now.getD j (0, 0)).1 = q1 at *
      generalize (now.getD j (0, 0)).2 = q2 at *
      have heq := eq178g p1 p2 q1 q2
      clear hx x1 x2 x3 hOw hOn hpe
      by_cases hpq : p1 = q1 ∧ p2 = q2
      · have HS2 : Hid (wrS was now j = wrS was now t) := by show _ = _; rw [HS.out, if_pos hpq, List.append_nil]
        rw [decide_eq_true hpq] at heq
        clear hpq HS HH
        go_wp2_with fail
        go_region
        go_wp2_with fail
        exact ⟨⟨j, u, r, by go_num, rfl, by rw [HS2.out]; exact Hr.out, by omega, Hul.out, by rw [HS2.out]; exact Hu.out, HD.out.drewN 1, HB.out.drew, HM.out.drewN 1⟩, by simp [intOf]; omega⟩
      · rw [decide_eq_false hpq] at heq
        have HS2 : Hid (wrS was now j = wrS was now t ++ [.st (256 + j) (hword j q1 q2)]) := by show _ = _; rw [HS.out, if_neg hpq]
        clear hpq HS
        go_wp2_with fail
        go_region
        obtain ⟨w2, Hw2⟩ : ∃ w2, Hid (wr.drew = w2) := ⟨_, rfl⟩
        rw [Hw2.out]
        have HD2 : Hid (Dev B w2 b m u) := by rw [← Hw2.out]; exact HD.out.drewN 1
        have HB2 : Hid (Blk w2 n0 64 #[.int .i64 K]) := by rw [← Hw2.out]; exact HB.out.drew
        have HM2 : Hid (Mod w w2 b.has) := by rw [← Hw2.out]; exact HM.out.drewN 1
        have c0 : w2.cell? ⟨n0, 0, none⟩ = some (.int .i64 K) := HB2.out.cell 0
        have d1 : w2.cell? ⟨g2, j * 3, none⟩ = some (.int .i64 q1) := by rw [← Hw2.out]; exact b1
        have d2 : w2.cell? ⟨g2, j * 3 + 1, none⟩ = some (.int .i64 q2) := by rw [← Hw2.out]; exact b2
        have d3 : w2.cell? ⟨g2, j * 3 + 2, none⟩ = some (.int .i64 0) := by rw [← Hw2.out]; exact b3
        have hg2w : g2 < w2.heap.size := cell_lt d1
        clear a1 a2 a3 b1 b2 b3 HD HB HM
        obtain ⟨q, Hq⟩ : ∃ q, Hid (256 + j = q) := ⟨_, rfl⟩
        obtain ⟨v, Hv⟩ : ∃ v, Hid (hword j q1 q2 = v) := ⟨_, rfl⟩
        rw [Hq.out, Hv.out] at HS2
        have Hgq : Hid (∀ w, Calls Tryz.prog 116 #[.agg #[.int .i64 K], .int .i64 j] w fun e w' => e = .returned (.int .i64 q) ∧ Below w.heap.size w w') := fun w => by have := Hg.out j w hj1 hjK; rwa [Hq.out] at this
        have Heq : Hid (∀ w, Calls Tryz.prog 117 #[.int .i64 j, .agg #[.int .i64 q1, .int .i64 q2, .int .i64 0]] w fun e w' => e = .returned (.int .u64 v) ∧ Below w.heap.size w w') := fun w => by have := He.out j q1 q2 w hjK HH.out; rwa [Hv.out] at this
        have Hst : Hid (∀ w, Dev B w b m u → Calls Tryz.prog 115 #[.pointer (some ⟨b.d, 0, none⟩), .int .i64 q, .int .u64 v] w fun e w' => e = .returned (.int .i64 0) ∧ Dev B w' b m (exec u [.st q v]).1 ∧ Mod w w' b.has) := fun w h => by
          have := store_any B b m u q v w h (by rw [← Hq.out]; omega) hm2
          rwa [ecode_live Hul.out] at this
        have HBb : Hid (Below w2.heap.size w2 w2) := Below.refl _ _
        have HC : Hid (∀ W, Below w2.heap.size w2 W → W.cell? ⟨n0, 0, none⟩ = some (.int .i64 K) ∧ W.cell? ⟨g2, j * 3, none⟩ = some (.int .i64 q1) ∧ W.cell? ⟨g2, j * 3 + 1, none⟩ = some (.int .i64 q2) ∧ W.cell? ⟨g2, j * 3 + 2, none⟩ = some (.int .i64 0)) := by
          intro W hb
          exact ⟨(HB2.out.below hb HB2.out.lt).cell 0, (hb.cell (p := ⟨g2, j * 3, none⟩) hg2w).trans d1, (hb.cell (p := ⟨g2, j * 3 + 1, none⟩) hg2w).trans d2, (hb.cell (p := ⟨g2, j * 3 + 2, none⟩) hg2w).trans d3⟩
        have HBd := Lib.hid (below_drewN HBb.out 1)
        go_wp2_with fail
        go_region_held3 (fun W => W.cell? ⟨n0, 0, none⟩ = some (.int .i64 K) ∧ W.cell? ⟨g2, j * 3, none⟩ = some (.int .i64 q1) ∧ W.cell? ⟨g2, j * 3 + 1, none⟩ = some (.int .i64 q2) ∧ W.cell? ⟨g2, j * 3 + 2, none⟩ = some (.int .i64 0))
          (first | exact HC.out _ HBb.out | exact HC.out _ HBd.out | exact HY.out)
          (first
            | (go_at_call 116; refine (Hgq.out _).mono ?_; rintro e w3 ⟨rfl, hb3⟩; replace HBd := Lib.hid (HBd.out.trans (hb3.mono HBd.out.size)); clear hb3)
            | (go_at_call 117; refine (Heq.out _).mono ?_; rintro e w3 ⟨rfl, hb3⟩; replace HBd := Lib.hid (HBd.out.trans (hb3.mono HBd.out.size)); clear hb3)
            | (go_at_call 115; refine (Hst.out _ (HD2.out.below HBd.out (Nat.le_refl _))).mono ?_; rintro e w4 ⟨rfl, hd4, hm4⟩; have HD4 := Lib.hid hd4; have HM4 : Hid (Mod w w4 b.has) := (HM2.out.trans (mod_b' HBd.out : Mod w2 _ b.has) (fun _ _ h => h)).trans hm4 (fun _ _ h => h); have HB4 := Lib.hid (hm4.blk (HB2.out.below HBd.out HB2.out.lt) hn0); have HY : Hid (w4.cell? ⟨n0, 0, none⟩ = some (.int .i64 K) ∧ w4.cell? ⟨g2, j * 3, none⟩ = some (.int .i64 q1) ∧ w4.cell? ⟨g2, j * 3 + 1, none⟩ = some (.int .i64 q2) ∧ w4.cell? ⟨g2, j * 3 + 2, none⟩ = some (.int .i64 0)) := ⟨HB4.out.cell 0, cell_mod hm4 (HC.out _ HBd.out).2.1 hg2, cell_mod hm4 (HC.out _ HBd.out).2.2.1 hg2, cell_mod hm4 (HC.out _ HBd.out).2.2.2 hg2⟩; clear hd4 hm4))
        all_goals
          clear c0 d1 d2 d3
          go_wp2_with fail
          exact ⟨⟨j, _, true, by go_num, rfl, by rw [HS2.out]; simp, by omega, (exec_live Hul.out _).2, by rw [HS2.out, exec_snoc HL.out, Hu.out], HD4.out, HB4.out, HM4.out⟩, by simp [intOf]; omega⟩
    · obtain rfl : j = K := by omega
      have htK : j - 1 = t := by have := Hj.out; omega
      cases r with
      | false =>
        have HE : Hid (wrS was now t = []) := by
          have h := Hr.out
          simp at h
          exact h
        have HF2 : Hid (F = []) := by show _ = _; rw [← HF.out]; unfold writeHS; rw [htK, if_pos HE.out]
        have hus : s = u := by rw [← Hu.out, HE.out]; rfl
        clear hOw hOn
        go_wp2_with fail
        go_ret
        rw [HF2.out]
        exact ⟨rfl, by rw [show (exec s []).1 = u from hus]; exact HD.out, HM.out⟩
      | true =>
        have HE : Hid (wrS was now t ≠ []) := by
          have h := Hr.out
          simp at h
          exact h
        have HF2 : Hid (F = wrS was now t ++ persistS 257 t) := by show _ = _; rw [← HF.out]; unfold writeHS; rw [htK, if_neg HE.out]
        have c0 : wr.cell? ⟨n0, 0, none⟩ = some (.int .i64 j) := HB.out.cell 0
        have Hg1 : Hid (∀ w, Calls Tryz.prog 116 #[.agg #[.int .i64 j], .int .i64 1] w fun e w' => e = .returned (.int .i64 257) ∧ Below w.heap.size w w') := fun w => Hg.out 1 w (by omega) (by omega)
        have hj3 : (j : Int) - 1 = (t : Int) := by have := Hj.out; omega
        have hwr : IntKind.i64.wrap (t : Int) = (t : Int) := by rw [IntKind.wrap_i64]; omega
        have hwr2 : IntKind.i64.wrap ((j : Int) - 1) = (t : Int) := by rw [hj3]; exact hwr
        have ht1 : 0 < t := by omega
        have ht2 : 257 + t ≤ 8 * m := by omega
        have Hp : Hid (∀ w, Dev B w b m u → Calls Tryz.prog 118 #[.pointer (some ⟨b.d, 0, none⟩), .int .i64 257, .int .i64 t] w fun e w' => e = .returned (.int .i64 0) ∧ Dev B w' b m (exec u (persistS 257 t)).1 ∧ Mod w w' b.has) := fun w h => by
          have := persist_any B b m u 257 t w h ht1 ht2 hm2
          rwa [ecode_live Hul.out] at this
        clear hOw hOn
        go_wp2_with fail
        refine (Hg1.out _).mono ?_
        rintro e w2 ⟨rfl, hb2⟩
        have HD2 := Lib.hid (HD.out.below hb2 (Nat.le_refl _))
        have HM2 : Hid (Mod w w2 b.has) := HM.out.trans (mod_b' hb2 : Mod wr w2 b.has) (fun _ _ h => h)
        clear hb2
        go_wp2_with fail
        refine (Hp.out _ HD2.out).mono ?_
        rintro e w3 ⟨rfl, hd3, hm3⟩
        have HD3 := Lib.hid hd3
        have HM3 := Lib.hid (HM2.out.trans hm3 (fun _ _ h => h))
        clear hd3 hm3
        go_wp2_with fail
        go_ret
        rw [HF2.out, exec_live_app HL.out, Hu.out]
        exact ⟨rfl, HD3.out, HM3.out⟩
end Go.Proofs.YtcnjipicifkfjaaGreat
