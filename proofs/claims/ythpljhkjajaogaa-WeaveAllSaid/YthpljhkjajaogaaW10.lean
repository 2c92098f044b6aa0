/- The walks of Lists and Weave. -/
import Derived.Test.YthpljhkjajaogaaW8
namespace Go.Proofs.Ythpljhkjajaogaa
open Go.RowKit
set_option linter.unusedVariables false
set_option linter.unusedSimpArgs false

/-- Strands in memory: m slices, one behind the other. -/
def Strs (w : World) (As : Option Addr) (m : Nat) (sA : Nat → Option Addr) (sn sc : Nat → Nat) : Prop :=
  ∃ g off, As = some ⟨g, off, none⟩ ∧ g < w.heap.size ∧ ∀ j, j < m → w.cell? ⟨g, off + j, none⟩ = some (.slice (sA j) (sn j) (sc j))
/-- What the strands hold. -/
def Vals (w : World) (m : Nat) (sA : Nat → Option Addr) (sn : Nat → Nat) (sv : Nat → List Int) : Prop :=
  ∀ j, j < m → 0 < sn j → ∃ g off, sA j = some ⟨g, off, none⟩ ∧ g < w.heap.size ∧ ∀ i, i < sn j → w.cell? ⟨g, off + i, none⟩ = some (.int .u64 ((sv j).getD i 0))
theorem Strs.below {w w' : World} {As : Option Addr} {m B : Nat} {sA : Nat → Option Addr} {sn sc : Nat → Nat} (h : Strs w As m sA sn sc) (hb : Below B w w') (hB : w.heap.size ≤ B) : Strs w' As m sA sn sc := by
  obtain ⟨g, off, h1, h2, h3⟩ := h
  exact ⟨g, off, h1, Nat.lt_of_lt_of_le h2 hb.size, fun j hj => (hb.cell (p := ⟨g, off + j, none⟩) (Nat.lt_of_lt_of_le h2 hB)).trans (h3 j hj)⟩
theorem Vals.below {w w' : World} {m B : Nat} {sA : Nat → Option Addr} {sn : Nat → Nat} {sv : Nat → List Int} (h : Vals w m sA sn sv) (hb : Below B w w') (hB : w.heap.size ≤ B) : Vals w' m sA sn sv := fun j hj h0 => by
  obtain ⟨g, off, h1, h2, h3⟩ := h j hj h0
  exact ⟨g, off, h1, Nat.lt_of_lt_of_le h2 hb.size, fun i hi => (hb.cell (p := ⟨g, off + i, none⟩) (Nat.lt_of_lt_of_le h2 hB)).trans (h3 i hi)⟩

/-- The strands' lengths. -/
def lens (sn : Nat → Nat) (m : Nat) : List Nat := (List.range m).map sn
theorem lens_succ (sn : Nat → Nat) (m : Nat) : lens sn (m + 1) = lens sn m ++ [sn m] := by simp [lens, List.range_succ]
def LsHead (m B : Nat) (sn : Nat → Nat) (w : World) (v2 v9 : Value) (wr : World) : Prop :=
  ∃ (j : Nat) (A : Option Addr) (cap : Nat), v9 = .int .i64 j ∧ j ≤ m ∧ v2 = .slice A j cap ∧ Own wr B 3 1 A j cap (icells (lens sn j)) ∧ Below B w wr

set_option maxHeartbeats 1000000 in
theorem lists_any (As : Option Addr) (m cap : Nat) (sA : Nat → Option Addr) (sn sc : Nat → Nat) (w : World) (hm : m ≤ 100) (hs : Strs w As m sA sn sc) (hn : ∀ j, j < m → sn j ≤ 100000) :
    Calls Try.prog 17 #[.slice As m cap] w fun e w' => ∃ A' cap', e = .returned (.slice A' m cap') ∧ Own w' w.heap.size 3 1 A' m cap' (icells (lens sn m)) ∧ Below w.heap.size w w' := by
  obtain ⟨i0, hi0, hz0, hz1, hz2⟩ := info3s
  have Hs := Lib.hid hs
  have Hn := Lib.hid hn
  clear hs hn
  go_enter Try.func17, Try.ntmps17
  go_wp2_with fail
  go_loopw [3, 8] (fun v3 v8 wr => LsHead m w.heap.size sn w v3 v8 wr) (fun _ v8 _ => m - (intOf v8).toNat)
  case atStart => exact ⟨0, none, 0, rfl, Nat.zero_le _, rfl, Own.nil _ _ _ _, Below.refl _ _⟩
  case round =>
    obtain ⟨j, A2, cap2, rfl, hj, rfl, hO, hb⟩ := hrel
    have Hb := Lib.hid hb
    have HO := Lib.hid hO
    clear hb hO
    have hBs := Hb.out.size
    by_cases hlt : j < m
    · obtain ⟨g, off, rfl, hg, hc⟩ := Hs.out.below Hb.out (Nat.le_refl _)
      have c0 := hc j hlt
      have hnj := Hn.out j hlt
      clear hc
      go_wp2_with (at_builtin; (refine append_elem rfl (.tmp 12) (.tmp 15) 22 rfl w.heap.size 3 i0 _ 1 8 Try.underlying22 hi0 hz0 hz1 hz2 rfl (by omega) A2 j cap2 _ rfl HO.out [.int .i64 (sn j : Nat)] rfl rfl (by simp [Value.oneCell']) (by unfold maxLen; omega) (by omega) hBs ?_))
      intro A5 cap5 w5 hO5 hM5 hat5
      have HO5 := Lib.hid hO5
      have Hb5 := Lib.hid (Below.mod Hb.out hM5 hBs (fun k _ ⟨a, ha, e⟩ => by rw [← e]; exact (HO.out.lt a ha).1))
      clear hO5 hM5 hat5
      go_wp2_with fail
      exact ⟨⟨j + 1, A5, cap5, by go_num, by omega, rfl, by rw [lens_succ, icells_snoc]; exact HO5.out, Hb5.out⟩, by simp [intOf]; omega⟩
    · have hje : m = j := by omega
      subst hje
      go_wp2_with fail
      go_ret
      exact ⟨A2, cap2, rfl, HO.out, Hb.out⟩

/-- The things of the strands, in an order. -/
def woven (sv : Nat → List Int) (ts : List (Nat × Nat)) : List Value := ts.map fun x => Value.int .u64 ((sv x.1).getD x.2 0)
theorem woven_snoc (sv : Nat → List Int) (ts : List (Nat × Nat)) (i : Nat) (h : i < ts.length) : woven sv (ts.take (i + 1)) = woven sv (ts.take i) ++ [.int .u64 ((sv (ts.getD i (0, 0)).1).getD (ts.getD i (0, 0)).2 0)] := by
  unfold woven
  rw [List.take_add_one, List.getElem?_eq_getElem h, Option.toList_some, List.map_append, List.getD_eq_getElem?_getD (l := ts), List.getElem?_eq_getElem h]
  rfl
def ilens (sn : Nat → Nat) (m : Nat) : List Int := (List.range m).map fun j => ((sn j : Nat) : Int)
theorem lens_getD (sn : Nat → Nat) (m j : Nat) (h : j < m) : (ilens sn m).getD j 0 = (sn j : Int) := by
  unfold ilens
  simp [List.getD_eq_getElem?_getD, h]
theorem lens_len (sn : Nat → Nat) (m : Nat) : (ilens sn m).length = m := by simp [ilens]
theorem Own.irow {w : World} {B cap m : Nat} {A : Option Addr} {sn : Nat → Nat} (h : Own w B 3 1 A m cap (icells (lens sn m))) : Row w A m 1 (fun i => [.int .i64 ((ilens sn m).getD i 0)]) := by
  intro hn
  obtain ⟨g, rfl, _, hg, _, _, hc, _⟩ := h.at_ hn
  refine ⟨g, 0, rfl, hg, fun i hi j u hu => ?_⟩
  match j, hu with
  | 0, hu =>
    have e := lens_getD sn m i hi
    simp only [List.getElem?_cons_zero, Option.some.injEq, e] at hu
    subst hu
    have := hc i (.int .i64 (sn i : Nat)) (by simp [icells, lens, hi])
    simpa using this
def WvHead (ts : List (Nat × Nat)) (sv : Nat → List Int) (k B : Nat) (w : World) (v3 v : Value) (wr : World) : Prop :=
  ∃ (i : Nat) (A : Option Addr) (cap : Nat), v = .int .i64 i ∧ i ≤ k ∧ v3 = .slice A i cap ∧ Own wr B 42 1 A i cap (woven sv (ts.take i)) ∧ Below B w wr
theorem info42 : (Try.prog.info? 42).map (fun i => (i.size, i.bytes, i.zero)) = some (1, 8, some (.int .u64 0)) := by kernel_rfl
theorem info42s : ∃ i, Try.prog.info? 42 = some i ∧ i.zero = some (.int .u64 0) ∧ i.size = 1 ∧ i.bytes = 8 := by
  obtain ⟨i, hi, hi2⟩ := Option.map_eq_some_iff.1 info42
  simp only [Prod.mk.injEq] at hi2
  exact ⟨i, hi, hi2.2.2, hi2.1, hi2.2.1⟩

/-- Each thing of an order is one of its strand's. -/
theorem st_things (ls ps : List Int) (k j : Nat) (hE : Ends ls ps k) (h : j < k) : ((st ls ps k).1.getD j (0, 0)).1 < ls.length ∧ ((((st ls ps k).1.getD j (0, 0)).2 : Nat) : Int) < ls.getD ((st ls ps k).1.getD j (0, 0)).1 0 := by
  rw [st_pre ls ps k j h]
  exact pick_left (hE.2 j h)

set_option maxRecDepth 100000 in
set_option maxHeartbeats 2000000 in
theorem weave_any (A2 : Option Addr) (len2 cap2 : Nat) (ps : List Int) (As : Option Addr) (m cap : Nat) (sA : Nat → Option Addr) (sn sc : Nat → Nat) (sv : Nat → List Int) (w : World) (hm : m ≤ 100)
    (hrow2 : Row w A2 len2 1 (fun i => [.int .u8 (ps.getD i 0)])) (hl2 : ps.length = len2) (hlen2 : len2 ≤ 9223372036854775807) (hps : ∀ i, i < len2 → 0 ≤ ps.getD i 0 ∧ ps.getD i 0 ≤ 255)
    (hs : Strs w As m sA sn sc) (hv : Vals w m sA sn sv) (hn : ∀ j, j < m → sn j ≤ 1000) (htot : total (ilens sn m) ≤ 100000) :
    Calls Try.prog 16 #[.slice A2 len2 cap2, .slice As m cap] w fun e w' => ∃ k A' cap', e = .returned (.slice A' k cap') ∧ Ends (ilens sn m) ps k ∧
      Own w' w.heap.size 42 1 A' k cap' (woven sv (st (ilens sn m) ps k).1) ∧ Below w.heap.size w w' := by
  obtain ⟨i0, hi0, hz0, hz1, hz2⟩ := info42s
  have Hs := Lib.hid hs
  have Hv := Lib.hid hv
  have Hn := Lib.hid hn
  have Htot := Lib.hid htot
  have Hrow2 := Lib.hid hrow2
  have Hl2 := Lib.hid hl2
  have Hps := Lib.hid hps
  have Hll := Lib.hid (lens_len sn m)
  have Hlg := Lib.hid (fun j => lens_getD sn m j)
  clear hs hv hn htot hrow2 hl2 hps
  obtain ⟨ls, Hls⟩ : ∃ ls, Hid (ilens sn m = ls) := ⟨_, rfl⟩
  rw [Hls.out]
  rw [Hls.out] at Hll Htot Hlg
  go_enter Try.func16, Try.ntmps16
  go_wp2_with fail
  refine (lists_any As m cap sA sn sc w hm Hs.out (fun j hj => Nat.le_trans (Hn.out j hj) (by omega))).mono ?_
  rintro e w1 ⟨A3, cap3, rfl, hO3, hb3⟩
  have Hb3 := Lib.hid hb3
  have Hr3 := Lib.hid hO3.irow
  rw [Hls.out] at Hr3
  clear hO3 hb3
  go_wp2_with fail
  refine (order_any A3 m cap3 ls A2 len2 cap2 ps _ Hll.out hm Htot.out Hr3.out (Hrow2.out.mono Hb3.out (Nat.le_refl _)) Hl2.out hlen2 Hps.out).mono ?_
  rintro e w4 ⟨k, A4, cap4, rfl, hE, hO4, hb4⟩
  have HE := Lib.hid hE
  have hkb := Nat.le_trans (st_fine ls ps k hE.2).bound Htot.out
  have Hth := Lib.hid (fun j hj => st_things ls ps k j hE hj)
  obtain ⟨ts, Hts⟩ : ∃ ts, Hid ((st ls ps k).1 = ts) := ⟨_, rfl⟩
  have Hln : Hid (ts.length = k) := by show ts.length = k; rw [← Hts.out, st_len]
  rw [Hts.out] at hO4 Hth
  have Hb4 := Lib.hid (Hb3.out.trans (hb4.mono Hb3.out.size))
  have Hr4 := Lib.hid hO4.rd
  have hB4 : w.heap.size ≤ w4.heap.size := Hb4.out.size
  clear hE hO4 hb4 Hr3 Hb3
  go_wp2_with fail
  go_loopw [5, 13] (fun v5 v13 wr => WvHead ts sv k w4.heap.size w4 v5 v13 wr) (fun _ v13 _ => k - (intOf v13).toNat)
  case atStart => exact ⟨0, none, 0, rfl, Nat.zero_le _, rfl, Own.nil _ _ _ _, Below.refl _ _⟩
  case round =>
    obtain ⟨i, A5, cap5, rfl, hi, rfl, hO, hb'⟩ := hrel
    have Hb' := Lib.hid hb'
    have Hb := Lib.hid (Hb4.out.trans (hb'.mono Hb4.out.size))
    have HO := Lib.hid hO
    clear hO hb'
    have hBs := Hb.out.size
    have hBs' := Hb'.out.size
    by_cases hlt : i < k
    · obtain ⟨_, g, off, rfl, hg, hc⟩ := Rd.things Hr4.out (by omega)
      have c0 := (Hb'.out.cell (p := ⟨g, off + i * 2, none⟩) hg).trans (hc i hlt).1
      have c1 := (Hb'.out.cell (p := ⟨g, off + i * 2 + 1, none⟩) hg).trans (hc i hlt).2
      obtain ⟨hz, hy⟩ := Hth.out i hlt
      have HW := Lib.hid (woven_snoc sv ts i (by rw [Hln.out]; exact hlt))
      clear hc
      obtain ⟨z, Hz⟩ : ∃ z, Hid ((ts.getD i (0, 0)).1 = z) := ⟨_, rfl⟩
      obtain ⟨y, Hy⟩ : ∃ y, Hid ((ts.getD i (0, 0)).2 = y) := ⟨_, rfl⟩
      simp only [Hz.out, Hy.out] at c0 c1 hz hy HW
      have hzm : z < m := by rw [← Hll.out]; exact hz
      rw [Hlg.out z hzm] at hy
      have hyn : y < sn z := by omega
      have hnz := Hn.out z hzm
      obtain ⟨gs, os, rfl, hgs, hcs⟩ := Hs.out
      obtain ⟨ge, oe, hA, hge, hce⟩ := Hv.out z hzm (by omega)
      have d0 := (Hb.out.cell (p := ⟨gs, os + z, none⟩) hgs).trans (hcs z hzm)
      have d1 := (Hb.out.cell (p := ⟨ge, oe + y, none⟩) hge).trans (hce y hyn)
      rw [hA] at d0
      clear hcs hce hA hz hy
      generalize sn z = nz at *
      generalize sc z = cz at *
      generalize (sv z).getD y 0 = u at *
      go_wp2_with fail
      obtain ⟨N, HNN⟩ : ∃ N, Hid (wr.heap.size = N) := ⟨_, rfl⟩
      have HX := Lib.hid (Blk.new wr 31 #[.int .i64 z, .int .i64 y])
      have HO5 := Lib.hid (HO.out.alloc (.cells #[.int .i64 z, .int .i64 y] 31))
      have Hb5 := Lib.hid (Hb.out.alloc hBs (.cells #[.int .i64 z, .int .i64 y] 31))
      have Hb5' := Lib.hid (Hb'.out.alloc Hb'.out.size (.cells #[.int .i64 z, .int .i64 y] 31))
      have e2 := (World.cell?_alloc_lt wr (.cells #[.int .i64 z, .int .i64 y] 31) ⟨gs, os + z, none⟩ (Nat.lt_of_lt_of_le hgs hBs)).trans d0
      have e3 := (World.cell?_alloc_lt wr (.cells #[.int .i64 z, .int .i64 y] 31) ⟨ge, oe + y, none⟩ (Nat.lt_of_lt_of_le hge hBs)).trans d1
      have HA5 : Hid (∀ a, A5 = some a → w4.heap.size ≤ a.block ∧ a.block < N) := fun a ha => ⟨(HO.out.lt a ha).1, by rw [← HNN.out]; exact (HO.out.lt a ha).2⟩
      
      rw [HNN.out] at HX
      rw [HNN.out]
      clear c0 c1 d0 d1 HO Hb Hb' HNN hBs hBs'
      have hBs := Hb5'.out.size
      generalize wr.alloc _ = w5 at *
      have e0 := HX.out.cell 0
      have e1 := HX.out.cell 1
      simp only [List.getElem?_toArray, List.getElem?_cons_zero, List.getElem?_cons_succ] at e0 e1
      have Hn0 : Hid (¬ ∃ a, A5 = some a ∧ a.block = N) := fun ⟨a, ha, e⟩ => by have := HA5.out a ha; omega
      have Hn1 : Hid (¬ ∃ a, A5 = some a ∧ a.block = gs) := fun ⟨a, ha, e⟩ => by have := HA5.out a ha; omega
      have Hn2 : Hid (¬ ∃ a, A5 = some a ∧ a.block = ge) := fun ⟨a, ha, e⟩ => by have := HA5.out a ha; omega
      have q1 : (0 : Int) ≤ (z : Int) := by omega
      have q2 : (z : Int) < (m : Int) := by omega
      have q3 : (0 : Int) ≤ (y : Int) := by omega
      have q4 : (y : Int) < (nz : Int) := by omega
      go_region_held3 (fun w' => w'.cell? ⟨N, 0, none⟩ = some (.int .i64 (z : Nat)) ∧ w'.cell? ⟨N, 1, none⟩ = some (.int .i64 (y : Nat)) ∧ w'.cell? ⟨gs, os + z, none⟩ = some (.slice (some ⟨ge, oe, none⟩) nz cz) ∧ w'.cell? ⟨ge, oe + y, none⟩ = some (.int .u64 u))
        (first | go_keep | (go_split_ands; exact ⟨cell_mod hM6 (by assumption) Hn0.out, cell_mod hM6 (by assumption) Hn0.out, cell_mod hM6 (by assumption) Hn1.out, cell_mod hM6 (by assumption) Hn2.out⟩))
        ((refine step_append_elem (by rfl) _ _ _ (by rfl) w4.heap.size 42 i0 _ 1 8 Try.underlying39 hi0 hz0 hz1 hz2 rfl (by omega) A5 i cap5 _ (by rfl) ((HO5.out.alloc _).drewN 1) [.int .u64 u] (by rfl) w5.heap.size (by rfl) ((Blk.new _ _ _).drewN 1) (by simp [Value.oneCell']) (by unfold maxLen; omega) (by omega) (by simp; omega) ?_; intro A6 cap6 w6 hO6 hM6 hat6))
      have HO6 := Lib.hid hO6
      have Hb6 := Lib.hid (Below.mod (below_drewN (Hb5'.out.alloc hBs _) 1) hM6 (by simp; omega) (fun k _ ⟨a, ha, e⟩ => by rw [← e]; exact (HA5.out a ha).1))
      clear hO6 hM6 hat6
      go_wp2_with fail
      exact ⟨⟨i + 1, A6, cap6, by go_num, by omega, rfl, by rw [HW.out]; exact HO6.out, Hb6.out⟩, by simp [intOf]; omega⟩
    · have hje : i = k := by omega
      have htk : ts.take i = ts := List.take_of_length_le (by rw [Hln.out]; omega)
      rw [htk] at HO
      subst hje
      clear htk
      go_wp2_with fail
      go_ret
      exact ⟨i, A5, cap5, rfl, HE.out, by rw [Hts.out]; exact HO.out.base_ hB4, Hb.out⟩
end Go.Proofs.Ythpljhkjajaogaa
