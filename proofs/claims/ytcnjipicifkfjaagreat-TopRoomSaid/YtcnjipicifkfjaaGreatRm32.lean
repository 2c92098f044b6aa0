/- predict: Small, Object, of a new heap. -/
import Derived.Test.YtcnjipicifkfjaaGreatRm31
import Derived.Test.YtcnjipicifkfjaaGreatRm05
import Derived.Test.YtcnjipicifkfjaaGreatRm19
import Derived.Test.YtcnjipicifkfjaaGreatRm21
import Derived.Test.YtcnjipicifkfjaaGreatRm11
import Derived.Test.YtcnjipicifkfjaaGreatRm03
import Derived.Test.YtcnjipicifkfjaaGreatRm27
import Derived.Test.YtcnjipicifkfjaaGreatRm06

namespace Go.Proofs.YtcnjipicifkfjaaGreat
open Go.RowKit
set_option linter.unusedVariables false
set_option linter.unusedSimpArgs false

set_option maxRecDepth 100000 in
set_option maxHeartbeats 2000000 in
theorem psmall_any (col : Nat → Nat) (al d mp us fr n : Nat) (S : AS) (w : World) (hA : AllocX w col al d mp us fr S) (hk : S.k < 32) (hg : S.glob = []) (hc : ∀ m, S.cs m = []) (ho : S.o = some (1, n)) (hn : n ≤ 100) :
    Calls Tryz.prog 52 #[.pointer (some ⟨al, 0, none⟩), .int .i64 S.k] w fun e w' => e = .returned (.int .i64 (n * ccells S.k : Nat)) ∧ Below w.heap.size w w' := by
  have a0 : w.cell? ⟨al, 0, none⟩ = some (.pointer (some ⟨mp, 0, none⟩)) := hA.b.cell 0
  have hal : al < w.heap.size := hA.b.lt
  have hlen : (S.glob ++ csN S.cs 4).length = 0 := by rw [hg]; simp [csN, hc]
  have hcc := ccells_pos S.k hk
  have HS : Hid (∀ W, Below w.heap.size w W → W.cell? ⟨al, 0, none⟩ = some (.pointer (some ⟨mp, 0, none⟩))) := fun W hb => cell_mod (Mod.of_below hb) a0 (Nat.not_le.2 hal)
  have Hf : Hid (∀ W, Below w.heap.size w W → Calls Tryz.prog 106 #[.pointer (some ⟨al, 0, none⟩), .int .i64 S.k] W fun e w' => (∃ A cap, e = .returned (.slice A 0 cap)) ∧ Below W.heap.size W w') := fun W hb => by
    have := afreecells_any col al d mp us fr S W (hA.below hb (Nat.le_refl _)) (by rw [hg]; simp) (fun m => by rw [hc m]; simp)
    rw [hlen] at this
    exact this
  have Hm : Hid (∀ W, Below w.heap.size w W → Calls Tryz.prog 107 #[.pointer (some ⟨mp, 0, none⟩)] W fun e w' => e = .returned (.int .i64 n) ∧ Below W.heap.size W w') := fun W hb => by
    have hm := (hA.below hb (Nat.le_refl _)).m
    rw [ho] at hm
    exact bmfree_one _ mp d S.K 1 n S.hs W hm (by omega) (by omega)
  have Hcc := Lib.hid (fun W => ccells_any S.k W hk)
  have Hr := Lib.hid (fun W => cright_yes S.k W hk)
  have Hb0 : Hid (Below w.heap.size w w.drew) := below_drewN (Below.refl w.heap.size w) 1
  obtain ⟨c, Hcn⟩ : ∃ c, Hid (ccells S.k = c) := ⟨_, rfl⟩
  rw [Hcn.out] at Hcc hcc ⊢
  have hmul : n * c ≤ 100 * 256 := Nat.mul_le_mul hn hcc.2
  have hmul2 : ((n * c : Nat) : Int) = (n : Int) * (c : Int) := Int.natCast_mul _ _
  generalize S.k = k at *
  clear hA hlen
  go_enter Tryz.func52, Tryz.ntmps52
  go_wp2_with fail
  refine (Hr.out w).mono ?_
  rintro e w1 ⟨rfl, rfl⟩
  go_wp2_with fail
  go_region_held3 (fun W => W.cell? ⟨al, 0, none⟩ = some (.pointer (some ⟨mp, 0, none⟩)))
    (first | exact HS.out _ Hb0.out | exact HS.out _ HB1.out | exact HS.out _ HB2.out | exact HS.out _ HB3.out)
    (first
      | (go_at_call 106; refine (Hf.out _ Hb0.out).mono ?_; rintro e w1 ⟨⟨A, cap, rfl⟩, hb1⟩; have HB1 : Hid (Below w.heap.size w w1) := Hb0.out.trans (hb1.mono Hb0.out.size); clear hb1)
      | (go_at_call 107; refine (Hm.out _ HB1.out).mono ?_; rintro e w2 ⟨rfl, hb2⟩; have HB2 : Hid (Below w.heap.size w w2) := HB1.out.trans (hb2.mono HB1.out.size); clear hb2)
      | (go_at_call 108; refine (Hcc.out _).mono ?_; rintro e w3 ⟨rfl, hb3⟩; have HB3 : Hid (Below w.heap.size w w3) := HB2.out.trans (hb3.mono HB2.out.size); clear hb3))
  rw [← hmul2, IntWalk.i64_in ((n * c : Nat) : Int) (by omega), IntWalk.i64_in ((n * c : Nat) : Int) (by omega)]
  go_wp2_with fail
  go_ret
  exact ⟨rfl, HB3.out⟩
set_option maxRecDepth 100000 in
set_option maxHeartbeats 2000000 in
theorem pobject_any (col : Nat → Nat) (al d mp us fr n p dd : Nat) (S : AS) (w : World) (hA : AllocX w col al d mp us fr S) (hp : p ≤ 63) (hd : 1 + p + dd ≤ 256) (hk : cof (1 + p + dd) = S.k) (hg : S.glob = []) (hc : ∀ m, S.cs m = []) (ho : S.o = some (1, n)) (hn : n ≤ 100) (hK : 2 ≤ S.K) (hK2 : S.K ≤ 150) :
    Calls Tryz.prog 15 #[.pointer (some ⟨al, 0, none⟩), .agg #[.int .i64 p, .int .i64 dd]] w fun e w' => e = .returned (.int .i64 (n * ccells S.k : Nat)) ∧ Below w.heap.size w w' := by
  have hk32 : S.k < 32 := by rw [← hk]; exact cof_lt _ hd
  have a0 : w.cell? ⟨al, 0, none⟩ = some (.pointer (some ⟨mp, 0, none⟩)) := hA.b.cell 0
  have hal : al < w.heap.size := hA.b.lt
  have HS : Hid (∀ W, Below w.heap.size w W → W.cell? ⟨al, 0, none⟩ = some (.pointer (some ⟨mp, 0, none⟩))) := fun W hb => cell_mod (Mod.of_below hb) a0 (Nat.not_le.2 hal)
  have Hs := Lib.hid (fun W => osize_any p dd W hp (by omega))
  have Ho := Lib.hid (fun W => osmall_any p dd W hp hd)
  rw [hk] at Ho
  have Hg : Hid (∀ W, Below w.heap.size w W → Calls Tryz.prog 49 #[.pointer (some ⟨mp, 0, none⟩)] W fun e w' => e = .returned (.agg #[.int .i64 S.K]) ∧ Below W.heap.size W w') := fun W hb => bmgeo_any _ mp d S.K S.hs S.o W (hA.below hb (Nat.le_refl _)).m
  have Hm := Lib.hid (fun W => gmost_any S.K W hK (by omega))
  have Hsm : Hid (∀ W, Below w.heap.size w W → Calls Tryz.prog 52 #[.pointer (some ⟨al, 0, none⟩), .int .i64 S.k] W fun e w' => e = .returned (.int .i64 (n * ccells S.k : Nat)) ∧ Below W.heap.size W w') := fun W hb => psmall_any col al d mp us fr n S W (hA.below hb (Nat.le_refl _)) hk32 hg hc ho hn
  obtain ⟨q, Hq⟩ : ∃ q, Hid (1 + p + dd = q + 1) := ⟨p + dd, by show _ = _; omega⟩
  rw [Hq.out] at Hs hd
  generalize n * ccells S.k = v at *
  generalize S.k = k at *
  obtain ⟨M, HM⟩ : ∃ M, Hid ((S.K - 1) * 512 = M) := ⟨_, rfl⟩
  have hMM : q + 1 ≤ M := by rw [← HM.out]; omega
  have hdc : decide ((M : Int) < (q : Int) + 1) = false := decide_eq_false (by omega)
  have hdc2 : decide ((q : Int) + 1 > (M : Int)) = false := decide_eq_false (by omega)
  rw [HM.out] at Hm
  generalize S.K = K at *
  obtain ⟨n1, Hn1⟩ : ∃ n, Hid (w.heap.size = n) := ⟨_, rfl⟩
  have L1 := Lib.hid ((Loc.nil Nob w).box 51 #[.int .i64 p, .int .i64 dd] n1 Hn1.out)
  clear hA hk hg hc
  go_enter Tryz.func15, Tryz.ntmps15
  go_wp2_with fail
  have hb1 : Below w.heap.size w (w.alloc (.cells #[.int .i64 p, .int .i64 dd] 51)) := (Below.refl _ w).alloc (Nat.le_refl _) _
  have hB1 : Blk (w.alloc (.cells #[.int .i64 p, .int .i64 dd] 51)) n1 51 #[.int .i64 p, .int .i64 dd] := by rw [← Hn1.out]; exact Blk.new w 51 _
  rw [Hn1.out]
  generalize w.alloc (.cells #[.int .i64 p, .int .i64 dd] 51) = w1 at *
  have HB1 := Lib.hid hb1
  have HS1 : Hid (∀ W, Below w1.heap.size w1 W → W.cell? ⟨al, 0, none⟩ = some (.pointer (some ⟨mp, 0, none⟩)) ∧ Blk W n1 51 #[.int .i64 p, .int .i64 dd] ∧ W.cell? ⟨n1, 0, none⟩ = some (.int .i64 p) ∧ W.cell? ⟨n1, 1, none⟩ = some (.int .i64 dd)) := fun W hb => by
    have h := hB1.below hb hB1.lt
    exact ⟨HS.out W (hb1.trans (hb.mono hb1.size)), h, h.cell 0, h.cell 1⟩
  have HT : Hid (∀ W, Below w1.heap.size w1 W → Below w.heap.size w W) := fun W hb => hb1.trans (hb.mono hb1.size)
  have Hb0 : Hid (Below w1.heap.size w1 w1.drew) := below_drewN (Below.refl w1.heap.size w1) 1
  clear L1 hb1 hB1
  go_region_held3 (fun W => W.cell? ⟨al, 0, none⟩ = some (.pointer (some ⟨mp, 0, none⟩)) ∧ Blk W n1 51 #[.int .i64 p, .int .i64 dd] ∧ W.cell? ⟨n1, 0, none⟩ = some (.int .i64 p) ∧ W.cell? ⟨n1, 1, none⟩ = some (.int .i64 dd))
    (first | exact HS1.out _ Hb0.out | exact HS1.out _ HB2.out)
    (first
      | (go_at_call 48; refine (Hs.out _).mono ?_; rintro e w2 ⟨rfl, hb2⟩; (first | have HB2 : Hid (Below w1.heap.size w1 w2) := HB2.out.trans (hb2.mono HB2.out.size) | have HB2 : Hid (Below w1.heap.size w1 w2) := Hb0.out.trans (hb2.mono Hb0.out.size)); clear hb2)
      | (go_at_call 49; refine (Hg.out _ (HT.out _ HB2.out)).mono ?_; rintro e w2 ⟨rfl, hb2⟩; have HB2 : Hid (Below w1.heap.size w1 w2) := HB2.out.trans (hb2.mono HB2.out.size); clear hb2)
      | (go_at_call 50; refine (Hm.out _).mono ?_; rintro e w2 ⟨rfl, hb2⟩; have HB2 : Hid (Below w1.heap.size w1 w2) := HB2.out.trans (hb2.mono HB2.out.size); clear hb2))
  have hx := HS1.out w2 HB2.out
  have x0 := hx.2.2.1
  have x1 := hx.2.2.2
  have HO : Hid (Calls Tryz.prog 51 #[.agg #[.int .i64 p, .int .i64 dd]] w2 fun e w' => e = .returned (.tuple #[.int .i64 k, .bool true]) ∧ Below w1.heap.size w1 w') := (Ho.out w2).mono (fun e w' h => ⟨h.1, HB2.out.trans (h.2.mono HB2.out.size)⟩)
  clear hx Ho
  go_wp2_with omega
  refine HO.out.mono ?_
  rintro e w3 ⟨rfl, hb3⟩
  have HB3 := Lib.hid hb3
  clear hb3 HO
  go_wp2_with omega
  refine (Hsm.out w3 (HT.out _ HB3.out)).mono ?_
  rintro e w4 ⟨rfl, hb4⟩
  have HB4 : Hid (Below w.heap.size w w4) := (HT.out _ HB3.out).trans (hb4.mono (HT.out _ HB3.out).size)
  clear hb4
  go_wp2_with fail
  go_ret
  exact ⟨rfl, HB4.out⟩
end Go.Proofs.YtcnjipicifkfjaaGreat

/- Plain law of alloc's room. -/
namespace Go.Proofs.YtcnjipicifkfjaaGreat
open Go.RowKit
set_option linter.unusedVariables false
set_option linter.unusedSimpArgs false

/-- Two cells lie apart. -/
theorem at_apart {S : AS} {d x y : Nat} (hk : cof (1 + 0 + d) = S.k) (hd : d ≤ 60) (hx : S.at_ x) (hy : S.at_ y) (hne : x ≠ y) : x < y ∨ y + d < x := by
  obtain ⟨b1, i1, h1, _⟩ := hx
  obtain ⟨b2, i2, h2, _⟩ := hy
  have hcs : 1 + 0 + d ≤ csize S.k := (cof_le _ _ (by omega) h1.hk).2 (by omega)
  have f1 := h1.fit
  have f2 := h2.fit
  have e1 := h1.e
  have e2 := h2.e
  by_cases hb : b1 = b2
  · subst hb
    rcases Nat.lt_trichotomy i1 i2 with h | h | h
    · have : (i1 + 1) * csize S.k ≤ i2 * csize S.k := Nat.mul_le_mul_right _ h
      rw [Nat.succ_mul] at this
      omega
    · subst h; omega
    · have : (i2 + 1) * csize S.k ≤ i1 * csize S.k := Nat.mul_le_mul_right _ h
      rw [Nat.succ_mul] at this
      omega
  · rcases Nat.lt_or_gt_of_ne hb with h | h
    · have : (b1 + 1) * 512 ≤ b2 * 512 := Nat.mul_le_mul_right _ h
      omega
    · have : (b2 + 1) * 512 ≤ b1 * 512 := Nat.mul_le_mul_right _ h
      omega
theorem at_fit {S : AS} {d x : Nat} (hk : cof (1 + 0 + d) = S.k) (hd : d ≤ 60) (hx : S.at_ x) : 512 ≤ x ∧ x + (1 + 0 + d) ≤ 1536 := by
  obtain ⟨b1, i1, h1, _⟩ := hx
  have hcs : 1 + 0 + d ≤ csize S.k := (cof_le _ _ (by omega) h1.hk).2 (by omega)
  have f1 := h1.fit
  have e1 := h1.e
  have := h1.b0
  have := h1.b
  omega
/-- What is taken, and what is left. -/
theorem take_fs (S : AS) (mu : Nat) (hmu : mu < 2) (hcl : ∀ m, (S.cs m).length ≤ 3) (hne : S.cs mu ≠ [] ∨ S.glob ≠ []) :
    (takeA S.glob S.cs mu :: (S.take mu).fs).Perm S.fs ∧ (∀ m, 2 ≤ m → (S.take mu).cs m = S.cs m) ∧ ∀ m, ((S.take mu).cs m).length ≤ 3 := by
  obtain ⟨gl, l, a, hg, ha, hG, hC, hl⟩ : ∃ gl l a, (if S.cs mu ≠ [] then S.glob else S.glob.take (S.glob.length - takeN S.glob)) = gl ∧ takeA S.glob S.cs mu = a ∧ (S.take mu).glob = gl ∧ (S.take mu).cs = updC S.cs mu l ∧ l.length ≤ 3 ∧ (S.glob ++ S.cs mu).Perm (a :: (gl ++ l)) := by
    by_cases hq : S.cs mu ≠ []
    · obtain ⟨y, hy⟩ : ∃ y, S.cs mu = (S.cs mu).dropLast ++ [y] := ⟨(S.cs mu).getLast hq, (List.dropLast_concat_getLast hq).symm⟩
      refine ⟨S.glob, (S.cs mu).dropLast, y, if_pos hq, ?_, ?_, ?_, ?_, ?_⟩
      · unfold takeA
        rw [if_pos hq, List.getLastD_eq_getLast?, hy, List.getLast?_concat]
        rfl
      · show takeG S.glob S.cs mu = _
        unfold takeG; rw [if_pos hq]
      · show takeC S.glob S.cs mu = _
        unfold takeC; rw [if_pos hq]
      · have := hcl mu
        rw [List.length_dropLast]; omega
      · have : S.glob ++ S.cs mu = (S.glob ++ (S.cs mu).dropLast) ++ [y] := by rw [List.append_assoc, ← hy]
        rw [this]
        exact List.perm_append_comm
    · have hg : S.glob ≠ [] := hne.resolve_left hq
      have hlen : 0 < S.glob.length := List.length_pos_iff.2 hg
      have hN : takeN S.glob = min S.glob.length 4 := rfl
      have hq2 : S.cs mu = [] := by
        by_cases e : S.cs mu = []
        · exact e
        · exact absurd e hq
      obtain ⟨D, hD⟩ : ∃ D, S.glob.drop (S.glob.length - takeN S.glob) = D := ⟨_, rfl⟩
      have hDl : D.length = takeN S.glob := by rw [← hD, List.length_drop]; omega
      have hDne : D ≠ [] := fun e => by rw [e] at hDl; simp at hDl; omega
      obtain ⟨y, hy⟩ : ∃ y, D = D.dropLast ++ [y] := ⟨D.getLast hDne, (List.dropLast_concat_getLast hDne).symm⟩
      refine ⟨S.glob.take (S.glob.length - takeN S.glob), D.dropLast, y, if_neg hq, ?_, ?_, ?_, ?_, ?_⟩
      · unfold takeA
        rw [if_neg hq, hD, List.getLastD_eq_getLast?, hy, List.getLast?_concat]
        rfl
      · show takeG S.glob S.cs mu = _
        unfold takeG; rw [if_neg hq]
      · show takeC S.glob S.cs mu = _
        unfold takeC; rw [if_neg hq, hD]
      · rw [List.length_dropLast]; omega
      · rw [hq2, List.append_nil]
        have : S.glob = (S.glob.take (S.glob.length - takeN S.glob) ++ D.dropLast) ++ [y] := by rw [List.append_assoc, ← hy, ← hD, List.take_append_drop]
        rw [show (S.glob).Perm _ ↔ ((S.glob.take (S.glob.length - takeN S.glob) ++ D.dropLast) ++ [y]).Perm _ by rw [← this]]
        exact List.perm_append_comm
  obtain ⟨hl3, hP⟩ := hl
  have hupd : ∀ m, (S.take mu).cs m = if m = mu then l else S.cs m := fun m => by rw [hC]; rfl
  refine ⟨?_, fun m hm => by rw [hupd, if_neg (by omega)], fun m => ?_⟩
  · rw [ha]
    unfold AS.fs
    rw [hG, hupd, hupd]
    rcases (by omega : mu = 0 ∨ mu = 1) with rfl | rfl
    · rw [if_pos rfl, if_neg (by omega)]
      have h1 : (a :: (gl ++ (l ++ S.cs 1))).Perm ((a :: (gl ++ l)) ++ S.cs 1) := by rw [List.cons_append, List.append_assoc]
      refine h1.trans ((hP.symm.append_right _).trans ?_)
      rw [List.append_assoc]
    · rw [if_neg (by omega), if_pos rfl]
      have h1 : (a :: (gl ++ (S.cs 0 ++ l))).Perm ((a :: (gl ++ l)) ++ S.cs 0) := by
        rw [List.cons_append]
        refine List.Perm.cons a ?_
        rw [List.append_assoc]
        exact List.perm_append_comm.append_left gl
      refine h1.trans ((hP.symm.append_right _).trans ?_)
      rw [List.append_assoc]
      exact List.perm_append_comm.append_left S.glob
  · rw [hupd]
    split
    · exact hl3
    · exact hcl m
/-- An object is made in a free cell. -/
theorem AI.take_add {s s' : DS} {m d mu : Nat} {S : AS} (h : AI s m d S) (hmu : mu < 2) (hne : S.cs mu ≠ [] ∨ S.glob ≠ []) (hob : ObjAt s' m (takeA S.glob S.cs mu) 0 d) (hkeep : ∀ x, S.used x = true → s'.C.getD x 0 = s.C.getD x 0) :
    AI s' m d ((S.take mu).add (takeA S.glob S.cs mu)) ∧ takeA S.glob S.cs mu ∈ S.fs := by
  obtain ⟨hP, hc2, hcl⟩ := take_fs S mu hmu h.cl hne
  generalize ha : takeA S.glob S.cs mu = a at *
  have hmem : ∀ x, x ∈ S.fs ↔ x = a ∨ x ∈ (S.take mu).fs := fun x => by rw [← hP.mem_iff, List.mem_cons]
  have hnd := List.nodup_cons.1 (hP.nodup_iff.2 h.nd)
  have haf : a ∈ S.fs := (hmem a).2 (.inl rfl)
  refine ⟨⟨h.kk, h.k, h.hl, h.hb, h.o, hnd.2, fun n hn => (hc2 n hn).trans (h.c2 n hn), hcl, fun x hx => ?_, fun x hx => ?_, fun x hx => ?_⟩, haf⟩
  · have hx : x ∈ (S.take mu).fs := hx
    obtain ⟨h1, h2⟩ := h.fr x ((hmem x).2 (.inr hx))
    refine ⟨h1, ?_⟩
    show addS S.used a x = false
    unfold addS
    rw [h2, decide_eq_false (fun e : x = a => hnd.1 (e ▸ hx))]
    rfl
  · show addS S.used a x = true ∨ x ∈ (S.take mu).fs
    unfold addS
    rcases h.al x hx with h1 | h1
    · rw [h1]; exact .inl rfl
    · rcases (hmem x).1 h1 with h2 | h2
      · rw [decide_eq_true h2]; simp
      · exact .inr h2
  · have hx : addS S.used a x = true := hx
    unfold addS at hx
    rcases Bool.or_eq_true_iff.1 hx with h1 | h1
    · obtain ⟨h2, h3⟩ := h.us x h1
      exact ⟨⟨h2.o, (hkeep x h1).trans h2.w, h2.le⟩, h3⟩
    · rw [of_decide_eq_true h1]
      exact ⟨hob, (h.fr a haf).1⟩
/-- What is carved of a block without objects. -/
theorem carve_mem {used : Nat → Bool} {k bl : Nat} (hu : ∀ i, i < ccells k → used (cadr k bl i) = false) : ∀ t, t ≤ ccells k → ∀ x, x ∈ carveL used k bl t ↔ ∃ j, j < t ∧ x = cadr k bl (ccells k - 1 - j) := by
  intro t
  induction t with
  | zero => intro _ x; simp [carveL]
  | succ t ih =>
    intro ht x
    have e : carveL used k bl (t + 1) = carveL used k bl t ++ [cadr k bl (ccells k - 1 - t)] := by
      rw [carveL, hu _ (by omega), if_neg (by simp)]
    rw [e, List.mem_append, ih (by omega), List.mem_singleton]
    constructor
    · rintro (⟨j, h1, h2⟩ | h1)
      · exact ⟨j, by omega, h2⟩
      · exact ⟨t, by omega, h1⟩
    · rintro ⟨j, h1, h2⟩
      by_cases e2 : j = t
      · exact .inr (by rw [h2, e2])
      · exact .inl ⟨j, by omega, h2⟩
theorem carve_nodup {used : Nat → Bool} {k bl : Nat} (hk : k < 32) (hu : ∀ i, i < ccells k → used (cadr k bl i) = false) : ∀ t, t ≤ ccells k → (carveL used k bl t).Nodup := by
  intro t
  induction t with
  | zero => intro _; exact List.nodup_nil
  | succ t ih =>
    intro ht
    have e : carveL used k bl (t + 1) = carveL used k bl t ++ [cadr k bl (ccells k - 1 - t)] := by
      rw [carveL, hu _ (by omega), if_neg (by simp)]
    rw [e]
    refine List.nodup_append.2 ⟨ih (by omega), by simp, fun x hx y hy e2 => ?_⟩
    obtain ⟨j, h1, h2⟩ := (carve_mem hu t (by omega) x).1 hx
    rw [List.mem_singleton.1 hy, h2] at e2
    have := cadr_inj _ _ _ _ hk e2
    omega
end Go.Proofs.YtcnjipicifkfjaaGreat

/- Plain law of alloc's room: a block is carved; room is always there. -/
namespace Go.Proofs.YtcnjipicifkfjaaGreat
open Go.RowKit
set_option linter.unusedVariables false
set_option linter.unusedSimpArgs false

theorem AI.small {s : DS} {m d st n : Nat} {S : AS} (h : AI s m d S) (hd : d ≤ 60) (ho : S.o = some (st, n)) :
    (1 ≤ st ∧ 1 ≤ n ∧ st + n ≤ 3) ∧ (∀ x, x ∈ S.fs → x / 512 ≠ st) ∧ carveL S.used S.k st (ccells S.k) ≠ [] ∧ AI (exec s (putS st 1 S.k)).1 m d (S.small st n) := by
  have hk32 : S.k < 32 := by rw [← h.k]; exact cof_lt _ (by omega)
  have hcc := ccells_pos S.k hk32
  have hne : ((1, S.k) : Nat × Nat) ≠ (0, 0) := fun e => by cases e
  have hl := h.hl
  have hset : ∀ b2, (S.hs.set st (1, S.k)).getD b2 (0, 0) = if b2 = st ∧ st < 3 then (1, S.k) else S.hs.getD b2 (0, 0) := by
    intro b2
    rw [List.getD_eq_getElem?_getD, List.getElem?_set]
    by_cases e : st = b2
    · by_cases e2 : st < 3
      · rw [if_pos e, if_pos (by omega), if_pos ⟨e.symm, e2⟩]; rfl
      · rw [if_pos e, if_neg (by omega), if_neg (fun e3 => e2 e3.2), List.getD_eq_getElem?_getD, List.getElem?_eq_none (by omega)]
    · rw [if_neg e, if_neg (fun e2 => e e2.1.symm), List.getD_eq_getElem?_getD]
  obtain ⟨hr, hfr, hO⟩ : (1 ≤ st ∧ 1 ≤ n ∧ st + n ≤ 3) ∧ S.hs.getD st (0, 0) = (0, 0) ∧ restO st n = oF (isF (S.hs.set st (1, S.k)) 1) (isF (S.hs.set st (1, S.k)) 2) := by
    have h0 := h.o
    rw [ho] at h0
    unfold isF at h0 ⊢
    rw [hset, hset]
    rcases h.hb 1 (by omega) (by omega) with e1 | e1 <;> rcases h.hb 2 (by omega) (by omega) with e2 | e2
    · rw [e1, e2, decide_eq_false hne] at h0; simp [oF] at h0
    · rw [e1, e2, decide_eq_false hne, decide_eq_true rfl] at h0
      simp only [oF, Bool.false_eq_true, if_false, if_true, Option.some.injEq, Prod.mk.injEq] at h0
      obtain ⟨rfl, rfl⟩ := h0
      refine ⟨by omega, e2, ?_⟩
      rw [if_neg (by omega), if_pos (by omega), e1, decide_eq_false hne]
      rfl
    · rw [e1, e2, decide_eq_false hne, decide_eq_true rfl] at h0
      simp only [oF, Bool.false_eq_true, if_false, if_true, Option.some.injEq, Prod.mk.injEq] at h0
      obtain ⟨rfl, rfl⟩ := h0
      refine ⟨by omega, e1, ?_⟩
      rw [if_pos (by omega), if_neg (by omega), e2, decide_eq_false hne]
      rfl
    · rw [e1, e2, decide_eq_true rfl] at h0
      simp only [oF, if_true, Option.some.injEq, Prod.mk.injEq] at h0
      obtain ⟨rfl, rfl⟩ := h0
      refine ⟨by omega, e1, ?_⟩
      rw [if_pos (by omega), if_neg (by omega), e2, decide_eq_false hne, decide_eq_true rfl]
      rfl
  have hst3 : st < 3 := by omega
  have hat0 : ∀ x, S.at_ x → x / 512 ≠ st := by
    rintro x ⟨b2, i, h1, h2⟩ e
    have := h1.fit
    rw [show b2 = st by omega, hfr] at h2
    exact hne h2.symm
  have hcell : ∀ i, i < ccells S.k → CellAt 3 S.k (cadr S.k st i) st i := fun i hi => ⟨rfl, hk32, hr.1, hst3, hi⟩
  have hcu : ∀ i, i < ccells S.k → S.used (cadr S.k st i) = false := fun i hi => by
    cases e : S.used (cadr S.k st i) with
    | false => rfl
    | true => exact absurd (cadr_div _ _ _ hk32 hi) (hat0 _ (h.us _ e).2)
  have hcm := fun x => carve_mem hcu (ccells S.k) (Nat.le_refl _) x
  have hcm2 : ∀ x, x ∈ carveL S.used S.k st (ccells S.k) → (∃ i, CellAt 3 S.k x st i) ∧ x / 512 = st ∧ S.used x = false := by
    intro x hx
    obtain ⟨j, h1, rfl⟩ := (hcm x).1 hx
    exact ⟨⟨_, hcell _ (by omega)⟩, cadr_div _ _ _ hk32 (by omega), hcu _ (by omega)⟩
  have hcm3 : ∀ x i, CellAt 3 S.k x st i → x ∈ carveL S.used S.k st (ccells S.k) := by
    intro x i h1
    have := h1.i
    exact (hcm x).2 ⟨ccells S.k - 1 - i, by omega, by rw [h1.e, show ccells S.k - 1 - (ccells S.k - 1 - i) = i by omega]; rfl⟩
  have hcn := carve_nodup hk32 hcu (ccells S.k) (Nat.le_refl _)
  have hat : ∀ x, (S.small st n).at_ x ↔ S.at_ x ∨ ∃ i, CellAt 3 S.k x st i := by
    intro x
    constructor
    · rintro ⟨b2, i, h1, h2⟩
      by_cases e : b2 = st
      · subst e; exact .inr ⟨i, h1⟩
      · have h2 : (S.hs.set st (1, S.k)).getD b2 (0, 0) = (1, S.k) := h2
        rw [hset, if_neg (fun e3 => e e3.1)] at h2
        exact .inl ⟨b2, i, h1, h2⟩
    · rintro (⟨b2, i, h1, h2⟩ | ⟨i, h1⟩)
      · refine ⟨b2, i, h1, ?_⟩
        show (S.hs.set st (1, S.k)).getD b2 (0, 0) = (1, S.k)
        rw [hset]
        split
        · rfl
        · exact h2
      · refine ⟨st, i, h1, ?_⟩
        show (S.hs.set st (1, S.k)).getD st (0, 0) = (1, S.k)
        rw [hset, if_pos ⟨rfl, hst3⟩]
  have hfm : ∀ x, x ∈ (S.small st n).fs ↔ x ∈ S.fs ∨ x ∈ carveL S.used S.k st (ccells S.k) := by
    intro x
    show x ∈ (S.glob ++ carveL S.used S.k st (ccells S.k)) ++ (S.cs 0 ++ S.cs 1) ↔ x ∈ S.glob ++ (S.cs 0 ++ S.cs 1) ∨ _
    simp only [List.mem_append]
    constructor
    · rintro ((h | h) | h) <;> simp [h]
    · rintro ((h | h) | h) <;> simp [h]
  have hfs0 : ∀ x, x ∈ S.fs → x / 512 ≠ st := fun x hx => hat0 x (h.fr x hx).1
  generalize hC : carveL S.used S.k st (ccells S.k) = C at *
  refine ⟨hr, hfs0, fun e => ?_, h.kk, h.k, ?_, fun b2 h1 h2 => ?_, hO, ?_, h.c2, h.cl, fun x hx => ?_, fun x hx => ?_, fun x hx => ?_⟩
  · have := hcm3 _ 0 (hcell 0 (by omega))
    rw [e] at this
    simp at this
  · show (S.hs.set st (1, S.k)).length = 3
    rw [List.length_set]; exact hl
  · show (S.hs.set st (1, S.k)).getD b2 (0, 0) = (1, S.k) ∨ (S.hs.set st (1, S.k)).getD b2 (0, 0) = (0, 0)
    rw [hset]
    split
    · exact .inl rfl
    · exact h.hb b2 h1 h2
  · show ((S.glob ++ carveL S.used S.k st (ccells S.k)) ++ (S.cs 0 ++ S.cs 1)).Nodup
    rw [hC]
    have hp : ((S.glob ++ C) ++ (S.cs 0 ++ S.cs 1)).Perm (C ++ (S.glob ++ (S.cs 0 ++ S.cs 1))) := by
      rw [← List.append_assoc C]
      exact List.perm_append_comm.append_right _
    refine hp.nodup_iff.2 (List.nodup_append.2 ⟨hcn, h.nd, fun x hx y hy e => ?_⟩)
    subst e
    exact hfs0 x hy (hcm2 x hx).2.1
  · rcases (hfm x).1 hx with h1 | h1
    · exact ⟨(hat x).2 (.inl (h.fr x h1).1), (h.fr x h1).2⟩
    · exact ⟨(hat x).2 (.inr (hcm2 x h1).1), (hcm2 x h1).2.2⟩
  · rcases (hat x).1 hx with h1 | ⟨i, h1⟩
    · rcases h.al x h1 with h2 | h2
      · exact .inl h2
      · exact .inr ((hfm x).2 (.inl h2))
    · exact .inr ((hfm x).2 (.inr (hcm3 x i h1)))
  · have hx : S.used x = true := hx
    obtain ⟨h1, h2⟩ := h.us x hx
    have := (at_fit h.k hd h2).1
    exact ⟨⟨h1.o, by rw [(exec_off (putS st 1 S.k) s (putS_off (by omega))).1]; exact h1.w, h1.le⟩, (hat x).2 (.inl h2)⟩
theorem allC_nodup (k : Nat) (hk : k < 32) : (allC k).Nodup := by
  have h1 : ∀ bl, ((List.range (ccells k)).map (cadr k bl)).Nodup := fun bl => List.pairwise_map.2 ((List.nodup_range (n := ccells k)).imp (fun {a b} hab e => hab (cadr_inj k bl a b hk e)))
  refine List.nodup_append.2 ⟨h1 1, h1 2, fun x hx y hy e => ?_⟩
  obtain ⟨i, hi, rfl⟩ := List.mem_map.1 hx
  obtain ⟨j, hj, rfl⟩ := List.mem_map.1 hy
  have e1 := cadr_div k 1 i hk (List.mem_range.1 hi)
  have e2 := cadr_div k 2 j hk (List.mem_range.1 hj)
  rw [e, e2] at e1
  cases e1
/-- Where no block is free, the objects and the free cells are all cells. -/
theorem AI.full {s : DS} {m d : Nat} {S : AS} (h : AI s m d S) (hd : d ≤ 60) (ho : S.o = none) : 2 * ccells S.k ≤ (setTo S.used 1536).length + S.fs.length := by
  have hk32 : S.k < 32 := by rw [← h.k]; exact cof_lt _ (by omega)
  have hne : ((1, S.k) : Nat × Nat) ≠ (0, 0) := fun e => by cases e
  have h0 := h.o
  rw [ho] at h0
  have hb : ∀ bl, 1 ≤ bl → bl < 3 → S.hs.getD bl (0, 0) = (1, S.k) := by
    unfold isF at h0
    rcases h.hb 1 (by omega) (by omega) with e1 | e1 <;> rcases h.hb 2 (by omega) (by omega) with e2 | e2
    · intro bl h1 h2
      rcases (by omega : bl = 1 ∨ bl = 2) with rfl | rfl
      · exact e1
      · exact e2
    · rw [e1, e2, decide_eq_false hne, decide_eq_true rfl] at h0; simp [oF] at h0
    · rw [e1, e2, decide_eq_false hne, decide_eq_true rfl] at h0; simp [oF] at h0
    · rw [e1, e2, decide_eq_true rfl] at h0; simp [oF] at h0
  have := nodup_le (allC S.k) (setTo S.used 1536 ++ S.fs) (allC_nodup S.k hk32) (fun x hx => by
    have hx2 : S.at_ x := by
      unfold allC at hx
      rcases List.mem_append.1 hx with hx | hx
      · obtain ⟨i, hi, rfl⟩ := List.mem_map.1 hx
        exact ⟨1, i, ⟨rfl, hk32, by omega, by omega, List.mem_range.1 hi⟩, hb 1 (by omega) (by omega)⟩
      · obtain ⟨i, hi, rfl⟩ := List.mem_map.1 hx
        exact ⟨2, i, ⟨rfl, hk32, by omega, by omega, List.mem_range.1 hi⟩, hb 2 (by omega) (by omega)⟩
    rcases h.al x hx2 with h1 | h1
    · exact List.mem_append_left _ (setTo_mem.2 ⟨(h.lt h1).2, h1⟩)
    · exact List.mem_append_right _ h1)
  rwa [allC_len, List.length_append] at this
end Go.Proofs.YtcnjipicifkfjaaGreat

/- Room is always there. -/
namespace Go.Proofs.YtcnjipicifkfjaaGreat
open Go.RowKit
set_option linter.unusedVariables false
set_option linter.unusedSimpArgs false

theorem AI.glob900 {s : DS} {m d : Nat} {S : AS} (h : AI s m d S) (hd : d ≤ 60) : S.glob.length ≤ 900 := by
  have hk32 : S.k < 32 := by rw [← h.k]; exact cof_lt _ (by omega)
  have hcc := ccells_pos S.k hk32
  have h1 := h.len (l := []) List.nodup_nil (fun x hx => by simp at hx)
  have := S.glob_le
  rw [List.length_nil] at h1
  omega
/-- An object made where there is a free cell. -/
theorem AI.made {s : DS} {m d mu : Nat} {S : AS} (h : AI s m d S) (hL : s.Live) (hmu : mu < 2) (hd : d ≤ 60) (hm : m = 192) (hlen : s.C.length = 8 * m) (hne : S.cs mu ≠ [] ∨ S.glob ≠ []) :
    AI (exec s (initS (takeA S.glob S.cs mu) 0 d)).1 m d ((S.take mu).add (takeA S.glob S.cs mu)) ∧ 512 ≤ takeA S.glob S.cs mu ∧ takeA S.glob S.cs mu + (1 + 0 + d) ≤ 1536 := by
  have hP := (take_fs S mu hmu h.cl hne).1
  have haf : takeA S.glob S.cs mu ∈ S.fs := hP.mem_iff.1 (List.mem_cons_self ..)
  have hat := h.fr _ haf
  have hf := at_fit h.k hd hat.1
  refine ⟨(h.take_add hmu hne ⟨.inr ⟨rfl, hd⟩, initS_at hL (by omega), by omega⟩ (fun x hx => ?_)).1, hf⟩
  have hxa := (h.us x hx).2
  have hne : x ≠ takeA S.glob S.cs mu := fun e => by rw [← e, hx] at hat; cases hat.2
  have := at_apart h.k hd hxa hat.1 hne
  exact (exec_off (initS _ 0 d) s (initS_off (by omega))).1
theorem AI.room {B : Nat} {b : DB} {s : DS} {m ap mp us fr d mu u : Nat} {S : AS} (h : AI s m d S) (hL : s.Live) (hmu : mu < 2) (hd : d ≤ 60) (hm : m = 192) (hlen : s.C.length = 8 * m) (hu : (setTo S.used 1536).length + 4 ≤ 2 * ccells S.k) :
    ∃ st a S1, RoomOk B b m s ap mp us fr mu 0 d S st a S1 ∧ S1.K = S.K ∧ 512 ≤ a ∧ a + (1 + 0 + d) ≤ 1536 ∧ (exec s (st ++ initS a 0 d)).2 = true ∧ (exec s (st ++ initS a 0 d)).1.Live ∧ AI (exec s (st ++ initS a 0 d)).1 m d (S1.add a) ∧ S1.used = S.used ∧ S1.k = S.k := by
  have hkk := h.kk
  have hcl := h.cl
  by_cases hne : S.cs mu ≠ [] ∨ S.glob ≠ []
  · obtain ⟨h1, h2, h3⟩ := h.made hL hmu hd hm hlen hne
    refine ⟨[], takeA S.glob S.cs mu, S.take mu, ?_, rfl, h2, h3, (exec_live hL _).1, (exec_live hL _).2, h1, rfl, rfl⟩
    intro col w hD hdv hA
    refine (room_take col ap b.d mp us fr mu 0 d S w hA (by omega) (by omega) (by omega) h.k (h.glob900 hd) (fun n => by have := hcl n; omega) hne).mono ?_
    rintro e w' ⟨rfl, hc, hM⟩
    exact ⟨rfl, hD.mod hM (fun k hk e => by have := hdv k hk; omega), fun _ => hc, hM.mono (fun k _ h => .inr (.inr h))⟩
  · have hcs : S.cs mu = [] := by
      by_cases e : S.cs mu = []
      · exact e
      · exact absurd (.inl e) hne
    have hg : S.glob = [] := by
      by_cases e : S.glob = []
      · exact e
      · exact absurd (.inr e) hne
    cases ho : S.o with
    | none =>
      exfalso
      have h1 := h.full hd ho
      have h2 : S.fs.length ≤ 3 := by
        have h0 := hcl 0
        have h1 := hcl 1
        unfold AS.fs
        rw [hg, List.nil_append, List.length_append]
        rcases (by omega : mu = 0 ∨ mu = 1) with rfl | rfl
        · rw [hcs, List.length_nil]; omega
        · rw [hcs, List.length_nil]; omega
      omega
    | some r =>
      obtain ⟨st, n⟩ := r
      obtain ⟨⟨r1, r2, r3⟩, hno, hcv, hAI⟩ := h.small hd ho
      have hL1 := (exec_live hL (putS st 1 S.k)).2
      have hlen1 : (exec s (putS st 1 S.k)).1.C.length = 8 * m := (initS_len (s := s) (a := 0) (p := 0) (d := 0) _ s).trans hlen
      have hne1 : (S.small st n).cs mu ≠ [] ∨ (S.small st n).glob ≠ [] := .inr (by
        show S.glob ++ carveL S.used S.k st (ccells S.k) ≠ []
        rw [hg, List.nil_append]; exact hcv)
      obtain ⟨h1, h2, h3⟩ := hAI.made hL1 hmu hd hm hlen1 hne1
      refine ⟨putS st 1 S.k, takeA (S.small st n).glob S.cs mu, (S.small st n).take mu, ?_, rfl, h2, h3, (exec_live hL _).1, (exec_live hL _).2, ?_, rfl, rfl⟩
      · intro col w hD hdv hA
        exact room_small B b m s col ap mp us fr mu 0 d st n S w hD hdv hA (by omega) (by omega) (by omega) h.k (by omega) (by omega) hcs hg ho r1 r2 (by omega) (fun n => by have := hcl n; omega) (fun q x hx => hno x ((h.has x).1 (by
          by_cases hq : q < 4
          · exact .inr ⟨q, hq, hx⟩
          · rw [h.c2 q (by omega)] at hx; simp at hx))) hcv
      · rw [exec_live_app hL]
        exact h1
theorem used_add {S : AS} {a : Nat} : (setTo (S.add a).used 1536).length ≤ (setTo S.used 1536).length + 1 := by
  have := nodup_le (setTo (S.add a).used 1536) (a :: setTo S.used 1536) (setTo_nodup _ _) (fun x hx => by
    obtain ⟨h1, h2⟩ := setTo_mem.1 hx
    have h2 : addS S.used a x = true := h2
    unfold addS at h2
    rcases Bool.or_eq_true_iff.1 h2 with h3 | h3
    · exact List.mem_cons_of_mem _ (setTo_mem.2 ⟨h1, h3⟩)
    · rw [of_decide_eq_true h3]; exact List.mem_cons_self ..)
  rwa [List.length_cons] at this
end Go.Proofs.YtcnjipicifkfjaaGreat

/- Plain law: a phase done or stopped. -/
namespace Go.Proofs.YtcnjipicifkfjaaGreat
open Go.RowKit
set_option linter.unusedVariables false
set_option linter.unusedSimpArgs false

theorem sts_exec {m : Nat} {L0 : List Nat} {T : Nat → Prop} (ps : List (Nat × Nat)) : ∀ {s : DS} {C : List Nat}, Ph s m L0 C T → (∀ l, s.P.getD l false = false) → (∀ p ∈ ps, p.1 < 8 * m ∧ T (p.1 / 8)) →
    ((exec s (sts ps)).2 = true → Ph (exec s (sts ps)).1 m L0 (cR C ps) T ∧ ∀ l, (exec s (sts ps)).1.P.getD l false = false) ∧ ((exec s (sts ps)).2 = false → ∃ t, t ≤ ps.length ∧ Ph (exec s (sts ps)).1 m L0 (cR C (ps.take t)) T) := by
  induction ps with
  | nil => intro s C h hP _; exact ⟨fun _ => ⟨h, hP⟩, fun e => by cases e⟩
  | cons p ps ih =>
    intro s C h hP hps
    have e : exec s (sts (p :: ps)) = if s.can then exec (Step.run s.tick (.st p.1 p.2)) (sts ps) else (s.die, false) := rfl
    rw [e]
    by_cases hc : s.can = true
    · rw [if_pos hc]
      have h2 := h.tick.st p.1 p.2 (hps p List.mem_cons_self).1 (hps p List.mem_cons_self).2 hP
      obtain ⟨i1, i2⟩ := ih h2 hP (fun q hq => hps q (List.mem_cons_of_mem _ hq))
      refine ⟨i1, fun hf => ?_⟩
      obtain ⟨t, ht, hph⟩ := i2 hf
      exact ⟨t + 1, by simp; omega, by rw [List.take_succ_cons]; exact hph⟩
    · rw [if_neg hc]
      exact ⟨fun e => (by cases e), fun _ => ⟨0, by omega, by rw [List.take_zero]; exact h.die⟩⟩
theorem fls_exec {m : Nat} {L0 C : List Nat} {T : Nat → Prop} (k : Nat) : ∀ {s : DS} {l0 : Nat}, Ph s m L0 C T → l0 + k ≤ m →
    Ph (exec s (flushes l0 k)).1 m L0 C T ∧ ((exec s (flushes l0 k)).2 = true → (exec s (flushes l0 k)).1.D = s.D ∧ ∀ l, l0 ≤ l → l < l0 + k → s.D.getD l false = true → (exec s (flushes l0 k)).1.P.getD l false = true) ∧
      ((exec s (flushes l0 k)).2 = true → ∀ l, s.P.getD l false = true → (exec s (flushes l0 k)).1.P.getD l false = true) := by
  induction k with
  | zero => intro s l0 h _; exact ⟨h, fun _ => ⟨rfl, fun l h1 h2 _ => by omega⟩, fun _ l hl => hl⟩
  | succ k ih =>
    intro s l0 h hm
    have e : exec s (flushes l0 (k + 1)) = if s.can then exec (Step.run s.tick (.fl l0)) (flushes (l0 + 1) k) else (s.die, false) := rfl
    rw [e]
    by_cases hc : s.can = true
    · rw [if_pos hc]
      have h2 := h.tick.fl l0 (by omega)
      have hpf := fun l => fl_P (s := s.tick) (l := l0) h.tick.f (by omega) l
      obtain ⟨i1, i2, i3⟩ := ih (l0 := l0 + 1) h2 (by omega)
      refine ⟨i1, fun ht => ?_, fun ht l hl => ?_⟩
      · obtain ⟨j1, j2⟩ := i2 ht
        have hD : (Step.run s.tick (.fl l0)).D = s.D := (hpf 0).2
        refine ⟨by rw [j1, hD], fun l h3 h4 h5 => ?_⟩
        by_cases e : l = l0
        · refine i3 ht l ?_
          rw [(hpf l).1]
          have : s.tick.D.getD l0 false = true := by rw [← e]; exact h5
          rw [this, e]
          simp
        · exact j2 l (by omega) (by omega) (by rw [hD]; exact h5)
      · refine i3 ht l ?_
        rw [(hpf l).1]
        have : s.tick.P.getD l false = true := hl
        rw [this]
        rfl
    · rw [if_neg hc]
      exact ⟨h.die, fun e => (by cases e), fun e => (by cases e)⟩
/-- A phase: stores, then the flush of their lines, then a fence. -/
def phaseS (ps : List (Nat × Nat)) (l0 k : Nat) : List Step := sts ps ++ (flushes l0 k ++ [.fe])
theorem phase {s : DS} {m : Nat} (h : Rest s m) (ps : List (Nat × Nat)) (l0 k : Nat) (hk : l0 + k ≤ m) (hps : ∀ p ∈ ps, l0 ≤ p.1 / 8 ∧ p.1 / 8 < l0 + k) :
    ((exec s (phaseS ps l0 k)).2 = true → Rest (exec s (phaseS ps l0 k)).1 m ∧ (exec s (phaseS ps l0 k)).1.C = cR s.C ps) ∧
    ((exec s (phaseS ps l0 k)).2 = false → ∃ t, t ≤ ps.length ∧ Ph (exec s (phaseS ps l0 k)).1 m s.C (cR s.C (ps.take t)) (fun l => l0 ≤ l ∧ l < l0 + k)) := by
  have h0 : Ph s m s.C s.C (fun l => l0 ≤ l ∧ l < l0 + k) := ⟨h.f, h.e, rfl, fun _ _ => rfl, fun l hl => (by rw [h.d] at hl; cases hl), fun l hl => by rw [h.p] at hl; cases hl⟩
  obtain ⟨a1, a2⟩ := sts_exec ps h0 h.p (fun p hp => ⟨by have := hps p hp; omega, hps p hp⟩)
  have e : exec s (phaseS ps l0 k) = if (exec s (sts ps)).2 then exec (exec s (sts ps)).1 (flushes l0 k ++ [.fe]) else exec s (sts ps) := exec_append _ _ _
  rw [e]
  cases hc : (exec s (sts ps)).2 with
  | false =>
    rw [if_neg (by simp)]
    exact ⟨fun e => (by rw [hc] at e; cases e), fun _ => a2 hc⟩
  | true =>
    rw [if_pos rfl]
    obtain ⟨b1, b2⟩ := a1 hc
    generalize (exec s (sts ps)).1 = u at *
    obtain ⟨c1, c2, c3⟩ := fls_exec k (l0 := l0) b1 hk
    have e2 : exec u (flushes l0 k ++ [.fe]) = if (exec u (flushes l0 k)).2 then exec (exec u (flushes l0 k)).1 [.fe] else exec u (flushes l0 k) := exec_append _ _ _
    rw [e2]
    have hlen : (exec u (flushes l0 k)).2 = false → ∃ t, t ≤ ps.length ∧ Ph (exec u (flushes l0 k)).1 m s.C (cR s.C (ps.take t)) (fun l => l0 ≤ l ∧ l < l0 + k) := fun _ => ⟨ps.length, Nat.le_refl _, by rw [List.take_length]; exact c1⟩
    cases hf : (exec u (flushes l0 k)).2 with
    | false =>
      rw [if_neg (by simp)]
      exact ⟨fun e => (by rw [hf] at e; cases e), fun _ => hlen hf⟩
    | true =>
      rw [if_pos rfl]
      obtain ⟨d1, d2⟩ := c2 hf
      generalize (exec u (flushes l0 k)).1 = q at *
      have e3 : exec q [.fe] = if q.can then (Step.run q.tick .fe, true) else (q.die, false) := rfl
      rw [e3]
      by_cases hcan : q.can = true
      · rw [if_pos hcan]
        refine ⟨fun _ => c1.tick.fe (fun l hl => ?_), fun e => by cases e⟩
        have hl2 : u.D.getD l false = true := by rw [← d1]; exact hl
        obtain ⟨x1, x2⟩ := b1.dT l hl2
        exact d2 l x1 x2 hl2
      · rw [if_neg hcan]
        exact ⟨fun e => (by cases e), fun _ => ⟨ps.length, Nat.le_refl _, by rw [List.take_length]; exact c1.die⟩⟩
end Go.Proofs.YtcnjipicifkfjaaGreat

/- nvm.Arm; explore.Ways. -/
namespace Go.Proofs.YtcnjipicifkfjaaGreat
open Go.RowKit
set_option linter.unusedVariables false
set_option linter.unusedSimpArgs false

def DS.arm (s : DS) (n : Nat) : DS := { s with fuse := n, armed := true }
end Go.Proofs.YtcnjipicifkfjaaGreat

/- explore.Choice. -/
namespace Go.Proofs.YtcnjipicifkfjaaGreat
open Go.RowKit
set_option linter.unusedVariables false
set_option linter.unusedSimpArgs false

end Go.Proofs.YtcnjipicifkfjaaGreat

/- nvm.Dirty. -/
namespace Go.Proofs.YtcnjipicifkfjaaGreat
open Go.RowKit
set_option linter.unusedVariables false
set_option linter.unusedSimpArgs false

/-- The lines that are dirty, of the first i. -/
def dirtyL (D : List Bool) (i : Nat) : List Nat := (List.range i).filter fun l => D.getD l false
end Go.Proofs.YtcnjipicifkfjaaGreat

/- nvm.Crash. -/
namespace Go.Proofs.YtcnjipicifkfjaaGreat
open Go.RowKit
set_option linter.unusedVariables false
set_option linter.unusedSimpArgs false

/-- What a crash leaves: the lasting words, and of the dirty lines those that are chosen as they are now. -/
def crashTo (s : DS) (ls cs : List Nat) : Nat → List Nat
  | 0 => s.L
  | i + 1 => if cs.getD i 0 = 2 then splice (crashTo s ls cs i) (8 * ls.getD i 0) (lineOf s.C (ls.getD i 0)) else crashTo s ls cs i
end Go.Proofs.YtcnjipicifkfjaaGreat
