/- alloc: Alloc. -/
import Derived.Test.YtcnjipicifkfjaaGreatRm18
import Derived.Test.YtcnjipicifkfjaaGreatRm16
import Derived.Test.YtcnjipicifkfjaaGreatRm14
import Derived.RangeFuncBox
import Derived.RangeFuncNested
import Derived.RangeFuncLeaves
import Derived.Shelf.Abstract
import Derived.OwnWalkIn
import Derived.TacticsInMore
import Derived.LoopNIn
import Derived.LoopIn
import Derived.Test.YtcnjipicifkfjaaGreatRm15

namespace Go.Proofs.YtcnjipicifkfjaaGreat
open Go.RowKit
set_option linter.unusedVariables false
set_option linter.unusedSimpArgs false

/-- What room answers: by which steps of the device, at which address, and what the allocator is then. -/
def RoomOk (B : Nat) (b : DB) (m : Nat) (s : DS) (ap mp us fr mu p dd : Nat) (S : AS) (st : List Step) (a : Nat) (S1 : AS) : Prop :=
  ∀ (col : Nat → Nat) (w : World), Dev B w b m s → (∀ k, b.has k → col k = 0) → AllocX w col ap b.d mp us fr S → Calls Tryz.prog 112 #[.pointer (some ⟨ap, 0, none⟩), .int .i64 mu, .agg #[.int .i64 p, .int .i64 dd]] w fun e w' =>
    e = .returned (.tuple #[.int .i64 (if (exec s st).2 then a else 0 : Nat), .int .i64 (ecode (exec s st).2)]) ∧ Dev B w' b m (exec s st).1 ∧
    ((exec s st).2 = true → ∃ col', (∀ k, k < w.heap.size → col' k = col k) ∧ AllocX w' col' ap b.d mp us fr S1) ∧ Mod w w' (fun k => b.has k ∨ col k = 1 ∨ col k = 3)
def AS.add (S : AS) (a : Nat) : AS := { S with used := addS S.used a }
set_option maxRecDepth 100000 in
set_option maxHeartbeats 4000000 in
theorem alloc_any (B : Nat) (b : DB) (m : Nat) (s : DS) (col : Nat → Nat) (ap mp us fr mu p dd a : Nat) (S S1 : AS) (st : List Step) (w : World) (h : Dev B w b m s) (hdv : ∀ k, b.has k → col k = 0) (hA : AllocX w col ap b.d mp us fr S) (hmu : mu < 4) (ho : Obj p dd)
    (hm : m = S.K * 64) (hK2 : 2 ≤ S.K) (hK : S.K ≤ 150) (hK1 : S1.K = S.K) (hR : RoomOk B b m s ap mp us fr mu p dd S st a S1) (ha : a + (1 + p + dd) ≤ 8 * m) :
    Calls Tryz.prog 60 #[.pointer (some ⟨ap, 0, none⟩), .int .i64 mu, .int .i64 p, .int .i64 dd] w fun e w' =>
      e = .returned (.tuple #[.int .i64 (if (exec s (st ++ initS a p dd)).2 then a else 0 : Nat), .int .i64 (ecode (exec s (st ++ initS a p dd)).2)]) ∧ Dev B w' b m (exec s (st ++ initS a p dd)).1 ∧
      ((exec s (st ++ initS a p dd)).2 = true → ∃ col', (∀ k, k < w.heap.size → col' k = col k) ∧ AllocX w' col' ap b.d mp us fr (S1.add a)) ∧ Mod w w' (fun k => b.has k ∨ col k = 1 ∨ col k = 2 ∨ col k = 3) := by
  obtain ⟨hp, hd, _⟩ := ho.le
  obtain ⟨E, HE⟩ : ∃ E, Hid (exec s (st ++ initS a p dd) = E) := ⟨_, rfl⟩
  rw [HE.out]
  obtain ⟨va, Hva⟩ : ∃ v, Hid ((if E.2 then a else 0) = v) := ⟨_, rfl⟩
  rw [Hva.out]
  obtain ⟨w0, Hw0⟩ : ∃ w0, Hid (w = w0) := ⟨_, rfl⟩
  have Hs := Lib.hid (fun w => osize_any p dd w (by omega) (by omega))
  have Hg := Lib.hid (fun w => gmost_any S.K w hK2 (by omega))
  have Hi := Lib.hid (fun (s1 : DS) w h => init_any B b m s1 a p dd w h ho ha (by omega))
  have HR := Lib.hid hR
  have HAb : Hid (∀ wr, Below w.heap.size w wr → AllocX wr (colW col w0 9) ap b.d mp us fr S) := fun wr hb => (Hw0.out ▸ (hA.recol (colW_lt col w 9)) : AllocX w (colW col w0 9) ap b.d mp us fr S).below hb (Nat.le_refl _)
  have HDb : Hid (∀ wr, Below w.heap.size w wr → Dev B wr b m s) := fun wr hb => h.below hb (Nat.le_refl _)
  have HDV : Hid (∀ k, b.has k → colW col w0 9 k = 0 ∧ k < w.heap.size) := fun k hk => ⟨by rw [← Hw0.out, colW_lt _ _ _ _ (h.lt k hk).2]; exact hdv k hk, (h.lt k hk).2⟩
  have HCW : Hid (∀ k, k < w.heap.size → colW col w0 9 k = col k) := fun k hk => by rw [← Hw0.out, colW_lt _ _ _ _ hk]
  have HC9 : Hid (∀ k, w.heap.size ≤ k → colW col w0 9 k = 9) := fun k hk => by rw [← Hw0.out]; exact colW_ge _ _ _ _ hk
  obtain ⟨q, Hq⟩ : ∃ q, Hid (1 + p + dd = q) := ⟨_, rfl⟩
  obtain ⟨M, HM⟩ : ∃ M, Hid ((S.K - 1) * 512 = M) := ⟨_, rfl⟩
  rw [Hq.out] at Hs ha
  rw [HM.out] at Hg
  have hq1 : 1 ≤ q := by rw [← Hq.out]; omega
  have hqM : q ≤ M := by rw [← Hq.out, ← HM.out]; omega
  have g1 : decide ((mu : Int) ≥ 4) = false := by rw [decide_eq_false_iff_not]; omega
  have g1' : decide (4 ≤ mu) = false := by rw [decide_eq_false_iff_not]; omega
  have g2 : decide ((q : Int) = 0) = false := by rw [decide_eq_false_iff_not]; omega
  have g2' : decide (q = 0) = false := by rw [decide_eq_false_iff_not]; omega
  have g2'' : ((q : Int) == 0) = false := by rw [beq_eq_false_iff_ne]; omega
  have g3 : decide ((q : Int) > (M : Int)) = false := by rw [decide_eq_false_iff_not]; omega
  have g3' : decide (M < q) = false := by rw [decide_eq_false_iff_not]; omega
  have HamB : Hid (a < 1000000) := by show a < 1000000; omega
  have HaN : Hid (a < 512 * S.K) := by show a < 512 * S.K; omega
  obtain ⟨n1, Hn1⟩ : ∃ n, Hid (w.heap.size = n) := ⟨_, rfl⟩
  have L1 := Lib.hid ((Loc.nil Nob w).box 51 #[.int .i64 p, .int .i64 dd] n1 Hn1.out)
  have Hn1w := Lib.hid (Nat.le_of_eq Hn1.out)
  clear h hA hdv ha hR
  generalize colW col w0 9 = col1 at *
  go_enter Tryz.func60, Tryz.ntmps60
  go_wp2_with fail
  rw [Hn1.out]
  generalize w.alloc _ = w1 at *
  have L := Lib.hid L1.out.drew
  clear L1
  have c2 := (HAb.out _ L.out.below).b.cell 2
  go_region_held3 (fun w' => w'.cell? ⟨n1, 0, none⟩ = some (.int .i64 p) ∧ w'.cell? ⟨n1, 1, none⟩ = some (.int .i64 dd) ∧ w'.cell? ⟨ap, 2, none⟩ = some (.int .i64 S.K))
    (exact ⟨L.out.b0.cell 0, L.out.b0.cell 1, (HAb.out _ L.out.below).b.cell 2⟩)
    (first
      | (go_at_call 48; refine (Hs.out _).mono ?_; rintro e w2 ⟨rfl, hb2⟩; replace L := Lib.hid (L.out.call hb2 (Nat.le_refl _)); clear hb2)
      | (go_at_call 50; refine (Hg.out _).mono ?_; rintro e w2 ⟨rfl, hb2⟩; replace L := Lib.hid (L.out.call hb2 (Nat.le_refl _)); clear hb2))
  have y0 : w2.cell? ⟨n1, 0, none⟩ = some (.int .i64 p) := L.out.b0.cell 0
  have y1 : w2.cell? ⟨n1, 1, none⟩ = some (.int .i64 dd) := L.out.b0.cell 1
  clear g1 g1' g2 g2' g2'' g3 g3' c2
  have HD2 := Lib.hid (HDb.out _ L.out.below)
  have HA2 := Lib.hid (HAb.out _ L.out.below)
  have hc9 : col1 n1 = 9 := HC9.out n1 Hn1w.out
  obtain ⟨R, HRR⟩ : ∃ R, Hid (exec s st = R) := ⟨_, rfl⟩
  obtain ⟨v, Hv⟩ : ∃ v, Hid ((if R.2 then a else 0) = v) := ⟨_, rfl⟩
  have HR2 := Lib.hid (HR.out col1 w2 HD2.out (fun k hk => (HDV.out k hk).1) HA2.out)
  rw [HRR.out, Hv.out] at HR2
  have Hc9 := Lib.hid hc9
  clear hc9 HR
  go_wp2_with fail
  refine HR2.out.mono ?_
  rintro e w3 ⟨rfl, hd3, hA3, hM3⟩
  have HD3 := Lib.hid hd3
  have HA3 := Lib.hid hA3
  have HX3 : Hid (Blk w3 n1 51 #[.int .i64 p, .int .i64 dd]) := hM3.blk L.out.b0 (by rintro (h | h | h); have := (HDV.out _ h).1; have := Hc9.out; omega; have := Hc9.out; omega; have := Hc9.out; omega)
  have HM3 : Hid (Mod w w3 (fun k => b.has k ∨ col k = 1 ∨ col k = 2 ∨ col k = 3)) := Mod.trans (mod_b L.out.below : Mod w w2 (fun k => b.has k ∨ col k = 1 ∨ col k = 2 ∨ col k = 3)) hM3 (fun k hk h => by rw [HCW.out k hk] at h; rcases h with h | h | h <;> simp [h])
  have hwlt : w.heap.size ≤ w2.heap.size := L.out.below.size
  have Hwlt := Lib.hid hwlt
  clear hd3 hA3 hM3 y0 y1 HR2 L hwlt
  cases hR : R.2 with
  | false =>
    have HF : Hid (E = R) := by show _ = _; rw [← HE.out, exec_fail (by rw [HRR.out, hR]), HRR.out]
    have hv : v = 0 := by rw [← Hv.out, hR]; rfl
    have hva : va = 0 := by rw [← Hva.out, HF.out, hR]; rfl
    subst hv
    rw [show ecode false = 3 from rfl]
    have Hf := Lib.hid hR
    clear hR
    go_wp2_with fail
    refine bodyPost_ret (results_tmp2 rfl _ _ _) rfl ?_
    rw [HF.out, Hf.out, hva]
    exact ⟨rfl, HD3.out, (fun h => by cases h), HM3.out⟩
  | true =>
    have hv : v = a := by rw [← Hv.out, hR]; rfl
    subst hv
    rw [show ecode true = 0 from rfl]
    obtain ⟨col2, hc2, hA3⟩ := HA3.out hR
    have HC2 := Lib.hid hc2
    have HA4 := Lib.hid hA3
    have HF : Hid (E = exec R.1 (initS v p dd)) := by show _ = _; rw [← HE.out, exec_ok (by rw [HRR.out, hR]), HRR.out]
    clear hc2 hA3 HA3 hR
    have z1 : w3.cell? ⟨ap, 1, none⟩ = some (.pointer (some ⟨b.d, 0, none⟩)) := HA4.out.b.cell 1
    have z2 : w3.cell? ⟨n1, 0, none⟩ = some (.int .i64 p) := HX3.out.cell 0
    have z3 : w3.cell? ⟨n1, 1, none⟩ = some (.int .i64 dd) := HX3.out.cell 1
    have Hii := Lib.hid (Hi.out R.1)
    rw [← HF.out] at Hii
    go_wp2_with fail
    have HDW : Hid (Dev B w3.drew b m R.1) := HD3.out.drewN 1
    have HDC : Hid (∀ k, b.has k → col2 k = 0 ∧ k ≠ n1) := by
      intro k hk
      have h1 := HDV.out k hk
      have h2 := HC2.out k (Nat.lt_of_lt_of_le h1.2 Hwlt.out)
      exact ⟨h2.trans h1.1, by have := Hn1.out; omega⟩
    go_region_held3 (fun w' => w'.cell? ⟨n1, 0, none⟩ = some (.int .i64 p) ∧ w'.cell? ⟨n1, 1, none⟩ = some (.int .i64 dd) ∧ w'.cell? ⟨ap, 1, none⟩ = some (.pointer (some ⟨b.d, 0, none⟩)))
      (first | exact ⟨z2, z3, z1⟩ | exact ⟨HX5.out.cell 0, HX5.out.cell 1, HA5.out.b.cell 1⟩)
      ((go_at_call 113; refine (Hii.out _ HDW.out).mono ?_; rintro e w5 ⟨rfl, hd5, hm5'⟩; have hm5 : Mod w3 w5 b.has := ⟨hm5'.os, hm5'.tape, hm5'.output, hm5'.size, hm5'.block⟩; have HD5 := Lib.hid hd5; have HA5 : Hid (AllocX w5 col2 ap b.d mp us fr S1) := HA4.out.mod (T := b.has) hm5 (fun k h1 h2 => by have := (HDC.out k h2).1; omega); have HX5 : Hid (Blk w5 n1 51 #[.int .i64 p, .int .i64 dd]) := Mod.blk (S := b.has) hm5 HX3.out (fun h => (HDC.out _ h).2 rfl); have HM5 : Hid (Mod w w5 (fun k => b.has k ∨ col k = 1 ∨ col k = 2 ∨ col k = 3)) := HM3.out.trans (S' := b.has) hm5 (fun k _ h => .inl h); clear hd5 hm5 hm5'))
    clear z1 z2 z3 HX3 HA4 HD3 HM3
    cases hE : E.2 with
    | false =>
      have hva : va = 0 := by rw [← Hva.out, hE]; rfl
      rw [show ecode false = 3 from rfl]
      have Hf := Lib.hid hE
      clear hE
      go_wp2_with fail
      refine bodyPost_ret (results_tmp2 rfl _ _ _) rfl ?_
      rw [Hf.out, hva]
      exact ⟨rfl, HD5.out, (fun h => by cases h), HM5.out⟩
    | true =>
      have hva : va = v := by rw [← Hva.out, hE]; rfl
      rw [show ecode true = 0 from rfl]
      have Hf := Lib.hid hE
      have c3 := HA5.out.b.cell 3
      have Had := Lib.hid (badd_any (fun k => col2 k = 2) us (8 * S1.K) v S1.used w5 HA5.out.u (by omega) (by have := HamB.out; omega))
      have hvK : Hid (v < 64 * (8 * S1.K)) := by show v < _; have := HaN.out; rw [hK1]; omega
      clear hE
      go_wp2_with fail
      refine Had.out.mono ?_
      rintro e w6 ⟨rfl, hS6, hM6⟩
      have HA6 := Lib.hid (HA5.out.usedS hM6 (hS6.conv (addS_conv S1.used v _ hvK.out)))
      have HD6 : Hid (Dev B w6 b m E.1) := HD5.out.mod hM6 (fun k h1 h2 => by have := (HDC.out k h1).1; omega)
      have HC6 : Hid (∀ k, k < w.heap.size → col2 k = col k) := fun k hk => (HC2.out k (Nat.lt_of_lt_of_le hk Hwlt.out)).trans (HCW.out k hk)
      have HM6 : Hid (Mod w w6 (fun k => b.has k ∨ col k = 1 ∨ col k = 2 ∨ col k = 3)) := HM5.out.trans hM6 (fun k hk h => by rw [HC6.out k hk] at h; exact .inr (.inr (.inl h)))
      clear hS6 hM6 c3 Had HA5 HD5 HM5
      go_wp2_with fail
      refine bodyPost_ret (results_tmp2 rfl _ _ _) rfl ?_
      rw [Hf.out, hva]
      exact ⟨rfl, HD6.out, fun _ => ⟨col2, HC6.out, HA6.out⟩, HM6.out⟩
end Go.Proofs.YtcnjipicifkfjaaGreat

/- alloc: Place. -/
namespace Go.Proofs.YtcnjipicifkfjaaGreat
open Go.RowKit
set_option linter.unusedVariables false
set_option linter.unusedSimpArgs false

/-- An object's place is right: it begins a cell of its class, in a block of that class. -/
def Pl (s : DS) (m K k p : Nat) (hs : List (Nat × Nat)) (a : Nat) : Prop :=
  ∃ d bl i, ObjAt s m a p d ∧ cof (1 + p + d) = k ∧ CellAt K k a bl i ∧ hs.getD bl (0, 0) = (1, k)
set_option maxRecDepth 100000 in
set_option maxHeartbeats 2000000 in
theorem place_d (B : Nat) (b : DB) (m : Nat) (s : DS) (col : Nat → Nat) (ap mp us fr a p d bl i : Nat) (S : AS) (w : World) (h : Dev B w b m s) (hA : AllocX w col ap b.d mp us fr S) (ho : ObjAt s m a p d) (hk : cof (1 + p + d) = S.k) (hcell : CellAt S.K S.k a bl i) (hh : S.hs.getD bl (0, 0) = (1, S.k)) (hm : m = S.K * 64) (hK0 : 0 < S.K) (hK : S.K ≤ 150) :
    Calls Tryz.prog 141 #[.pointer (some ⟨ap, 0, none⟩), .int .i64 a] w fun e w' => e = .returned (.tuple #[.agg #[.int .i64 p, .int .i64 d], .bool true]) ∧ Below w.heap.size w w' := by
  obtain ⟨t, x, T, X, hmb, hT, hX, d1, d2, d3, d4, d5, d6⟩ := hA.m
  have HD : Hid (∀ wr, Below w.heap.size w wr → Dev B wr b m s) := fun wr hb => h.below hb (Nat.le_refl _)
  have Htl : Hid (∀ wr, Below w.heap.size w wr → Calls Tryz.prog 137 #[.pointer (some ⟨t, 0, none⟩)] wr fun e w' => ∃ g cap, e = .returned (.slice (some ⟨g, 0, none⟩) S.K cap) ∧ Own w' wr.heap.size 178 3 (some ⟨g, 0, none⟩) S.K cap (hcells S.hs) ∧ Below wr.heap.size wr w') :=
    fun wr hb => tall_any T t b.d S.K S.hs wr (hT.below hb (Nat.le_refl _)) hK0 (by omega)
  have Hpl : Hid (∀ (g cap base : Nat) wr, Below w.heap.size w wr → Own wr base 178 3 (some ⟨g, 0, none⟩) S.K cap (hcells S.hs) → Calls Tryz.prog 188 #[.pointer (some ⟨b.d, 0, none⟩), .agg #[.int .i64 S.K], .slice (some ⟨g, 0, none⟩) S.K cap, .int .i64 a] wr fun e w' => e = .returned (.tuple #[.agg #[.int .i64 p, .int .i64 d], .bool true]) ∧ Below wr.heap.size wr w') :=
    fun g cap base wr hb hO => placed_any B b m s S.K a p d bl i g S.K cap S.hs wr (HD.out wr hb) ho (by rw [hk]; exact hcell) hK hm (hO.base_ (Nat.zero_le _)) (by rw [hk]; exact hh)
  have Hb1 : Hid (∀ wr, Below w.heap.size w wr → wr.cell? ⟨ap, 0, none⟩ = some (.pointer (some ⟨mp, 0, none⟩)) ∧ wr.cell? ⟨ap, 1, none⟩ = some (.pointer (some ⟨b.d, 0, none⟩)) ∧ wr.cell? ⟨ap, 2, none⟩ = some (.int .i64 S.K) ∧ wr.cell? ⟨mp, 0, none⟩ = some (.pointer (some ⟨t, 0, none⟩))) := by
    intro wr hb
    have h1 := hA.b.below hb hA.b.lt
    have h2 := hmb.below hb hmb.lt
    exact ⟨h1.cell 0, h1.cell 1, h1.cell 2, h2.cell 0⟩
  obtain ⟨n4, Hn4⟩ : ∃ n, Hid (w.heap.size = n) := ⟨_, rfl⟩
  have L1 := Lib.hid ((Loc.nil Nob w).box 51 #[.int .i64 0, .int .i64 0] n4 Hn4.out)
  clear h hA hmb hT hX ho hk hcell hh d1 d2 d3 d4 d5 d6
  go_enter Tryz.func141, Tryz.ntmps141
  go_wp2_with fail
  rw [Hn4.out]
  generalize w.alloc _ = w1 at *
  have LD := Lib.hid L1.out.drew
  obtain ⟨c0, c1, c2, c3⟩ := Hb1.out _ LD.out.below
  have HC0 := Lib.hid (Hb1.out _ LD.out.below)
  clear L1
  go_region_held3 (fun w' => w'.cell? ⟨ap, 0, none⟩ = some (.pointer (some ⟨mp, 0, none⟩)) ∧ w'.cell? ⟨ap, 1, none⟩ = some (.pointer (some ⟨b.d, 0, none⟩)) ∧ w'.cell? ⟨ap, 2, none⟩ = some (.int .i64 S.K) ∧ w'.cell? ⟨mp, 0, none⟩ = some (.pointer (some ⟨t, 0, none⟩)))
    (first | exact HC0.out | exact HC2.out | exact HC3.out | exact Hb1.out _ ((L3.out.set 0 (.int .i64 p)).set 1 (.int .i64 d)).below)
    (first
      | (go_at_call 137; refine (Htl.out _ LD.out.below).mono ?_; rintro e w2 ⟨g, cap, rfl, hO2, hb2⟩; have L2 := Lib.hid (LD.out.call hb2 (Nat.le_refl _)); have HO2 := Lib.hid hO2; have HC2 := Lib.hid (Hb1.out _ L2.out.below); clear hb2 hO2)
      | (go_at_call 188; refine (Hpl.out _ _ _ _ L2.out.below HO2.out).mono ?_; rintro e w3 ⟨rfl, hb3⟩; have L3 := Lib.hid (L2.out.call hb3 (Nat.le_refl _)); have HC3 := Lib.hid (Hb1.out _ L3.out.below); have z0 : w3.cell? ⟨n4, 0, none⟩ = some (.int .i64 0) := L3.out.b0.cell 0; have z1 : w3.cell? ⟨n4, 1, none⟩ = some (.int .i64 0) := L3.out.b0.cell 1; have f0 := L3.out.b0.frozen 0; have f1 := L3.out.b0.frozen 1; clear hb3))
  have L4 := Lib.hid ((L3.out.set 0 (.int .i64 p)).set 1 (.int .i64 d))
  clear z0 z1 f0 f1
  go_wp2_with fail
  have q0 := L4.out.b0.cell 0
  have q1 := L4.out.b0.cell 1
  simp at q0 q1
  refine bodyPost_ret (v := .tuple #[.agg #[.int .i64 p, .int .i64 d], .bool true]) (by simp [results, Tryz.results141, go_sem, q0, q1]) rfl ?_
  exact ⟨rfl, L4.out.below⟩
theorem place_any (B : Nat) (b : DB) (m : Nat) (s : DS) (col : Nat → Nat) (ap mp us fr a p : Nat) (S : AS) (w : World) (h : Dev B w b m s) (hA : AllocX w col ap b.d mp us fr S) (hP : Pl s m S.K S.k p S.hs a) (hm : m = S.K * 64) (hK0 : 0 < S.K) (hK : S.K ≤ 150) :
    Calls Tryz.prog 141 #[.pointer (some ⟨ap, 0, none⟩), .int .i64 a] w fun e w' => (∃ d : Nat, e = .returned (.tuple #[.agg #[.int .i64 p, .int .i64 d], .bool true])) ∧ Below w.heap.size w w' := by
  obtain ⟨d, bl, i, ho, hk, hcell, hh⟩ := hP
  exact (place_d B b m s col ap mp us fr a p d bl i S w h hA ho hk hcell hh hm hK0 hK).mono (fun e w' h => ⟨⟨d, h.1⟩, h.2⟩)
end Go.Proofs.YtcnjipicifkfjaaGreat

/- bitmap: All, List (a range over a function). -/
namespace Go.Proofs.YtcnjipicifkfjaaGreat
open Go.RowKit Go.Shelf
set_option linter.unusedVariables false
set_option linter.unusedSimpArgs false

attribute [local go_sem] Oper.semAt_some

/-- A set's list, rising. -/
def setL (s : Nat → Bool) (n : Nat) : List Nat := (List.range (64 * n)).filter s
/-- Those below an address. -/
def setTo (s : Nat → Bool) (a : Nat) : List Nat := (List.range a).filter s
theorem setTo_next {s : Nat → Bool} {a x : Nat} (h : a ≤ x) (hx : s x = true) (hn : ∀ j, a ≤ j → j < x → s j = false) : setTo s (x + 1) = setTo s a ++ [x] := by
  unfold setTo
  obtain ⟨k, rfl⟩ : ∃ k, x = a + k := ⟨x - a, by omega⟩
  rw [List.range_succ, List.filter_append, List.range_add, List.filter_append]
  have e : ((List.range k).map (a + ·)).filter s = [] := by
    rw [List.filter_eq_nil_iff]
    intro y hy
    simp only [List.mem_map, List.mem_range] at hy
    obtain ⟨j, hj, rfl⟩ := hy
    rw [hn _ (by omega) (by omega)]
    decide
  rw [e, List.append_nil]
  simp [hx]
theorem setTo_end {s : Nat → Bool} {a n : Nat} (ha : a ≤ 64 * n) (hn : ∀ j, a ≤ j → s j = false) : setTo s a = setL s n := by
  unfold setTo setL
  obtain ⟨k, hk⟩ : ∃ k, 64 * n = a + k := ⟨64 * n - a, by omega⟩
  rw [hk, List.range_add, List.filter_append]
  have e : ((List.range k).map (a + ·)).filter s = [] := by
    rw [List.filter_eq_nil_iff]
    intro y hy
    simp only [List.mem_map, List.mem_range] at hy
    obtain ⟨j, hj, rfl⟩ := hy
    rw [hn _ (by omega)]
    decide
  rw [e, List.append_nil]
theorem setTo_pre (s : Nat → Bool) {a b : Nat} (h : a ≤ b) : setTo s a <+: setTo s b := by
  unfold setTo
  obtain ⟨k, rfl⟩ : ∃ k, b = a + k := ⟨b - a, by omega⟩
  rw [List.range_add, List.filter_append]
  exact List.prefix_append _ _
theorem setL_len (s : Nat → Bool) (n : Nat) : (setL s n).length ≤ 64 * n := by
  unfold setL
  exact Nat.le_trans (List.length_filter_le _ _) (by rw [List.length_range]; exact Nat.le_refl _)
/-- Where the iterator stands: what came; the next one. -/
def ItS (s : Nat → Bool) (n : Nat) (pre : List Nat) (x : Nat) (ok : Bool) : Prop :=
  ∃ a, a ≤ 64 * n ∧ pre = setTo s a ∧ NextS s a x ok

/-- What a round keeps. -/
def KeepB (n0 Bn : Nat) (q : Value) (A B : World) : Prop := Below n0 A B ∧ (Boxed A Bn 85 q → Boxed B Bn 85 q)
theorem keepB_t {n0 Bn : Nat} {q : Value} {A B C : World} (h : KeepB n0 Bn q A B) (k : KeepB n0 Bn q B C) : KeepB n0 Bn q A C := ⟨h.1.trans k.1, fun x => k.2 (h.2 x)⟩
theorem keepB_b {n0 Bn : Nat} {q : Value} {w : World} (hn : n0 ≤ w.heap.size) (W : World) (l : Nat) (o o' : Go.Obj) (hl : w.heap.size ≤ l) (h : W.heap[l]? = some o) (hc : o.isCells = false) (hw : o.isWalk = false) : KeepB n0 Bn q W (W.putObj l o') :=
  ⟨belowK_b hn W l o o' hl h hc hw, fun hb => hb.kept (grownBy_putObj' W l o') (fun e => by
    cases e
    rw [show W.heap[Bn]? = _ from hb] at h
    cases h
    cases hc)⟩

set_option maxRecDepth 100000 in
set_option maxHeartbeats 1000000 in
theorem ball1_in (F : Nat → Prop) (m l Bn n0 p n : Nat) (s : Nat → Bool) (hm : 1 ≤ m) (hn0 : 0 < n) (hn : n ≤ 10000) (hF : ∀ k, F k → k < n0) (J Jx : List Nat → World → Prop)
    (hY : ∀ pre (x : Nat) W, J pre W → pre.length < (setL s n).length → YieldAt Fence.wide (m - 1) Tryz.prog l #[.int .i64 (x : Int)] W fun e W' =>
      (e = .returned (.bool true) ∧ J (pre ++ [x]) W' ∧ KeepB n0 Bn (.pointer (some ⟨p, 0, none⟩)) W W') ∨ (e = .returned (.bool false) ∧ Jx (pre ++ [x]) W'))
    (W : World) (hBx : Boxed W Bn 85 (.pointer (some ⟨p, 0, none⟩))) (hS : SetR W F p n s) (h0 : J [] W) :
    CallsIn Fence.wide m Tryz.prog 205 #[.func (.yield l) #[] #[], .pointer (some ⟨Bn, 0, none⟩)] W fun e W' => (∃ v, e = .returned v) ∧
      ((∃ ys, ys = setL s n ∧ J ys W') ∨ (∃ pre, pre <+: setL s n ∧ Jx pre W')) := by
  refine callsIn_of_wp Tryz.func205 rfl trivial ?_ rfl
  simp only [Tryz.ntmps205, List.size_toArray, List.length_cons, List.length_nil, Nat.reduceAdd, Nat.reduceSub, Array.replicate_succ, Array.replicate_zero, List.push_toArray, List.append_toArray, List.nil_append, List.cons_append]
  have Hnext : Hid (∀ w' a, SetR w' F p n s → a ≤ 64 * n → Calls Tryz.prog 206 #[.pointer (some ⟨p, 0, none⟩), .int .i64 (a : Int)] w' (NextR s a w')) := fun w' a h ha => bnext_any F p n a s w' h hn0 (by omega) (by omega)
  have HS := Lib.hid hS
  have h0' := Lib.hid h0
  have HBx := Lib.hid hBx
  have hBn := hBx.cell
  clear hS h0 hBx
  gi_wp2_with (refine ⟨trivial, ?_⟩; gi_at_call 206; refine (callsIn_wide.2 (Hnext.out _ 0 HS.out (Nat.zero_le _))).mono ?_; rintro e w' ⟨⟨x, ok, rfl, hx⟩, rfl⟩)
  have Hx : Hid (ItS s n [] x ok) := ⟨0, Nat.zero_le _, by simp [setTo], hx⟩
  clear hx
  gi_loopw [3, 4] (fun v3 v4 wr => ∃ (pre : List Nat) (x : Nat) (ok : Bool), v3 = .int .i64 (x : Int) ∧ v4 = .bool ok ∧ ItS s n pre x ok ∧ KeepB n0 Bn (.pointer (some ⟨p, 0, none⟩)) W wr ∧ J pre wr)
    (fun v3 v4 _ => match v4 with | .bool true => 64 * n + 1 - (intOf v3).toNat | _ => 0)
  case atStart => exact ⟨[], x, ok, rfl, rfl, Hx.out, ⟨Below.refl _ _, fun h => h⟩, h0'.out⟩
  case round =>
    clear Hx
    obtain ⟨pre, x, ok, rfl, rfl, hI, hB, hJ⟩ := hrel
    have HI := Lib.hid hI
    have HB := Lib.hid hB
    have HJ := Lib.hid hJ
    clear hI hB hJ
    cases ok with
    | false =>
      have HE : Hid (pre = setL s n) := by
        obtain ⟨a, ha, rfl, hx⟩ := HI.out
        rcases hx with ⟨h1, _⟩ | ⟨_, _, h1⟩
        · cases h1
        · exact setTo_end ha h1
      gi_wp2
      go_end0
      exact ⟨⟨_, rfl⟩, .inl ⟨pre, HE.out, HJ.out⟩⟩
    | true =>
      obtain ⟨a, ha, hpre, hx⟩ := HI.out
      have hx' : a ≤ x ∧ s x = true ∧ ∀ j, a ≤ j → j < x → s j = false := by
        rcases hx with ⟨_, h1⟩ | ⟨h1, _⟩
        · exact h1
        · cases h1
      obtain ⟨hax, hsx, hbe⟩ := hx'
      have hxn : x < 64 * n := by
        rcases Nat.lt_or_ge x (64 * n) with h1 | h1
        · exact h1
        · have := HS.out.out x h1
          rw [this] at hsx
          cases hsx
      have hsn := setTo_next hax hsx hbe
      have hpl : pre.length < (setL s n).length := by
        have h1 := (setTo_pre s (show x + 1 ≤ 64 * n by omega)).length_le
        rw [hsn, List.length_append] at h1
        simp only [List.length_cons, List.length_nil] at h1
        rw [hpre]
        show _ < (setTo s (64 * n)).length
        omega
      have HN : Hid (pre ++ [x] = setTo s (x + 1)) := by rw [hpre]; exact hsn.symm
      obtain ⟨fn, tmps, assign, body, hy, hR⟩ := hY pre x wr HJ.out hpl
      clear hx hax hsx hbe hsn hpl hpre ha HI
      have HRm := Lib.hid hR
      clear hR
      gi_wp2
      refine HRm.out.mono ?_
      clear HRm hy
      rintro e W3 (⟨rfl, hJ3, hk3⟩ | ⟨rfl, hJx3⟩)
      · have HJ3 := Lib.hid hJ3
        have HB3 := Lib.hid (keepB_t HB.out hk3)
        have hc3 : W3.cell? ⟨Bn, 0, none⟩ = some (.pointer (some ⟨p, 0, none⟩)) := (HB3.out.2 HBx.out).cell
        have HS3 : Hid (SetR W3 F p n s) := by
          obtain ⟨g, cap, L, many, hb0, ho, h1, h2, h3, h4⟩ := HS.out
          refine ⟨g, cap, L, many, hb0.below HB3.out.1 (hF _ h3), ho.mod (Mod.of_below HB3.out.1) (fun a ha => by cases ha; have := hF _ h4; simp only; omega), h1, h2, h3, h4⟩
        clear hJ3 hk3
        gi_wp2_with (refine ⟨trivial, ?_⟩; gi_at_call 206; refine (callsIn_wide.2 (Hnext.out _ (x + 1) HS3.out (by omega))).mono ?_; rintro e w' ⟨⟨x2, ok2, rfl, hx2⟩, rfl⟩)
        go_roundw
        case rel => exact ⟨pre ++ [x], x2, ok2, rfl, rfl, ⟨x + 1, by omega, HN.out, hx2⟩, HB3.out, HJ3.out⟩
        case measure =>
          rcases hx2 with ⟨rfl, h1, _⟩ | ⟨rfl, rfl, _⟩
          · simp [intOf]; omega
          · simp [intOf]; omega
      · have HX3 : Hid (Jx (pre ++ [x]) W3) := hJx3
        have HP : Hid (pre ++ [x] <+: setL s n) := by show _ <+: _; rw [HN.out]; exact setTo_pre s (by omega)
        clear hJx3
        gi_wp2
        refine bodyPost_ret (results_none rfl _ _ _) rfl ?_
        exact ⟨⟨_, rfl⟩, .inr ⟨pre ++ [x], HP.out, HX3.out⟩⟩

set_option maxHeartbeats 1000000 in
theorem ball_in (m p : Nat) (w : World) :
    CallsIn Fence.wide m Tryz.prog 156 #[.pointer (some ⟨p, 0, none⟩)] w fun e w' => e = .returned (.func (.func 205) #[] #[.pointer (some ⟨w.heap.size, 0, none⟩)]) ∧ w' = w.alloc (.cells #[.pointer (some ⟨p, 0, none⟩)] 85) := by
  refine callsIn_of_wp Tryz.func156 rfl trivial ?_ rfl
  simp only [Tryz.ntmps156, List.size_toArray, List.length_cons, List.length_nil, Nat.reduceAdd, Nat.reduceSub, Array.replicate_succ, Array.replicate_zero, List.push_toArray, List.append_toArray, List.nil_append, List.cons_append]
  gi_wp2
  go_ret
  exact ⟨rfl, rfl⟩

theorem ball_stops (F : Nat → Prop) (m Bn n0 p n : Nat) (s : Nat → Bool) (hm : 1 ≤ m) (hn0 : 0 < n) (hn : n ≤ 10000) (hF : ∀ k, F k → k < n0) (w : World) (hc : Boxed w Bn 85 (.pointer (some ⟨p, 0, none⟩))) (hS : SetR w F p n s) :
    SeqStopsK Fence.wide m Tryz.prog 205 #[.pointer (some ⟨Bn, 0, none⟩)] (fun x : Nat => #[Value.int .i64 (x : Int)]) (KeepB n0 Bn (.pointer (some ⟨p, 0, none⟩))) (fun ys => ys = setL s n) (fun pre => pre <+: setL s n) (setL s n).length w := fun l J Jx W hW _ _ hY h0 =>
  ball1_in F m l Bn n0 p n s hm hn0 hn hF J Jx hY W ((hW.block Bn (by
    rcases Nat.lt_or_ge Bn w.heap.size with h1 | h1
    · exact h1
    · exact absurd ((Array.getElem?_eq_none h1).symm.trans (show w.heap[Bn]? = _ from hc)) (by simp))).trans hc) (hS.below hW (Nat.le_refl _)) h0

theorem info3z : (Tryz.prog.info? 3).map (fun i => (i.zero, i.size, i.bytes)) = some (some (.int .i64 0), 1, 8) := by kernel_rfl
set_option maxRecDepth 100000 in
set_option maxHeartbeats 2000000 in
theorem blist_in (F : Nat → Prop) (p n : Nat) (s : Nat → Bool) (w : World) (hS : SetR w F p n s) (hn0 : 0 < n) (hn : n ≤ 10000) :
    CallsIn Fence.wide 4 Tryz.prog 111 #[.pointer (some ⟨p, 0, none⟩)] w fun e W' => ∃ v, e = .returned v ∧ W'.ownsRow w.heap.size 3 1 v (setL s n).length (ncells (setL s n)) ∧ Below w.heap.size w W' := by
  obtain ⟨i0, hi, hz0, hz1, hz2⟩ := info_parts info3z
  have hsl := setL_len s n
  have HSw : Hid (SetR w (fun k => F k ∧ k < w.heap.size) p n s) := hS.weak (fun k h1 h2 => ⟨h2, h1⟩)
  clear hS
  refine callsIn_of_wp_marks Tryz.func111 rfl trivial ?_ rfl
  simp only [Tryz.ntmps111, List.size_toArray, List.length_cons, List.length_nil, Nat.reduceAdd, Nat.reduceSub, Array.replicate_succ, Array.replicate_zero, List.push_toArray, List.append_toArray, List.nil_append, List.cons_append]
  gi_wp2_with (refine ⟨trivial, ?_⟩; gi_at_call 156; refine (ball_in _ p _).mono ?_; rintro e w' ⟨rfl, rfl⟩)
  have bO := Boxed.new w 60 (.slice none 0 0)
  have bN := Boxed.new (w.alloc (.cells #[.slice none 0 0] 60)) 85 (.pointer (some ⟨p, 0, none⟩))
  rw [World.size_alloc] at bN
  have hB0 : Below w.heap.size w ((w.alloc (.cells #[.slice none 0 0] 60)).alloc (.cells #[.pointer (some ⟨p, 0, none⟩)] 85)) := ((Below.refl _ w).alloc (Nat.le_refl _) _).alloc (by simp) _
  have HSl : Hid (SetR ((w.alloc (.cells #[.slice none 0 0] 60)).alloc (.cells #[.pointer (some ⟨p, 0, none⟩)] 85)) (fun k => F k ∧ k < w.heap.size) p n s) := HSw.out.below hB0 (Nat.le_refl _)
  refine wpIn_rangeFunc_ownG rfl (by omega) (gf := 205) (lb := #[.pointer (some ⟨w.heap.size + 1, 0, none⟩)]) rfl trivial (enters_of Tryz.func205 (by kernel_rfl) rfl)
    (ball_stops (fun k => F k ∧ k < w.heap.size) (4 - 1) (w.heap.size + 1) w.heap.size p n s (by omega) hn0 hn (fun k h => h.2) _ bN HSl.out) keepB_t (keepB_b (by simp; omega)) (Below.refl _ _) (fun _ => rfl)
    (fun pre W => (∃ v, Boxed W w.heap.size 60 v ∧ W.ownsRow w.heap.size 3 1 v pre.length (ncells pre) ∧ True) ∧ Boxed W (w.heap.size + 1) 85 (.pointer (some ⟨p, 0, none⟩)) ∧ Below w.heap.size w W)
    (fun _ _ _ => False)
    (OwnFrom.and (Own.from (holdsRow_own w.heap.size w.heap.size 60 3 1 (fun pre : List Nat => pre.length) (fun pre => ncells pre) (fun _ _ => True)) _) (OwnFrom.and (Own.from (boxed_own _ _ _) _) (ownFrom_below (Nat.le_refl _) (by simp; omega))))
    (fun _ _ _ _ _ hs _ _ => hs)
    ⟨⟨_, bO.alloc _, World.ownsRow_nil _ _ _ _, trivial⟩, bN, hB0⟩
    (fun x => { tmps := #[.pointer (some ⟨p, 0, none⟩), undef, .slice none 0 0, .pointer (some ⟨w.heap.size, 0, none⟩), .int .i64 (x : Int), .pointer (some ⟨p, 0, none⟩), .func (.func 205) #[] #[.pointer (some ⟨w.heap.size + 1, 0, none⟩)], .int .i64 (x : Int), undef, undef, undef, undef, undef], defers := [] }) ?assign ?body ?done ?stop
  case assign =>
    intro l x W K hK
    gi_wp2
    exact hK
  case body =>
    rintro l pre x W ⟨⟨v, hv, hrow, _⟩, hbN, hB⟩ hlt
    have hc := hv.cell
    have hne := hbN.not_row (by decide) hrow
    gi_wp2_with (gi_at_builtin; refine wpListIn_append_own _ rfl _ _ 60 rfl w.heap.size 3 i0 (.int .i64 0) 1 8 Tryz.underlying60 hi hz0 hz1 hz2 rfl (by decide) _ _ _ rfl (hrow.alloc _) ⟨W.heap.size, 0, none⟩ 1 1 [.int .i64 (x : Int)] rfl rfl (cell_one_new _ _ _) (by simp [Value.oneCell']) (by unfold maxLen; omega) (by omega) (by have := hB.size; simp; omega) ?_; intro v' w1 hown' hgrow _; obtain ⟨g', cap', rfl⟩ := ownsRow_succ hown'; obtain ⟨hv1, hv2, hr2, hk2, hb2⟩ := hv.appended (by decide) hrow hB.size (Nat.le_refl _) hown' hgrow; have hc1 := hv1.cell; have hf1 := hv1.frozen)
    have hbN2 : Boxed (w1.setCell ⟨w.heap.size, 0, none⟩ (.slice (some ⟨g', 0, none⟩) (pre.length + 1) cap')) (w.heap.size + 1) 85 (.pointer (some ⟨p, 0, none⟩)) :=
      (Below.heap_setCell w1 ⟨w.heap.size, 0, none⟩ _ (w.heap.size + 1) (by simp)).trans ((hbN.alloc _).kept hgrow hne)
    exact ⟨hk2.from _, ⟨hb2, fun _ => hbN2⟩, ⟨_, hv2, by simpa [ncells] using hr2, trivial⟩, hbN2, hB.trans hb2⟩
  case done =>
    rintro D ys W hD rfl ⟨⟨v, hv, hrow, _⟩, hbN, hB⟩ hK
    have hc := hv.cell
    gi_wp2
    refine ⟨by simp, .inl ⟨_, _, rfl, run_takeDeferred hK, ?_⟩⟩
    exact ⟨_, results_tmp rfl _ _ _, v, rfl, ownsRow_putObj hrow _ hK rfl, hB.trans (belowK_b (w := w) (Nat.le_refl _) W D _ _ (by simp at hD; omega) hK rfl rfl)⟩
  case stop =>
    rintro D c pre W _ _ h _
    exact h.elim
theorem blist_any (F : Nat → Prop) (p n : Nat) (s : Nat → Bool) (w : World) (hS : SetR w F p n s) (hn0 : 0 < n) (hn : n ≤ 10000) :
    Calls Tryz.prog 111 #[.pointer (some ⟨p, 0, none⟩)] w fun e w' => ∃ A cap, e = .returned (.slice A (setL s n).length cap) ∧ Own w' w.heap.size 3 1 A (setL s n).length cap (ncells (setL s n)) ∧ Below w.heap.size w w' := by
  refine ((callsIn_wide (n := 4)).1 (blist_in F p n s w hS hn0 hn)).mono ?_
  rintro e w' ⟨v, rfl, hr, hb⟩
  obtain ⟨A, cap, rfl, ho⟩ := Own.of_row hr
  exact ⟨A, cap, rfl, ho, hb⟩
end Go.Proofs.YtcnjipicifkfjaaGreat

/- runs: Give, that joins; Total. -/
namespace Go.Proofs.YtcnjipicifkfjaaGreat
open Go.RowKit
set_option linter.unusedVariables false
set_option linter.unusedSimpArgs false

set_option maxRecDepth 100000 in
set_option maxHeartbeats 2000000 in
/-- Block 1 before a run at 2. -/
theorem xgive_12 (F : Nat → Prop) (x : Nat) (w : World) (h : IdxR w F x 3 (some (2, 1))) :
    Calls Tryz.prog 186 #[.pointer (some ⟨x, 0, none⟩), .int .i64 1, .int .i64 1] w fun e w' => e = .returned (.int .i64 0) ∧ IdxR w' F x 3 (some (1, 2)) ∧ Mod w w' F := by
  have HI := Lib.hid h
  obtain ⟨s, e, hb, hs, he, f1, f2, f3, hne⟩ := h
  have c2 : w.cell? ⟨x, 2, none⟩ = some (.int .i64 3) := hb.cell 2
  have HX : Hid (∀ wr, Below w.heap.size w wr → wr.cell? ⟨x, 0, none⟩ = some (.map (some s)) ∧ wr.cell? ⟨x, 1, none⟩ = some (.map (some e)) ∧
      (Instr.lookup 251 (.map (some e)) (.int .i64 1) true).run Tryz.prog wr = .ok (.tuple #[.int .i64 0, .bool false]) wr ∧ (Instr.lookup 251 (.map (some s)) (.int .i64 2) true).run Tryz.prog wr = .ok (.tuple #[.int .i64 1, .bool true]) wr) := fun wr hB =>
    ⟨(hb.below hB hb.lt).cell 0, (hb.below hB hb.lt).cell 1, (he.below hB he.size).look2 key3 Tryz.underlying251 zeroValue3 1, (hs.below hB hs.size).look2 key3 Tryz.underlying251 zeroValue3 2⟩
  have Hh : Hid (∀ wr, Below w.heap.size w wr → Calls Tryz.prog 224 #[.pointer (some ⟨x, 0, none⟩), .int .i64 1] wr fun e w' => e = .returned (.bool false) ∧ Below w.heap.size wr w') :=
    fun wr hB => (xhas_one F x 3 1 2 1 wr (HI.out.below hB (Nat.le_refl _)) (by omega) (by omega) (by omega) (by omega)).mono (fun e w' h => ⟨h.1, h.2.mono hB.size⟩)
  have Hd : Hid (∀ wr, Below w.heap.size w wr → Calls Tryz.prog 225 #[.pointer (some ⟨x, 0, none⟩), .int .i64 2] wr fun e w' => (∃ v, e = .returned v) ∧ IdxR w' F x 3 none ∧ Mod wr w' F) :=
    fun wr hB => xdrop_any F x 3 2 1 wr (HI.out.below hB (Nat.le_refl _)) (by omega) (by omega)
  clear hb hs he
  go_enter Tryz.func186, Tryz.ntmps186
  go_wp2_with fail
  refine wp_loop_rounds 2 ?_
  rw [rounds_succ]
  go_wp2_with fail
  refine (Hh.out w (Below.refl _ _)).mono ?_
  rintro e1 w1 ⟨rfl, hb1⟩
  have HB1 := Lib.hid hb1
  obtain ⟨c0, c1, l1, l2⟩ := HX.out w1 hb1
  clear hb1 c2
  go_wp2_with fail
  rw [rounds_succ]
  go_wp2_with fail
  refine (Hd.out w1 HB1.out).mono ?_
  rintro e1 w2 ⟨⟨v, rfl⟩, hI2, hM2⟩
  have HI2 := Lib.hid hI2
  have HM2 : Hid (Mod w w2 F) := (mod_below HB1.out).trans hM2 (fun _ _ h => h)
  clear hI2 hM2 c0 c1 l1 l2
  go_wp2_with fail
  refine (xadd_any F x 3 1 2 w2 HI2.out (by omega) (by omega)).mono ?_
  rintro e1 w3 ⟨⟨v, rfl⟩, hI3, hM3⟩
  have HI3 := Lib.hid hI3
  have HM3 : Hid (Mod w w3 F) := HM2.out.trans hM3 (fun _ _ h => h)
  clear hI3 hM3
  go_wp2_with fail
  go_ret
  exact ⟨rfl, HI3.out, HM3.out⟩
set_option maxRecDepth 100000 in
set_option maxHeartbeats 2000000 in
/-- Block 2 behind a run at 1. -/
theorem xgive_21 (F : Nat → Prop) (x : Nat) (w : World) (h : IdxR w F x 3 (some (1, 1))) :
    Calls Tryz.prog 186 #[.pointer (some ⟨x, 0, none⟩), .int .i64 2, .int .i64 1] w fun e w' => e = .returned (.int .i64 0) ∧ IdxR w' F x 3 (some (1, 2)) ∧ Mod w w' F := by
  have HI := Lib.hid h
  obtain ⟨s, e, hb, hs, he, f1, f2, f3, hne⟩ := h
  have c2 : w.cell? ⟨x, 2, none⟩ = some (.int .i64 3) := hb.cell 2
  have HX : Hid (∀ wr, Below w.heap.size w wr → wr.cell? ⟨x, 0, none⟩ = some (.map (some s)) ∧ wr.cell? ⟨x, 1, none⟩ = some (.map (some e)) ∧
      (Instr.lookup 251 (.map (some e)) (.int .i64 2) true).run Tryz.prog wr = .ok (.tuple #[.int .i64 1, .bool true]) wr ∧ (Instr.lookup 251 (.map (some s)) (.int .i64 1) false).run Tryz.prog wr = .ok (.int .i64 1) wr) := fun wr hB =>
    ⟨(hb.below hB hb.lt).cell 0, (hb.below hB hb.lt).cell 1, (he.below hB he.size).look2 key3 Tryz.underlying251 zeroValue3 2, (hs.below hB hs.size).look key3 Tryz.underlying251 zeroValue3 1⟩
  have Hh : Hid (∀ wr, Below w.heap.size w wr → Calls Tryz.prog 224 #[.pointer (some ⟨x, 0, none⟩), .int .i64 2] wr fun e w' => e = .returned (.bool false) ∧ Below w.heap.size wr w') :=
    fun wr hB => (xhas_one F x 3 2 1 1 wr (HI.out.below hB (Nat.le_refl _)) (by omega) (by omega) (by omega) (by omega)).mono (fun e w' h => ⟨h.1, h.2.mono hB.size⟩)
  have Hd : Hid (∀ wr, Below w.heap.size w wr → Calls Tryz.prog 225 #[.pointer (some ⟨x, 0, none⟩), .int .i64 1] wr fun e w' => (∃ v, e = .returned v) ∧ IdxR w' F x 3 none ∧ Mod wr w' F) :=
    fun wr hB => xdrop_any F x 3 1 1 wr (HI.out.below hB (Nat.le_refl _)) (by omega) (by omega)
  have Hn : Hid (∀ wr, IdxR wr F x 3 none → wr.cell? ⟨x, 0, none⟩ = some (.map (some s)) → (Instr.lookup 251 (.map (some s)) (.int .i64 3) true).run Tryz.prog wr = .ok (.tuple #[.int .i64 0, .bool false]) wr) := fun wr hI hc0 => by
    obtain ⟨s2, e2, hb2, hs2, _⟩ := hI
    have h0 : wr.cell? ⟨x, 0, none⟩ = some (.map (some s2)) := hb2.cell 0
    rw [hc0] at h0
    cases h0
    exact hs2.look2 key3 Tryz.underlying251 zeroValue3 3
  clear hb hs he
  go_enter Tryz.func186, Tryz.ntmps186
  go_wp2_with fail
  refine wp_loop_rounds 2 ?_
  rw [rounds_succ]
  go_wp2_with fail
  refine (Hh.out w (Below.refl _ _)).mono ?_
  rintro e1 w1 ⟨rfl, hb1⟩
  have HB1 := Lib.hid hb1
  obtain ⟨c0, c1, l1, l2⟩ := HX.out w1 hb1
  clear hb1 c2
  go_wp2_with fail
  rw [rounds_succ]
  go_wp2_with fail
  refine (Hd.out w1 HB1.out).mono ?_
  rintro e1 w2 ⟨⟨v, rfl⟩, hI2, hM2⟩
  have HI2 := Lib.hid hI2
  have HM2 : Hid (Mod w w2 F) := (mod_below HB1.out).trans hM2 (fun _ _ h => h)
  clear hM2 l1 l2
  obtain ⟨s2, e2, hb2, hs2, _⟩ := hI2
  have c0' : w2.cell? ⟨x, 0, none⟩ = some (.map (some s2)) := hb2.cell 0
  have l3 : (Instr.lookup 251 (.map (some s2)) (.int .i64 3) true).run Tryz.prog w2 = .ok (.tuple #[.int .i64 0, .bool false]) w2 := hs2.look2 key3 Tryz.underlying251 zeroValue3 3
  clear c0 c1 hb2 hs2
  go_wp2_with fail
  refine (xadd_any F x 3 1 2 w2 HI2.out (by omega) (by omega)).mono ?_
  rintro e1 w3 ⟨⟨v, rfl⟩, hI3, hM3⟩
  have HI3 := Lib.hid hI3
  have HM3 : Hid (Mod w w3 F) := HM2.out.trans hM3 (fun _ _ h => h)
  clear hI3 hM3
  go_wp2_with fail
  go_ret
  exact ⟨rfl, HI3.out, HM3.out⟩
end Go.Proofs.YtcnjipicifkfjaaGreat
