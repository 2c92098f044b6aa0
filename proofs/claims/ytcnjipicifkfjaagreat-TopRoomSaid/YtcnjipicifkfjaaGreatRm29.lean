/- sweep: Begin, Done, white. -/
import Derived.Test.YtcnjipicifkfjaaGreatRm22
import Derived.Test.YtcnjipicifkfjaaGreatRm28

namespace Go.Proofs.YtcnjipicifkfjaaGreat
open Go.RowKit
set_option linter.unusedVariables false
set_option linter.unusedSimpArgs false

section
variable {w w' : World} {B m : Nat} {b : DB} {s s' : DS} {col col' : Nat → Nat} {hp al mp us fr rt hl ca sh : Nat} {S : HS} {mk sw m1 m2 sk cap gcap cap' gcap' : Nat} {A G A' G' : Option Addr}
/-- A change of the allocator, and of the device. -/
theorem HC.allocS (h : HC w B b m s col hp al mp us fr rt hl ca sh S mk sw m1 m2 sk A cap G gcap) (hM : Mod w w' (fun k => b.has k ∨ col k = 1 ∨ col k = 2 ∨ col k = 3)) (hd : Dev B w' b m s') (hc : ∀ k, k < w.heap.size → col' k = col k) {A2 : AS} (ha : AllocX w' col' al b.d mp us fr A2) (hK : A2.K = S.A.K) :
    HC w' B b m s' col' hp al mp us fr rt hl ca sh { S with A := A2 } mk sw m1 m2 sk A cap G gcap := by
  refine ⟨h.x.allocS hM hd hc ha hK, ?_⟩
  have g := h.y.recol hc
  show CycX w' col' ca al A2.K (liveF hp) mk sw m1 m2 sk A cap G gcap S.C
  rw [hK]
  exact g.mod (hM.mono (S' := fun k => k < w.heap.size ∧ ¬ (20 ≤ col' k ∧ col' k ≤ 24)) (fun k hk e => ⟨hk, by
    rw [hc k hk]
    rcases e with e | e
    · have := h.x.hdv k e; omega
    · omega⟩)) (fun k hk e => e.2 hk)
/-- A change of the sweeper alone. -/
theorem HC.sweepS (h : HC w B b m s col hp al mp us fr rt hl ca sh S mk sw m1 m2 sk A cap G gcap) {blk : Nat} {gone : List Nat} (hM : Mod w w' (fun k => k = sw ∨ ∃ a, G = some a ∧ a.block = k))
    (hsw : Blk w' sw 213 #[.pointer (some ⟨al, 0, none⟩), .pointer (some ⟨mk, 0, none⟩), .int .i64 blk, .slice G' gone.length gcap']) (hO : Own w' 0 3 1 G' gone.length gcap' (ncells gone)) (hat : ∀ a', G' = some a' → (∃ a, G = some a ∧ a.block = a'.block) ∨ w.heap.size ≤ a'.block) :
    HC w' B b m s (colW col w 24) hp al mp us fr rt hl ca sh { S with C := { S.C with blk := blk, gone := gone } } mk sw m1 m2 sk A cap G' gcap' := by
  have hc : ∀ k, k < w.heap.size → colW col w 24 k = col k := fun k hk => colW_lt _ _ _ _ hk
  have hT : ∀ k, (k = sw ∨ ∃ a, G = some a ∧ a.block = k) → col k = 20 ∨ col k = 24 := by
    rintro k (rfl | ⟨a, ha, rfl⟩)
    · exact .inl h.y.cw
    · exact .inr (h.y.cg a ha)
  have hT2 : ∀ k, k ≠ sw → col k ≠ 24 → ¬ (k = sw ∨ ∃ a, G = some a ∧ a.block = k) := by
    rintro k h1 h2 (e | ⟨a, ha, rfl⟩)
    · exact h1 e
    · exact h2 (h.y.cg a ha)
  have hX : MarkX w' (colW col w 24) mk al S.A.K m1 m2 sk A cap S.C := by
    have g := h.y.x
    refine (MarkX.recol (w := w') (col := fun k => if k < w.heap.size then col k else 24) ?_ (fun k hk => rfl))
    have g2 := g.recol hc
    exact ⟨hM.blk g.b (hT2 _ (g.b.ne_ h.y.wb (by decide)) (by rw [g.cb]; omega)), hM.blk g.s (hT2 _ (g.s.ne_ h.y.wb (by decide)) (by rw [g.cs]; omega)), g.o.mod hM (fun a ha => hT2 _ (fun e => g.o.ne h.y.wb (by decide) a ha e) (by rw [g.co a ha]; omega)),
      g2.m.mod (hM.mono (S' := fun k => k < w.heap.size ∧ (k = sw ∨ ∃ a, G = some a ∧ a.block = k)) (fun k hk e => ⟨hk, e⟩)) (fun k hk e => by have := hT k e.2; rw [hc k e.1] at hk; omega), g2.c.mod (hM.mono (S' := fun k => k < w.heap.size ∧ (k = sw ∨ ∃ a, G = some a ∧ a.block = k)) (fun k hk e => ⟨hk, e⟩)) (fun k hk e => by have := hT k e.2; rw [hc k e.1] at hk; omega), g2.cb, g2.cs, g2.co⟩
  have hny : CycX w' (colW col w 24) ca al S.A.K (liveF hp) mk sw m1 m2 sk A cap G' gcap' { S.C with blk := blk, gone := gone } :=
    ⟨hM.blk h.y.b (hT2 _ (h.y.b.ne_ h.y.wb (by decide)) (by rw [h.y.cb]; omega)), ⟨hX.b, hX.s, hX.o, hX.m, hX.c, hX.cb, hX.cs, hX.co⟩, hsw, hO, (hc _ h.y.b.lt).trans h.y.cb, (hc _ h.y.wb.lt).trans h.y.cw, fun a ha => by
      rcases hat a ha with ⟨a0, h0, e⟩ | h0
      · rw [← e, hc _ (h.y.g.lt a0 h0).2]; exact h.y.cg a0 h0
      · exact colW_ge _ _ _ _ h0⟩
  exact ⟨h.x.cycS (hM.mono (fun k _ e => by have := hT k e; omega)) hc ⟨mk, sw, m1, m2, sk, A, cap, G', gcap', hny⟩, hny⟩
end
set_option maxHeartbeats 1000000 in
theorem sbegin_any (B : Nat) (b : DB) (m : Nat) (s : DS) (col : Nat → Nat) (hp al mp us fr rt hl ca sh : Nat) (S : HS) (mk sw m1 m2 sk cap gcap : Nat) (A G : Option Addr) (w : World) (h : HC w B b m s col hp al mp us fr rt hl ca sh S mk sw m1 m2 sk A cap G gcap) :
    Calls Tryz.prog 153 #[.pointer (some ⟨sw, 0, none⟩)] w fun e w' => (∃ v, e = .returned v) ∧ HC w' B b m s col hp al mp us fr rt hl ca sh { S with C := { S.C with blk := 1, gone := [] } } mk sw m1 m2 sk A cap none 0 ∧ Mod w w' (fun k => k = sw) := by
  have z2 : w.cell? ⟨sw, 2, none⟩ = some (.int .i64 S.C.blk) := h.y.wb.cell 2
  have z3 : w.cell? ⟨sw, 3, none⟩ = some (.slice G S.C.gone.length gcap) := h.y.wb.cell 3
  have zf := h.y.wb.frozen
  have HX := Lib.hid h
  clear h
  go_enter Tryz.func153, Tryz.ntmps153
  go_wp2_with fail
  go_end0
  have hM : Mod w ((w.setCell ⟨sw, 2, none⟩ (.int .i64 1)).setCell ⟨sw, 3, none⟩ (.slice none 0 0)) (fun k => k = sw) := ((Mod.refl w (fun k => k = sw)).cell 2 _).cell 3 _
  refine ⟨⟨_, rfl⟩, ?_, hM⟩
  have := HX.out.sweepS (blk := 1) (gone := []) (G' := none) (gcap' := 0) (hM.mono (fun k _ e => .inl e)) (Blk.conv ((HX.out.y.wb.set_ 2 _).set_ 3 _) (by simp)) (Own.nil _ _ _ _) (fun a ha => by cases ha)
  exact this.recol (fun k hk => (colW_lt _ _ _ _ (by simpa using hk)).symm)
set_option maxRecDepth 100000 in
set_option maxHeartbeats 1000000 in
theorem sdone_any (B : Nat) (b : DB) (m : Nat) (s : DS) (col : Nat → Nat) (hp al mp us fr rt hl ca sh : Nat) (S : HS) (mk sw m1 m2 sk cap gcap : Nat) (A G : Option Addr) (w : World) (h : HC w B b m s col hp al mp us fr rt hl ca sh S mk sw m1 m2 sk A cap G gcap) :
    Calls Tryz.prog 155 #[.pointer (some ⟨sw, 0, none⟩)] w fun e w' => e = .returned (.bool (decide (S.A.K ≤ S.C.blk))) ∧ ∃ q, w' = w.drewN q := by
  have z2 : w.cell? ⟨sw, 2, none⟩ = some (.int .i64 S.C.blk) := h.y.wb.cell 2
  have z0 : w.cell? ⟨sw, 0, none⟩ = some (.pointer (some ⟨al, 0, none⟩)) := h.y.wb.cell 0
  have a0 : w.cell? ⟨al, 0, none⟩ = some (.pointer (some ⟨mp, 0, none⟩)) := h.x.a.b.cell 0
  obtain ⟨t, x, T, X, hmb, hT, _⟩ := h.x.a.m
  have b0 : w.cell? ⟨mp, 0, none⟩ = some (.pointer (some ⟨t, 0, none⟩)) := hmb.cell 0
  have Hl := Lib.hid (tlen_any T t b.d S.A.K S.A.hs w.drew (hT.mod (S := Nob) ((Mod.refl w _).drewN 1) (fun _ _ h => h)))
  obtain ⟨K, HK⟩ : ∃ k, Hid (S.A.K = k) := ⟨_, rfl⟩
  obtain ⟨bk, Hbk⟩ : ∃ k, Hid (S.C.blk = k) := ⟨_, rfl⟩
  rw [Hbk.out] at z2 ⊢
  rw [HK.out] at Hl ⊢
  clear h hmb hT
  go_enter Tryz.func155, Tryz.ntmps155
  go_wp2_with fail
  go_region_held3 (fun W => W.cell? ⟨sw, 2, none⟩ = some (.int .i64 bk) ∧ W.cell? ⟨sw, 0, none⟩ = some (.pointer (some ⟨al, 0, none⟩)) ∧ W.cell? ⟨al, 0, none⟩ = some (.pointer (some ⟨mp, 0, none⟩)) ∧ W.cell? ⟨mp, 0, none⟩ = some (.pointer (some ⟨t, 0, none⟩))) (exact ⟨z2, z0, a0, b0⟩)
    ((go_at_call 58; refine Hl.out.mono ?_; rintro e w' ⟨rfl, rfl⟩))
  all_goals
    go_wp2_with fail
    go_ret
    exact ⟨by simp, 1, rfl⟩
end Go.Proofs.YtcnjipicifkfjaaGreat

/- sweep: white. -/
namespace Go.Proofs.YtcnjipicifkfjaaGreat
open Go.RowKit
set_option linter.unusedVariables false
set_option linter.unusedSimpArgs false

/-- White objects from an address on. -/
def whS (used : Nat → Bool) (C : CS) (lo : Nat) : Nat → Bool := fun x => decide (lo ≤ x) && used x && !C.sc x && !C.mkd x
def whL (used : Nat → Bool) (C : CS) (blk : Nat) : List Nat := setTo (whS used C (blk * 512)) (blk * 512 + 512)
theorem setTo_same {s : Nat → Bool} {a x : Nat} (h : a ≤ x) (hn : ∀ j, a ≤ j → j < x → s j = false) : setTo s x = setTo s a := by
  unfold setTo
  obtain ⟨k, rfl⟩ : ∃ k, x = a + k := ⟨x - a, by omega⟩
  rw [List.range_add, List.filter_append]
  have e : ((List.range k).map (a + ·)).filter s = [] := by
    rw [List.filter_eq_nil_iff]
    intro y hy
    obtain ⟨j, hj, rfl⟩ := List.mem_map.1 hy
    rw [List.mem_range] at hj
    rw [hn (a + j) (by omega) (by omega)]
    simp
  rw [e, List.append_nil]
theorem setTo_low {s : Nat → Bool} {a : Nat} (hn : ∀ j, j < a → s j = false) : setTo s a = [] := by
  have := setTo_same (s := s) (Nat.zero_le a) (fun j _ h => hn j h)
  rw [this]; rfl
theorem setTo_mem {s : Nat → Bool} {a x : Nat} : x ∈ setTo s a ↔ x < a ∧ s x = true := by
  unfold setTo
  rw [List.mem_filter, List.mem_range]
theorem setTo_nodup (s : Nat → Bool) (a : Nat) : (setTo s a).Nodup := List.nodup_range.filter _
theorem setTo_len (s : Nat → Bool) (a : Nat) : (setTo s a).length ≤ a := by
  unfold setTo
  exact Nat.le_trans (List.length_filter_le _ _) (by rw [List.length_range]; exact Nat.le_refl _)
set_option maxRecDepth 100000 in
set_option maxHeartbeats 2000000 in
theorem white_any (B : Nat) (b : DB) (m : Nat) (s : DS) (col : Nat → Nat) (hp al mp us fr rt hl ca sh blk : Nat) (S : HS) (mk sw m1 m2 sk cap gcap : Nat) (A G : Option Addr) (w : World) (h : HC w B b m s col hp al mp us fr rt hl ca sh S mk sw m1 m2 sk A cap G gcap) (hb : blk ≤ 4) :
    Calls Tryz.prog 202 #[.pointer (some ⟨sw, 0, none⟩), .int .i64 blk] w fun e w' => ∃ A' cap', e = .returned (.slice A' (whL S.A.used S.C blk).length cap') ∧ Own w' w.heap.size 3 1 A' (whL S.A.used S.C blk).length cap' (ncells (whL S.A.used S.C blk)) ∧ Below w.heap.size w w' := by
  have HX : Hid (∀ wr, Below w.heap.size w wr → HC wr B b m s col hp al mp us fr rt hl ca sh S mk sw m1 m2 sk A cap G gcap) := fun wr hb => h.below hb
  have hK3 := h.x.k3
  have hK4 := h.x.k4
  have Hnx : Hid (∀ wr, Below w.heap.size w wr → ∀ a, a ≤ 1000000 → Calls Tryz.prog 232 #[.pointer (some ⟨al, 0, none⟩), .int .i64 (a : Nat)] wr (NextR S.A.used a wr)) := fun wr hb a ha => anext_any col al b.d mp us fr a S.A wr (HX.out wr hb).x.a (by omega) (by omega) ha
  have Hco : Hid (∀ wr, Below w.heap.size w wr → ∀ a, a ≤ 1000000 → Calls Tryz.prog 199 #[.pointer (some ⟨mk, 0, none⟩), .int .i64 (a : Nat)] wr fun e w' => e = .returned (.int .i64 (if S.C.sc a then 2 else if S.C.mkd a then 1 else 0)) ∧ wr = w') := fun wr hb a ha => colour_any col mk al S.A.K m1 m2 sk cap a A S.C wr (HX.out wr hb).y.x (by omega) (by omega)
  have Hlt : Hid (∀ x, S.A.used x = true → x < 2048) := fun x hx => by
    by_cases e : x < 2048
    · exact e
    · have := h.x.a.u.out x (by omega); rw [this] at hx; cases hx
  obtain ⟨used, Hus⟩ : ∃ u, Hid (S.A.used = u) := ⟨_, rfl⟩
  obtain ⟨F, HF⟩ : ∃ F, Hid (blk * 512 = F) := ⟨_, rfl⟩
  have hF : F ≤ 2048 := by rw [← HF.out]; omega
  obtain ⟨W, HW⟩ : ∃ W, Hid (whS used S.C F = W) := ⟨_, rfl⟩
  have HWL : Hid (whL S.A.used S.C blk = setTo W (F + 512)) := by show _ = _; unfold whL; rw [Hus.out, HF.out, HW.out]
  have HWe : Hid (∀ x, W x = (decide (F ≤ x) && used x && !S.C.sc x && !S.C.mkd x)) := fun x => by rw [← HW.out]; rfl
  rw [HWL.out]
  rw [Hus.out] at Hnx Hlt
  obtain ⟨i0, hi0, hz0, hz1, hz2⟩ := info3s
  have hwF : IntKind.i64.wrap ((blk : Int) * 512) = (F : Int) := by have := HF.out; exact (congrArg IntKind.i64.wrap (by omega)).trans (IntWalk.i64_in _ (by omega))
  obtain ⟨L, HL⟩ : ∃ L, Hid (setTo W (F + 512) = L) := ⟨_, rfl⟩
  obtain ⟨ln, Hln⟩ : ∃ n, Hid (L.length = n) := ⟨_, rfl⟩
  rw [HL.out, Hln.out]
  have z0 : w.cell? ⟨sw, 0, none⟩ = some (.pointer (some ⟨al, 0, none⟩)) := h.y.wb.cell 0
  clear h HWL
  go_enter Tryz.func202, Tryz.ntmps202
  go_wp2_with fail
  refine (Hnx.out w (Below.refl _ _) F (by omega)).mono ?_
  rintro e w1 ⟨⟨x, ok, rfl, hnx⟩, rfl⟩
  have HN := Lib.hid hnx
  clear hnx z0
  go_wp2_with fail
  go_loopw [5, 7, 8] (fun v5 v7 v8 wr => ∃ (x a' n : Nat) (ok : Bool) (Aj : Option Addr) (capj : Nat), v5 = .slice Aj n capj ∧ v7 = .int .i64 x ∧ v8 = .bool ok ∧ NextS used a' x ok ∧ F ≤ a' ∧ a' ≤ F + 512 ∧ n = (setTo W a').length ∧ Own wr w.heap.size 3 1 Aj n capj (ncells (setTo W a')) ∧ Below w.heap.size w wr) (fun _ v7 v8 _ => match v8 with | .bool true => 4000 - (intOf v7).toNat | _ => 0)
  case atStart => exact ⟨x, F, 0, ok, none, 0, rfl, rfl, rfl, HN.out, Nat.le_refl _, by omega, by
      rw [setTo_low (fun j hj => by rw [HWe.out, decide_eq_false (by omega)]; rfl)]; rfl, by
      rw [setTo_low (fun j hj => by rw [HWe.out, decide_eq_false (by omega)]; rfl)]; exact Own.nil _ _ _ _, Below.refl _ _⟩
  case round =>
    clear HN
    obtain ⟨x, a', n, ok, Aj, capj, rfl, rfl, rfl, hnx, hFa, haF, hnl, hO, hB⟩ := hrel
    have HO := Lib.hid hO
    have HB := Lib.hid hB
    have Hnl := Lib.hid hnl
    have hn2 : n ≤ 4000 := by rw [hnl]; exact Nat.le_trans (setTo_len _ _) (by omega)
    clear hO hB hnl
    rcases hnx with ⟨rfl, hax, hux, hno⟩ | ⟨rfl, rfl, hno⟩
    · have Hno := Lib.hid hno
      have Hux := Lib.hid hux
      have hx := Hlt.out x hux
      clear hno hux
      by_cases hxc : x < F + 512
      · have hd : decide ((x : Int) < (F : Int) + 512) = true := decide_eq_true (by omega)
        have hsame : Hid (setTo W x = setTo W a') := setTo_same hax (fun j h1 h2 => by rw [HWe.out, Hno.out j h1 h2]; simp)
        have z1 : wr.cell? ⟨sw, 1, none⟩ = some (.pointer (some ⟨mk, 0, none⟩)) := (HX.out wr HB.out).y.wb.cell 1
        have z0 : wr.cell? ⟨sw, 0, none⟩ = some (.pointer (some ⟨al, 0, none⟩)) := (HX.out wr HB.out).y.wb.cell 0
        have Hc := Lib.hid (Hco.out wr HB.out x (by omega))
        obtain ⟨cl, Hcl⟩ : ∃ c : Int, Hid ((if S.C.sc x then (2 : Int) else if S.C.mkd x then 1 else 0) = c) := ⟨_, rfl⟩
        rw [Hcl.out] at Hc
        by_cases hc0 : cl = 0
        · subst hc0
          have HWx : Hid (setTo W (x + 1) = setTo W a' ++ [x]) := by
            rw [← hsame.out]
            refine setTo_next (Nat.le_refl _) ?_ (fun j h1 h2 => by omega)
            have h1 := Hcl.out
            rw [HWe.out, Hux.out, decide_eq_true (by omega : F ≤ x)]
            cases h2 : S.C.sc x with
            | true => rw [h2] at h1; simp at h1
            | false =>
              cases h3 : S.C.mkd x with
              | true => rw [h2, h3] at h1; simp at h1
              | false => rfl
          go_wp2_with omega
          refine Hc.out.mono ?_
          rintro e w2 ⟨rfl, rfl⟩
          have hwr := HB.out.size
          go_wp2_with (first | (at_builtin; (refine append_one rfl (.tmp 44) (.tmp 46) 60 rfl w.heap.size 3 i0 _ 8 Tryz.underlying60 hi0 hz0 hz1 hz2 rfl Aj n capj _ rfl HO.out (.int .i64 x) rfl rfl (by unfold maxLen; omega) (by omega) hwr ?_)) | omega)
          intro A6 cap6 w6 hO6 hM6 hat6
          have HB6 : Hid (Below w.heap.size w w6) := Below.mod HB.out hM6 hwr (fun k _ h => by obtain ⟨a, ha, e⟩ := h; have := (HO.out.lt a ha).1; omega)
          have HO6 : Hid (Own w6 w.heap.size 3 1 A6 (n + 1) cap6 (ncells (setTo W (x + 1)))) := by
            have e : ncells (setTo W (x + 1)) = ncells (setTo W a') ++ [.int .i64 x] := by rw [HWx.out]; simp [ncells]
            rw [e]; exact hO6
          have Hn6 : Hid (n + 1 = (setTo W (x + 1)).length) := by show _ = _; rw [HWx.out, List.length_append, ← Hnl.out]; rfl
          have z0 : w6.cell? ⟨sw, 0, none⟩ = some (.pointer (some ⟨al, 0, none⟩)) := (HX.out w6 HB6.out).y.wb.cell 0
          clear hO6 hM6 hat6 z1
          go_wp2_with omega
          refine (Hnx.out w6 HB6.out (x + 1) (by omega)).mono ?_
          rintro e w7 ⟨⟨x2, ok2, rfl, hnx2⟩, rfl⟩
          have HN2 := Lib.hid hnx2
          have HM : Hid ((match Value.bool ok2 with | .bool true => 4000 - (intOf (.int .i64 (x2 : Int))).toNat | _ => 0) < 4000 - x) := by
            show _ < _
            rcases hnx2 with ⟨rfl, h1, _⟩ | ⟨rfl, _⟩
            · simp [intOf]; omega
            · simp only []; omega
          clear hnx2
          go_wp2_with omega
          exact ⟨⟨x2, x + 1, n + 1, ok2, A6, cap6, rfl, rfl, rfl, HN2.out, by omega, by omega, Hn6.out, HO6.out, HB6.out⟩, by
            have := HM.out
            simpa [intOf] using this⟩
        · have hcb : (cl == 0) = false := by rw [beq_eq_false_iff_ne]; exact hc0
          have HWx : Hid (setTo W (x + 1) = setTo W a') := by
            rw [← hsame.out]
            refine setTo_same (by omega) (fun j h1 h2 => ?_)
            have hj : j = x := by omega
            subst hj
            have h1 := Hcl.out
            rw [HWe.out]
            cases h2 : S.C.sc j with
            | true => simp
            | false =>
              cases h3 : S.C.mkd j with
              | true => simp
              | false => rw [h2, h3] at h1; simp at h1; exact absurd h1.symm hc0
          go_wp2_with omega
          refine Hc.out.mono ?_
          rintro e w2 ⟨rfl, rfl⟩
          go_wp2_with omega
          refine (Hnx.out wr HB.out (x + 1) (by omega)).mono ?_
          rintro e w7 ⟨⟨x2, ok2, rfl, hnx2⟩, rfl⟩
          have HN2 := Lib.hid hnx2
          have HM : Hid ((match Value.bool ok2 with | .bool true => 4000 - (intOf (.int .i64 (x2 : Int))).toNat | _ => 0) < 4000 - x) := by
            show _ < _
            rcases hnx2 with ⟨rfl, h1, _⟩ | ⟨rfl, _⟩
            · simp [intOf]; omega
            · simp only []; omega
          have HO6 : Hid (Own wr w.heap.size 3 1 Aj n capj (ncells (setTo W (x + 1))) ∧ n = (setTo W (x + 1)).length) := by rw [HWx.out]; exact ⟨HO.out, Hnl.out⟩
          clear hnx2
          go_wp2_with omega
          exact ⟨⟨x2, x + 1, n, ok2, Aj, capj, rfl, rfl, rfl, HN2.out, by omega, by omega, HO6.out.2, HO6.out.1, HB.out⟩, by
            have := HM.out
            simpa [intOf] using this⟩
      · have hd : decide ((x : Int) < (F : Int) + 512) = false := decide_eq_false (by omega)
        have HE : Hid (L = setTo W a') := by
          show _ = _
          rw [← HL.out]
          exact setTo_same (by omega) (fun j h1 h2 => by rw [HWe.out, Hno.out j h1 (by omega)]; simp)
        go_wp2_with omega
        go_ret
        have h1 : n = ln := by rw [← Hln.out, HE.out]; exact Hnl.out
        subst h1
        exact ⟨Aj, capj, rfl, by rw [HE.out]; exact HO.out, HB.out⟩
    · have HE : Hid (L = setTo W a') := by
        show _ = _
        rw [← HL.out]
        exact setTo_same (by omega) (fun j h1 h2 => by rw [HWe.out, hno j h1]; simp)
      clear hno
      go_wp2_with omega
      go_ret
      have h1 : n = ln := by rw [← Hln.out, HE.out]; exact Hnl.out
      subst h1
      exact ⟨Aj, capj, rfl, by rw [HE.out]; exact HO.out, HB.out⟩
end Go.Proofs.YtcnjipicifkfjaaGreat

/- sweep: Step. -/
namespace Go.Proofs.YtcnjipicifkfjaaGreat
open Go.RowKit
set_option linter.unusedVariables false
set_option linter.unusedSimpArgs false

/-- New blocks are none of the heap's. -/
def col9 (c : Nat → Nat) (w : World) : Nat → Nat := fun k => if k < w.heap.size then c k else 9
theorem col9_lt (c : Nat → Nat) (w : World) (k : Nat) (h : k < w.heap.size) : col9 c w k = c k := if_pos h
theorem col9_ge (c : Nat → Nat) (w : World) (k : Nat) (h : w.heap.size ≤ k) : col9 c w k = 9 := if_neg (by omega)
/-- Objects given back, one behind the other. -/
def freesA (S : AS) (l : List Nat) : Nat → AS
  | 0 => S
  | j + 1 => (freesA S l j).free (l.getD j 0)
/-- Each object in use is right, and none of its cells is free. -/
def FrI (s : DS) (m d : Nat) (S : AS) : Prop := ∀ x, S.used x = true → ObjAt s m x 0 d ∧ (∃ bl i, CellAt S.K S.k x bl i ∧ S.hs.getD bl (0, 0) = (1, S.k)) ∧ ¬ HasF S.glob S.cs x
theorem FrI.free {s : DS} {m d a : Nat} {S : AS} (h : FrI s m d S) : FrI s m d (S.free a) := by
  intro x hx
  have hx2 : dropS S.used a x = true := hx
  unfold dropS at hx2
  rw [Bool.and_eq_true] at hx2
  have hne : x ≠ a := fun e => by have := hx2.1; rw [decide_eq_true e] at this; cases this
  obtain ⟨h1, h2, h3⟩ := h x hx2.2
  refine ⟨h1, h2, ?_⟩
  rintro (h4 | h4)
  · have h4 : x ∈ S.glob ++ [a] := h4
    rcases List.mem_append.1 h4 with h5 | h5
    · exact h3 (.inl h5)
    · exact hne (List.mem_singleton.1 h5)
  · exact h3 (.inr h4)
theorem freesA_k (S : AS) (l : List Nat) (j : Nat) : (freesA S l j).K = S.K ∧ (freesA S l j).k = S.k ∧ (freesA S l j).hs = S.hs ∧ (freesA S l j).o = S.o ∧ (freesA S l j).cs = S.cs := by
  induction j with
  | zero => exact ⟨rfl, rfl, rfl, rfl, rfl⟩
  | succ j ih => exact ih
theorem freesA_glob (S : AS) (l : List Nat) (j : Nat) (hj : j ≤ l.length) : (freesA S l j).glob = S.glob ++ l.take j := by
  induction j with
  | zero => simp [freesA]
  | succ j ih =>
    show (freesA S l j).glob ++ [l.getD j 0] = _
    rw [ih (by omega), List.append_assoc, take_snoc_ l j (by omega)]
theorem freesA_used (S : AS) (l : List Nat) (j : Nat) (hj : j ≤ l.length) (x : Nat) : (freesA S l j).used x = (S.used x && !decide (x ∈ l.take j)) := by
  induction j with
  | zero => simp [freesA]
  | succ j ih =>
    show dropS (freesA S l j).used (l.getD j 0) x = _
    unfold dropS
    rw [ih (by omega), take_snoc_ l j (by omega)]
    generalize l.getD j 0 = y
    by_cases h1 : x = y
    · simp [h1]
    · by_cases h2 : x ∈ l.take j <;> simp [h1, h2]
theorem FrI.frees {s : DS} {m d : Nat} {S : AS} (h : FrI s m d S) (l : List Nat) (j : Nat) : FrI s m d (freesA S l j) := by
  induction j with
  | zero => exact h
  | succ j ih => exact ih.free
/-- What Trim does behind the objects' going. -/
def TrimR (s : DS) (A1 : AS) (blk : Nat) (A2 : AS) (s2 : DS) : Prop :=
  (A2 = A1 ∧ s2 = s ∧ ((A1.hs.getD blk (0, 0)).1 = 0 ∨ ((A1.hs.getD blk (0, 0)).1 = 1 ∧ ∃ j, blk * 512 ≤ j ∧ j < blk * 512 + 512 ∧ A1.used j = true))) ∨
  (A1.hs.getD blk (0, 0) = (1, A1.k) ∧ (∀ j, blk * 512 ≤ j → j < blk * 512 + 512 → A1.used j = false) ∧ ∃ o', XGive A1.K blk A1.o o' ∧ A2 = A1.trim blk o' ∧ s2 = (exec s (putS blk 0 0)).1)
theorem trim_any (B : Nat) (b : DB) (m : Nat) (s s2 : DS) (col : Nat → Nat) (ap mp us fr bl : Nat) (S A2 : AS) (w : World) (h : Dev B w b m s) (hL : s.Live) (hdv : ∀ k, b.has k → col k = 0) (hA : AllocX w col ap b.d mp us fr S) (hn : ∀ k, w.heap.size ≤ k → col k = 9) (h1 : 1 ≤ bl) (h2 : bl < S.K) (hK : S.K ≤ 150) (hm : m = S.K * 64)
    (hg : S.glob.length ≤ 900) (hc : ∀ m, (S.cs m).length ≤ 1000) (hT : TrimR s S bl A2 s2) :
    Calls Tryz.prog 204 #[.pointer (some ⟨ap, 0, none⟩), .int .i64 bl] w fun e w' => (∃ t, e = .returned (.tuple #[.bool t, .int .i64 0])) ∧ Dev B w' b m s2 ∧ AllocX w' col ap b.d mp us fr A2 ∧ Mod w w' (fun k => b.has k ∨ col k = 1 ∨ col k = 3) := by
  rcases hT with ⟨rfl, rfl, hno⟩ | ⟨hk, hno, o', hG, rfl, rfl⟩
  · refine (atrim_no col ap b.d mp us fr bl A2 w hA h1 h2 hK hno).mono ?_
    rintro e w' ⟨rfl, hb⟩
    exact ⟨⟨_, rfl⟩, h.below hb (Nat.le_refl _), hA.below hb (Nat.le_refl _), mod_below hb⟩
  · refine (atrim_yes B b m s col ap mp us fr bl S o' w h hL hdv hA hn h1 h2 hK hm hk hno hG hg hc).mono ?_
    rintro e w' ⟨rfl, q1, q2, q3⟩
    exact ⟨⟨_, rfl⟩, q1, q2, q3⟩
theorem whL_used {used : Nat → Bool} {C : CS} {blk x : Nat} (h : x ∈ whL used C blk) : used x = true ∧ blk * 512 ≤ x ∧ x < blk * 512 + 512 ∧ C.mkd x = false := by
  unfold whL at h
  obtain ⟨h1, h2⟩ := setTo_mem.1 h
  unfold whS at h2
  simp only [Bool.and_eq_true, decide_eq_true_eq, Bool.not_eq_true'] at h2
  exact ⟨h2.1.1.2, h2.1.1.1, h1, h2.2⟩
theorem nodup_take {l : List Nat} (hn : l.Nodup) {j : Nat} (hj : j < l.length) : ¬ l.getD j 0 ∈ l.take j := by
  intro h
  obtain ⟨i, hi, hil, he⟩ := take_getD h
  rw [List.getD_eq_getElem?_getD, List.getD_eq_getElem?_getD, List.getElem?_eq_getElem hil, List.getElem?_eq_getElem hj, Option.getD_some, Option.getD_some] at he
  have := (List.getElem_inj hn).1 he
  omega
set_option maxRecDepth 100000 in
set_option maxHeartbeats 4000000 in
theorem sstep_any (B : Nat) (b : DB) (m : Nat) (s s2 : DS) (col : Nat → Nat) (hp al mp us fr rt hl ca sh d blk : Nat) (S : HS) (A2 : AS) (mk sw m1 m2 sk cap gcap : Nat) (A G : Option Addr) (w : World) (h : HC w B b m s col hp al mp us fr rt hl ca sh S mk sw m1 m2 sk A cap G gcap) (hn : ∀ k, w.heap.size ≤ k → col k = 9) (hL : s.Live)
    (hbk : S.C.blk = blk) (hb1 : 1 ≤ blk) (hb2 : blk < S.A.K) (hI : FrI s m d S.A) (hd : d ≤ 60) (hcof : cof (1 + 0 + d) = S.A.k) (hg : S.A.glob.length + (whL S.A.used S.C blk).length ≤ 900) (hc : ∀ m, (S.A.cs m).length ≤ 1000) (hgo : S.C.gone.length ≤ 100000)
    (hT : TrimR s (freesA S.A (whL S.A.used S.C blk) (whL S.A.used S.C blk).length) blk A2 s2) (hA2 : A2.K = S.A.K) :
    Calls Tryz.prog 154 #[.pointer (some ⟨sw, 0, none⟩)] w fun e w' => e = .returned (.int .i64 0) ∧ ∃ G' gcap' col', (∀ k, k < w.heap.size → col' k = col k) ∧ (∀ k, w'.heap.size ≤ k → col' k = 9) ∧
      HC w' B b m s2 col' hp al mp us fr rt hl ca sh { S with A := A2, C := { S.C with blk := blk + 1, gone := S.C.gone ++ whL S.A.used S.C blk } } mk sw m1 m2 sk A cap G' gcap' ∧ Mod w w' (fun k => hcol (col k)) := by
  have hK4 := h.x.k4
  have hmK := h.x.hm
  have Hdn := Lib.hid (sdone_any B b m s col hp al mp us fr rt hl ca sh S mk sw m1 m2 sk cap gcap A G w h)
  rw [decide_eq_false (by omega : ¬ S.A.K ≤ S.C.blk)] at Hdn
  have HX := Lib.hid h
  have HI := Lib.hid hI
  have HT := Lib.hid hT
  have Hwu := Lib.hid (fun x (hx : x ∈ whL S.A.used S.C blk) => whL_used hx)
  have Hnd : Hid ((whL S.A.used S.C blk).Nodup) := setTo_nodup _ _
  have HW := Lib.hid (fun wr (hx : HC wr B b m s col hp al mp us fr rt hl ca sh S mk sw m1 m2 sk A cap G gcap) => white_any B b m s col hp al mp us fr rt hl ca sh blk S mk sw m1 m2 sk cap gcap A G wr hx (by omega))
  obtain ⟨L, HL⟩ : ∃ L, Hid (whL S.A.used S.C blk = L) := ⟨_, rfl⟩
  obtain ⟨n, Hln⟩ : ∃ n, Hid (L.length = n) := ⟨_, rfl⟩
  rw [HL.out] at HT Hwu Hnd HW hg ⊢
  rw [Hln.out] at HT HW hg
  clear h hI hT
  go_enter Tryz.func154, Tryz.ntmps154
  go_wp2_with fail
  refine Hdn.out.mono ?_
  rintro e w1 ⟨rfl, q, hw1⟩
  have hb01 : Below w.heap.size w w1 := by rw [hw1]; exact below_drewN (Below.refl _ _) q
  have HX1 := Lib.hid (HX.out.below hb01)
  have Hb1 := Lib.hid hb01
  have z2 : w1.cell? ⟨sw, 2, none⟩ = some (.int .i64 blk) := by rw [← hbk]; exact HX1.out.y.wb.cell 2
  clear hb01 hw1 Hdn
  go_wp2_with fail
  refine (HW.out w1 HX1.out).mono ?_
  rintro e w2 ⟨Al, capl, rfl, hO2, hb2'⟩
  have HX2 := Lib.hid (HX1.out.below hb2')
  have HB2 : Hid (Below w.heap.size w w2) := Hb1.out.trans (hb2'.mono Hb1.out.size)
  have HO2 : Hid (Own w2 w.heap.size 3 1 Al n capl (ncells L)) := hO2.base_ Hb1.out.size
  have Hr2 : Hid (∀ a, Al = some a → col a.block = 9) := fun a ha => hn _ (HO2.out.lt a ha).1
  have Hn2 : Hid (∀ k, w2.heap.size ≤ k → col k = 9) := fun k hk => hn k (Nat.le_trans HB2.out.size hk)
  have HX2' : Hid (HC w2 B b m s col hp al mp us fr rt hl ca sh { S with A := freesA S.A L 0, C := { S.C with gone := S.C.gone ++ L.take 0 } } mk sw m1 m2 sk A cap G gcap) := by
    have e : ({ S with A := freesA S.A L 0, C := { S.C with gone := S.C.gone ++ L.take 0 } } : HS) = S := by simp [freesA]
    rw [e]; exact HX2.out
  clear hO2 hb2' z2 hn HX HX1 HX2 HW
  go_wp2_with fail
  obtain ⟨i0, hi0, hz0, hz1, hz2⟩ := info3s
  go_loopw [17] (fun v17 wr => ∃ (j : Nat) (Gj : Option Addr) (gcapj : Nat) (colj : Nat → Nat), v17 = .int .i64 j ∧ j ≤ n ∧ (∀ k, k < w.heap.size → colj k = col k) ∧ (∀ k, wr.heap.size ≤ k → colj k = 9) ∧
    HC wr B b m s colj hp al mp us fr rt hl ca sh { S with A := freesA S.A L j, C := { S.C with gone := S.C.gone ++ L.take j } } mk sw m1 m2 sk A cap Gj gcapj ∧ Own wr w.heap.size 3 1 Al n capl (ncells L) ∧ (∀ a, Al = some a → colj a.block = 9) ∧ Mod w wr (fun k => hcol (col k))) (fun v17 _ => n - (intOf v17).toNat)
  case atStart => exact ⟨0, G, gcap, col, rfl, Nat.zero_le _, fun _ _ => rfl, Hn2.out, HX2'.out, HO2.out, Hr2.out, mod_below HB2.out⟩
  case round =>
    clear HX2' HO2 Hr2 HB2 Hn2
    obtain ⟨j, Gj, gcapj, colj, rfl, hj, hcj, hnj, hXj, hOj, hrj, hMj⟩ := hrel
    have Hcj := Lib.hid hcj
    have Hnj := Lib.hid hnj
    have HXj := Lib.hid hXj
    have HOj := Lib.hid hOj
    have Hrj := Lib.hid hrj
    have HMj := Lib.hid hMj
    clear hcj hnj hXj hOj hrj hMj
    obtain ⟨wo, rfl⟩ : ∃ wo, wo = wr := ⟨wr, rfl⟩
    obtain ⟨f1, f2, f3, f4, f5⟩ := freesA_k S.A L j
    by_cases hjn : j < n
    · obtain ⟨g, rfl, hglo, _, _, _, hx, hfz⟩ := HOj.out.at_ (by omega)
      have hjl : j < L.length := by rw [Hln.out]; exact hjn
      have x0 : wo.cell? ⟨g, j, none⟩ = some (.int .i64 (L.getD j 0 : Nat)) := hx j _ (ncells_at L j hjl)
      have hmem : L.getD j 0 ∈ L := by
        rw [List.getD_eq_getElem?_getD, List.getElem?_eq_getElem hjl, Option.getD_some]
        exact List.getElem_mem _
      obtain ⟨u1, u2, u3, u4⟩ := Hwu.out _ hmem
      have hju : (freesA S.A L j).used (L.getD j 0) = true := by
        rw [freesA_used S.A L j (by omega), u1, decide_eq_false (nodup_take Hnd.out hjl)]; rfl
      obtain ⟨p1, ⟨bl, i, p2, p3⟩, p4⟩ := HI.out.frees L j _ hju
      have HF := Lib.hid (afree_any B b m s colj al mp us fr (L.getD j 0) 0 d bl i (freesA S.A L j) wo HXj.out.x.dev HXj.out.x.hdv HXj.out.x.a p1 (by omega) (by omega) (by rw [f2]; exact hcof) p2 p3 (by rw [f1]; exact hmK) (by rw [f1]; omega) (by rw [f1]; omega) hju p4 (by
        rw [freesA_glob S.A L j (by omega), List.length_append, List.length_take]; omega) (by rw [f5]; exact hc) (by omega))
      have HA1 : Hid ((freesA S.A L j).free (L.getD j 0) = freesA S.A L (j + 1) ∧ L.take j ++ [L.getD j 0] = L.take (j + 1)) := ⟨rfl, (take_snoc_ L j hjl).symm⟩
      rw [HA1.out.1] at HF
      clear hx hfz p1 p2 p3 p4 u1 u2 u3 u4 hju hmem
      generalize L.getD j 0 = x at *
      have z0 : wo.cell? ⟨sw, 0, none⟩ = some (.pointer (some ⟨al, 0, none⟩)) := HXj.out.y.wb.cell 0
      go_wp2_with omega
      refine HF.out.mono ?_
      rintro e w4 ⟨rfl, ⟨col4, hc4, hA4⟩, hM4⟩
      have hM4' : Mod wo w4 (fun k => b.has k ∨ colj k = 1 ∨ colj k = 2 ∨ colj k = 3) := hM4.mono (fun k _ e => .inr (.inr e))
      have h4 := HXj.out.allocS hM4' (HXj.out.x.dev.mod hM4 (fun k hk e => by have := HXj.out.x.hdv k hk; omega)) hc4 hA4 (by rw [(freesA_k S.A L (j + 1)).1]; exact f1.symm)
      have HX4 : Hid (HC w4 B b m s col4 hp al mp us fr rt hl ca sh { S with A := freesA S.A L (j + 1), C := { S.C with gone := S.C.gone ++ L.take j } } mk sw m1 m2 sk A cap Gj gcapj) := h4
      have HO4 : Hid (Own w4 w.heap.size 3 1 (some ⟨g, 0, none⟩) n capl (ncells L)) := HOj.out.mod hM4 (fun a ha e => by have := Hrj.out a ha; omega)
      have Hr4 : Hid (∀ a, (some ⟨g, 0, none⟩ : Option Addr) = some a → col4 a.block = 9) := fun a ha => by rw [hc4 _ (HOj.out.lt a ha).2]; exact Hrj.out a ha
      have HM4 : Hid (Mod w w4 (fun k => hcol (col k))) := HMj.out.trans hM4 (fun k hk e => by rw [Hcj.out k hk] at e; unfold hcol; omega)
      have Hcw : Hid (∀ k, k < w.heap.size → col4 k = col k) := fun k hk => (hc4 k (Nat.lt_of_lt_of_le hk HMj.out.size)).trans (Hcj.out k hk)
      clear hc4 hA4 hM4 hM4' h4 HF z0 HXj HOj Hrj HMj Hcj Hnj
      obtain ⟨ng, Hng⟩ : ∃ k, Hid ((S.C.gone ++ L.take j).length = k) := ⟨_, rfl⟩
      have hng : ng ≤ 101000 := by rw [← Hng.out, List.length_append, List.length_take]; omega
      have y3 : w4.cell? ⟨sw, 3, none⟩ = some (.slice Gj ng gcapj) := by rw [← Hng.out]; exact HX4.out.y.wb.cell 3
      have yf := HX4.out.y.wb.frozen
      have HG4 : Hid (Own w4 0 3 1 Gj ng gcapj (ncells (S.C.gone ++ L.take j))) := by rw [← Hng.out]; exact HX4.out.y.g
      have Hsw4 : Hid (Blk w4 sw 213 #[.pointer (some ⟨al, 0, none⟩), .pointer (some ⟨mk, 0, none⟩), .int .i64 S.C.blk, .slice Gj ng gcapj]) := by rw [← Hng.out]; exact HX4.out.y.wb
      have hgs : Hid (∀ a, Gj = some a → a.block ≠ sw) := fun a ha e => HG4.out.ne Hsw4.out (by decide) a ha e
      go_wp2_with (first | (at_builtin; (refine append_one rfl (.tmp 34) (.tmp 36) 60 rfl 0 3 i0 _ 8 Tryz.underlying60 hi0 hz0 hz1 hz2 rfl Gj ng gcapj _ rfl HG4.out (.int .i64 x) rfl rfl (by unfold maxLen; omega) (by omega) (Nat.zero_le _) ?_)) | omega)
      intro G6 gcap6 w6 hO6 hM6 hat6
      have HG6 : Hid (Own w6 0 3 1 G6 (ng + 1) gcap6 (ncells (S.C.gone ++ L.take (j + 1)))) := by
        have e : ncells (S.C.gone ++ L.take (j + 1)) = ncells (S.C.gone ++ L.take j) ++ [.int .i64 x] := by rw [← HA1.out.2]; simp [ncells]
        rw [e]; exact hO6
      have HM6 := Lib.hid hM6
      have Hat6 := Lib.hid hat6
      have Hsw6 := Lib.hid (hM6.blk Hsw4.out (fun ⟨a, ha, e⟩ => hgs.out a ha e))
      have y3 : w6.cell? ⟨sw, 3, none⟩ = some (.slice Gj ng gcapj) := Hsw6.out.cell 3
      have yf := Hsw6.out.frozen
      clear hO6 hM6 hat6
      go_wp2_with omega
      have hMs : Mod w6 (w6.setCell ⟨sw, 3, none⟩ (.slice G6 (ng + 1) gcap6)) (fun k => k = sw) := (Mod.refl w6 (fun k => k = sw)).cell 3 _
      have hM46 : Mod w4 (w6.setCell ⟨sw, 3, none⟩ (.slice G6 (ng + 1) gcap6)) (fun k => k = sw ∨ ∃ a, Gj = some a ∧ a.block = k) := (HM6.out.mono (fun k _ e => .inr e)).trans hMs (fun k _ e => .inl e)
      have hlen : (S.C.gone ++ L.take (j + 1)).length = ng + 1 := by rw [← HA1.out.2, ← List.append_assoc, List.length_append, Hng.out]; rfl
      have hG7 : ∀ a, G6 = some a → a.block ≠ sw := fun a ha e => HG6.out.ne Hsw6.out (by decide) a ha e
      have h7 := HX4.out.sweepS (blk := S.C.blk) (gone := S.C.gone ++ L.take (j + 1)) (G' := G6) (gcap' := gcap6) hM46 (by rw [hlen]; exact Blk.conv (Hsw6.out.set_ 3 _) (by simp)) (by rw [hlen]; exact HG6.out.mod hMs (fun a ha e => hG7 a ha e)) (fun a' ha' => Hat6.out a' ha')
      have hsz46 := hM46.size
      refine ⟨⟨j + 1, G6, gcap6, col9 (colW col4 w4 24) (w6.setCell ⟨sw, 3, none⟩ (.slice G6 (ng + 1) gcap6)), by go_num, by omega, fun k hk => ?_, fun k hk => col9_ge _ _ _ hk, h7.recol (fun k hk => col9_lt _ _ _ hk), HO4.out.mod hM46 (fun a ha e => ?_), fun a ha => ?_, HM4.out.trans hM46 (fun k hk e => ?_)⟩, by simp [intOf]; omega⟩
      · have h1 : k < w4.heap.size := Nat.lt_of_lt_of_le hk HM4.out.size
        rw [col9_lt _ _ _ (Nat.lt_of_lt_of_le h1 hsz46), colW_lt _ _ _ _ h1]
        exact Hcw.out k hk
      · have h1 := Hr4.out a ha
        rcases e with e | ⟨a2, ha2, e⟩
        · rw [e, HX4.out.y.cw] at h1; omega
        · rw [← e, HX4.out.y.cg a2 ha2] at h1; omega
      · have h1 : a.block < w4.heap.size := (HO4.out.lt a ha).2
        rw [col9_lt _ _ _ (Nat.lt_of_lt_of_le h1 hsz46), colW_lt _ _ _ _ h1]
        exact Hr4.out a ha
      · have h1 := Hcw.out k hk
        rcases e with e | ⟨a2, ha2, e⟩
        · rw [e, HX4.out.y.cw] at h1; unfold hcol; rw [e, ← h1]; omega
        · rw [← e, HX4.out.y.cg a2 ha2] at h1; unfold hcol; rw [← e, ← h1]; omega
    · obtain rfl : j = n := by omega
      have htk : L.take j = L := List.take_of_length_le (by rw [Hln.out]; exact Nat.le_refl _)
      rw [htk] at HXj
      have hglen : (freesA S.A L j).glob.length ≤ 900 := by rw [freesA_glob S.A L j (by rw [Hln.out]; exact Nat.le_refl _), htk, List.length_append]; have := Hln.out; omega
      have z0 : wo.cell? ⟨sw, 0, none⟩ = some (.pointer (some ⟨al, 0, none⟩)) := HXj.out.y.wb.cell 0
      have z2 : wo.cell? ⟨sw, 2, none⟩ = some (.int .i64 blk) := by rw [← hbk]; exact HXj.out.y.wb.cell 2
      have hXd := HXj.out.below (below_drewN (Below.refl _ _) 1)
      have HTr := Lib.hid (trim_any B b m s s2 colj al mp us fr blk (freesA S.A L j) A2 wo.drew hXd.x.dev hL HXj.out.x.hdv hXd.x.a (fun k hk => Hnj.out k hk) hb1 (by rw [f1]; exact hb2) (by rw [f1]; omega) (by rw [f1]; exact hmK) hglen (by rw [f5]; exact hc) HT.out)
      have Hsc : Hid (¬ (b.has sw ∨ colj sw = 1 ∨ colj sw = 3)) := by
        have h1 := HXj.out.y.cw
        rintro (e | e | e)
        · have := HXj.out.x.hdv _ e; omega
        · omega
        · omega
      have z0d : wo.drew.cell? ⟨sw, 0, none⟩ = some (.pointer (some ⟨al, 0, none⟩)) := z0
      have z2d : wo.drew.cell? ⟨sw, 2, none⟩ = some (.int .i64 blk) := z2
      clear hXd
      go_wp2_with omega
      go_region_held3 (fun W => W.cell? ⟨sw, 0, none⟩ = some (.pointer (some ⟨al, 0, none⟩)) ∧ W.cell? ⟨sw, 2, none⟩ = some (.int .i64 blk)) (first | exact ⟨z0, z2⟩ | exact ⟨q0, q2⟩)
        ((go_at_call 204; refine HTr.out.mono ?_; rintro e w4 ⟨⟨tt, rfl⟩, hd4, ha4, hm4⟩; have q0 := cell_mod hm4 z0d Hsc.out; have q2 := cell_mod hm4 z2d Hsc.out; have HD4 := Lib.hid hd4; have HA4 := Lib.hid ha4; have HM4 := Lib.hid hm4; clear hd4 ha4 hm4))
      have hM5 : Mod wo w4 (fun k => b.has k ∨ colj k = 1 ∨ colj k = 2 ∨ colj k = 3) := (mod_below (below_drewN (Below.refl _ _) 1)).trans HM4.out (fun k hk e => by rcases e with e | e | e <;> simp [e])
      have h4 := HXj.out.allocS hM5 HD4.out (fun _ _ => rfl) HA4.out (by rw [hA2]; exact f1.symm)
      have HX4 : Hid (HC w4 B b m s2 colj hp al mp us fr rt hl ca sh { S with A := A2, C := { S.C with gone := S.C.gone ++ L } } mk sw m1 m2 sk A cap Gj gcapj) := h4
      have HM5 : Hid (Mod w w4 (fun k => hcol (col k))) := HMj.out.trans hM5 (fun k hk e => by
        have h1 := Hcj.out k hk
        rcases e with e | e
        · rw [HXj.out.x.hdv _ e] at h1; unfold hcol; omega
        · unfold hcol; omega)
      have hnw : ∀ k, w4.heap.size ≤ k → colj k = 9 := fun k hk => Hnj.out k (Nat.le_trans hM5.size hk)
      have hMs : Mod w4 (w4.setCell ⟨sw, 2, none⟩ (.int .i64 (blk + 1 : Nat))) (fun k => k = sw) := (Mod.refl w4 (fun k => k = sw)).cell 2 _
      have h7 := HX4.out.sweepS (blk := blk + 1) (gone := S.C.gone ++ L) (G' := Gj) (gcap' := gcapj) (hMs.mono (fun k _ e => .inl e)) (Blk.conv (HX4.out.y.wb.set_ 2 _) (by simp)) (HX4.out.y.g.mod hMs (fun a ha e => HX4.out.y.g.ne HX4.out.y.wb (by decide) a ha e)) (fun a' ha' => .inl ⟨a', ha', rfl⟩)
      have hsz := hMs.size
      have hsw := HX4.out.y.cw
      have hswl := HX4.out.y.wb.lt
      have yf : w4.frozen? ⟨sw, 2, none⟩ = false := HX4.out.y.wb.frozen 2
      clear HXj HOj Hrj HD4 HA4 HTr hM5
      go_wp2_with omega
      go_ret
      have e : (blk : Int) + 1 = ((blk + 1 : Nat) : Int) := by omega
      rw [e, ← hmK]
      exact ⟨rfl, Gj, gcapj, col9 (colW colj w4 24) _, fun k hk => by
          have h1 : k < w4.heap.size := Nat.lt_of_lt_of_le hk HM5.out.size
          rw [col9_lt _ _ _ (Nat.lt_of_lt_of_le h1 hsz), colW_lt _ _ _ _ h1]
          exact Hcj.out k hk, fun k hk => col9_ge _ _ _ hk, h7.recol (fun k hk => col9_lt _ _ _ hk), HM5.out.trans hMs (fun k hk e => by
          have h1 := Hcj.out k hk
          rw [e, hsw] at h1; unfold hcol; rw [e, ← h1]; omega)⟩
end Go.Proofs.YtcnjipicifkfjaaGreat
