/- The walk of the reference's Write. -/
import Derived.Test.YtpflhgidcjlcjaaP2
namespace Go.Proofs.Ytpflhgidcjlcjaa
open Go.RowKit
set_option linter.unusedVariables false
set_option linter.unusedSimpArgs false

theorem hand {Q : World → Prop} {K : Act → World → Prop} {a : Act} {W : World} (h1 : Q W) (h2 : ∀ W', Q W' → K a W') : K a W := h2 _ h1

/-- Where the document's Write stands: the local leveller at b, the result behind it. -/
structure RS (w0 W : World) (b : Nat) (A B : Option Addr) (n cap capb : Nat) (K Wn M : Int) (az : List Int) (wn : List Nat) : Prop where
  be : Below b w0 W
  lo : Blk W b 40 (rcells A B n cap n capb K Wn M)
  re : Blk W (b + 1) 40 (rcells none none 0 0 0 0 0 0 0)
  at_ : Rd W 1 A n (ivals az)
  wo : Own W (b + 2) 3 1 B n capb (icells wn)
theorem RS.below {w0 w w' : World} {b B0 : Nat} {A B : Option Addr} {n cap capb : Nat} {K Wn M : Int} {az : List Int} {wn : List Nat} (h : RS w0 w b A B n cap capb K Wn M az wn) (hb : Below B0 w w') (hB : w.heap.size ≤ B0) : RS w0 w' b A B n cap capb K Wn M az wn :=
  ⟨h.be.trans (hb.mono (by have := h.lo.lt; omega)), h.lo.below hb (Nat.lt_of_lt_of_le h.lo.lt hB), h.re.below hb (Nat.lt_of_lt_of_le h.re.lt hB), h.at_.below hb hB, h.wo.below hb hB⟩
theorem RS.drewN {w0 w : World} {b : Nat} {A B : Option Addr} {n cap capb : Nat} {K Wn M : Int} {az : List Int} {wn : List Nat} (h : RS w0 w b A B n cap capb K Wn M az wn) (q : Nat) : RS w0 (w.drewN q) b A B n cap capb K Wn M az wn :=
  ⟨below_drewN h.be q, h.lo.drewN q, h.re.drewN q, h.at_.drewN q, h.wo.drewN q⟩

structure RA (w0 W : World) (b gA gB : Nat) (n cap capb : Nat) (K Wn M : Int) (az : List Int) (wn : List Nat) : Prop where
  be : Below b w0 W
  lo : Blk W b 40 (rcells (some ⟨gA, 0, none⟩) (some ⟨gB, 0, none⟩) n cap n capb K Wn M)
  re : Blk W (b + 1) 40 (rcells none none 0 0 0 0 0 0 0)
  ao : Own W (b + 2) 3 1 (some ⟨gA, 0, none⟩) n cap (ivals az)
  wo : Own W (b + 2) 3 1 (some ⟨gB, 0, none⟩) n capb (icells wn)
theorem RA.cells {w0 W : World} {b gA gB n cap capb : Nat} {K Wn M : Int} {az : List Int} {wn : List Nat} (h : RA w0 W b gA gB n cap capb K Wn M az wn) (hn : 0 < n) :
    (∀ j, j < n → W.cell? ⟨gA, j, none⟩ = some (.int .i64 (az.getD j 0)) ∧ W.frozen? ⟨gA, j, none⟩ = false) ∧ (∀ j, j < n → W.cell? ⟨gB, j, none⟩ = some (.int .i64 (wn.getD j 0 : Nat)) ∧ W.frozen? ⟨gB, j, none⟩ = false) := by
  have l1 : az.length = n := by have := h.ao.len; rw [ivals_len] at this; omega
  have l2 : wn.length = n := by have := h.wo.len; rw [icells_len] at this; omega
  obtain ⟨g1, e1, _, _, _, _, hx, hf⟩ := h.ao.at_ hn
  cases e1
  obtain ⟨g2, e2, _, _, _, _, hx2, hf2⟩ := h.wo.at_ hn
  cases e2
  exact ⟨fun j hj => ⟨hx j _ (ivals_at az j (by omega)), hf j⟩, fun j hj => ⟨hx2 j _ (icells_at wn j (by omega)), hf2 j⟩⟩
theorem RA.drewN {w0 W : World} {b gA gB n cap capb : Nat} {K Wn M : Int} {az : List Int} {wn : List Nat} (h : RA w0 W b gA gB n cap capb K Wn M az wn) (q : Nat) : RA w0 (W.drewN q) b gA gB n cap capb K Wn M az wn :=
  ⟨below_drewN h.be q, h.lo.drewN q, h.re.drewN q, h.ao.drewN q, h.wo.drewN q⟩
theorem RA.mv {w0 W : World} {b gA gB n cap capb G f : Nat} {K Wn M : Int} {az : List Int} {wn : List Nat} (h : RA w0 W b gA gB n cap capb K Wn M az wn) (hne : gA ≠ gB) (hG : G < n) (hf : f < n) (v : Int) :
    RA w0 ((W.setCell ⟨gA, G, none⟩ (.int .i64 v)).setCell ⟨gA, f, none⟩ (.int .i64 (-1))) b gA gB n cap capb K Wn M ((az.set G v).set f (-1)) wn := by
  have la := h.ao.lt _ rfl
  have la1 : b + 2 ≤ gA := la.1
  have hm : Mod W ((W.setCell ⟨gA, G, none⟩ (.int .i64 v)).setCell ⟨gA, f, none⟩ (.int .i64 (-1))) (fun k => k = gA) := Mod.set (p := ⟨gA, f, none⟩) (Mod.set (p := ⟨gA, G, none⟩) (Mod.refl W (fun k => k = gA)) (.inr rfl) _) (.inr rfl) _
  have ho := (h.ao.set_ (j := G) (by omega) (.int .i64 v)).set_ (j := f) (by omega) (.int .i64 (-1))
  have e : ((ivals az).set G (.int .i64 v)).set f (.int .i64 (-1)) = ivals ((az.set G v).set f (-1)) := by
    unfold ivals
    rw [List.map_set, List.map_set]
  rw [e] at ho
  exact ⟨Below.mod h.be hm (by have := h.lo.lt; omega) (fun k _ h => by omega), hm.blk h.lo (by omega), hm.blk h.re (by omega), ho, h.wo.mod hm (fun a ha h => by cases ha; exact hne h.symm)⟩
theorem RA.wr {w0 W : World} {b gA gB n cap capb G z : Nat} {K Wn M : Int} {az : List Int} {wn : List Nat} (h : RA w0 W b gA gB n cap capb K Wn M az wn) (hne : gA ≠ gB) (hG : G < n) (hz : wn.getD G 0 = z) :
    RA w0 (W.setCell ⟨gB, G, none⟩ (.int .i64 ((z : Int) + 1))) b gA gB n cap capb K Wn M az (bump wn G) := by
  have la := h.wo.lt _ rfl
  have la1 : b + 2 ≤ gB := la.1
  have hm : Mod W (W.setCell ⟨gB, G, none⟩ (.int .i64 ((z : Int) + 1))) (fun k => k = gB) := Mod.set (p := ⟨gB, G, none⟩) (Mod.refl W (fun k => k = gB)) (.inr rfl) _
  have ho := h.wo.set_ (j := G) (by omega) (.int .i64 ((z : Int) + 1))
  have e : (icells wn).set G (.int .i64 ((z : Int) + 1)) = icells (bump wn G) := by
    unfold bump icells
    rw [hz, List.map_set]
    rfl
  rw [e] at ho
  exact ⟨Below.mod h.be hm (by have := h.lo.lt; omega) (fun k _ h => by omega), hm.blk h.lo (by omega), hm.blk h.re (by omega), h.ao.mod hm (fun a ha h => by cases ha; exact hne h), ho⟩
theorem ivals_one (l : List Int) : ∀ u ∈ ivals l, u.oneCell' = true := by
  intro u hu
  simp only [ivals, List.mem_map] at hu
  obtain ⟨_, _, rfl⟩ := hu
  rfl
theorem rd_mod {w w' : World} {A : Option Addr} {n sz : Nat} {vs : List Value} {S : Nat → Prop} (h : Rd w sz A n vs) (m : Mod w w' S) (hs : ∀ a, A = some a → ¬ S a.block) : Rd w' sz A n vs := h.mod m hs

/-- What the document's Write answers. -/
def saidr (s : Lv) (v : Value) : Value := if mvd s then .tuple #[v, .int .i64 (frm s : Nat), .int .i64 (s.G : Nat), .bool true] else .tuple #[v, .int .i64 0, .int .i64 0, .bool false]
def WPost (A : Option Addr) (s : Lv) (x : Nat) (w : World) (e : Ending) (w' : World) : Prop :=
  ∃ A' B' cap' capb', e = .returned (saidr s (.agg (rcells A' B' (s.N + 1) cap' (s.N + 1) capb' s.K (s.W + 1 : Nat) (wr s x).M))) ∧ Rd w' 1 A' (s.N + 1) (ivals (ats (wr s x))) ∧ Rd w' 1 B' (s.N + 1) (icells (wr s x).worn) ∧
    (∀ a, A' = some a → w.heap.size ≤ a.block ∨ A = some a) ∧ (∀ a, B' = some a → w.heap.size ≤ a.block) ∧ Below w.heap.size w w'

set_option maxRecDepth 100000 in
set_option maxHeartbeats 2000000 in
theorem writer_any (A B : Option Addr) (cap capb x : Nat) (s : Lv) (w : World) (hs : Fine s) (hw : s.W ≤ 1000000000) (hx : x < s.N)
    (hA : Rd w 1 A (s.N + 1) (ivals (ats s))) (hB : Rd w 1 B (s.N + 1) (icells s.worn)) :
    Calls Try.prog 18 #[.agg (rcells A B (s.N + 1) cap (s.N + 1) capb s.K s.W s.M), .int .i64 x] w fun e w' => WPost A s x w e w' := by
  obtain ⟨i0, hi0, hz0, hz1, hz2⟩ := info3s
  have hpl := place_le hs x
  have hmb := hs.mb
  have hwb := hs.wb (place s x)
  have HF : Hid ((ats s).getD (place s x) 0 = x ∧ ∀ j, j < place s x → (ats s).getD j 0 ≠ x) :=
    ⟨by rw [ats_getD s _ hpl, line_place s hs x hx], fun j hj h => by
      rw [ats_getD s j (by omega)] at h
      have := place_line s hs j x (by omega) h
      omega⟩
  have HG : Hid ((ats s).getD s.G 0 = -1 ∧ ∀ j, j < s.G → (ats s).getD j 0 ≠ -1) :=
    ⟨by rw [ats_getD s _ hs.gp, line_gap], fun j hj h => by
      rw [ats_getD s j (by have := hs.gp; omega)] at h
      have := line_pos s j (by omega)
      omega⟩
  have Hs := Lib.hid hs
  have Hlen := Lib.hid hs.len
  obtain ⟨p, Hp⟩ : ∃ p, Hid (place s x = p) := ⟨_, rfl⟩
  obtain ⟨az, Has⟩ : ∃ az, Hid (ats s = az) := ⟨_, rfl⟩
  rw [Hp.out] at hpl hwb HF
  rw [Has.out] at HF HG hA
  have HA := Lib.hid hA
  have HB := Lib.hid hB
  have n2 := hs.n2
  have n1 := hs.n1
  have gp := hs.gp
  have k1 := hs.k1
  have k2 := hs.k2
  have HAb : Hid (∀ a, A = some a → a.block < w.heap.size) := by
    intro a ha
    obtain ⟨gA, off, hA', hg, _⟩ := hA.2 (by omega)
    rw [hA'] at ha
    cases ha
    exact hg
  clear hs hA hB
  obtain ⟨N, K, S, G, W, M, wn⟩ := s
  simp only at *
  unfold rcells
  go_enter Try.func18, Try.ntmps18
  obtain ⟨b, Hb0⟩ : ∃ b, Hid (w.heap.size = b) := ⟨_, rfl⟩
  have HK0 : Hid (∀ W1, W1 = (w.alloc (.cells (rcells A B (N + 1) cap (N + 1) capb K W M) 40)).alloc (.cells (rcells none none 0 0 0 0 0 0 0) 40) → Below b w W1 ∧ Blk W1 b 40 (rcells A B (N + 1) cap (N + 1) capb K W M) ∧ Blk W1 (b + 1) 40 (rcells none none 0 0 0 0 0 0 0) ∧ Rd W1 1 A (N + 1) (ivals az) ∧ Rd W1 1 B (N + 1) (icells wn)) := by
    rintro W1 rfl
    rw [← Hb0.out]
    refine ⟨((Below.refl _ w).alloc (Nat.le_refl _) _).alloc (by simp) _, (Blk.new _ _ _).alloc _, ?_, (HA.out.alloc _).alloc _, (HB.out.alloc _).alloc _⟩
    have := Blk.new (w.alloc (.cells (rcells A B (N + 1) cap (N + 1) capb K W M) 40)) 40 (rcells none none 0 0 0 0 0 0 0)
    simpa using this
  refine wp_seq_k fun K0 hK0 => ?_
  have HC0 := Lib.hid hK0
  clear hK0
  go_wp2_with fail
  refine hand (Q := fun W1 => Below b w W1 ∧ Blk W1 b 40 (rcells A B (N + 1) cap (N + 1) capb K W M) ∧ Blk W1 (b + 1) 40 (rcells none none 0 0 0 0 0 0 0) ∧ Rd W1 1 A (N + 1) (ivals az) ∧ Rd W1 1 B (N + 1) (icells wn)) (HK0.out _ rfl) ?_
  rintro w1 ⟨hb1, hl1, hr1, ha1, hbb1⟩
  refine HC0.out _ _ ?_
  rw [Hb0.out]
  have Hb1 := Lib.hid hb1
  have HL1 := Lib.hid hl1
  have HR1 := Lib.hid hr1
  have HA1 := Lib.hid ha1
  have HB1 := Lib.hid hbb1
  clear hb1 hl1 hr1 ha1 hbb1 HK0 HC0 HA HB
  go_wp2_with (refine wpList_load_row rfl 40 (.tmp 2) rfl b rfl 40 _ (0, 0) _ HL1.out Try.underlying40 rfl size40 ?_)
  refine (find_any az A B (N + 1) cap (N + 1) capb K W M x p w1 (by omega) HA1.out (by omega) HF.out.1 HF.out.2).mono ?_
  rintro e w2 ⟨rfl, hb2⟩
  have Hb2 := Lib.hid (Hb1.out.trans (hb2.mono (by have := HL1.out.lt; omega)))
  have HL2 := Lib.hid (HL1.out.below hb2 HL1.out.lt)
  have HR2 := Lib.hid (HR1.out.below hb2 HR1.out.lt)
  have HA2 := Lib.hid (HA1.out.below hb2 (Nat.le_refl _))
  have HB2 := Lib.hid (HB1.out.below hb2 (Nat.le_refl _))
  clear hb2 HL1 HR1 HA1 HB1 Hb1 HF
  have hl2 := HR2.out.lt
  have hl2' := HL2.out.lt
  have b1 := HL2.out.cell 1
  unfold rcells at b1
  simp only [List.getElem?_toArray, List.getElem?_cons_zero, List.getElem?_cons_succ] at b1
  go_wp2_with (at_builtin; (refine append_rd rfl (.tmp 14) (.tmp 16) 31 rfl (b + 2) 3 i0 _ 1 8 Try.underlying31 hi0 hz0 hz1 hz2 rfl (by omega) (some ⟨w2.heap.size, 0, none⟩) 0 0 [] rfl (Own.empty w2 (b + 2) 3 1 w2.heap.size rfl hl2) B (N + 1) capb (icells wn) rfl (HB2.out.alloc _) icells_one (N + 1) (by omega) (icells wn) rfl (by unfold maxLen; omega) (by omega) (by simp; omega) ?_))
  intro B5 capb5 w5 hO5 hM5 hat5
  have HO5 := Lib.hid hO5
  have Hb5 := Lib.hid (Below.mod (Hb2.out.alloc (by omega) (.cells #[] 3)) hM5 (by simp; omega) (fun k _ h => by omega))
  have HL5 := Lib.hid (hM5.blk (HL2.out.alloc _) (fun h => by omega))
  have HR5 := Lib.hid (hM5.blk (HR2.out.alloc _) (fun h => by omega))
  have HA5 := Lib.hid ((HA2.out.alloc (.cells #[] 3)).mod hM5 (fun a ha h => by
    obtain ⟨gA, off, hA, hg, _⟩ := HA2.out.2 (by omega)
    rw [hA] at ha
    cases ha
    have h' : w2.heap.size = gA := h
    omega))
  clear hO5 hM5 hat5 HL2 HR2 HA2 HB2 Hb2 b1
  rename (∀ (a : Act) (w : World), Code.wp _ _ _ a w → _) => hk
  have HC := Lib.hid hk
  clear hk
  have b1 := HL5.out.cell 1
  have fb1 := HL5.out.frozen 1
  unfold rcells at b1
  simp only [List.getElem?_toArray, List.getElem?_cons_zero, List.getElem?_cons_succ] at b1
  go_wp2_with fail
  rw [Hb0.out] at HAb
  refine hand (Q := fun wx => RS w wx b A B5 (N + 1) cap capb5 K W M az wn) ?_ ?_
  · have hm : Mod w5 (w5.setCell ⟨b, 1, none⟩ (.slice B5 (N + 1) capb5)) (fun k => k = b) := Mod.set (p := ⟨b, 1, none⟩) (Mod.refl w5 (fun k => k = b)) (.inr rfl) _
    exact ⟨Hb5.out.setCell (Nat.le_refl b) _, Blk.conv (HL5.out.set_ 1 _) (by simp [rcells]), HR5.out.far (p := ⟨b, 1, none⟩) (show b + 1 ≠ b by omega) _, HA5.out.mod hm (fun a ha h => by have := HAb.out a ha; omega), HO5.out.mod hm (fun a ha h => by have := (HO5.out.lt a ha).1; omega)⟩
  intro w6 h6
  have H6 := Lib.hid h6
  refine HC.out _ _ ?_
  clear h6 HC b1 fb1 HL5 HR5 HA5 HO5 Hb5
  obtain ⟨gB, rfl, hgb1, hgb2, hcb1, hcb2, hxb, hfb⟩ := H6.out.wo.at_ (by omega)
  have c0 := hxb p _ (icells_at wn p (by rw [Hlen.out]; omega))
  obtain ⟨y, Hy⟩ : ∃ y, Hid (wn.getD p 0 = y) := ⟨_, rfl⟩
  rw [Hy.out] at c0 hwb
  have f0 := hfb p
  have b1 := H6.out.lo.cell 1
  unfold rcells at b1
  simp only [List.getElem?_toArray, List.getElem?_cons_zero, List.getElem?_cons_succ] at b1
  clear hxb hfb
  have hpn : p < N + 1 := by omega
  refine wp_seq_k fun K1 hK1 => ?_
  have HC := Lib.hid hK1
  clear hK1
  go_wp2_with fail
  refine hand (Q := fun wx => RS w wx b A (some ⟨gB, 0, none⟩) (N + 1) cap capb5 K W M az (bump wn p)) ?_ ?_
  · have hm : Mod w6 (w6.setCell ⟨gB, p, none⟩ (.int .i64 ((y : Int) + 1))) (fun k => k = gB) := Mod.set (p := ⟨gB, p, none⟩) (Mod.refl w6 (fun k => k = gB)) (.inr rfl) _
    have ho := H6.out.wo.set_ (j := p) (by omega) (.int .i64 ((y : Int) + 1))
    have e : (icells wn).set p (.int .i64 ((y : Int) + 1)) = icells (bump wn p) := by
      unfold bump icells
      rw [Hy.out, List.map_set]
      rfl
    rw [e] at ho
    exact ⟨Below.mod H6.out.be hm (by have := H6.out.lo.lt; omega) (fun k _ h => by omega), hm.blk H6.out.lo (by omega), hm.blk H6.out.re (by omega), H6.out.at_.mod hm (fun a ha h => by have := HAb.out a ha; omega), ho⟩
  intro w7 h7
  have H7 := Lib.hid h7
  refine HC.out _ _ ?_
  clear h7 HC c0 f0 b1 H6
  have b3 := H7.out.lo.cell 3
  have f3 := H7.out.lo.frozen 3
  unfold rcells at b3
  simp only [List.getElem?_toArray, List.getElem?_cons_zero, List.getElem?_cons_succ] at b3
  refine wp_seq_k fun K1 hK1 => ?_
  have HC := Lib.hid hK1
  clear hK1
  go_wp2_with fail
  refine hand (Q := fun wx => RS w wx b A (some ⟨gB, 0, none⟩) (N + 1) cap capb5 K ((W : Int) + 1) M az (bump wn p)) ?_ ?_
  · have hm : Mod w7 (w7.setCell ⟨b, 3, none⟩ (.int .i64 ((W : Int) + 1))) (fun k => k = b) := Mod.set (p := ⟨b, 3, none⟩) (Mod.refl w7 (fun k => k = b)) (.inr rfl) _
    exact ⟨H7.out.be.setCell (Nat.le_refl b) _, Blk.conv (H7.out.lo.set_ 3 _) (by simp [rcells]), hm.blk H7.out.re (by omega), H7.out.at_.mod hm (fun a ha h => by have := HAb.out a ha; omega), H7.out.wo.mod hm (fun a ha h => by cases ha; have h' : gB = b := h; omega)⟩
  intro w8 h8
  have H8 := Lib.hid h8
  refine HC.out _ _ ?_
  clear h8 HC b3 f3 H7
  have b2 := H8.out.lo.cell 2
  have b3 := H8.out.lo.cell 3
  unfold rcells at b2 b3
  simp only [List.getElem?_toArray, List.getElem?_cons_zero, List.getElem?_cons_succ] at b2 b3
  obtain ⟨r, Hr⟩ : ∃ r, Hid ((W + 1) % K = r) := ⟨_, rfl⟩
  have hri : ((W : Int) + 1) % (K : Int) = (r : Int) := by rw [← Hr.out]; simp
  have hrt : ((W : Int) + 1).tmod (K : Int) = (r : Int) := by rw [Int.tmod_eq_emod_of_nonneg (by omega)]; exact hri
  have HW0 : Hid (wr0 ⟨N, K, S, G, W, M, wn⟩ x = ⟨N, K, S, G, W + 1, M, bump wn p⟩) := by show wr0 _ _ = _; unfold wr0; rw [Hp.out]
  have HF0 := Lib.hid (Hs.out.wr0 x)
  rw [HW0.out] at HF0
  have Has0 : Hid (ats ⟨N, K, S, G, W + 1, M, bump wn p⟩ = az) := Has.out
  have hcw : ((W + 1 : Nat) : Int) = (W : Int) + 1 := by omega
  by_cases hr0 : r = 0
  · have HM : Hid (mvd ⟨N, K, S, G, W, M, wn⟩) := by show mvd _; unfold mvd; rw [Hr.out, hr0]
    have HWR : Hid (wr ⟨N, K, S, G, W, M, wn⟩ x = move ⟨N, K, S, G, W + 1, M, bump wn p⟩) := by
      show wr _ _ = _
      rw [wr_yes HM.out, HW0.out]
    obtain ⟨f, Hf⟩ : ∃ f, Hid (frm ⟨N, K, S, G, W, M, wn⟩ = f) := ⟨_, rfl⟩
    have hfG := frm_ne _ Hs.out
    have hfN := frm_le _ Hs.out
    rw [Hf.out] at hfG hfN
    simp only at hfG hfN
    have HATS : Hid (ats (move ⟨N, K, S, G, W + 1, M, bump wn p⟩) = (az.set G (az.getD f 0)).set f (-1)) := by
      show ats _ = _
      have e1 := ats_move _ HF0.out
      have e2 : frm ⟨N, K, S, G, W + 1, M, bump wn p⟩ = f := Hf.out
      have e3 := ats_getD ⟨N, K, S, G, W + 1, M, bump wn p⟩ f hfN
      rw [Has0.out] at e1 e3
      rw [e2, ← e3] at e1
      exact e1
    have HMV : Hid ((move ⟨N, K, S, G, W + 1, M, bump wn p⟩).M = M + 1 ∧ (move ⟨N, K, S, G, W + 1, M, bump wn p⟩).worn = bump (bump wn p) G) := by
      show _ ∧ _
      unfold move
      simp only
      split
      · rename_i h; rw [h]; exact ⟨rfl, rfl⟩
      · exact ⟨rfl, rfl⟩
    have Haz : Hid (az.length = N + 1) := by show _ = _; rw [← Has.out, ats_len]
    subst hr0
    go_wp2_with (refine wpList_load_row rfl 40 (.tmp 2) rfl b rfl 40 _ (0, 0) _ H8.out.lo Try.underlying40 rfl size40 ?_)
    refine (find_any az A (some ⟨gB, 0, none⟩) (N + 1) cap (N + 1) capb5 K _ M (-1) G w8 (by omega) H8.out.at_ (by omega) HG.out.1 HG.out.2).mono ?_
    rintro e w9 ⟨rfl, hb9⟩
    have H9 := Lib.hid (H8.out.below hb9 (Nat.le_refl _))
    clear hb9 b2 b3 H8 hri hrt
    have hcase : (G = 0 ∧ N = f) ∨ ∃ G', G = G' + 1 ∧ G' = f := by
      have := Hf.out
      unfold frm at this
      simp only at this
      split at this
      · exact .inl ⟨by assumption, this⟩
      · exact .inr ⟨G - 1, by omega, by omega⟩
    have b0 := H9.out.lo.cell 0
    unfold rcells at b0
    simp only [List.getElem?_toArray, List.getElem?_cons_zero, List.getElem?_cons_succ] at b0
    have hl9 := H9.out.re.lt
    have hl9' := H9.out.lo.lt
    have hgb9 : gB < w9.heap.size := (H9.out.wo.lt _ rfl).2
    obtain ⟨v, Hv⟩ : ∃ v, Hid (az.getD f 0 = v) := ⟨_, rfl⟩
    obtain ⟨z, Hz⟩ : ∃ z, Hid ((bump wn p).getD G 0 = z) := ⟨_, rfl⟩
    have hzb : z ≤ W + 1 + M := by rw [← Hz.out]; exact HF0.out.wb G
    rw [Hv.out] at HATS
    obtain ⟨az2, Haz2⟩ : ∃ az2, Hid ((az.set G v).set f (-1) = az2) := ⟨_, rfl⟩
    obtain ⟨wn2, Hwn2⟩ : ∃ wn2, Hid (bump (bump wn p) G = wn2) := ⟨_, rfl⟩
    have HC12 : Hid (∀ gA cap wx, RA w wx b gA gB (N + 1) cap capb5 K ((W : Int) + 1) M az (bump wn p) →
        wx.cell? ⟨gA, f, none⟩ = some (.int .i64 v) ∧ (∃ u, wx.cell? ⟨gA, G, none⟩ = some (.int .i64 u)) ∧ wx.frozen? ⟨gA, G, none⟩ = false ∧ wx.frozen? ⟨gA, f, none⟩ = false) := by
      intro gA cap wx h
      have c := h.cells (by omega)
      refine ⟨?_, ⟨_, (c.1 G (by omega)).1⟩, (c.1 G (by omega)).2, (c.1 f (by omega)).2⟩
      have := (c.1 f (by omega)).1
      rw [Hv.out] at this
      exact this
    have HC13 : Hid (∀ gA cap wx, RA w wx b gA gB (N + 1) cap capb5 K ((W : Int) + 1) M az2 (bump wn p) → wx.cell? ⟨gB, G, none⟩ = some (.int .i64 (z : Nat)) ∧ wx.frozen? ⟨gB, G, none⟩ = false) := by
      intro gA cap wx h
      have c := h.cells (by omega)
      have := (c.2 G (by omega)).1
      rw [Hz.out] at this
      exact ⟨this, (c.2 G (by omega)).2⟩
    have HS12 : Hid (∀ gA cap wx, gA ≠ gB → RA w wx b gA gB (N + 1) cap capb5 K ((W : Int) + 1) M az (bump wn p) → RA w ((wx.setCell ⟨gA, G, none⟩ (.int .i64 v)).setCell ⟨gA, f, none⟩ (.int .i64 (-1))) b gA gB (N + 1) cap capb5 K ((W : Int) + 1) M az2 (bump wn p)) := by
      intro gA cap wx hne h
      rw [← Haz2.out]
      exact h.mv hne (by omega) (by omega) v
    have HS13 : Hid (∀ gA cap wx, gA ≠ gB → RA w wx b gA gB (N + 1) cap capb5 K ((W : Int) + 1) M az2 (bump wn p) → RA w (wx.setCell ⟨gB, G, none⟩ (.int .i64 ((z : Int) + 1))) b gA gB (N + 1) cap capb5 K ((W : Int) + 1) M az2 wn2) := by
      intro gA cap wx hne h
      rw [← Hwn2.out]
      exact h.wr hne (by omega) Hz.out
    have HQ : Hid (ats (wr ⟨N, K, S, G, W, M, wn⟩ x) = az2 ∧ (wr ⟨N, K, S, G, W, M, wn⟩ x).worn = wn2 ∧ (wr ⟨N, K, S, G, W, M, wn⟩ x).M = M + 1 ∧ ∀ v, saidr ⟨N, K, S, G, W, M, wn⟩ v = .tuple #[v, .int .i64 (f : Nat), .int .i64 (G : Nat), .bool true]) := by
      refine ⟨?_, ?_, ?_, fun v => ?_⟩
      · rw [HWR.out, HATS.out, Haz2.out]
      · rw [HWR.out, HMV.out.2, Hwn2.out]
      · rw [HWR.out, HMV.out.1]
      · unfold saidr
        rw [if_pos HM.out, Hf.out]
    obtain ⟨fv, Hfv⟩ : ∃ fv : Value, Hid (.int .i64 (f : Nat) = fv) := ⟨_, rfl⟩
    obtain ⟨gv, Hgv⟩ : ∃ gv : Value, Hid (.int .i64 (G : Nat) = gv) := ⟨_, rfl⟩
    have hfN1 : f < N + 1 := by omega
    have hGN1 : G < N + 1 := by omega
    rcases hcase with ⟨rfl, rfl⟩ | ⟨G', rfl, rfl⟩
    all_goals
      go_wp2_with (at_builtin; (refine append_rd rfl (.tmp 47) (.tmp 49) 31 rfl (b + 2) 3 i0 _ 1 8 Try.underlying31 hi0 hz0 hz1 hz2 rfl (by omega) (some ⟨w9.heap.size, 0, none⟩) 0 0 [] rfl (Own.empty w9 (b + 2) 3 1 w9.heap.size rfl hl9) A (N + 1) cap (ivals az) rfl (H9.out.at_.alloc _) (ivals_one az) (N + 1) (by omega) (ivals az) rfl (by unfold maxLen; omega) (by omega) (by simp; omega) ?_))
      intro A6 cap6 w10 hO10 hM10 hat10
      obtain ⟨gA, rfl, hga1, hga2, hca1, hca2, _, _⟩ := hO10.at_ (by omega)
      have hAB : gA ≠ gB := by
        rcases hat10 _ rfl with h | h
        · have h' : w9.heap.size = gA := h
          omega
        · have h' : w9.heap.size + 1 ≤ gA := h
          omega
      have HO10 := Lib.hid hO10
      have Hb10 := Lib.hid (Below.mod (H9.out.be.alloc (by omega) (.cells #[] 3)) hM10 (by simp; omega) (fun k _ h => by omega))
      have HL10 := Lib.hid (hM10.blk (H9.out.lo.alloc _) (fun h => by omega))
      have HR10 := Lib.hid (hM10.blk (H9.out.re.alloc _) (fun h => by omega))
      have HW10 := Lib.hid ((H9.out.wo.alloc (.cells #[] 3)).mod hM10 (fun a ha h => by cases ha; have h' : w9.heap.size = gB := h; omega))
      clear hO10 hM10 hat10 b0 H9
      rename (∀ (a : Act) (w : World), Code.wp _ _ _ a w → _) => hk
      have HC := Lib.hid hk
      clear hk
      have b0 := HL10.out.cell 0
      have fb0 := HL10.out.frozen 0
      unfold rcells at b0
      simp only [List.getElem?_toArray, List.getElem?_cons_zero, List.getElem?_cons_succ] at b0
      go_wp2_with fail
      refine hand (Q := fun wx => RA w wx b gA gB (N + 1) cap6 capb5 K ((W : Int) + 1) M az (bump wn p)) ?_ ?_
      · have hm : Mod w10 (w10.setCell ⟨b, 0, none⟩ (.slice (some ⟨gA, 0, none⟩) (N + 1) cap6)) (fun k => k = b) := Mod.set (p := ⟨b, 0, none⟩) (Mod.refl w10 (fun k => k = b)) (.inr rfl) _
        exact ⟨Hb10.out.setCell (Nat.le_refl b) _, Blk.conv (HL10.out.set_ 0 _) (by simp [rcells]), hm.blk HR10.out (by omega), HO10.out.mod hm (fun a ha h => by cases ha; have h' : gA = b := h; omega), HW10.out.mod hm (fun a ha h => by cases ha; have h' : gB = b := h; omega)⟩
      intro w11 h11
      have H11 := Lib.hid h11
      refine HC.out _ _ ?_
      clear h11 HC b0 fb0 HL10 HR10 HO10 HW10 Hb10
      obtain ⟨q1, ⟨u, q2⟩, q3, q4⟩ := HC12.out _ _ _ H11.out
      have b0 := H11.out.lo.cell 0
      unfold rcells at b0
      simp only [List.getElem?_toArray, List.getElem?_cons_zero, List.getElem?_cons_succ] at b0
      have hneb : gA ≠ b := by omega
      refine wp_seq_k fun K1 hK1 => ?_
      have HC := Lib.hid hK1
      clear hK1
      go_region
      change K1 _ _
      refine hand (Q := fun wx => RA w wx b gA gB (N + 1) cap6 capb5 K ((W : Int) + 1) M az2 (bump wn p)) (HS12.out _ _ _ hAB (H11.out.drewN 1)) ?_
      intro w12 h12
      have H12 := Lib.hid h12
      refine HC.out _ _ ?_
      clear h12 HC b0 H11 q1 q2 q3 q4
      obtain ⟨q1, q2⟩ := HC13.out _ _ _ H12.out
      have b1 := H12.out.lo.cell 1
      unfold rcells at b1
      simp only [List.getElem?_toArray, List.getElem?_cons_zero, List.getElem?_cons_succ] at b1
      refine wp_seq_k fun K1 hK1 => ?_
      have HC := Lib.hid hK1
      clear hK1
      go_wp2_with fail
      refine hand (Q := fun wx => RA w wx b gA gB (N + 1) cap6 capb5 K ((W : Int) + 1) M az2 wn2) (HS13.out _ _ _ hAB H12.out) ?_
      intro w13 h13
      have H13 := Lib.hid h13
      refine HC.out _ _ ?_
      clear h13 HC b1 H12 q1 q2
      have b4 := H13.out.lo.cell 4
      have f4 := H13.out.lo.frozen 4
      unfold rcells at b4
      simp only [List.getElem?_toArray, List.getElem?_cons_zero, List.getElem?_cons_succ] at b4
      refine wp_seq_k fun K1 hK1 => ?_
      have HC := Lib.hid hK1
      clear hK1
      go_wp2_with fail
      refine hand (Q := fun wx => RA w wx b gA gB (N + 1) cap6 capb5 K ((W : Int) + 1) ((M : Int) + 1) az2 wn2) ?_ ?_
      · have hm : Mod w13 (w13.setCell ⟨b, 4, none⟩ (.int .i64 ((M : Int) + 1))) (fun k => k = b) := Mod.set (p := ⟨b, 4, none⟩) (Mod.refl w13 (fun k => k = b)) (.inr rfl) _
        exact ⟨H13.out.be.setCell (Nat.le_refl b) _, Blk.conv (H13.out.lo.set_ 4 _) (by simp [rcells]), hm.blk H13.out.re (by omega), H13.out.ao.mod hm (fun a ha h => by cases ha; have h' : gA = b := h; omega), H13.out.wo.mod hm (fun a ha h => by cases ha; have h' : gB = b := h; omega)⟩
      intro w14 h14
      have H14 := Lib.hid h14
      refine HC.out _ _ ?_
      clear h14 HC b4 f4 H13
      go_wp2_with (first
        | (refine wpList_load_row rfl 40 (.tmp 2) rfl b rfl 40 _ (0, 0) _ H14.out.lo Try.underlying40 rfl size40 ?_)
        | (refine wpList_store_row rfl (.tmp 4) (.tmp 76) rfl rfl rfl H14.out.re size40 rfl (rcells_one _ _ _ _ _ _ _ _ _) ?_))
      intro w15 hB15 hM15
      have d0 := hB15.cell 0
      have d1 := hB15.cell 1
      have d2 := hB15.cell 2
      have d3 := hB15.cell 3
      have d4 := hB15.cell 4
      unfold rcells at d0 d1 d2 d3 d4
      simp only [List.getElem?_toArray, List.getElem?_cons_zero, List.getElem?_cons_succ] at d0 d1 d2 d3 d4
      go_wp2_with fail
      refine bodyPost_ret (v := .tuple #[.agg (rcells (some ⟨gA, 0, none⟩) (some ⟨gB, 0, none⟩) (N + 1) cap6 (N + 1) capb5 K ((W : Int) + 1) ((M : Int) + 1)), fv, gv, .bool true]) (by simp [results, Try.results18, go_sem, d0, d1, d2, d3, d4, rcells, ← Hfv.out, ← Hgv.out]) rfl ?_
      refine ⟨some ⟨gA, 0, none⟩, some ⟨gB, 0, none⟩, cap6, capb5, ?_, ?_, ?_, ?_, ?_, ?_⟩
      · rw [HQ.out.2.2.2, HQ.out.2.2.1, Hfv.out, Hgv.out]
        simp
      · rw [HQ.out.1]
        exact (H14.out.ao.mod hM15 (fun a ha h => by cases ha; have h' : gA = b + 1 := h; omega)).rd
      · rw [HQ.out.2.1]
        exact (H14.out.wo.mod hM15 (fun a ha h => by cases ha; have h' : gB = b + 1 := h; omega)).rd
      · intro a ha
        cases ha
        left
        show w.heap.size ≤ gA
        rw [Hb0.out]
        omega
      · intro a ha
        cases ha
        show w.heap.size ≤ gB
        rw [Hb0.out]
        omega
      · rw [Hb0.out]
        exact Below.mod H14.out.be hM15 (by have := H14.out.lo.lt; omega) (fun k _ h => by omega)
  · have HM : Hid (¬ mvd ⟨N, K, S, G, W, M, wn⟩) := by
      show ¬ mvd _
      unfold mvd
      rw [Hr.out]
      exact hr0
    have HWR : Hid (wr ⟨N, K, S, G, W, M, wn⟩ x = ⟨N, K, S, G, W + 1, M, bump wn p⟩) := by
      show wr _ _ = _
      rw [wr_no HM.out, HW0.out]
    have hrb : (r != 0) = true := by simpa using hr0
    have hrb2 : (r == 0) = false := by simpa using hr0
    go_wp2_with (first
      | (refine wpList_load_row rfl 40 (.tmp 2) rfl b rfl 40 _ (0, 0) _ H8.out.lo Try.underlying40 rfl size40 ?_)
      | (refine wpList_store_row rfl (.tmp 4) (.tmp 36) rfl rfl rfl H8.out.re size40 rfl (rcells_one _ _ _ _ _ _ _ _ _) ?_))
    intro w9 hB9 hM9
    have d0 := hB9.cell 0
    have d1 := hB9.cell 1
    have d2 := hB9.cell 2
    have d3 := hB9.cell 3
    have d4 := hB9.cell 4
    unfold rcells at d0 d1 d2 d3 d4
    simp only [List.getElem?_toArray, List.getElem?_cons_zero, List.getElem?_cons_succ] at d0 d1 d2 d3 d4
    go_wp2_with fail
    refine bodyPost_ret (v := .tuple #[.agg (rcells A (some ⟨gB, 0, none⟩) (N + 1) cap (N + 1) capb5 K ((W : Int) + 1) M), .int .i64 0, .int .i64 0, .bool false]) (by simp [results, Try.results18, go_sem, d0, d1, d2, d3, d4, rcells]) rfl ?_
    refine ⟨A, some ⟨gB, 0, none⟩, cap, capb5, ?_, ?_, ?_, fun a ha => .inr ha, ?_, ?_⟩
    · unfold saidr
      rw [if_neg HM.out, HWR.out, hcw]
    · rw [HWR.out, Has0.out]
      exact H8.out.at_.mod hM9 (fun a ha h => by have := HAb.out a ha; omega)
    · rw [HWR.out]
      exact (H8.out.wo.mod hM9 (fun a ha h => by cases ha; have h' : gB = b + 1 := h; omega)).rd
    · intro a ha
      cases ha
      show w.heap.size ≤ gB
      rw [Hb0.out]
      omega
    · rw [Hb0.out]
      exact Below.mod H8.out.be hM9 (by have := H8.out.lo.lt; omega) (fun k _ h => by omega)
end Go.Proofs.Ytpflhgidcjlcjaa
