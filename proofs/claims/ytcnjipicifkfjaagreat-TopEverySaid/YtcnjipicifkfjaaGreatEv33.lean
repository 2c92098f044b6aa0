/- heap: Store. -/
import Derived.Test.YtcnjipicifkfjaaGreatEv31
import Derived.Test.YtcnjipicifkfjaaGreatEv32
import Derived.Defers
import Derived.Test.YtcnjipicifkfjaaGreatEv09
import Derived.Test.YtcnjipicifkfjaaGreatEv11

namespace Go.Proofs.YtcnjipicifkfjaaGreat
open Go.RowKit
set_option linter.unusedVariables false
set_option linter.unusedSimpArgs false

set_option maxRecDepth 100000 in
set_option maxHeartbeats 2000000 in
theorem hstore_any (B : Nat) (b : DB) (m : Nat) (s : DS) (col : Nat → Nat) (hp al mp us fr rt hl ca sh mu r mu2 r2 a to v : Nat) (S : HS) (w : World) (h : HeapX w B b m s col hp al mp us fr rt hl ca sh S) (hn : ∀ k, w.heap.size ≤ k → col k = 9) (hmu : mu < 4) (hr : r < 8) (hmu2 : mu2 < 4) (hr2 : r2 < 8)
    (ha : S.rg.getD (mu * 8 + r) 0 = a) (ha0 : 0 < a) (hto : S.rg.getD (mu2 * 8 + r2) 0 = to) (hto2 : to ≤ 1000000) (ho : ObjAt s m a 1 1) (hv : s.C.getD (a + 1) 0 = v) (hv2 : v ≤ 1099511627776) (hp0 : S.C.phase = 0) (hob : OB s m S.A.used 1) (hu0 : S.A.used 0 = false) :
    Calls Tryz.prog 30 #[.pointer (some ⟨hp, 0, none⟩), .agg #[.int .i64 mu, .int .i64 r], .int .i64 0, .agg #[.int .i64 mu2, .int .i64 r2]] w fun e w' => e = .returned (.int .i64 (ecode (exec s [.st (a + 1) to]).2)) ∧
      (∃ st st2, HOutX w' B b m (exec s [.st (a + 1) to]) col hp al mp us fr rt hl ca sh { S with shared := st, held := st2 }) ∧ Mod w w' (fun k => hcol (col k)) := by
  obtain ⟨n5, Hn5⟩ : ∃ n, Hid (w.heap.size = n) := ⟨_, rfl⟩
  obtain ⟨n7, Hn7⟩ : ∃ n, Hid (n5 + 1 = n) := ⟨_, rfl⟩
  have L1 := Lib.hid (((Loc.nil Nob w).box 59 #[.int .i64 mu, .int .i64 r] n5 Hn5.out).box 59 #[.int .i64 mu2, .int .i64 r2] n7 (by rw [World.size_alloc, Hn5.out, Hn7.out]))
  have HXb : Hid (∀ wr, Below w.heap.size w wr → HeapX wr B b m s col hp al mp us fr rt hl ca sh S) := fun wr hb => h.below hb
  have Hnd : Hid (∀ wr, Below w.heap.size w wr → _) := fun wr hb => hneed_any B b m s col hp al mp us fr rt hl ca sh mu r a S wr (h.below hb) hmu hr ha ha0
  have Hge : Hid (∀ wr, Below w.heap.size w wr → Calls Tryz.prog 75 #[.pointer (some ⟨hp, 3, none⟩), .agg #[.int .i64 mu2, .int .i64 r2]] wr fun e w' => e = .returned (.tuple #[.int .i64 to, .int .i64 0]) ∧ Below wr.heap.size wr w') := fun wr hb =>
    nget_any hp mu2 r2 to 87 _ wr (h.below hb).blk hmu2 hr2 (by rw [heapC_reg2 h.rg mu2 r2 hmu2 hr2, hto])
  have hmm : m ≤ 10000 := by have := h.hm; have := h.k4; omega
  have Hpt : Hid (∀ wr, Below w.heap.size w wr → _) := fun wr hb => optrOf_any B b m s a v wr (h.below hb).dev ho hv hv2 hmm
  have Hsh : Hid (∀ wr, Below w.heap.size w wr → _) := fun wr hb => hshare_any B b m s col hp al mp us fr rt hl ca sh to S wr (h.below hb) hp0 (by omega)
  have haN : a ≤ 100000 := by have := ho.le; have := h.hm; have := h.k4; omega
  have HK4 : Hid (3 ≤ S.A.K ∧ S.A.K ≤ 4) := ⟨h.k3, h.k4⟩
  have Hhh : Hid (∀ wr st, HeapX wr B b m s col hp al mp us fr rt hl ca sh { S with shared := st } → Calls Tryz.prog 78 #[.pointer (some ⟨hl, 0, none⟩), .int .i64 a] wr fun e w' => e = .returned (.bool (S.held a)) ∧ wr = w') := fun wr st hX =>
    hhas_any _ hl al S.A.K a S.held wr hX.h (by have := hX.k4; show S.A.K ≤ 150; have := HK4.out; omega) (by omega)
  have Hha : Hid (∀ wr st, w.heap.size ≤ wr.heap.size → HeapX wr B b m s col hp al mp us fr rt hl ca sh { S with shared := st } → Calls Tryz.prog 79 #[.pointer (some ⟨hl, 0, none⟩), .int .i64 to] wr fun e w' => (∃ x, e = .returned x) ∧ (∃ st2, HeapX w' B b m s col hp al mp us fr rt hl ca sh { S with shared := st, held := st2 }) ∧ Mod wr w' (fun k => col k = 5)) := by
    intro wr st hsz hX
    refine (hadd_any B b m s (fun k => col k = 5) col hl al 1 to S.A S.held wr hX.dev hX.a.r hX.h hX.hdv (fun k hk => by omega) (fun k hk => by
      rcases Nat.lt_or_ge k wr.heap.size with h1 | h1
      · exact h1
      · have := hn k (by omega); omega) hob hu0 hX.hm (by have := HK4.out; omega) (by omega)).mono ?_
    rintro e w' ⟨he, hh, hM⟩
    exact ⟨he, ⟨_, hX.heldS hM hh⟩, hM⟩
  obtain ⟨E, HE⟩ : ∃ E, Hid (exec s [.st (a + 1) to] = E) := ⟨_, rfl⟩
  have Hsp : Hid (∀ wr st st2, HeapX wr B b m s col hp al mp us fr rt hl ca sh { S with shared := st, held := st2 } → Calls Tryz.prog 80 #[.pointer (some ⟨b.d, 0, none⟩), .int .i64 a, .int .i64 0, .int .i64 to] wr fun e w' => e = .returned (.int .i64 (ecode E.2)) ∧ HeapX w' B b m E.1 col hp al mp us fr rt hl ca sh { S with shared := st, held := st2 } ∧ Mod wr w' b.has) := by
    intro wr st st2 hX
    have := setptr_any B b m s a to wr hX.dev ho (by omega) hmm
    rw [HE.out] at this
    refine this.mono ?_
    rintro e w' ⟨he, hd, hM⟩
    exact ⟨he, hX.devS hM hd, hM⟩
  rw [HE.out]
  have Hdn : Hid (∀ wr st st2, HeapX wr B b m E.1 col hp al mp us fr rt hl ca sh { S with shared := st, held := st2 } → _) := fun wr st st2 hX => hdown_any B b m E col hp al mp us fr rt hl ca sh { S with shared := st, held := st2 } wr hX
  have Hc : Hid (col hp = 7 ∧ ∀ k, b.has k → col k = 0) := ⟨h.chp, h.hdv⟩
  clear h ha hto ho hv hob hn
  go_enter Tryz.func30, Tryz.ntmps30
  go_wp2_with fail
  rw [Hn5.out, Hn7.out]
  generalize (w.alloc _).alloc _ = w1 at *
  refine (Hnd.out _ L1.out.below).mono ?_
  rintro e w2 ⟨rfl, hb2⟩
  have L2 := Lib.hid (L1.out.call hb2 (Nat.le_refl _))
  clear hb2 L1
  go_wp2_with fail
  have L3 := Lib.hid L2.out.drew
  have x0 : w2.cell? ⟨n7, 0, none⟩ = some (.int .i64 mu2) := L2.out.b0.cell 0
  have x1 : w2.cell? ⟨n7, 1, none⟩ = some (.int .i64 r2) := L2.out.b0.cell 1
  clear L2
  go_region_held3 (fun W => W.cell? ⟨n7, 0, none⟩ = some (.int .i64 mu2) ∧ W.cell? ⟨n7, 1, none⟩ = some (.int .i64 r2))
    (first | exact ⟨x0, x1⟩ | exact ⟨L3.out.b0.cell 0, L3.out.b0.cell 1⟩)
    ((go_at_call 75; refine (Hge.out _ L3.out.below).mono ?_; rintro e w3 ⟨rfl, hb3⟩; replace L3 := Lib.hid (L3.out.call hb3 (Nat.le_refl _)); clear hb3))
  clear x0 x1
  have c0 := (HXb.out _ L3.out.below).c0
  go_wp2_with fail
  refine (Hpt.out _ L3.out.below).mono ?_
  rintro e w4 ⟨rfl, hb4⟩
  have L4 := Lib.hid (L3.out.call hb4 (Nat.le_refl _))
  clear hb4 L3 c0
  go_wp2_with fail
  refine (Hsh.out _ L4.out.below).mono ?_
  rintro e w5 ⟨⟨v5, rfl⟩, ⟨st, hX5⟩, hM5⟩
  have HX5 := Lib.hid hX5
  have HM5 : Hid (Mod w w5 (fun k => hcol (col k))) := Mod.trans (mod_b L4.out.below : Mod w w4 (fun k => hcol (col k))) hM5 (fun k _ e => by rw [e]; exact .inl (by omega))
  have c35 := HX5.out.c35
  clear hX5 hM5 L4
  go_wp2_with fail
  refine (Hhh.out _ _ HX5.out).mono ?_
  rintro e _ ⟨rfl, rfl⟩
  cases hst : S.held a with
  | false =>
    have HX6 : Hid (HeapX w5 B b m s col hp al mp us fr rt hl ca sh { S with shared := st, held := S.held }) := HX5.out
    have c0 := HX6.out.c0
    clear hst HX5
    go_wp2_with fail
    refine (Hsp.out _ _ _ HX6.out).mono ?_
    rintro e w7 ⟨rfl, hX7, hM7⟩
    have HX7 := Lib.hid hX7
    have HM7 : Hid (Mod w w7 (fun k => hcol (col k))) := HM5.out.trans hM7 (fun k _ e => by rw [Hc.out.2 k e]; exact .inl (by omega))
    clear hX7 hM7 HX6 HM5 c0 c35
    go_wp2_with fail
    refine (Hdn.out _ _ _ HX7.out).mono ?_
    rintro e w8 ⟨rfl, ho8, hM8⟩
    have HO8 : Hid (∃ st st2, HOutX w8 B b m E col hp al mp us fr rt hl ca sh { S with shared := st, held := st2 }) := by
      rcases ho8 with ⟨h1, rfl⟩ | ⟨h1, h2⟩
      · exact ⟨_, _, .inl ⟨h1, HX7.out⟩⟩
      · exact ⟨st, S.held, .inr ⟨h1, h2⟩⟩
    have HM8 : Hid (Mod w w8 (fun k => hcol (col k))) := HM7.out.trans hM8 (fun k _ e => by rw [e, Hc.out.1]; exact .inl (by omega))
    clear ho8 hM8
    go_wp2_with fail
    go_ret
    exact ⟨rfl, HO8.out, HM8.out⟩
  | true =>
    clear hst
    go_wp2_with fail
    refine (Hha.out _ _ HM5.out.size HX5.out).mono ?_
    rintro e w6 ⟨⟨v6, rfl⟩, ⟨st2, hX6⟩, hM6⟩
    have HX6 := Lib.hid hX6
    have HM6 : Hid (Mod w w6 (fun k => hcol (col k))) := HM5.out.trans hM6 (fun k _ e => by rw [e]; exact .inl (by omega))
    have c0 := HX6.out.c0
    clear hX6 hM6 HX5 HM5 c35
    go_wp2_with fail
    refine (Hsp.out _ _ _ HX6.out).mono ?_
    rintro e w7 ⟨rfl, hX7, hM7⟩
    have HX7 := Lib.hid hX7
    have HM7 : Hid (Mod w w7 (fun k => hcol (col k))) := HM6.out.trans hM7 (fun k _ e => by rw [Hc.out.2 k e]; exact .inl (by omega))
    clear hX7 hM7 HX6 HM6 c0
    go_wp2_with fail
    refine (Hdn.out _ _ _ HX7.out).mono ?_
    rintro e w8 ⟨rfl, ho8, hM8⟩
    have HO8 : Hid (∃ st st2, HOutX w8 B b m E col hp al mp us fr rt hl ca sh { S with shared := st, held := st2 }) := by
      rcases ho8 with ⟨h1, rfl⟩ | ⟨h1, h2⟩
      · exact ⟨_, _, .inl ⟨h1, HX7.out⟩⟩
      · exact ⟨st, st2, .inr ⟨h1, h2⟩⟩
    have HM8 : Hid (Mod w w8 (fun k => hcol (col k))) := HM7.out.trans hM8 (fun k _ e => by rw [e, Hc.out.1]; exact .inl (by omega))
    clear ho8 hM8
    go_wp2_with fail
    go_ret
    exact ⟨rfl, HO8.out, HM8.out⟩
end Go.Proofs.YtcnjipicifkfjaaGreat

/- pile: top, rest, Open, leave. -/
namespace Go.Proofs.YtcnjipicifkfjaaGreat
open Go.RowKit
set_option linter.unusedVariables false
set_option linter.unusedSimpArgs false

theorem size59 : (Tryz.prog.info? 59).map (·.size) = some 2 := by kernel_rfl
theorem pname_any (f r : Nat) (w : World) (h : (f = 29 ∧ r = 0) ∨ (f = 28 ∧ r = 1)) : Calls Tryz.prog f #[] w fun e w' => e = .returned (.agg #[.int .i64 1, .int .i64 r]) ∧ Below w.heap.size w w' := by
  obtain ⟨q, Hq⟩ : ∃ n, Hid (w.heap.size = n) := ⟨_, rfl⟩
  have HB : ∀ Z, Hid (Below w.heap.size w (w.alloc (.cells Z 59))) := fun Z => (Below.refl w.heap.size w).alloc (Nat.le_refl _) _
  have HC : ∀ Z, Hid (Blk (w.alloc (.cells Z 59)) q 59 Z) := fun Z => by rw [← Hq.out]; exact Blk.new w 59 Z
  rcases h with ⟨rfl, rfl⟩ | ⟨rfl, rfl⟩
  · go_enter Tryz.func29, Tryz.ntmps29
    go_wp2_with fail
    rw [Hq.out]
    refine bodyPost_ret (results_cell_row rfl _ _ q 59 _ _ _ rfl (HC #[.int .i64 1, .int .i64 0]).out Tryz.underlying59 rfl size59) rfl ?_
    exact ⟨rfl, Hq.out ▸ (HB _).out⟩
  · go_enter Tryz.func28, Tryz.ntmps28
    go_wp2_with fail
    rw [Hq.out]
    refine bodyPost_ret (results_cell_row rfl _ _ q 59 _ _ _ rfl (HC #[.int .i64 1, .int .i64 1]).out Tryz.underlying59 rfl size59) rfl ?_
    exact ⟨rfl, Hq.out ▸ (HB _).out⟩
theorem popen_any (hp nm : Nat) (w : World) (hnm : nm < 8) : Calls Tryz.prog 7 #[.pointer (some ⟨hp, 0, none⟩), .int .i64 nm] w fun e w' => ∃ pp, e = .returned (.tuple #[.pointer (some ⟨pp, 0, none⟩), .int .i64 0]) ∧ w.heap.size ≤ pp ∧ Blk w' pp 68 #[.pointer (some ⟨hp, 0, none⟩), .int .i64 nm] ∧ Below w.heap.size w w' := by
  go_enter Tryz.func7, Tryz.ntmps7
  go_wp2_with omega
  go_ret2
  exact ⟨w.heap.size, rfl, Nat.le_refl _, Blk.new w 68 _, (Below.refl w.heap.size w).alloc (Nat.le_refl _) _⟩
theorem hdropD_any (B : Nat) (b : DB) (m : Nat) (s : DS) (hp mu r : Nat) (w : World) (h : HeapD w B b m s hp) :
    Calls Tryz.prog 72 #[.pointer (some ⟨hp, 0, none⟩), .agg #[.int .i64 mu, .int .i64 r]] w fun e w' => (∃ v, e = .returned v) ∧ HeapD w' B b m s hp ∧ Below w.heap.size w w' := by
  have hb : ∀ Z, Hid (Below w.heap.size w (w.alloc (.cells Z 59))) := fun Z => (Below.refl w.heap.size w).alloc (Nat.le_refl _) _
  have HD : Hid (∀ wr, Below w.heap.size w wr → HeapD wr B b m s hp) := fun wr hb => h.below hb
  have c38 : (w.alloc (.cells #[.int .i64 mu, .int .i64 r] 59)).cell? ⟨hp, 38, none⟩ = some (.bool true) := by
    obtain ⟨al, rt, rg, hl, ca, sh, hr, hbk, _⟩ := h
    exact ((hbk.below (hb _).out hbk.lt).cell 38).trans (heapC_tail hr 3)
  clear h
  go_enter Tryz.func72, Tryz.ntmps72
  go_wp2_with fail
  go_ret
  exact ⟨⟨_, rfl⟩, HD.out _ (hb _).out, (hb _).out⟩
theorem HOutX.below {w w' : World} {B m : Nat} {b : DB} {E : DS × Bool} {col : Nat → Nat} {hp al mp us fr rt hl ca sh : Nat} {S : HS} (h : HOutX w B b m E col hp al mp us fr rt hl ca sh S) (hb : Below w.heap.size w w') : HOutX w' B b m E col hp al mp us fr rt hl ca sh S := by
  rcases h with ⟨h1, h2⟩ | ⟨h1, h2⟩
  · exact .inl ⟨h1, h2.below hb⟩
  · exact .inr ⟨h1, h2.below hb⟩
theorem hdropO_any (B : Nat) (b : DB) (m : Nat) (E : DS × Bool) (col : Nat → Nat) (hp al mp us fr rt hl ca sh mu r : Nat) (S : HS) (w : World) (h : HOutX w B b m E col hp al mp us fr rt hl ca sh S) (hn : ∀ k, w.heap.size ≤ k → col k = 9) (hmu : mu < 4) (hr : r < 8) :
    Calls Tryz.prog 72 #[.pointer (some ⟨hp, 0, none⟩), .agg #[.int .i64 mu, .int .i64 r]] w fun e w' => (∃ v, e = .returned v) ∧ HOutX w' B b m E col hp al mp us fr rt hl ca sh { S with rg := S.rg.set (mu * 8 + r) 0 } ∧ Mod w w' (fun k => k = hp) := by
  rcases h with ⟨h1, h2⟩ | ⟨h1, h2⟩
  · refine (hdrop_any B b m E.1 col hp al mp us fr rt hl ca sh mu r S w h2 hn hmu hr).mono ?_
    rintro e w' ⟨rfl, hX, hM⟩
    exact ⟨⟨_, rfl⟩, .inl ⟨h1, hX⟩, hM⟩
  · refine (hdropD_any B b m E.1 hp mu r w h2).mono ?_
    rintro e w' ⟨hv, hX, hb⟩
    exact ⟨hv, .inr ⟨h1, hX⟩, mod_b hb⟩
set_option maxHeartbeats 1000000 in
theorem pleave_any (u : FrameMode) (B : Nat) (b : DB) (m : Nat) (E : DS × Bool) (col : Nat → Nat) (hp al mp us fr rt hl ca sh pp nm : Nat) (S : HS) (w : World) (h : HOutX w B b m E col hp al mp us fr rt hl ca sh S) (hn : ∀ k, w.heap.size ≤ k → col k = 9)
    (hpb : Blk w pp 68 #[.pointer (some ⟨hp, 0, none⟩), .int .i64 nm]) (hne : pp ≠ hp) :
    CallsD Tryz.prog 26 #[.pointer (some ⟨pp, 0, none⟩)] u w fun e u' w' => u' = u ∧ (∃ v, e = .returned v) ∧ HOutX w' B b m E col hp al mp us fr rt hl ca sh { S with rg := (S.rg.set 8 0).set 9 0 } ∧ Mod w w' (fun k => k = hp) := by
  have Hne : Hid (pp ≠ hp) := hne
  have x0 : w.cell? ⟨pp, 0, none⟩ = some (.pointer (some ⟨hp, 0, none⟩)) := hpb.cell 0
  have HO := Lib.hid h
  have HP := Lib.hid hpb
  have HT : ∀ w0 : World, Hid (Calls Tryz.prog 29 #[] w0.drew fun e w' => e = .returned (.agg #[.int .i64 1, .int .i64 0]) ∧ Below w0.heap.size w0 w') := fun w0 => (pname_any 29 0 w0.drew (.inl ⟨rfl, rfl⟩)).mono (by rintro e w' ⟨rfl, hb⟩; exact ⟨rfl, (below_drewN (Below.refl w0.heap.size w0) 1).trans hb⟩)
  have HR : ∀ w0 : World, Hid (Calls Tryz.prog 28 #[] w0.drew fun e w' => e = .returned (.agg #[.int .i64 1, .int .i64 1]) ∧ Below w0.heap.size w0 w') := fun w0 => (pname_any 28 1 w0.drew (.inr ⟨rfl, rfl⟩)).mono (by rintro e w' ⟨rfl, hb⟩; exact ⟨rfl, (below_drewN (Below.refl w0.heap.size w0) 1).trans hb⟩)
  have HD0 : Hid (∀ (S2 : HS) (wr : World), HOutX wr B b m E col hp al mp us fr rt hl ca sh S2 → w.heap.size ≤ wr.heap.size → Calls Tryz.prog 72 #[.pointer (some ⟨hp, 0, none⟩), .agg #[.int .i64 1, .int .i64 0]] wr fun e w' => (∃ v, e = .returned v) ∧ HOutX w' B b m E col hp al mp us fr rt hl ca sh { S2 with rg := S2.rg.set 8 0 } ∧ Mod wr w' (fun k => k = hp)) := fun S2 wr h2 hz => hdropO_any B b m E col hp al mp us fr rt hl ca sh 1 0 S2 wr h2 (fun k hk => hn k (by omega)) (by omega) (by omega)
  have HD1 : Hid (∀ (S2 : HS) (wr : World), HOutX wr B b m E col hp al mp us fr rt hl ca sh S2 → w.heap.size ≤ wr.heap.size → Calls Tryz.prog 72 #[.pointer (some ⟨hp, 0, none⟩), .agg #[.int .i64 1, .int .i64 1]] wr fun e w' => (∃ v, e = .returned v) ∧ HOutX w' B b m E col hp al mp us fr rt hl ca sh { S2 with rg := S2.rg.set 9 0 } ∧ Mod wr w' (fun k => k = hp)) := fun S2 wr h2 hz => hdropO_any B b m E col hp al mp us fr rt hl ca sh 1 1 S2 wr h2 (fun k hk => hn k (by omega)) (by omega) (by omega)
  clear h hn hpb hne
  go_enter_d Tryz.func26, Tryz.ntmps26
  go_wp2_with fail
  go_region_held3 (fun W => W.cell? ⟨pp, 0, none⟩ = some (.pointer (some ⟨hp, 0, none⟩)))
    (first | exact x0 | exact HP2.out.cell 0 | exact HP3.out.cell 0)
    (first
      | (go_at_call 29; refine (HT _).out.mono ?_; rintro e w2 ⟨rfl, hb2⟩; have HP2 : Hid (Blk w2 pp 68 #[.pointer (some ⟨hp, 0, none⟩), .int .i64 nm]) := HP.out.below (w := w) hb2 HP.out.lt; have HO2 : Hid (HOutX w2 B b m E col hp al mp us fr rt hl ca sh S) := HO.out.below hb2; have HB2 : Hid (Below w.heap.size w w2) := hb2; clear hb2)
      | (go_at_call 72; refine (HD0.out S _ HO2.out HB2.out.size).mono ?_; rintro e w3 ⟨⟨v3, rfl⟩, hO3, hM3⟩; have HO3 := Lib.hid hO3; have HP3 := Lib.hid (hM3.blk HP2.out Hne.out); have HM3 : Hid (Mod w w3 (fun k => k = hp)) := Mod.trans (mod_b HB2.out) hM3 (fun k _ h => h); clear hO3 hM3))
  have x0 : w3.cell? ⟨pp, 0, none⟩ = some (.pointer (some ⟨hp, 0, none⟩)) := HP3.out.cell 0
  have hz3 : w.heap.size ≤ w3.heap.size := HM3.out.size
  go_wp2_with fail
  go_region_held3 (fun W => W.cell? ⟨pp, 0, none⟩ = some (.pointer (some ⟨hp, 0, none⟩)))
    (first | exact x0 | exact HP4.out.cell 0 | exact HP5.out.cell 0)
    (first
      | (go_at_call 28; refine (HR _).out.mono ?_; rintro e w4 ⟨rfl, hb4⟩; have HP4 : Hid (Blk w4 pp 68 #[.pointer (some ⟨hp, 0, none⟩), .int .i64 nm]) := HP3.out.below (w := w3) hb4 HP3.out.lt; have HO4 : Hid (HOutX w4 B b m E col hp al mp us fr rt hl ca sh { S with rg := S.rg.set 8 0 }) := HO3.out.below hb4; have HB4 : Hid (Below w3.heap.size w3 w4) := hb4; clear hb4)
      | (go_at_call 72; refine (HD1.out _ _ HO4.out (Nat.le_trans hz3 HB4.out.size)).mono ?_; rintro e w5 ⟨⟨v5, rfl⟩, hO5, hM5⟩; have HO5 := Lib.hid hO5; have HP5 := Lib.hid (hM5.blk HP4.out Hne.out); have HM5 : Hid (Mod w w5 (fun k => k = hp)) := Mod.trans HM3.out (Mod.trans (mod_b HB4.out : Mod w3 w4 (fun k => k = hp)) hM5 (fun k _ h => h)) (fun k _ h => h); clear hO5 hM5))
  go_wp2_with fail
  go_end0
  exact ⟨⟨_, rfl⟩, HO5.out, HM5.out⟩
end Go.Proofs.YtcnjipicifkfjaaGreat

/- heap: Live, Working. -/
namespace Go.Proofs.YtcnjipicifkfjaaGreat
open Go.RowKit
set_option linter.unusedVariables false
set_option linter.unusedSimpArgs false

theorem alls_mem (fs : List Nat) (k x : Nat) (h : x ∈ alls fs k) : x ∈ fs := by
  induction k with
  | zero => simp [alls] at h
  | succ k ih =>
    rw [alls] at h
    split at h
    · exact ih h
    · rename_i hne
      rcases List.mem_append.1 h with h | h
      · exact ih h
      · rw [List.mem_singleton] at h
        rw [h, List.getD_eq_getElem?_getD] at *
        rcases Nat.lt_or_ge k fs.length with hk | hk
        · rw [List.getElem?_eq_getElem hk, Option.getD_some]; exact List.getElem_mem hk
        · rw [List.getElem?_eq_none hk] at hne; exact absurd rfl hne
theorem getD_mem (l : List Nat) (j : Nat) : l.getD j 0 ∈ l ∨ l.getD j 0 = 0 := by
  rw [List.getD_eq_getElem?_getD]
  rcases Nat.lt_or_ge j l.length with hk | hk
  · rw [List.getElem?_eq_getElem hk, Option.getD_some]; exact .inl (List.getElem_mem hk)
  · rw [List.getElem?_eq_none hk]; exact .inr rfl
/-- All that one comes to from what one works with. -/
def liveM (s : DS) (p : Nat) (S : HS) : Nat → Bool := resetM S.A.used (nx s p) (512 * S.A.K + 1) (alls S.rg 32 ++ S.ws) (alls S.rg 32 ++ S.ws).length
set_option maxRecDepth 100000 in
set_option maxHeartbeats 2000000 in
theorem hlive_any (B : Nat) (b : DB) (m : Nat) (s : DS) (col : Nat → Nat) (hp al mp us fr rt hl ca sh p : Nat) (S : HS) (w : World) (h : HeapX w B b m s col hp al mp us fr rt hl ca sh S) (hn : ∀ k, w.heap.size ≤ k → col k = 9)
    (hws : S.ws.length = 8) (hu0 : S.A.used 0 = false) (hob : OB s m S.A.used p) (hle : ∀ x, x ∈ S.rg ∨ x ∈ S.ws → x ≤ 1099511627776) :
    Calls Tryz.prog 21 #[.pointer (some ⟨hp, 0, none⟩)] w fun e w' => ∃ A cap, e = .returned (.slice A (setL (liveM s p S) (8 * S.A.K)).length cap) ∧ Own w' w.heap.size 3 1 A (setL (liveM s p S) (8 * S.A.K)).length cap (ncells (setL (liveM s p S) (8 * S.A.K))) ∧ Below w.heap.size w w' := by
  have c2 := h.c2
  obtain ⟨r0, r1, r2, r3, r4, r5, r6, r7, hws2⟩ := eight S.ws hws
  have Hwo : Hid (Calls Tryz.prog 64 #[.pointer (some ⟨rt, 0, none⟩)] w fun e w' => e = .returned (.agg #[.int .i64 r0, .int .i64 r1, .int .i64 r2, .int .i64 r3, .int .i64 r4, .int .i64 r5, .int .i64 r6, .int .i64 r7]) ∧ Below w.heap.size w w') := by
    have := rworking_any _ rt b.d _ _ _ _ w h.r
    rw [hws2] at this
    exact this
  have HwL : Hid (S.ws = [r0, r1, r2, r3, r4, r5, r6, r7]) := hws2
  have HXb : Hid (∀ wr, Below w.heap.size w wr → HeapX wr B b m s col hp al mp us fr rt hl ca sh S) := fun wr hb => h.below hb
  have Hhn : Hid (∀ wr, Below w.heap.size w wr → _) := fun wr hb => hnew_any B b m s col al S.A wr (h.below hb).dev (h.below hb).a.r h.hm (by have := h.k3; omega) (by have := h.k4; omega)
  have Hra : Hid (∀ wr, Below w.heap.size w wr → _) := fun wr hb => rall_any hp 87 _ S.rg wr h.rg (h.below hb).blk (by rw [heapC_size h.rg]; omega) (heapC_ext h.rg)
  obtain ⟨i0, hi0, hz0, hz1, hz2⟩ := info3s
  obtain ⟨lv, Hlv⟩ : ∃ lv, Hid (setL (liveM s p S) (8 * S.A.K) = lv) := ⟨_, rfl⟩
  rw [Hlv.out]
  obtain ⟨ql, Hql⟩ : ∃ q, Hid ((alls S.rg 32).length = q) := ⟨_, rfl⟩
  have hql : ql ≤ 32 := by rw [← Hql.out]; exact alls_le _ _
  have Hre : Hid (∀ (F : Nat → Prop) hl2 A cap st wr, Below w.heap.size w wr → HeldR wr F hl2 al S.A.K st → (∀ k, F k → w.heap.size ≤ k ∧ k < wr.heap.size) → Rd wr 1 A (ql + 8) (ncells (alls S.rg 32 ++ S.ws)) → (∀ a, A = some a → ¬ F a.block) → Calls Tryz.prog 46 #[.pointer (some ⟨hl2, 0, none⟩), .slice A (ql + 8) cap] wr fun e w' => (∃ v, e = .returned v) ∧ HeldR w' F hl2 al S.A.K (liveM s p S) ∧ Mod wr w' F) := by
    intro F hl2 A cap st wr hb hh hF hr hA
    have hX := h.below hb
    have := hreset_any B b m s F col hl2 al p (ql + 8) cap A (alls S.rg 32 ++ S.ws) S.A st wr hX.dev hX.a.r hh hX.hdv (fun k hk => by have := hn k (hF k hk).1; omega) (fun k hk => (hF k hk).2) hob hu0 hX.hm (by have := hX.k3; omega) (by have := hX.k4; omega) hr (by omega) hA (fun j => by
      rcases getD_mem (alls S.rg 32 ++ S.ws) j with h1 | h1
      · rcases List.mem_append.1 h1 with h1 | h1
        · exact hle _ (.inl (alls_mem _ _ _ h1))
        · exact hle _ (.inr h1)
      · omega)
    have he : liveM s p S = resetM S.A.used (nx s p) (512 * S.A.K + 1) (alls S.rg 32 ++ S.ws) (ql + 8) := by
      unfold liveM
      rw [List.length_append, Hql.out, hws]
    rw [he]
    exact this
  have Hli : Hid (∀ F hl2 wr, HeldR wr F hl2 al S.A.K (liveM s p S) → _) := fun F hl2 wr hh => hlist_any F hl2 al S.A.K (liveM s p S) wr hh (by have := h.k3; omega) (by have := h.k4; omega)
  rw [Hlv.out] at Hli
  have Hnc : Hid (ncells (alls S.rg 32) ++ ncells S.ws = ncells (alls S.rg 32 ++ S.ws)) := (List.map_append ..).symm
  clear h hws2
  go_enter Tryz.func21, Tryz.ntmps21
  go_wp2_with fail
  refine Hwo.out.mono ?_
  rintro e w1 ⟨rfl, hb1⟩
  obtain ⟨n3, Hn3⟩ : ∃ n, Hid (w1.heap.size = n) := ⟨_, rfl⟩
  have L1 := Lib.hid (((Loc.nil Nob w).call hb1 (Nat.le_refl _)).box 80 #[.int .i64 r0, .int .i64 r1, .int .i64 r2, .int .i64 r3, .int .i64 r4, .int .i64 r5, .int .i64 r6, .int .i64 r7] n3 Hn3.out)
  have c1 := (HXb.out _ L1.out.below).c1
  clear hb1 c2 Hwo
  go_wp2_with fail
  rw [Hn3.out]
  generalize w1.alloc _ = w2 at *
  refine (Hhn.out _ L1.out.below).mono ?_
  rintro e w3 ⟨hl2, rfl, hhl, hh, hb3⟩
  have L3 := Lib.hid (L1.out.call hb3 (Nat.le_refl _))
  have HH3 := Lib.hid hh
  have Hhl : Hid (w2.heap.size ≤ hl2) := hhl
  clear c1 hhl hh hb3 Hhn
  go_wp2_with fail
  have L4 := Lib.hid L3.out.drew
  have hsz2 : w.heap.size ≤ w2.heap.size := L1.out.below.size
  have hsz3 : w.heap.size ≤ w3.heap.size := L3.out.below.size
  have Hap : Hid (∀ A4 cap4 w4 w5, Below w.heap.size w w4 → Own w4 w3.heap.size 3 1 A4 ql cap4 (ncells (alls S.rg 32)) → HeldR w4 (fun k => (w2.heap.size ≤ k ∧ k ≠ hl2) ∧ k < w3.heap.size) hl2 al S.A.K (fun _ => false) → w3.heap.size ≤ w4.heap.size → Mod w4 w5 (fun k => ∃ a, A4 = some a ∧ a.block = k) → Below w.heap.size w w5 ∧ HeldR w5 (fun k => (w2.heap.size ≤ k ∧ k ≠ hl2) ∧ k < w3.heap.size) hl2 al S.A.K (fun _ => false) ∧ w3.heap.size ≤ w5.heap.size) := by
    intro A4 cap4 w4 w5 hb hO hH hz hM
    have hlt := HH3.out.lt
    exact ⟨Below.mod hb hM hb.size (fun k _ hk => by obtain ⟨a, ha, e⟩ := hk; have := (hO.lt a ha).1; omega), hH.mod hM (fun k hk e => by obtain ⟨a, ha, e⟩ := e; have := (hO.lt a ha).1; omega) (fun e => by obtain ⟨a, ha, e⟩ := e; have h1 := (hO.lt a ha).1; omega), Nat.le_trans hz hM.size⟩
  go_region_held3 (fun W => True)
    (trivial)
    (first
      | (refine step_append_rd (by rfl) (.tmp 19) (.tmp 20) 60 (by rfl) w3.heap.size 3 i0 _ 1 8 Tryz.underlying60 hi0 hz0 hz1 hz2 rfl (by omega) A4 ql cap4 (ncells (alls S.rg 32)) (by rfl) HO4.out (some ⟨n3, 0, none⟩) 8 8 (ncells S.ws) (by rfl) (HR4.out) ncells_one (ql + 8) rfl (ncells (alls S.rg 32 ++ S.ws)) Hnc.out (by unfold maxLen; omega) (by omega) HS4.out ?_; intro A5 cap5 w5 hO5 hM5 hat5; have HO5 := Lib.hid hO5; obtain ⟨hq1, hq2, hq3⟩ := Hap.out A4 cap4 w4 w5 L4.out.below HO4.out HH4.out HS4.out hM5; have HB5 := Lib.hid hq1; have HH5 := Lib.hid hq2; have HS5 := Lib.hid hq3; clear hO5 hM5 hat5 hq1 hq2 hq3)
      | (go_at_call 65; refine (Hra.out _ L4.out.below).mono ?_; rintro e w4 ⟨v, rfl, hG⟩; obtain ⟨A4, n4, cap4, rfl, hnl, hO4, hb4, _⟩ := hG; rw [Hql.out] at hnl; replace hnl := hnl.symm; subst hnl; replace L4 := Lib.hid (L4.out.call hb4 (Nat.le_refl _)); have HO4 : Hid (Own w4 w3.heap.size 3 1 A4 ql cap4 (ncells (alls S.rg 32))) := hO4; have HS4 : Hid (w3.heap.size ≤ w4.heap.size) := hb4.size; have HR4 : Hid (Rd w4 1 (some ⟨n3, 0, none⟩) 8 (ncells S.ws)) := ⟨by rw [HwL.out]; rfl, fun _ => ⟨n3, 0, rfl, L4.out.b0.lt, fun i u hu => by rw [Nat.zero_add, L4.out.b0.cell i, ← hu, HwL.out]; simp [ncells]⟩⟩; have HH4 : Hid (HeldR w4 (fun k => (w2.heap.size ≤ k ∧ k ≠ hl2) ∧ k < w3.heap.size) hl2 al S.A.K (fun _ => false)) := ((HH3.out.weak (F' := fun k => (w2.heap.size ≤ k ∧ k ≠ hl2) ∧ k < w3.heap.size) (fun k hk h => ⟨h, hk⟩) (fun h => h.1.2 rfl)).below (below_drewN (Below.refl w3.heap.size w3) 1) (Nat.le_refl _)).below hb4 (Nat.le_refl _); clear hO4 hb4)
      | (go_at_call 46; refine (Hre.out _ _ A5 cap5 _ w5 HB5.out HH5.out (fun k hk => ⟨Nat.le_trans hsz2 hk.1.1, Nat.lt_of_lt_of_le hk.2 HS5.out⟩) (by have := HO5.out.rd; simpa [ncells] using this) (fun a ha h => by have := (HO5.out.lt a ha).1; omega)).mono ?_; rintro e w6 ⟨⟨v6, rfl⟩, hh6, hM6⟩; have HH6 := Lib.hid hh6; have HB6 : Hid (Below w.heap.size w w6) := Below.mod HB5.out hM6 HB5.out.size (fun k _ hk => Nat.le_trans hsz2 hk.1.1); clear hh6 hM6))
  go_wp2_with fail
  refine (Hli.out _ _ _ HH6.out).mono ?_
  rintro e w7 ⟨A7, cap7, rfl, hO7, hb7⟩
  have hsz6 : w.heap.size ≤ w6.heap.size := HB6.out.size
  go_wp2_with fail
  go_ret
  exact ⟨A7, cap7, rfl, hO7.base_ hsz6, HB6.out.trans (hb7.mono hsz6)⟩
set_option maxRecDepth 100000 in
set_option maxHeartbeats 2000000 in
theorem hworking_any (B : Nat) (b : DB) (m : Nat) (s : DS) (col : Nat → Nat) (hp al mp us fr rt hl ca sh : Nat) (S : HS) (w : World) (h : HeapX w B b m s col hp al mp us fr rt hl ca sh S) (hws : S.ws.length = 8) :
    Calls Tryz.prog 87 #[.pointer (some ⟨hp, 0, none⟩)] w fun e w' => e = .returned (.agg (ncells S.ws).toArray) ∧ Below w.heap.size w w' := by
  have c2 := h.c2
  obtain ⟨r0, r1, r2, r3, r4, r5, r6, r7, hws2⟩ := eight S.ws hws
  obtain ⟨q, Hq⟩ : ∃ n, Hid (w.heap.size = n) := ⟨_, rfl⟩
  have HB : ∀ Z, Hid (Below w.heap.size w (w.alloc (.cells Z 80))) := fun Z => (Below.refl w.heap.size w).alloc (Nat.le_refl _) _
  have L1 : ∀ Z, Hid (Loc Nob w (w.alloc (.cells Z 80)) [(q, 80, Z)]) := fun Z => (Loc.nil Nob w).box 80 Z q Hq.out
  obtain ⟨Z, HZ⟩ : ∃ Z, Hid ((#[.int .i64 0, .int .i64 0, .int .i64 0, .int .i64 0, .int .i64 0, .int .i64 0, .int .i64 0, .int .i64 0] : Array Value) = Z) := ⟨_, rfl⟩
  have d2 : (w.alloc (.cells Z 80)).cell? ⟨hp, 2, none⟩ = some (.pointer (some ⟨rt, 0, none⟩)) := (h.below (HB Z).out).c2
  have Hwo : Hid (∀ wr, Below w.heap.size w wr → Calls Tryz.prog 64 #[.pointer (some ⟨rt, 0, none⟩)] wr fun e w' => e = .returned (.agg #[.int .i64 r0, .int .i64 r1, .int .i64 r2, .int .i64 r3, .int .i64 r4, .int .i64 r5, .int .i64 r6, .int .i64 r7]) ∧ Below wr.heap.size wr w') := by
    intro wr hb
    have := rworking_any _ rt b.d _ _ _ _ wr (h.below hb).r
    rw [hws2] at this
    exact this
  rw [hws2]
  rw [← HZ.out] at d2
  clear h hws2
  go_enter Tryz.func87, Tryz.ntmps87
  go_wp2_with fail
  refine (Hwo.out _ (HB _).out).mono ?_
  rintro e w2 ⟨rfl, hb2⟩
  have L2 := Lib.hid ((L1 _).out.call hb2 (Nat.le_refl _))
  have x0 : w2.cell? ⟨q, 0, none⟩ = some (.int .i64 0) := L2.out.b0.cell 0
  have y0 : w2.frozen? ⟨q, 0, none⟩ = false := L2.out.b0.frozen 0
  have x1 : w2.cell? ⟨q, 1, none⟩ = some (.int .i64 0) := L2.out.b0.cell 1
  have y1 : w2.frozen? ⟨q, 1, none⟩ = false := L2.out.b0.frozen 1
  have x2 : w2.cell? ⟨q, 2, none⟩ = some (.int .i64 0) := L2.out.b0.cell 2
  have y2 : w2.frozen? ⟨q, 2, none⟩ = false := L2.out.b0.frozen 2
  have x3 : w2.cell? ⟨q, 3, none⟩ = some (.int .i64 0) := L2.out.b0.cell 3
  have y3 : w2.frozen? ⟨q, 3, none⟩ = false := L2.out.b0.frozen 3
  have x4 : w2.cell? ⟨q, 4, none⟩ = some (.int .i64 0) := L2.out.b0.cell 4
  have y4 : w2.frozen? ⟨q, 4, none⟩ = false := L2.out.b0.frozen 4
  have x5 : w2.cell? ⟨q, 5, none⟩ = some (.int .i64 0) := L2.out.b0.cell 5
  have y5 : w2.frozen? ⟨q, 5, none⟩ = false := L2.out.b0.frozen 5
  have x6 : w2.cell? ⟨q, 6, none⟩ = some (.int .i64 0) := L2.out.b0.cell 6
  have y6 : w2.frozen? ⟨q, 6, none⟩ = false := L2.out.b0.frozen 6
  have x7 : w2.cell? ⟨q, 7, none⟩ = some (.int .i64 0) := L2.out.b0.cell 7
  have y7 : w2.frozen? ⟨q, 7, none⟩ = false := L2.out.b0.frozen 7
  clear hb2 d2 c2
  rw [Hq.out]
  go_wp2_with fail
  have L3 := ((((((((L2.out.set 0 (.int .i64 (r0 : Nat))).set 1 (.int .i64 (r1 : Nat))).set 2 (.int .i64 (r2 : Nat))).set 3 (.int .i64 (r3 : Nat))).set 4 (.int .i64 (r4 : Nat))).set 5 (.int .i64 (r5 : Nat))).set 6 (.int .i64 (r6 : Nat))).set 7 (.int .i64 (r7 : Nat)))
  refine bodyPost_ret (results_cell_row rfl _ _ q 80 _ _ _ rfl (L3.b0.conv (cs' := #[.int .i64 (r0 : Nat), .int .i64 (r1 : Nat), .int .i64 (r2 : Nat), .int .i64 (r3 : Nat), .int .i64 (r4 : Nat), .int .i64 (r5 : Nat), .int .i64 (r6 : Nat), .int .i64 (r7 : Nat)]) rfl) Tryz.underlying80 rfl size80) rfl ?_
  exact ⟨rfl, L3.below⟩
end Go.Proofs.YtcnjipicifkfjaaGreat
