/- Count; Back. -/
import Derived.Test.YtedbabkmbpkjlaaD1
namespace Go.Proofs.Ytedbabkmbpkjlaa
open Go.RowKit
set_option linter.unusedVariables false
set_option linter.unusedSimpArgs false
theorem cnts_le (was now : Nat → List Int) (n : Nat) (h : ∀ j, j < n → (was j).length ≤ 100000) : cnts was now n ≤ n * 100000 := by
  induction n with
  | zero => exact Nat.le_refl _
  | succ n ih =>
    simp only [cnts]
    have h1 := ih (fun j hj => h j (by omega))
    have h2 := cnt_le (was n) (now n) 0 (min (was n).length (now n).length)
    have h3 := h n (by omega)
    omega

set_option maxHeartbeats 1000000 in
theorem count_any (A : Option Addr) (n cap : Nat) (pos : Nat → Int) (hd : Nat → Hd) (was now : Nat → List Int) (w : World) (hn : n ≤ 100000) (hl : ∀ j, j < n → (was j).length ≤ 100000 ∧ (now j).length = (was j).length)
    (hr : ChRow w A n pos hd) (hv : ChVals w n hd was now) :
    Calls Try.prog 17 #[.slice A n cap] w fun e w' => e = .returned (.int .i64 (cnts was now n : Nat)) ∧ Below w.heap.size w w' := by
  have Hr := Lib.hid hr
  have Hv := Lib.hid hv
  have Hl := Lib.hid hl
  clear hr hv hl
  go_enter Try.func17, Try.ntmps17
  go_wp2_with fail
  go_loopw [3, 9] (fun v3 v9 wr => ∃ i : Nat, v9 = .int .i64 i ∧ i ≤ n ∧ v3 = .int .i64 (cnts was now i : Nat) ∧ Below w.heap.size w wr) (fun _ v9 _ => n - (intOf v9).toNat)
  case atStart => exact ⟨0, rfl, Nat.zero_le _, rfl, Below.refl _ _⟩
  case round =>
    obtain ⟨i, rfl, hi, rfl, hb⟩ := hrel
    have Hb := Lib.hid hb
    have hBs := hb.size
    clear hb
    by_cases hlt : i < n
    · obtain ⟨g, off, rfl, hg, hc⟩ := Hr.out (by omega)
      obtain ⟨e0, e1, e2⟩ := hc i hlt
      have c0 := (Hb.out.cell (p := ⟨g, off + i * 3, none⟩) hg).trans e0
      have c1 := (Hb.out.cell (p := ⟨g, off + i * 3 + 1, none⟩) hg).trans e1
      have c2 := (Hb.out.cell (p := ⟨g, off + i * 3 + 2, none⟩) hg).trans e2
      obtain ⟨hv1, hv2⟩ := Hv.out i hlt
      have HV1 := Lib.hid (hv1.below Hb.out (Nat.le_refl _))
      have HV2 := Lib.hid (hv2.below Hb.out (Nat.le_refl _))
      obtain ⟨hl1, hl2⟩ := Hl.out i hlt
      have hcl := cnts_le was now i (fun j hj => (Hl.out j (by omega)).1)
      have HS : Hid (cnts was now (i + 1) = cnts was now i + cnt (was i) (now i) 0 (min (was i).length (now i).length)) := rfl
      clear hc e0 e1 e2 hv1 hv2
      generalize pos i = p at *
      generalize was i = ws at *
      generalize now i = ns at *
      generalize hd i = hh at *
      obtain ⟨C, HC⟩ : ∃ C, Hid (cnts was now i = C) := ⟨_, rfl⟩
      rw [HC.out] at hcl HS ⊢
      obtain ⟨B1, n1, k1, B2, n2, k2⟩ := hh
      simp only at c1 c2 HV1 HV2
      have Hl1 := Lib.hid HV1.out.ulen
      have Hl2 := Lib.hid HV2.out.ulen
      obtain rfl : n1 = n2 := by rw [← Hl1.out, ← Hl2.out]; exact hl2.symm
      have hn1 : n1 ≤ 100000 := by rw [← Hl1.out]; exact hl1
      rw [Hl1.out, Hl2.out, Nat.min_self] at HS
      clear hl1 hl2
      go_wp2_with fail
      obtain ⟨N, HNN⟩ : ∃ N, Hid (wr.heap.size = N) := ⟨_, rfl⟩
      have HX := Lib.hid (Blk.new wr 27 #[.int .i64 p, .slice B1 n1 k1, .slice B2 n1 k2])
      have Hb6 := Lib.hid (Hb.out.alloc hBs (.cells #[.int .i64 p, .slice B1 n1 k1, .slice B2 n1 k2] 27))
      have HV3 := Lib.hid (HV1.out.alloc (.cells #[.int .i64 p, .slice B1 n1 k1, .slice B2 n1 k2] 27))
      have HV4 := Lib.hid (HV2.out.alloc (.cells #[.int .i64 p, .slice B1 n1 k1, .slice B2 n1 k2] 27))
      rw [HNN.out] at HX
      rw [HNN.out]
      clear c0 c1 c2 Hb HV1 HV2 hBs
      generalize wr.alloc _ = w6 at *
      go_loopw [3, 20] (fun v3 v20 wx => ∃ k q : Nat, v20 = .int .i64 k ∧ k ≤ n1 ∧ v3 = .int .i64 ((C + cnt ws ns 0 k : Nat) : Int) ∧ wx = w6.drewN q) (fun _ v20 _ => n1 - (intOf v20).toNat)
      case atStart => exact ⟨0, 0, rfl, Nat.zero_le _, rfl, rfl⟩
      case round =>
        obtain ⟨k, q, rfl, hk, rfl, hwx⟩ := hrel
        have Hwx := Lib.hid hwx
        clear hwx
        have x1 : wr.cell? ⟨N, 1, none⟩ = some (.slice B1 n1 k1) := by rw [Hwx.out]; exact HX.out.cell 1
        have x2 : wr.cell? ⟨N, 2, none⟩ = some (.slice B2 n1 k2) := by rw [Hwx.out]; exact HX.out.cell 2
        have hck := cnt_le ws ns 0 k
        by_cases hlt2 : k < n1
        · obtain ⟨gw, ow, rfl, hgw, hcw⟩ := HV3.out.word (by omega)
          obtain ⟨gv, ov, rfl, hgv, hcv⟩ := HV4.out.word (by omega)
          have y1 : wr.cell? ⟨gw, ow + k, none⟩ = some (.int .u64 (ws.getD k 0)) := by rw [Hwx.out]; exact hcw k hlt2
          have y2 : wr.cell? ⟨gv, ov + k, none⟩ = some (.int .u64 (ns.getD k 0)) := by rw [Hwx.out]; exact hcv k hlt2
          have HT : Hid (cnt ws ns 0 (k + 1) = cnt ws ns 0 k + if ws.getD k 0 = ns.getD k 0 then 0 else 1) := by show _ = _; simp only [cnt]; rw [Nat.zero_add]
          clear hcw hcv
          generalize cnt ws ns 0 k = ck at *
          by_cases hy : ws.getD k 0 = ns.getD k 0
          · have HT2 : Hid (cnt ws ns 0 (k + 1) = ck) := by show _ = _; rw [HT.out, if_pos hy]; rfl
            rw [← hy] at y2
            clear hy HT
            generalize ws.getD k 0 = y at *
            go_wp2_with fail
            go_quiet (fail)
            go_wp2_with fail
            exact ⟨⟨k + 1, q + nq, by go_num, by omega, by rw [HT2.out], by rw [Hwx.out]; exact World.drewN_drewN _ _ _⟩, by simp [intOf]; omega⟩
          · have HT2 : Hid (cnt ws ns 0 (k + 1) = ck + 1) := by show _ = _; rw [HT.out, if_neg hy]
            have hyb : (ws.getD k 0 == ns.getD k 0) = false := by rw [beq_eq_false_iff_ne]; exact hy
            clear hy HT
            generalize ws.getD k 0 = y at *
            generalize ns.getD k 0 = z at *
            go_wp2_with fail
            go_quiet (fail)
            go_wp2_with fail
            exact ⟨⟨k + 1, q + nq, by go_num, by omega, by rw [HT2.out]; go_num, by rw [Hwx.out]; exact World.drewN_drewN _ _ _⟩, by simp [intOf]; omega⟩
        · obtain rfl : k = n1 := by omega
          go_wp2_with fail
          exact ⟨⟨i + 1, by go_num, by omega, by rw [HS.out], by rw [Hwx.out]; exact below_drewN Hb6.out q⟩, by simp [intOf]; omega⟩
    · obtain rfl : i = n := by omega
      go_wp2_with fail
      go_ret
      exact ⟨rfl, Hb.out⟩
end Go.Proofs.Ytedbabkmbpkjlaa
