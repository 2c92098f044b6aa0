/- roots.write, roots.Format. -/
import Derived.Test.YtcnjipicifkfjaaGreatRm07
import Derived.Test.YtcnjipicifkfjaaGreatRm11

namespace Go.Proofs.YtcnjipicifkfjaaGreat
open Go.RowKit
set_option linter.unusedVariables false
set_option linter.unusedSimpArgs false

theorem exec_next_no {s u : DS} {pre post : List Step} {o : Step} (h : exec s pre = (u, true)) (h2 : (exec u [o]).2 = false) : exec s (pre ++ o :: post) = exec u [o] := by
  have : exec s (pre ++ [o]) = exec u [o] := by rw [exec_ok (by rw [h]), h]
  rw [show pre ++ o :: post = (pre ++ [o]) ++ post by simp, exec_fail (by rw [this]; exact h2), this]
theorem exec_next_yes {s u : DS} {pre : List Step} {o : Step} (h : exec s pre = (u, true)) : exec s (pre ++ [o]) = exec u [o] := by rw [exec_ok (by rw [h]), h]

/-- The stores of a slot: all words but the epochs, then these. -/
def bodyS (a : Nat) (L : List Nat) : Nat → List Step
  | 0 => []
  | k + 1 => if k % 8 = 0 then bodyS a L k else bodyS a L k ++ [.st (a + k) (L.getD k 0)]
def writeS (a : Nat) (L : List Nat) : List Step := bodyS a L 16 ++ ([.st a (L.getD 0 0)] ++ ([.st (a + 8) (L.getD 8 0)] ++ persistS a 16))
theorem bodyS_split (a : Nat) (L : List Nat) (k n : Nat) (h : k ≤ n) : ∃ c, bodyS a L n = bodyS a L k ++ c := by
  induction n with
  | zero => exact ⟨[], by rw [show k = 0 by omega]; simp⟩
  | succ n ih =>
    by_cases hk : k = n + 1
    · exact ⟨[], by rw [hk]; simp⟩
    · obtain ⟨c, hc⟩ := ih (by omega)
      simp only [bodyS]
      split
      · exact ⟨c, hc⟩
      · exact ⟨c ++ [.st (a + n) (L.getD n 0)], by rw [hc, List.append_assoc]⟩

def epochS (a : Nat) (L : List Nat) : Nat → List Step
  | 0 => []
  | j + 1 => epochS a L j ++ [.st (a + 8 * j) (L.getD (8 * j) 0)]
theorem epochS_split (a : Nat) (L : List Nat) (j : Nat) (h : j ≤ 2) : ∃ c, writeS a L = bodyS a L 16 ++ (epochS a L j ++ c) := by
  have e : writeS a L = bodyS a L 16 ++ (epochS a L 2 ++ persistS a 16) := by simp [writeS, epochS]
  rcases (by omega : j = 0 ∨ j = 1 ∨ j = 2) with rfl | rfl | rfl
  · exact ⟨_, by rw [e]; simp [epochS]; rfl⟩
  · exact ⟨[.st (a + 8) (L.getD 8 0)] ++ persistS a 16, by rw [e]; simp [epochS]⟩
  · exact ⟨_, e⟩
/-- Where write stands. -/
structure WE (B : Nat) (w0 w : World) (b : DB) (m : Nat) (u : DS) (n8 : Nat) (L : List Nat) : Prop where
  dev : Dev B w b m u
  md : Mod w0 w b.has
  o : Blk w n8 220 (wcells L).toArray
theorem WE.mod {B : Nat} {w0 w w' : World} {b : DB} {m : Nat} {u u' : DS} {n8 : Nat} {L : List Nat} (h : WE B w0 w b m u n8 L) (hn : ¬ b.has n8) (hd : Dev B w' b m u') (hm : Mod w w' b.has) : WE B w0 w' b m u' n8 L :=
  ⟨hd, h.md.trans hm (fun k _ hk => hk), hm.blk h.o hn⟩

set_option maxRecDepth 100000 in
set_option maxHeartbeats 2000000 in
theorem rwrite_any (B : Nat) (b : DB) (m : Nat) (s : DS) (i ep : Nat) (rs : List Nat) (w : World) (h : Dev B w b m s) (hi : i < 2) (hm : 64 ≤ m) (hm2 : m ≤ 100000) (hr : RootsOk rs) (he : 0 < ep) (he2 : ep < 18446744073709551616) :
    Calls Tryz.prog 119 #[.pointer (some ⟨b.d, 0, none⟩), .int .i64 i, .agg (scells ep rs)] w fun e w' => e = .returned (.int .i64 (ecode (exec s (writeS (64 + i * 64) (slotEnc ep rs))).2)) ∧ Dev B w' b m (exec s (writeS (64 + i * 64) (slotEnc ep rs))).1 ∧ Mod w w' b.has := by
  have H := Lib.hid h
  have Hs := Lib.hid (fun w => senc_any ep rs w hr he he2)
  have hszS : Hid ((Tryz.prog.info? 172).map (·.size) = some (scells ep rs).size) := by show _ = _; rw [scells_size ep rs hr.len]; exact size172
  have hl16 : Hid ((slotEnc ep rs).length = 16) := outS_len ep rs 2
  have Hlt : Hid (lt64 (slotEnc ep rs)) := outS_lt ep rs he2 hr.lt 2 (Nat.le_refl _)
  have hsz : (Tryz.prog.info? 220).map (·.size) = some (wcells (slotEnc ep rs)).toArray.size := by rw [size220]; simp [wcells_len, hl16.out]
  obtain ⟨a, Ha⟩ : ∃ a, Hid (64 + i * 64 = a) := ⟨_, rfl⟩
  have ha : a + 16 ≤ 512 := by rw [← Ha.out]; omega
  have Hat := Lib.hid (fun w => slotat_any i w hi)
  rw [Ha.out] at Hat ⊢
  obtain ⟨L, HL⟩ : ∃ L, Hid (slotEnc ep rs = L) := ⟨_, rfl⟩
  rw [HL.out] at Hs hl16 Hlt hsz ⊢
  have HZ : Hid (Blk (w.alloc (.cells (scells ep rs) 172)) w.heap.size 172 (scells ep rs)) := Blk.new w 172 _
  clear h hr
  go_enter Tryz.func119, Tryz.ntmps119
  go_wp2_with fail
  refine (Hat.out _).mono ?_
  rintro e w' ⟨rfl, rfl⟩
  go_wp2_with (refine wpList_load_row rfl 172 (.tmp 5) rfl w.heap.size rfl 172 _ (0, 0) _ HZ.out Tryz.underlying172 rfl hszS.out ?_)
  refine (Hs.out _).mono ?_
  rintro e w1 ⟨rfl, hb1⟩
  have HD1 := Lib.hid ((H.out.below (below_box w (.cells (scells ep rs) 172)) (Nat.le_refl _)).below hb1 (Nat.le_refl _))
  have HM1 : Hid (Mod w w1 b.has) := ((Mod.refl w b.has).alloc (.cells (scells ep rs) 172)).trans ((Mod.of_below hb1).mono (S' := b.has) (fun k hk hk2 => by omega)) (fun k _ hk => hk)
  clear hb1 HZ
  have hsz16 : (wcells L).toArray.size = 16 := by simp [wcells_len, hl16.out]
  go_wp2_with (refine wpList_store_row rfl (.tmp 8) (.tmp 17) rfl rfl rfl (Blk.new _ _ _) hsz (by rw [hsz16]; rfl) (by simpa using wcells_one) ?_)
  intro w2 hB2 hM2
  obtain ⟨n8, Hn8⟩ : ∃ n, Hid (w1.heap.size = n) := ⟨_, rfl⟩
  have HW2 : Hid (WE B w w2 b m s n8 L) := by
    rw [← Hn8.out]
    have hb2 : Below w1.heap.size w1 w2 := Below.mod (below_box w1 _) hM2 (by simp) (fun k _ h => by omega)
    exact ⟨HD1.out.below hb2 (Nat.le_refl _), HM1.out.trans ((Mod.of_below hb2).mono (S' := b.has) (fun k hk hk2 => by omega)) (fun k _ hk => hk), hB2⟩
  have hn8 : ¬ b.has n8 := fun hk => by have := (HD1.out.lt n8 hk).2; rw [Hn8.out] at this; omega
  rw [Hn8.out]
  clear hB2 hM2 HD1 HM1
  go_wp2_with (refine wpList_load_row rfl 220 (.tmp 8) rfl n8 rfl 220 _ (0, 0) _ HW2.out.o Tryz.underlying220 rfl hsz ?_)
  have Hx : Hid (∀ k : Nat, k < 16 → ∀ w, (Instr.index 220 (.agg (wcells L).toArray) (.int .i64 (k : Int))).run Tryz.prog w = .ok (.int .u64 (L.getD k 0 : Nat)) w) := fun k hk =>
    run_index_one 16 k _ Tryz.underlying220 Tryz.underlying28 rfl (by kernel_rfl) hk (by rw [List.getElem?_toArray]; exact wcells_at L k (by rw [hl16.out]; exact hk))
  go_wp2_with fail
  go_loopw [19] (fun v19 wr => ∃ (k : Nat) (u : DS), v19 = .int .i64 k ∧ k ≤ 16 ∧ exec s (bodyS a L k) = (u, true) ∧ WE B w wr b m u n8 L) (fun v19 _ => 16 - (intOf v19).toNat)
  case atStart => exact ⟨0, s, rfl, Nat.zero_le _, rfl, HW2.out⟩
  case round =>
    clear HW2
    obtain ⟨k, u, rfl, hk, hu, hW⟩ := hrel
    have Hu := Lib.hid hu
    have HW := Lib.hid hW
    clear hu hW
    by_cases hk16 : k < 16
    · have hx := Hx.out k hk16
      have hlt := Hlt.out k
      have HS : Hid (bodyS a L (k + 1) = if k % 8 = 0 then bodyS a L k else bodyS a L k ++ [.st (a + k) (L.getD k 0)]) := rfl
      obtain ⟨v, Hv⟩ : ∃ v, Hid (L.getD k 0 = v) := ⟨_, rfl⟩
      rw [Hv.out] at hx hlt HS
      have htm : (k : Int).tmod 8 = ((k % 8 : Nat) : Int) := by rw [Int.tmod_eq_emod_of_nonneg (by omega)]; omega
      have hem : (k : Int) % 8 = ((k % 8 : Nat) : Int) := by omega
      by_cases h8 : k % 8 = 0
      · have HS2 : Hid (bodyS a L (k + 1) = bodyS a L k) := by show _ = _; rw [HS.out, if_pos h8]
        rw [h8] at htm hem
        clear HS
        go_wp2_with fail
        exact ⟨⟨k + 1, u, by go_num, by omega, by rw [HS2.out]; exact Hu.out, HW.out⟩, by simp [intOf]; omega⟩
      · have HS2 : Hid (bodyS a L (k + 1) = bodyS a L k ++ [.st (a + k) v]) := by show _ = _; rw [HS.out, if_neg h8]
        have h8b : ((k % 8 : Nat) : Int) ≠ 0 := by omega
        obtain ⟨r, Hr⟩ : ∃ r, Hid (k % 8 = r) := ⟨_, rfl⟩
        rw [Hr.out] at htm hem h8b
        have h8c : ((r : Int) == 0) = false := by rw [beq_eq_false_iff_ne]; exact h8b
        have h8d : (r == 0) = false := by rw [beq_eq_false_iff_ne]; omega
        have hak : (a : Int) + (k : Int) = ((a + k : Nat) : Int) := by omega
        obtain ⟨q, Hq⟩ : ∃ q, Hid (a + k = q) := ⟨_, rfl⟩
        have hq : q < 8 * m := by rw [← Hq.out]; omega
        have hq2 : q ≤ 1000 := by rw [← Hq.out]; omega
        rw [Hq.out] at hak HS2
        clear HS
        go_wp2_with fail
        refine (store_any B b m u q v wr HW.out.dev hq hm2).mono ?_
        rintro e w3 ⟨rfl, hd3, hm3⟩
        have HW3 := Lib.hid (HW.out.mod hn8 hd3 hm3)
        clear hd3 hm3
        cases hb : (exec u [.st q v]).2 with
        | false =>
          have HF : Hid (exec s (writeS a L) = exec u [.st q v]) := by
            show _ = _
            obtain ⟨c, hc⟩ := bodyS_split a L (k + 1) 16 (by omega)
            unfold writeS
            rw [hc, HS2.out, List.append_assoc, List.append_assoc, List.singleton_append]
            exact exec_next_no Hu.out hb
          have Hb := Lib.hid hb
          clear hb
          have he3 : ecode false = 3 := rfl
          rw [he3]
          go_wp2_with fail
          go_ret
          rw [HF.out, Hb.out]
          exact ⟨rfl, HW3.out.dev, HW3.out.md⟩
        | true =>
          have HF : Hid (exec s (bodyS a L (k + 1)) = ((exec u [.st q v]).1, true)) := by
            show _ = _
            rw [HS2.out, exec_next_yes Hu.out, ← hb]
          clear hb
          have he0 : ecode true = 0 := rfl
          rw [he0]
          go_wp2_with fail
          exact ⟨⟨k + 1, (exec u [.st q v]).1, by go_num, by omega, HF.out, HW3.out⟩, by simp [intOf]; omega⟩
    · obtain rfl : k = 16 := by omega
      clear Hx hsz
      rw [show ((16 : Nat) : Int) = 16 from rfl]
      go_wp2_with fail
      go_loopw [12] (fun v12 wr => ∃ (k : Nat) (x : DS), v12 = .int .i64 k ∧ k ≤ 16 ∧ k % 8 = 0 ∧ exec s (bodyS a L 16 ++ epochS a L (k / 8)) = (x, true) ∧ WE B w wr b m x n8 L) (fun v12 _ => 24 - (intOf v12).toNat)
      case atStart => exact ⟨0, u, rfl, Nat.zero_le _, rfl, by simpa [epochS] using Hu.out, HW.out⟩
      case round =>
        clear HW Hu
        obtain ⟨k, x, rfl, hj, hk0, hx, hW⟩ := hrel
        obtain ⟨j, Hjk⟩ : ∃ j, Hid (k / 8 = j) := ⟨_, rfl⟩
        have Hk : Hid (8 * j = k) := by have := Hjk.out; show _ = _; omega
        rw [Hjk.out] at hx
        have Hu := Lib.hid hx
        have HW := Lib.hid hW
        clear hx hW
        by_cases hj2 : k < 16
        · have hj2' : j < 2 := by have := Hk.out; omega
          have hlt := Hlt.out (8 * j)
          have c0 := HW.out.o.word (8 * j) (by rw [hl16.out]; omega)
          have HS : Hid (epochS a L (j + 1) = epochS a L j ++ [.st (a + 8 * j) (L.getD (8 * j) 0)]) := rfl
          obtain ⟨v, Hv⟩ : ∃ v, Hid (L.getD (8 * j) 0 = v) := ⟨_, rfl⟩
          rw [Hv.out] at c0 hlt HS
          have hak : (a : Int) + (k : Int) = ((a + k : Nat) : Int) := by omega
          rw [Hk.out] at c0 HS
          obtain ⟨q, Hq⟩ : ∃ q, Hid (a + k = q) := ⟨_, rfl⟩
          have hq : q < 8 * m := by rw [← Hq.out]; omega
          have hq2 : q ≤ 1000 := by rw [← Hq.out]; omega
          rw [Hq.out] at hak HS
          go_wp2_with fail
          refine (store_any B b m x q v wr HW.out.dev hq hm2).mono ?_
          rintro e w3 ⟨rfl, hd3, hm3⟩
          have HW3 := Lib.hid (HW.out.mod hn8 hd3 hm3)
          clear hd3 hm3
          cases hb : (exec x [.st q v]).2 with
          | false =>
            have HF : Hid (exec s (writeS a L) = exec x [.st q v]) := by
              show _ = _
              obtain ⟨c, hc⟩ := epochS_split a L (j + 1) (by omega)
              rw [hc, HS.out, List.append_assoc, List.singleton_append, ← List.append_assoc]
              exact exec_next_no Hu.out hb
            have Hb := Lib.hid hb
            clear hb
            have he3 : ecode false = 3 := rfl
            rw [he3]
            go_wp2_with fail
            go_ret
            rw [HF.out, Hb.out]
            exact ⟨rfl, HW3.out.dev, HW3.out.md⟩
          | true =>
            have HF : Hid (exec s (bodyS a L 16 ++ epochS a L (j + 1)) = ((exec x [.st q v]).1, true)) := by
              show _ = _
              rw [HS.out, ← List.append_assoc, exec_next_yes Hu.out, ← hb]
            clear hb
            have he0 : ecode true = 0 := rfl
            rw [he0]
            have Hk1 : Hid ((k + 8) / 8 = j + 1) := by have := Hk.out; show _ = _; omega
            go_wp2_with fail
            exact ⟨⟨k + 8, (exec x [.st q v]).1, by go_num, by omega, by omega, by rw [Hk1.out]; exact HF.out, HW3.out⟩, by simp [intOf]; omega⟩
        · obtain rfl : k = 16 := by omega
          obtain rfl : j = 2 := by have := Hk.out; omega
          have HF : Hid (exec s (writeS a L) = exec x (persistS a 16)) := by
            show _ = _
            have : writeS a L = (bodyS a L 16 ++ epochS a L 2) ++ persistS a 16 := by simp [writeS, epochS]
            rw [this, exec_ok (by rw [Hu.out]), Hu.out]
          go_wp2_with fail
          refine (persist_any B b m x a 16 wr HW.out.dev (by omega) (by omega) hm2).mono ?_
          rintro e w3 ⟨rfl, hd3, hm3⟩
          have HW3 := Lib.hid (HW.out.mod hn8 hd3 hm3)
          clear hd3 hm3
          go_wp2_with fail
          go_ret
          rw [HF.out]
          exact ⟨rfl, HW3.out.dev, HW3.out.md⟩
end Go.Proofs.YtcnjipicifkfjaaGreat

/- roots.Format, super.Encode, super.Write, blocks.Format. -/
namespace Go.Proofs.YtcnjipicifkfjaaGreat
open Go.RowKit
set_option linter.unusedVariables false
set_option linter.unusedSimpArgs false

/-- A device that doesn't stop. -/
structure DS.Live (s : DS) : Prop where
  a : s.armed = false
  d : s.dead = false
theorem fenceOne_flags (s : DS) (i : Nat) : (fenceOne s i).armed = s.armed ∧ (fenceOne s i).dead = s.dead := by
  unfold fenceOne
  split
  · exact ⟨rfl, rfl⟩
  · exact ⟨rfl, rfl⟩
theorem fenceTo_flags (s : DS) (i : Nat) : (fenceTo s i).armed = s.armed ∧ (fenceTo s i).dead = s.dead := by
  induction i with
  | zero => exact ⟨rfl, rfl⟩
  | succ i ih =>
    have := fenceOne_flags (fenceTo s i) i
    exact ⟨this.1.trans ih.1, this.2.trans ih.2⟩
theorem Step.run_flags (s : DS) (o : Step) : (Step.run s o).armed = s.armed ∧ (Step.run s o).dead = s.dead := by
  cases o with
  | st a v => exact ⟨rfl, rfl⟩
  | fl l =>
    show (if s.D.getD l false then _ else s : DS).armed = _ ∧ (if s.D.getD l false then _ else s : DS).dead = _
    by_cases hx : s.D.getD l false = true
    · rw [if_pos hx]; exact ⟨rfl, rfl⟩
    · rw [if_neg hx]; exact ⟨rfl, rfl⟩
  | fe => exact fenceTo_flags s _
theorem exec_live {s : DS} (h : s.Live) (os : List Step) : (exec s os).2 = true ∧ (exec s os).1.Live := by
  induction os generalizing s with
  | nil => exact ⟨rfl, h⟩
  | cons o os ih =>
    have hc : s.can = true := by simp [DS.can, h.a, h.d]
    simp only [exec, hc, if_true]
    have := Step.run_flags s.tick o
    exact ih ⟨by rw [this.1]; exact h.a, by rw [this.2]; exact h.d⟩
theorem exec_live_app {s : DS} (h : s.Live) (a c : List Step) : (exec s (a ++ c)).1 = (exec (exec s a).1 c).1 := by rw [exec_ok (exec_live h a).1]
theorem ecode_live {s : DS} (h : s.Live) (os : List Step) : ecode (exec s os).2 = 0 := by rw [(exec_live h os).1]; rfl

theorem RootsOk.zeros : RootsOk (zerosN 8) := ⟨rfl, fun i _ => by
  have : (zerosN 8).getD i 0 = 0 := by
    rw [List.getD_eq_getElem?_getD]
    unfold zerosN
    rw [List.getElem?_replicate]
    split <;> rfl
  rw [this]; decide⟩

theorem rformat_any (B : Nat) (b : DB) (m : Nat) (s : DS) (w : World) (h : Dev B w b m s) (hm : 64 ≤ m) (hm2 : m ≤ 100000) :
    Calls Tryz.prog 70 #[.pointer (some ⟨b.d, 0, none⟩)] w fun e w' => e = .returned (.int .i64 (ecode (exec s (writeS 64 (slotEnc 1 (zerosN 8)))).2)) ∧ Dev B w' b m (exec s (writeS 64 (slotEnc 1 (zerosN 8)))).1 ∧ Mod w w' b.has := by
  have HW := Lib.hid (rwrite_any B b m s 0 1 (zerosN 8) w h (by decide) hm hm2 RootsOk.zeros (by decide) (by decide))
  clear h
  have he : scells 1 (zerosN 8) = #[.int .u64 1, .int .i64 0, .int .i64 0, .int .i64 0, .int .i64 0, .int .i64 0, .int .i64 0, .int .i64 0, .int .i64 0] := rfl
  rw [he] at HW
  clear he
  go_enter Tryz.func70, Tryz.ntmps70
  go_wp2_with (go_at_call 119; refine HW.out.mono ?_; rintro e w' ⟨rfl, hd, hm⟩; have HD := Lib.hid hd; have HM := Lib.hid hm; clear hd hm)
  go_ret
  exact ⟨rfl, HD.out, HM.out⟩

/-- The first line of a device. -/
def superL (B id : Nat) : List Nat := [8390047168116913201, 1, B, id, 0, 0, 0, crcW [8390047168116913201, 1, B, id, 0, 0, 0]]
theorem superL_lt (B id : Nat) (hB : B ≤ 256) (hid : id < 18446744073709551616) : lt64 (superL B id) := by
  have := crcW_lt [8390047168116913201, 1, B, id, 0, 0, 0]
  unfold superL
  generalize crcW _ = c at *
  intro j
  rcases (by omega : j = 0 ∨ j = 1 ∨ j = 2 ∨ j = 3 ∨ j = 4 ∨ j = 5 ∨ j = 6 ∨ j = 7 ∨ 8 ≤ j) with rfl | rfl | rfl | rfl | rfl | rfl | rfl | rfl | h
  all_goals try (simp only [List.getD_cons_zero, List.getD_cons_succ]; omega)
  rw [List.getD_eq_getElem?_getD, List.getElem?_eq_none (by simpa using h)]
  decide
theorem size180 : (Tryz.prog.info? 180).map (·.size) = some 8 := by kernel_rfl

set_option maxRecDepth 100000 in
set_option maxHeartbeats 2000000 in
theorem supenc_any (B id : Nat) (w : World) (hB : B ≤ 256) (hid : id < 18446744073709551616) :
    Calls Tryz.prog 120 #[.agg #[.int .i64 B, .int .u64 id]] w fun e w' => e = .returned (.agg (wcells (superL B id)).toArray) ∧ Below w.heap.size w w' := by
  have Hlt := Lib.hid (superL_lt B id hB hid)
  obtain ⟨c, Hc⟩ : ∃ c, Hid (crcW [8390047168116913201, 1, B, id, 0, 0, 0] = c) := ⟨_, rfl⟩
  have hc := crcW_lt [8390047168116913201, 1, B, id, 0, 0, 0]
  have HS : Hid (superL B id = [8390047168116913201, 1, B, id, 0, 0, 0, c]) := by show _ = _; rw [← Hc.out]; rfl
  rw [Hc.out] at hc
  obtain ⟨n2, Hn2⟩ : ∃ n, Hid (w.heap.size + 1 = n) := ⟨_, rfl⟩
  obtain ⟨n3, Hn3⟩ : ∃ n, Hid (w.heap.size + 1 + 1 = n) := ⟨_, rfl⟩
  have h23 : ¬ n3 = n2 := by rw [← Hn2.out, ← Hn3.out]; omega
  have h23' : ¬ n2 = n3 := fun e => h23 e.symm
  have hn3 : ¬ n3 < w.heap.size := by rw [← Hn3.out]; omega
  have hn2 : ¬ n2 < w.heap.size := by rw [← Hn2.out]; omega
  have hsz : (Tryz.prog.info? 180).map (·.size) = some (wcells (superL B id)).toArray.size := by rw [size180, HS.out]; rfl
  go_enter Tryz.func120, Tryz.ntmps120
  go_wp2_with fail
  rw [Hn3.out, Hn2.out]
  obtain ⟨w1, Hw1⟩ : ∃ w1, Hid ((((w.alloc (Obj.cells #[.int .i64 B, .int .u64 id] 96)).alloc (Obj.cells (wcells (zerosN 8)).toArray 180)).alloc (Obj.cells (wcells [8390047168116913201, 1, B, id, 0, 0, 0, 0]).toArray 180)) = w1) := ⟨_, rfl⟩
  have HB1 : Hid (Below w.heap.size w w1) := by rw [← Hw1.out]; exact ((below_box w _).alloc (by simp) _).alloc (by simp; omega) _
  have HR1 : Hid (Blk w1 n2 180 (wcells (zerosN 8)).toArray) := by
    rw [← Hw1.out, ← Hn2.out]
    refine Lib.hid ?_
    have := (Blk.new (w.alloc (.cells #[.int .i64 B, .int .u64 id] 96)) 180 (wcells (zerosN 8)).toArray).alloc (.cells (wcells [8390047168116913201, 1, B, id, 0, 0, 0, 0]).toArray 180)
    simpa using this
  have HO1 : Hid (Blk w1 n3 180 (wcells [8390047168116913201, 1, B, id, 0, 0, 0, 0]).toArray) := by
    rw [← Hw1.out, ← Hn3.out]
    refine Lib.hid ?_
    have := Blk.new ((w.alloc (.cells #[.int .i64 B, .int .u64 id] 96)).alloc (.cells (wcells (zerosN 8)).toArray 180)) 180 (wcells [8390047168116913201, 1, B, id, 0, 0, 0, 0]).toArray
    simpa using this
  have hw : ((w.alloc (.cells #[.int .i64 B, .int .u64 id] 96)).alloc (.cells #[.int .u64 0, .int .u64 0, .int .u64 0, .int .u64 0, .int .u64 0, .int .u64 0, .int .u64 0, .int .u64 0] 180)).alloc (.cells #[.int .u64 8390047168116913201, .int .u64 1, .int .u64 B, .int .u64 id, .int .u64 0, .int .u64 0, .int .u64 0, .int .u64 0] 180) = w1 := Hw1.out
  rw [hw]
  clear hw
  refine (cwords_any _ 7 8 [8390047168116913201, 1, B, id, 0, 0, 0] w1 (by omega) ?_ (HO1.out.part 0 7 (by simp))).mono ?_
  · intro j hj
    have := Hlt.out j
    rw [HS.out] at this
    rcases (by simp at hj; omega : j = 0 ∨ j = 1 ∨ j = 2 ∨ j = 3 ∨ j = 4 ∨ j = 5 ∨ j = 6) with rfl | rfl | rfl | rfl | rfl | rfl | rfl <;> exact this
  rintro e w2 ⟨rfl, hb2⟩
  rw [Hc.out]
  have HB2 : Hid (Below w.heap.size w w2) := HB1.out.trans (hb2.mono HB1.out.size)
  have HR2 := Lib.hid (HR1.out.below hb2 HR1.out.lt)
  have HO2 := Lib.hid (HO1.out.below hb2 HO1.out.lt)
  have y7 : w2.cell? ⟨n3, 7, none⟩ = some (.int .u64 0) := HO2.out.cell 7
  have f7 := HO2.out.frozen 7
  clear hb2
  have HO3 : Hid (Blk (w2.setCell ⟨n3, 7, none⟩ (.int .u64 c)) n3 180 (wcells (superL B id)).toArray) := by rw [HS.out]; exact HO2.out.setw 7 c
  have HR3 : Hid (Blk (w2.setCell ⟨n3, 7, none⟩ (.int .u64 c)) n2 180 (wcells (zerosN 8)).toArray) := HR2.out.far (p := ⟨n3, 7, none⟩) h23' _
  have HB3 : Hid (Below w.heap.size w (w2.setCell ⟨n3, 7, none⟩ (.int .u64 c))) := HB2.out.setCell (p := ⟨n3, 7, none⟩) (by simp; omega) _
  go_wp2_with (first
    | (refine wpList_load_row rfl 180 (.tmp 3) rfl n3 rfl 180 _ (0, 0) _ HO3.out Tryz.underlying180 rfl hsz ?_)
    | (refine wpList_store_row rfl (.tmp 2) (.tmp 14) rfl rfl rfl HR3.out hsz (by rw [HS.out]; rfl) (by simpa using wcells_one) ?_))
  intro w4 hB4 hM4
  have HB4 := Lib.hid hB4
  have HG4 := Lib.hid (Below.mod HB3.out hM4 HB3.out.size (fun k _ e => by omega))
  clear hB4 hM4
  go_wp2_with fail
  refine bodyPost_ret (results_cell_row rfl _ _ n2 180 _ _ _ rfl HB4.out Tryz.underlying180 rfl hsz) rfl ?_
  exact ⟨rfl, HG4.out⟩
end Go.Proofs.YtcnjipicifkfjaaGreat

/- super.Write, blocks.Format. -/
namespace Go.Proofs.YtcnjipicifkfjaaGreat
open Go.RowKit
set_option linter.unusedVariables false
set_option linter.unusedSimpArgs false

theorem exec_snoc {s : DS} (h : s.Live) (a : List Step) (o : Step) : (exec s (a ++ [o])).1 = (exec (exec s a).1 [o]).1 := exec_live_app h a [o]
/-- Stores of words, one behind the other. -/
def storesS (a : Nat) (L : List Nat) : Nat → List Step
  | 0 => []
  | k + 1 => storesS a L k ++ [.st (a + k) (L.getD k 0)]
def superS (B id : Nat) : List Step := storesS 0 (superL B id) 8 ++ persistS 0 8

/-- Where super.Write stands. -/
structure SW (B : Nat) (w0 w : World) (b : DB) (m : Nat) (u : DS) (n0 n1 K id : Nat) : Prop where
  dev : Dev B w b m u
  md : Mod w0 w b.has
  s : Blk w n0 96 #[.int .i64 K, .int .u64 id]
  g : Blk w n1 64 #[.int .i64 K]
theorem SW.below {B B0 : Nat} {w0 w w' : World} {b : DB} {m : Nat} {u : DS} {n0 n1 K id : Nat} (h : SW B w0 w b m u n0 n1 K id) (hb : Below B0 w w') (hB : w.heap.size ≤ B0) : SW B w0 w' b m u n0 n1 K id :=
  ⟨h.dev.below hb hB, h.md.trans ((Mod.of_below hb).mono (S' := b.has) (fun k hk hk2 => by omega)) (fun k _ hk => hk), h.s.below hb (Nat.lt_of_lt_of_le h.s.lt hB), h.g.below hb (Nat.lt_of_lt_of_le h.g.lt hB)⟩
theorem SW.mod {B : Nat} {w0 w w' : World} {b : DB} {m : Nat} {u u' : DS} {n0 n1 K id : Nat} (h : SW B w0 w b m u n0 n1 K id) (h0 : ¬ b.has n0) (h1 : ¬ b.has n1) (hd : Dev B w' b m u') (hm : Mod w w' b.has) : SW B w0 w' b m u' n0 n1 K id :=
  ⟨hd, h.md.trans hm (fun k _ hk => hk), hm.blk h.s h0, hm.blk h.g h1⟩

set_option maxRecDepth 100000 in
set_option maxHeartbeats 2000000 in
theorem supwrite_any (B : Nat) (b : DB) (m : Nat) (s : DS) (K id : Nat) (w : World) (h : Dev B w b m s) (hl : s.Live) (hK : 2 ≤ K) (hK2 : K ≤ 256) (hid : id < 18446744073709551616) (hm : m = K * 64) :
    Calls Tryz.prog 71 #[.pointer (some ⟨b.d, 0, none⟩), .agg #[.int .i64 K, .int .u64 id]] w fun e w' => e = .returned (.int .i64 0) ∧ Dev B w' b m (exec s (superS K id)).1 ∧ Mod w w' b.has := by
  have HL := Lib.hid hl
  have hm2 : m ≤ 100000 := by omega
  have hm3 : 64 ≤ m := by omega
  have Hr := Lib.hid (fun w => gright_any K w hK hK2)
  have Hw := Lib.hid (fun w => gwords_any K w hK2)
  have He := Lib.hid (fun w => supenc_any K id w hK2 hid)
  have Hlt := Lib.hid (superL_lt K id hK2 hid)
  have Hlen : Hid ((superL K id).length = 8) := by show _ = _; rfl
  have Hn := Lib.hid (fun (w : World) (h : Dev B w b m s) => len_any B b m s w h)
  have HmK : Hid (K * 512 = 8 * m) := by show _ = _; omega
  rw [HmK.out] at Hw
  obtain ⟨n0, Hn0⟩ : ∃ n, Hid (w.heap.size = n) := ⟨_, rfl⟩
  obtain ⟨n1, Hn1⟩ : ∃ n, Hid (w.heap.size + 1 = n) := ⟨_, rfl⟩
  have H0 : Hid (SW B w ((w.alloc (.cells #[.int .i64 K, .int .u64 id] 96)).alloc (.cells #[.int .i64 K] 64)) b m s n0 n1 K id) := by
    refine ⟨((h.below (below_box w (.cells #[.int .i64 K, .int .u64 id] 96)) (Nat.le_refl _))).below (below_box _ (.cells #[.int .i64 K] 64)) (Nat.le_refl _), ((Mod.refl w b.has).alloc _).alloc _, ?_, ?_⟩
    · rw [← Hn0.out]; exact (Blk.new w 96 _).alloc _
    · have := Blk.new (w.alloc (.cells #[.int .i64 K, .int .u64 id] 96)) 64 #[.int .i64 K]
      rw [← Hn1.out]
      simpa using this
  have hn0 : ¬ b.has n0 := fun hk => by have := (h.lt n0 hk).2; rw [Hn0.out] at this; omega
  have hn1 : ¬ b.has n1 := fun hk => by have := (h.lt n1 hk).2; rw [← Hn1.out] at this; omega
  have hsz : (Tryz.prog.info? 180).map (·.size) = some (wcells (superL K id)).toArray.size := by rw [size180]; rfl
  clear h hl
  obtain ⟨N, HN⟩ : ∃ N, Hid (8 * m = N) := ⟨_, rfl⟩
  rw [HN.out] at Hn Hw
  obtain ⟨L, HL2⟩ : ∃ L, Hid (superL K id = L) := ⟨_, rfl⟩
  have HSS : Hid (superS K id = storesS 0 L 8 ++ persistS 0 8) := by rw [← HL2.out]; exact rfl
  rw [HL2.out] at He Hlt Hlen hsz
  have Hx : Hid (∀ k : Nat, k < 8 → ∀ w, (Instr.index 180 (.agg (wcells L).toArray) (.int .i64 (k : Int))).run Tryz.prog w = .ok (.int .u64 (L.getD k 0 : Nat)) w) := fun k hk =>
    run_index_one 8 k _ Tryz.underlying180 Tryz.underlying28 rfl (by kernel_rfl) hk (by rw [List.getElem?_toArray]; exact wcells_at L k (by rw [Hlen.out]; exact hk))
  go_enter Tryz.func71, Tryz.ntmps71
  go_wp2_with fail
  refine (Hr.out _).mono ?_
  rintro e w1 ⟨rfl, hb1⟩
  have H1 := Lib.hid (H0.out.below hb1 (Nat.le_refl _))
  clear hb1 H0 Hr
  rw [Hn1.out, Hn0.out]
  have c0 : w1.cell? ⟨n0, 0, none⟩ = some (.int .i64 K) := H1.out.s.cell 0
  have c1 : w1.cell? ⟨n0, 1, none⟩ = some (.int .u64 id) := H1.out.s.cell 1
  have c2 : w1.cell? ⟨n1, 0, none⟩ = some (.int .i64 K) := H1.out.g.cell 0
  go_wp2_with fail
  refine (Hw.out _).mono ?_
  rintro e w2 ⟨rfl, hb2⟩
  have H2 := Lib.hid (H1.out.below hb2 (Nat.le_refl _))
  clear hb2 H1 c0 c1 c2
  have c0 : w2.cell? ⟨n0, 0, none⟩ = some (.int .i64 K) := H2.out.s.cell 0
  have c1 : w2.cell? ⟨n0, 1, none⟩ = some (.int .u64 id) := H2.out.s.cell 1
  have c2 : w2.cell? ⟨n1, 0, none⟩ = some (.int .i64 K) := H2.out.g.cell 0
  go_wp2_with (go_at_call 43; refine (Hn.out _ H2.out.dev).mono ?_; rintro e w3 ⟨rfl, rfl⟩)
  refine (He.out _).mono ?_
  rintro e w3 ⟨rfl, hb3⟩
  have H3 := Lib.hid (H2.out.below hb3 (Nat.le_refl _))
  clear hb3 H2 c0 c1 c2
  go_wp2_with fail
  go_loopw [24] (fun v24 wr => ∃ (k : Nat) (u : DS), v24 = .int .i64 k ∧ k ≤ 8 ∧ u.Live ∧ (exec s (storesS 0 L k)).1 = u ∧ SW B w wr b m u n0 n1 K id) (fun v24 _ => 8 - (intOf v24).toNat)
  case atStart => exact ⟨0, s, rfl, Nat.zero_le _, HL.out, rfl, H3.out⟩
  case round =>
    clear H3
    obtain ⟨k, u, rfl, hk, hul, hu, hW⟩ := hrel
    have Hul := Lib.hid hul
    have Hu := Lib.hid hu
    have HW := Lib.hid hW
    clear hu hW hul
    by_cases hk8 : k < 8
    · have hx := Hx.out k hk8
      have hlt := Hlt.out k
      have HS : Hid (storesS 0 L (k + 1) = storesS 0 L k ++ [.st (0 + k) (L.getD k 0)]) := rfl
      obtain ⟨v, Hv⟩ : ∃ v, Hid (L.getD k 0 = v) := ⟨_, rfl⟩
      rw [Hv.out, Nat.zero_add] at HS
      rw [Hv.out] at hx hlt
      go_wp2_with fail
      refine (store_any B b m u k v wr HW.out.dev (by omega) hm2).mono ?_
      rintro e w4 ⟨rfl, hd4, hm4⟩
      have HW4 := Lib.hid (HW.out.mod hn0 hn1 hd4 hm4)
      clear hd4 hm4
      rw [ecode_live Hul.out]
      go_wp2_with fail
      exact ⟨⟨k + 1, (exec u [.st k v]).1, by go_num, by omega, (exec_live Hul.out _).2, by rw [HS.out, exec_snoc HL.out, Hu.out], HW4.out⟩, by simp [intOf]; omega⟩
    · obtain rfl : k = 8 := by omega
      clear Hx hsz
      go_wp2_with fail
      refine (persist_any B b m u 0 8 wr HW.out.dev (by omega) (by omega) hm2).mono ?_
      rintro e w4 ⟨rfl, hd4, hm4⟩
      have HW4 := Lib.hid (HW.out.mod hn0 hn1 hd4 hm4)
      clear hd4 hm4
      rw [ecode_live Hul.out]
      go_wp2_with fail
      go_ret
      refine ⟨rfl, ?_, HW4.out.md⟩
      rw [HSS.out, exec_live_app HL.out, Hu.out]
      exact HW4.out.dev
end Go.Proofs.YtcnjipicifkfjaaGreat

/- blocks.Format. -/
namespace Go.Proofs.YtcnjipicifkfjaaGreat
open Go.RowKit
set_option linter.unusedVariables false
set_option linter.unusedSimpArgs false

/-- The stores of so many blocks' headers, all free. -/
def freesS : Nat → List Step
  | 0 => []
  | k + 1 => freesS k ++ [.st (256 + (k + 1)) (hword (k + 1) 0 0)]
def blocksS (K : Nat) : List Step := freesS (K - 1) ++ persistS 257 (K - 1)
/-- Where blocks.Format stands. -/
structure SF (B : Nat) (w0 w : World) (b : DB) (m : Nat) (u : DS) (n0 K : Nat) : Prop where
  dev : Dev B w b m u
  md : Mod w0 w b.has
  s : Blk w n0 64 #[.int .i64 K]
theorem SF.below {B B0 : Nat} {w0 w w' : World} {b : DB} {m : Nat} {u : DS} {n0 K : Nat} (h : SF B w0 w b m u n0 K) (hb : Below B0 w w') (hB : w.heap.size ≤ B0) : SF B w0 w' b m u n0 K :=
  ⟨h.dev.below hb hB, h.md.trans ((Mod.of_below hb).mono (S' := b.has) (fun k hk hk2 => by omega)) (fun k _ hk => hk), h.s.below hb (Nat.lt_of_lt_of_le h.s.lt hB)⟩
theorem SF.mod {B : Nat} {w0 w w' : World} {b : DB} {m : Nat} {u u' : DS} {n0 K : Nat} (h : SF B w0 w b m u n0 K) (h0 : ¬ b.has n0) (hd : Dev B w' b m u') (hm : Mod w w' b.has) : SF B w0 w' b m u' n0 K :=
  ⟨hd, h.md.trans hm (fun k _ hk => hk), hm.blk h.s h0⟩
theorem SF.drew {B : Nat} {w0 w : World} {b : DB} {m : Nat} {u : DS} {n0 K : Nat} (h : SF B w0 w b m u n0 K) : SF B w0 w.drew b m u n0 K :=
  ⟨h.dev.drewN 1, h.md.drewN 1, h.s.drew⟩

set_option maxRecDepth 100000 in
set_option maxHeartbeats 2000000 in
theorem bformat_any (B : Nat) (b : DB) (m : Nat) (s : DS) (K : Nat) (w : World) (h : Dev B w b m s) (hl : s.Live) (hK : 2 ≤ K) (hK2 : K ≤ 200) (hm : m = K * 64) :
    Calls Tryz.prog 69 #[.pointer (some ⟨b.d, 0, none⟩), .agg #[.int .i64 K]] w fun e w' => e = .returned (.int .i64 0) ∧ Dev B w' b m (exec s (blocksS K)).1 ∧ Mod w w' b.has := by
  have HL := Lib.hid hl
  have hm2 : m ≤ 100000 := by omega
  have hm3 : 64 ≤ m := by omega
  have Hg := Lib.hid (fun (bb : Nat) (w : World) (h0 : 1 ≤ bb) (h1 : bb < K) => gheader_any K bb w h0 h1 (by omega))
  have He := Lib.hid (fun (bb : Nat) (w : World) (h1 : bb < K) => bhenc_any bb 0 0 w (.inl ⟨rfl, rfl⟩) (by omega))
  obtain ⟨n0, Hn0⟩ : ∃ n, Hid (w.heap.size = n) := ⟨_, rfl⟩
  have H0 : Hid (SF B w (w.alloc (.cells #[.int .i64 K] 64)) b m s n0 K) := by
    refine ⟨h.below (below_box w (.cells #[.int .i64 K] 64)) (Nat.le_refl _), (Mod.refl w b.has).alloc _, ?_⟩
    rw [← Hn0.out]; exact Blk.new w 64 _
  have hn0 : ¬ b.has n0 := fun hk => by have := (h.lt n0 hk).2; rw [Hn0.out] at this; omega
  clear h hl
  go_enter Tryz.func69, Tryz.ntmps69
  go_wp2_with fail
  rw [Hn0.out]
  go_loopw [5] (fun v5 wr => ∃ (k : Nat) (u : DS), v5 = .int .i64 ((k + 1 : Nat) : Int) ∧ k + 1 ≤ K ∧ u.Live ∧ (exec s (freesS k)).1 = u ∧ SF B w wr b m u n0 K) (fun v5 _ => K - (intOf v5).toNat)
  case atStart => exact ⟨0, s, rfl, by omega, HL.out, rfl, H0.out⟩
  case round =>
    clear H0
    obtain ⟨k, u, rfl, hk, hul, hu, hW⟩ := hrel
    have Hul := Lib.hid hul
    have Hu := Lib.hid hu
    have HW := Lib.hid hW
    clear hu hW hul
    have c0 : wr.cell? ⟨n0, 0, none⟩ = some (.int .i64 K) := HW.out.s.cell 0
    obtain ⟨j, Hj⟩ : ∃ j, Hid (k + 1 = j) := ⟨_, rfl⟩
    have hj1 : 1 ≤ j := by rw [← Hj.out]; omega
    rw [Hj.out] at hk ⊢
    by_cases hk8 : j < K
    · have HS : Hid (freesS j = freesS k ++ [.st (256 + j) (hword j 0 0)]) := by rw [← Hj.out]; exact rfl
      go_wp2_with (go_at_call 116; refine (Hg.out _ _ hj1 hk8).mono ?_; rintro e w2 ⟨rfl, hb2⟩; have HW2 := Lib.hid (HW.out.below hb2 (Nat.le_refl _)); clear hb2)
      refine (He.out _ _ hk8).mono ?_
      rintro e w3 ⟨rfl, hb3⟩
      have HW3 := Lib.hid (HW2.out.below hb3 (Nat.le_refl _))
      clear hb3 HW2
      obtain ⟨v, Hv⟩ : ∃ v, Hid (hword j 0 0 = v) := ⟨_, rfl⟩
      obtain ⟨q, Hq⟩ : ∃ q, Hid (256 + j = q) := ⟨_, rfl⟩
      rw [Hv.out, Hq.out] at HS
      rw [Hv.out]
      have hjq : 256 + (j : Int) = (q : Int) := by rw [← Hq.out]; omega
      have hq : q < 8 * m := by rw [← Hq.out]; omega
      go_wp2_with fail
      refine (store_any B b m u q v w3 HW3.out.dev hq hm2).mono ?_
      rintro e w4 ⟨rfl, hd4, hm4⟩
      have HW4 := Lib.hid (HW3.out.mod hn0 hd4 hm4)
      clear hd4 hm4
      rw [ecode_live Hul.out]
      go_wp2_with fail
      exact ⟨⟨j, (exec u [.st q v]).1, by go_num, by omega, (exec_live Hul.out _).2, by rw [HS.out, exec_snoc HL.out, Hu.out], HW4.out⟩, by simp [intOf]; omega⟩
    · obtain rfl : j = K := by omega
      have HSS : Hid (blocksS j = freesS k ++ persistS 257 k) := by rw [← Hj.out]; exact rfl
      have HWd := Lib.hid HW.out.drew
      have c1 : wr.drew.cell? ⟨n0, 0, none⟩ = some (.int .i64 j) := c0
      have hj3 : (j : Int) - 1 = (k : Int) := by rw [← Hj.out]; omega
      have Hg1 : Hid (∀ w, Calls Tryz.prog 116 #[.agg #[.int .i64 j], .int .i64 1] w fun e w' => e = .returned (.int .i64 257) ∧ Below w.heap.size w w') := fun w => Hg.out 1 w (by omega) (by omega)
      have hwr : IntKind.i64.wrap (k : Int) = (k : Int) := by rw [IntKind.wrap_i64]; omega
      have hk1 : 0 < k := by have := Hj.out; omega
      have hk2 : 257 + k ≤ 8 * m := by have := Hj.out; omega
      have Hp : Hid (∀ w, Dev B w b m u → Calls Tryz.prog 118 #[.pointer (some ⟨b.d, 0, none⟩), .int .i64 257, .int .i64 k] w fun e w' => e = .returned (.int .i64 0) ∧ Dev B w' b m (exec u (persistS 257 k)).1 ∧ Mod w w' b.has) := fun w h => by
        have := persist_any B b m u 257 k w h hk1 hk2 hm2
        rw [ecode_live Hul.out] at this
        exact this
      go_wp2_with fail
      go_region_held3 (fun w' => (∃ u, SF B w w' b m u n0 j) ∧ w'.cell? ⟨n0, 0, none⟩ = some (.int .i64 j))
        (first | exact ⟨⟨u, HWd.out⟩, c1⟩ | exact ⟨⟨u, HWd.out.below hb5 (Nat.le_refl _)⟩, (HWd.out.below hb5 (Nat.le_refl _)).s.cell 0⟩ | exact ⟨⟨_, (HWd.out.below hb5 (Nat.le_refl _)).mod hn0 hd6 hm6⟩, ((HWd.out.below hb5 (Nat.le_refl _)).mod hn0 hd6 hm6).s.cell 0⟩)
        (first
          | (go_at_call 116; refine (Hg1.out _).mono ?_; rintro e w5 ⟨rfl, hb5⟩)
          | (go_at_call 118; have HD5 := Lib.hid (HWd.out.below hb5 (Nat.le_refl _)).dev; refine (Hp.out _ HD5.out).mono ?_; rintro e w6 ⟨rfl, hd6, hm6⟩))
      have HW6 := Lib.hid ((HWd.out.below hb5 (Nat.le_refl _)).mod hn0 hd6 hm6)
      clear hd6 hm6 hb5
      go_wp2_with fail
      go_ret
      refine ⟨rfl, ?_, HW6.out.md⟩
      rw [HSS.out, exec_live_app HL.out, Hu.out]
      exact HW6.out.dev
end Go.Proofs.YtcnjipicifkfjaaGreat
