/- object: Head, field, Ptr, SetPtr, Data, SetData. -/
import Derived.Test.YtcnjipicifkfjaaGreatEv05
import Derived.Test.YtcnjipicifkfjaaGreatEv08
import Derived.Test.YtcnjipicifkfjaaGreatEv07

namespace Go.Proofs.YtcnjipicifkfjaaGreat
open Go.RowKit
set_option linter.unusedVariables false
set_option linter.unusedSimpArgs false

/-- An object's header lies at an address. -/
structure ObjAt (s : DS) (m a p d : Nat) : Prop where
  o : Obj p d
  w : s.C.getD a 0 = oword a p d
  le : a + (1 + p + d) ≤ 8 * m

set_option maxRecDepth 100000 in
set_option maxHeartbeats 1000000 in
theorem head_any (B : Nat) (b : DB) (m : Nat) (s : DS) (a p d : Nat) (w : World) (h : Dev B w b m s) (ho : ObjAt s m a p d) (hm : m ≤ 10000) :
    Calls Tryz.prog 127 #[.pointer (some ⟨b.d, 0, none⟩), .int .i64 a] w fun e w' => e = .returned (.tuple #[.agg #[.int .i64 p, .int .i64 d], .int .i64 0]) ∧ Below w.heap.size w w' := by
  obtain ⟨ho1, ho2, ho3⟩ := ho
  obtain ⟨hp, hd, _⟩ := ho1.le
  have Hn : Hid (∀ w', Hid (Below w.heap.size w w') → Calls Tryz.prog 43 #[.pointer (some ⟨b.d, 0, none⟩)] w' fun e w'' => e = .returned (.int .i64 ((8 * m : Nat) : Int)) ∧ w' = w'') := fun w' hb => len_any B b m s w' (h.below hb.out (Nat.le_refl _))
  have Hg : Hid (∀ w', Hid (Below w.heap.size w w') → Calls Tryz.prog 123 #[.pointer (some ⟨b.d, 0, none⟩), .int .i64 a] w' fun e w'' => e = .returned (.int .u64 (oword a p d : Nat)) ∧ w' = w'') := fun w' hb => by
    have := get_yes B b m s a w' (h.below hb.out (Nat.le_refl _)) (by omega) (by omega)
    rw [ho2] at this
    exact this
  have Hd := Lib.hid (fun w => odec_any a p d w ho1 (by omega))
  have Hs := Lib.hid (fun w => osize_any p d w (by omega) (by omega))
  obtain ⟨N, HN⟩ : ∃ N, Hid (8 * m = N) := ⟨_, rfl⟩
  rw [HN.out] at Hn ho3
  have hN : N ≤ 80000 := by rw [← HN.out]; omega
  obtain ⟨q, Hq⟩ : ∃ q, Hid (1 + p + d = q) := ⟨_, rfl⟩
  rw [Hq.out] at Hs ho3
  have hq0 : 1 ≤ q := by rw [← Hq.out]; omega
  obtain ⟨n1, Hn1⟩ : ∃ n, Hid (w.heap.size = n) := ⟨_, rfl⟩
  have L1 := Lib.hid ((Loc.nil Nob w).box 51 #[.int .i64 0, .int .i64 0] n1 Hn1.out)
  have HB1 := Lib.hid L1.out.below
  clear h ho2 ho1
  generalize oword a p d = v at *
  go_enter Tryz.func127, Tryz.ntmps127
  go_wp2_with (first
    | (go_at_call 43; refine (Hn.out _ (by assumption)).mono ?_; rintro e w' ⟨rfl, rfl⟩)
    | (go_at_call 123; refine (Hg.out _ (by assumption)).mono ?_; rintro e w' ⟨rfl, rfl⟩))
  rw [Hn1.out]
  generalize w.alloc _ = w1 at *
  refine (Hd.out _).mono ?_
  rintro e w2 ⟨rfl, hb2⟩
  have L2 := Lib.hid (L1.out.call hb2 (Nat.le_refl _))
  clear hb2 L1 HB1
  obtain ⟨n2, Hn2⟩ : ∃ n, Hid (w2.heap.size = n) := ⟨_, rfl⟩
  have L3 := Lib.hid (L2.out.box 51 #[.int .i64 p, .int .i64 d] n2 Hn2.out)
  go_wp2_with fail
  rw [Hn2.out]
  generalize w2.alloc _ = w3 at *
  refine (Hs.out _).mono ?_
  rintro e w4 ⟨rfl, hb4⟩
  have L4 := Lib.hid (L3.out.call hb4 (Nat.le_refl _))
  have HB4 := Lib.hid L4.out.below
  have x0 : w4.cell? ⟨n2, 0, none⟩ = some (.int .i64 p) := L4.out.b0.cell 0
  have x1 : w4.cell? ⟨n2, 1, none⟩ = some (.int .i64 d) := L4.out.b0.cell 1
  have y0 : w4.cell? ⟨n1, 0, none⟩ = some (.int .i64 0) := L4.out.b1.cell 0
  have y1 : w4.cell? ⟨n1, 1, none⟩ = some (.int .i64 0) := L4.out.b1.cell 1
  have f0 := L4.out.b1.frozen 0
  have f1 := L4.out.b1.frozen 1
  clear hb4 L3 L2
  go_wp2_with (first
    | (go_at_call 43; refine (Hn.out _ (by assumption)).mono ?_; rintro e w' ⟨rfl, rfl⟩))
  have L5 := ((L4.out.swap.set 0 (.int .i64 p)).set 1 (.int .i64 d))
  have z0 := L5.b0.cell 0
  have z1 := L5.b0.cell 1
  simp at z0 z1
  refine bodyPost_ret (v := .tuple #[.agg #[.int .i64 p, .int .i64 d], .int .i64 0]) (by simp [results, Tryz.results127, go_sem, z0, z1]) rfl ?_
  exact ⟨rfl, L5.below⟩

set_option maxRecDepth 100000 in
set_option maxHeartbeats 1000000 in
theorem field_any (B : Nat) (b : DB) (m : Nat) (s : DS) (a : Nat) (data : Bool) (w : World) (h : Dev B w b m s) (ho : ObjAt s m a 1 1) (hm : m ≤ 10000) :
    Calls Tryz.prog 122 #[.pointer (some ⟨b.d, 0, none⟩), .int .i64 a, .int .i64 0, .bool data] w fun e w' => e = .returned (.tuple #[.int .i64 ((a + (if data then 2 else 1) : Nat) : Int), .int .i64 0]) ∧ Below w.heap.size w w' := by
  have hle := ho.le
  have Hh := Lib.hid (head_any B b m s a 1 1 w h ho hm)
  have Hp := Lib.hid (fun w => optr_any 1 1 0 w (by omega) (by omega))
  have Hd := Lib.hid (fun w => odata_any 1 1 0 w (by omega) (by omega) (by omega))
  have ha : a ≤ 80000 := by omega
  clear h ho hle hm
  go_enter Tryz.func122, Tryz.ntmps122
  go_wp2_with fail
  refine Hh.out.mono ?_
  rintro e w1 ⟨rfl, hb1⟩
  have L1 := Lib.hid ((Loc.nil Nob w).call hb1 (Nat.le_refl _))
  clear hb1
  obtain ⟨n1, Hn1⟩ : ∃ n, Hid (w1.heap.size = n) := ⟨_, rfl⟩
  have L2 := Lib.hid (L1.out.box 51 #[.int .i64 ((1 : Nat) : Int), .int .i64 ((1 : Nat) : Int)] n1 Hn1.out)
  go_wp2_with fail
  rw [Hn1.out]
  generalize w1.alloc _ = w2 at *
  refine (Hp.out _).mono ?_
  rintro e w3 ⟨rfl, hb3⟩
  have L3 := Lib.hid (L2.out.call hb3 (Nat.le_refl _))
  have x0 : w3.cell? ⟨n1, 0, none⟩ = some (.int .i64 1) := L3.out.b0.cell 0
  have x1 : w3.cell? ⟨n1, 1, none⟩ = some (.int .i64 1) := L3.out.b0.cell 1
  clear hb3 L2 L1
  cases data with
  | false =>
    go_wp2_with fail
    go_ret2
    exact ⟨by simp, L3.out.below⟩
  | true =>
    go_wp2_with fail
    refine (Hd.out _).mono ?_
    rintro e w4 ⟨rfl, hb4⟩
    have L4 := Lib.hid (L3.out.call hb4 (Nat.le_refl _))
    clear hb4
    go_wp2_with fail
    go_ret2
    exact ⟨by simp, L4.out.below⟩
set_option maxHeartbeats 1000000 in
theorem optrOf_any (B : Nat) (b : DB) (m : Nat) (s : DS) (a v : Nat) (w : World) (h : Dev B w b m s) (ho : ObjAt s m a 1 1) (hv : s.C.getD (a + 1) 0 = v) (hv2 : v ≤ 1099511627776) (hm : m ≤ 10000) :
    Calls Tryz.prog 76 #[.pointer (some ⟨b.d, 0, none⟩), .int .i64 a, .int .i64 0] w fun e w' => e = .returned (.tuple #[.int .i64 v, .int .i64 0]) ∧ Below w.heap.size w w' := by
  have hle := ho.le
  have Hf := Lib.hid (field_any B b m s a false w h ho hm)
  have Hg : Hid (∀ w', Below w.heap.size w w' → Calls Tryz.prog 123 #[.pointer (some ⟨b.d, 0, none⟩), .int .i64 (a + 1 : Nat)] w' fun e w'' => e = .returned (.int .u64 v) ∧ w' = w'') := fun w' hb => by
    have := get_yes B b m s (a + 1) w' (h.below hb (Nat.le_refl _)) (by omega) (by omega)
    rw [hv] at this
    exact this
  have ha : a ≤ 80000 := by omega
  have hmin : min (v : Int) 1099511627776 = (v : Int) := by omega
  clear h ho hle hm hv
  simp only [Bool.false_eq_true, if_false] at Hf
  generalize a + 1 = q at *
  go_enter Tryz.func76, Tryz.ntmps76
  go_wp2_with fail
  refine Hf.out.mono ?_
  rintro e w1 ⟨rfl, hb1⟩
  have Hb1 := Lib.hid hb1
  clear hb1
  go_wp2_with fail
  refine (Hg.out _ Hb1.out).mono ?_
  rintro e w2 ⟨rfl, rfl⟩
  go_wp2_with fail
  go_ret2
  exact ⟨by simp, Hb1.out⟩
set_option maxHeartbeats 1000000 in
theorem odataOf_any (B : Nat) (b : DB) (m : Nat) (s : DS) (a v : Nat) (w : World) (h : Dev B w b m s) (ho : ObjAt s m a 1 1) (hv : s.C.getD (a + 2) 0 = v) (hm : m ≤ 10000) :
    Calls Tryz.prog 89 #[.pointer (some ⟨b.d, 0, none⟩), .int .i64 a, .int .i64 0] w fun e w' => e = .returned (.tuple #[.int .u64 v, .int .i64 0]) ∧ Below w.heap.size w w' := by
  have hle := ho.le
  have Hf := Lib.hid (field_any B b m s a true w h ho hm)
  have Hg : Hid (∀ w', Below w.heap.size w w' → Calls Tryz.prog 123 #[.pointer (some ⟨b.d, 0, none⟩), .int .i64 (a + 2 : Nat)] w' fun e w'' => e = .returned (.int .u64 v) ∧ w' = w'') := fun w' hb => by
    have := get_yes B b m s (a + 2) w' (h.below hb (Nat.le_refl _)) (by omega) (by omega)
    rw [hv] at this
    exact this
  clear h ho hle hm hv
  simp only [if_true] at Hf
  generalize a + 2 = q at *
  go_enter Tryz.func89, Tryz.ntmps89
  go_wp2_with fail
  refine Hf.out.mono ?_
  rintro e w1 ⟨rfl, hb1⟩
  have Hb1 := Lib.hid hb1
  clear hb1
  go_wp2_with fail
  refine (Hg.out _ Hb1.out).mono ?_
  rintro e w2 ⟨rfl, rfl⟩
  go_wp2_with fail
  go_ret2
  exact ⟨by simp, Hb1.out⟩
theorem mod_new {w w1 w2 : World} {S : Nat → Prop} (hb : Below w.heap.size w w1) (hm : Mod w1 w2 S) : Mod w w2 S :=
  ((Mod.of_below hb).mono (S' := S) (fun k hk hk2 => by omega)).trans hm (fun k _ hk => hk)
set_option maxHeartbeats 1000000 in
theorem setptr_any (B : Nat) (b : DB) (m : Nat) (s : DS) (a to : Nat) (w : World) (h : Dev B w b m s) (ho : ObjAt s m a 1 1) (hto : to ≤ 1099511627776) (hm : m ≤ 10000) :
    Calls Tryz.prog 80 #[.pointer (some ⟨b.d, 0, none⟩), .int .i64 a, .int .i64 0, .int .i64 to] w fun e w' => e = .returned (.int .i64 (ecode (exec s [.st (a + 1) to]).2)) ∧ Dev B w' b m (exec s [.st (a + 1) to]).1 ∧ Mod w w' b.has := by
  have hle := ho.le
  have Hf := Lib.hid (field_any B b m s a false w h ho hm)
  have Hg : Hid (∀ w', Below w.heap.size w w' → Calls Tryz.prog 115 #[.pointer (some ⟨b.d, 0, none⟩), .int .i64 (a + 1 : Nat), .int .u64 to] w' fun e w'' => e = .returned (.int .i64 (ecode (exec s [.st (a + 1) to]).2)) ∧ Dev B w'' b m (exec s [.st (a + 1) to]).1 ∧ Mod w' w'' b.has) :=
    fun w' hb => store_any B b m s (a + 1) to w' (h.below hb (Nat.le_refl _)) (by omega) (by omega)
  have hwr : IntKind.u64.wrap (to : Int) = (to : Int) := by rw [IntKind.wrap_u64]; omega
  clear h ho hle hm
  simp only [Bool.false_eq_true, if_false] at Hf
  generalize exec s [.st (a + 1) to] = E at *
  generalize a + 1 = q at *
  go_enter Tryz.func80, Tryz.ntmps80
  go_wp2_with fail
  refine Hf.out.mono ?_
  rintro e w1 ⟨rfl, hb1⟩
  have Hb1 := Lib.hid hb1
  clear hb1
  go_wp2_with fail
  refine (Hg.out _ Hb1.out).mono ?_
  rintro e w2 ⟨rfl, hd2, hm2⟩
  have Hd2 := Lib.hid hd2
  have Hm2 := Lib.hid hm2
  clear hd2 hm2
  go_wp2_with fail
  go_ret
  exact ⟨rfl, Hd2.out, mod_new Hb1.out Hm2.out⟩
set_option maxHeartbeats 1000000 in
theorem setdata_any (B : Nat) (b : DB) (m : Nat) (s : DS) (a v : Nat) (w : World) (h : Dev B w b m s) (ho : ObjAt s m a 1 1) (hm : m ≤ 10000) :
    Calls Tryz.prog 81 #[.pointer (some ⟨b.d, 0, none⟩), .int .i64 a, .int .i64 0, .int .u64 v] w fun e w' => e = .returned (.int .i64 (ecode (exec s [.st (a + 2) v]).2)) ∧ Dev B w' b m (exec s [.st (a + 2) v]).1 ∧ Mod w w' b.has := by
  have hle := ho.le
  have Hf := Lib.hid (field_any B b m s a true w h ho hm)
  have Hg : Hid (∀ w', Below w.heap.size w w' → Calls Tryz.prog 115 #[.pointer (some ⟨b.d, 0, none⟩), .int .i64 (a + 2 : Nat), .int .u64 v] w' fun e w'' => e = .returned (.int .i64 (ecode (exec s [.st (a + 2) v]).2)) ∧ Dev B w'' b m (exec s [.st (a + 2) v]).1 ∧ Mod w' w'' b.has) :=
    fun w' hb => store_any B b m s (a + 2) v w' (h.below hb (Nat.le_refl _)) (by omega) (by omega)
  clear h ho hle hm
  simp only [if_true] at Hf
  generalize exec s [.st (a + 2) v] = E at *
  generalize a + 2 = q at *
  go_enter Tryz.func81, Tryz.ntmps81
  go_wp2_with fail
  refine Hf.out.mono ?_
  rintro e w1 ⟨rfl, hb1⟩
  have Hb1 := Lib.hid hb1
  clear hb1
  go_wp2_with fail
  refine (Hg.out _ Hb1.out).mono ?_
  rintro e w2 ⟨rfl, hd2, hm2⟩
  have Hd2 := Lib.hid hd2
  have Hm2 := Lib.hid hm2
  clear hd2 hm2
  go_wp2_with fail
  go_ret
  exact ⟨rfl, Hd2.out, mod_new Hb1.out Hm2.out⟩
set_option maxHeartbeats 1000000 in
theorem opersist_any (B : Nat) (b : DB) (m : Nat) (s : DS) (a p d : Nat) (w : World) (h : Dev B w b m s) (ho : ObjAt s m a p d) (hm : m ≤ 10000) :
    Calls Tryz.prog 82 #[.pointer (some ⟨b.d, 0, none⟩), .int .i64 a] w fun e w' => e = .returned (.int .i64 (ecode (exec s (persistS a (1 + p + d))).2)) ∧ Dev B w' b m (exec s (persistS a (1 + p + d))).1 ∧ Mod w w' b.has := by
  have hle := ho.le
  obtain ⟨hp, hd, _⟩ := ho.o.le
  have Hh := Lib.hid (head_any B b m s a p d w h ho hm)
  have Hs := Lib.hid (fun w => osize_any p d w (by omega) (by omega))
  have Hg : Hid (∀ w', Below w.heap.size w w' → Calls Tryz.prog 118 #[.pointer (some ⟨b.d, 0, none⟩), .int .i64 a, .int .i64 ((1 + p + d : Nat) : Int)] w' fun e w'' => e = .returned (.int .i64 (ecode (exec s (persistS a (1 + p + d))).2)) ∧ Dev B w'' b m (exec s (persistS a (1 + p + d))).1 ∧ Mod w' w'' b.has) :=
    fun w' hb => persist_any B b m s a (1 + p + d) w' (h.below hb (Nat.le_refl _)) (by omega) (by omega) (by omega)
  clear h ho hle hm
  generalize exec s (persistS a (1 + p + d)) = E at *
  generalize 1 + p + d = q at *
  go_enter Tryz.func82, Tryz.ntmps82
  go_wp2_with fail
  refine Hh.out.mono ?_
  rintro e w1 ⟨rfl, hb1⟩
  have L1 := Lib.hid ((Loc.nil Nob w).call hb1 (Nat.le_refl _))
  clear hb1
  obtain ⟨n1, Hn1⟩ : ∃ n, Hid (w1.heap.size = n) := ⟨_, rfl⟩
  have L2 := Lib.hid (L1.out.box 51 #[.int .i64 p, .int .i64 d] n1 Hn1.out)
  go_wp2_with fail
  rw [Hn1.out]
  generalize w1.alloc _ = w2 at *
  refine (Hs.out _).mono ?_
  rintro e w3 ⟨rfl, hb3⟩
  have L3 := Lib.hid (L2.out.call hb3 (Nat.le_refl _))
  clear hb3 L2 L1
  go_wp2_with fail
  refine (Hg.out _ L3.out.below).mono ?_
  rintro e w4 ⟨rfl, hd4, hm4⟩
  have Hd4 := Lib.hid hd4
  have Hm4 := Lib.hid hm4
  clear hd4 hm4
  go_wp2_with fail
  go_ret
  exact ⟨rfl, Hd4.out, mod_new L3.out.below Hm4.out⟩
end Go.Proofs.YtcnjipicifkfjaaGreat

/- roots.write, roots.Format. -/
namespace Go.Proofs.YtcnjipicifkfjaaGreat
open Go.RowKit
set_option linter.unusedVariables false
set_option linter.unusedSimpArgs false

theorem exec_next_no {s u : DS} {pre post : List Step} {o : Step} (h : exec s pre = (u, true)) (h2 : (exec u [o]).2 = false) : exec s (pre ++ o :: post) = exec u [o] := by
  have : exec s (pre ++ [o]) = exec u [o] := by rw [exec_ok (by rw [h]), h]
  rw [show pre ++ o :: post = (pre ++ [o]) ++ post by simp, exec_fail (by rw [this]; exact h2), this]
theorem exec_next_yes {s u : DS} {pre : List Step} {o : Step} (h : exec s pre = (u, true)) : exec s (pre ++ [o]) = exec u [o] := by rw [exec_ok (by rw [h]), h]

/-- The stores of a slot: all words but the epochs, then these. -/
def bodyS (a : Nat) (L : List Nat) : Nat → List Step
  | 0 => []
  | k + 1 => if k % 8 = 0 then bodyS a L k else bodyS a L k ++ [.st (a + k) (L.getD k 0)]
def writeS (a : Nat) (L : List Nat) : List Step := bodyS a L 16 ++ ([.st a (L.getD 0 0)] ++ ([.st (a + 8) (L.getD 8 0)] ++ persistS a 16))
theorem bodyS_split (a : Nat) (L : List Nat) (k n : Nat) (h : k ≤ n) : ∃ c, bodyS a L n = bodyS a L k ++ c := by
  induction n with
  | zero => exact ⟨[], by rw [show k = 0 by omega]; simp⟩
  | succ n ih =>
    by_cases hk : k = n + 1
    · exact ⟨[], by rw [hk]; simp⟩
    · obtain ⟨c, hc⟩ := ih (by omega)
      simp only [bodyS]
      split
      · exact ⟨c, hc⟩
      · exact ⟨c ++ [.st (a + n) (L.getD n 0)], by rw [hc, List.append_assoc]⟩

def epochS (a : Nat) (L : List Nat) : Nat → List Step
  | 0 => []
  | j + 1 => epochS a L j ++ [.st (a + 8 * j) (L.getD (8 * j) 0)]
theorem epochS_split (a : Nat) (L : List Nat) (j : Nat) (h : j ≤ 2) : ∃ c, writeS a L = bodyS a L 16 ++ (epochS a L j ++ c) := by
  have e : writeS a L = bodyS a L 16 ++ (epochS a L 2 ++ persistS a 16) := by simp [writeS, epochS]
  rcases (by omega : j = 0 ∨ j = 1 ∨ j = 2) with rfl | rfl | rfl
  · exact ⟨_, by rw [e]; simp [epochS]; rfl⟩
  · exact ⟨[.st (a + 8) (L.getD 8 0)] ++ persistS a 16, by rw [e]; simp [epochS]⟩
  · exact ⟨_, e⟩
/-- Where write stands. -/
structure WE (B : Nat) (w0 w : World) (b : DB) (m : Nat) (u : DS) (n8 : Nat) (L : List Nat) : Prop where
  dev : Dev B w b m u
  md : Mod w0 w b.has
  o : Blk w n8 220 (wcells L).toArray
theorem WE.mod {B : Nat} {w0 w w' : World} {b : DB} {m : Nat} {u u' : DS} {n8 : Nat} {L : List Nat} (h : WE B w0 w b m u n8 L) (hn : ¬ b.has n8) (hd : Dev B w' b m u') (hm : Mod w w' b.has) : WE B w0 w' b m u' n8 L :=
  ⟨hd, h.md.trans hm (fun k _ hk => hk), hm.blk h.o hn⟩

set_option maxRecDepth 100000 in
set_option maxHeartbeats 2000000 in
theorem rwrite_any (B : Nat) (b : DB) (m : Nat) (s : DS) (i ep : Nat) (rs : List Nat) (w : World) (h : Dev B w b m s) (hi : i < 2) (hm : 64 ≤ m) (hm2 : m ≤ 100000) (hr : RootsOk rs) (he : 0 < ep) (he2 : ep < 18446744073709551616) :
    Calls Tryz.prog 119 #[.pointer (some ⟨b.d, 0, none⟩), .int .i64 i, .agg (scells ep rs)] w fun e w' => e = .returned (.int .i64 (ecode (exec s (writeS (64 + i * 64) (slotEnc ep rs))).2)) ∧ Dev B w' b m (exec s (writeS (64 + i * 64) (slotEnc ep rs))).1 ∧ Mod w w' b.has := by
  have H := Lib.hid h
  have Hs := Lib.hid (fun w => senc_any ep rs w hr he he2)
  have hszS : Hid ((Tryz.prog.info? 172).map (·.size) = some (scells ep rs).size) := by show _ = _; rw [scells_size ep rs hr.len]; exact size172
  have hl16 : Hid ((slotEnc ep rs).length = 16) := outS_len ep rs 2
  have Hlt : Hid (lt64 (slotEnc ep rs)) := outS_lt ep rs he2 hr.lt 2 (Nat.le_refl _)
  have hsz : (Tryz.prog.info? 220).map (·.size) = some (wcells (slotEnc ep rs)).toArray.size := by rw [size220]; simp [wcells_len, hl16.out]
  obtain ⟨a, Ha⟩ : ∃ a, Hid (64 + i * 64 = a) := ⟨_, rfl⟩
  have ha : a + 16 ≤ 512 := by rw [← Ha.out]; omega
  have Hat := Lib.hid (fun w => slotat_any i w hi)
  rw [Ha.out] at Hat ⊢
  obtain ⟨L, HL⟩ : ∃ L, Hid (slotEnc ep rs = L) := ⟨_, rfl⟩
  rw [HL.out] at Hs hl16 Hlt hsz ⊢
  have HZ : Hid (Blk (w.alloc (.cells (scells ep rs) 172)) w.heap.size 172 (scells ep rs)) := Blk.new w 172 _
  clear h hr
  go_enter Tryz.func119, Tryz.ntmps119
  go_wp2_with fail
  refine (Hat.out _).mono ?_
  rintro e w' ⟨rfl, rfl⟩
  go_wp2_with (refine wpList_load_row rfl 172 (.tmp 5) rfl w.heap.size rfl 172 _ (0, 0) _ HZ.out Tryz.underlying172 rfl hszS.out ?_)
  refine (Hs.out _).mono ?_
  rintro e w1 ⟨rfl, hb1⟩
  have HD1 := Lib.hid ((H.out.below (below_box w (.cells (scells ep rs) 172)) (Nat.le_refl _)).below hb1 (Nat.le_refl _))
  have HM1 : Hid (Mod w w1 b.has) := ((Mod.refl w b.has).alloc (.cells (scells ep rs) 172)).trans ((Mod.of_below hb1).mono (S' := b.has) (fun k hk hk2 => by omega)) (fun k _ hk => hk)
  clear hb1 HZ
  have hsz16 : (wcells L).toArray.size = 16 := by simp [wcells_len, hl16.out]
  go_wp2_with (refine wpList_store_row rfl (.tmp 8) (.tmp 17) rfl rfl rfl (Blk.new _ _ _) hsz (by rw [hsz16]; rfl) (by simpa using wcells_one) ?_)
  intro w2 hB2 hM2
  obtain ⟨n8, Hn8⟩ : ∃ n, Hid (w1.heap.size = n) := ⟨_, rfl⟩
  have HW2 : Hid (WE B w w2 b m s n8 L) := by
    rw [← Hn8.out]
    have hb2 : Below w1.heap.size w1 w2 := Below.mod (below_box w1 _) hM2 (by simp) (fun k _ h => by omega)
    exact ⟨HD1.out.below hb2 (Nat.le_refl _), HM1.out.trans ((Mod.of_below hb2).mono (S' := b.has) (fun k hk hk2 => by omega)) (fun k _ hk => hk), hB2⟩
  have hn8 : ¬ b.has n8 := fun hk => by have := (HD1.out.lt n8 hk).2; rw [Hn8.out] at this; omega
  rw [Hn8.out]
  clear hB2 hM2 HD1 HM1
  go_wp2_with (refine wpList_load_row rfl 220 (.tmp 8) rfl n8 rfl 220 _ (0, 0) _ HW2.out.o Tryz.underlying220 rfl hsz ?_)
  have Hx : Hid (∀ k : Nat, k < 16 → ∀ w, (Instr.index 220 (.agg (wcells L).toArray) (.int .i64 (k : Int))).run Tryz.prog w = .ok (.int .u64 (L.getD k 0 : Nat)) w) := fun k hk =>
    run_index_one 16 k _ Tryz.underlying220 Tryz.underlying28 rfl (by kernel_rfl) hk (by rw [List.getElem?_toArray]; exact wcells_at L k (by rw [hl16.out]; exact hk))
  go_wp2_with fail
  go_loopw [19] (fun v19 wr => ∃ (k : Nat) (u : DS), v19 = .int .i64 k ∧ k ≤ 16 ∧ exec s (bodyS a L k) = (u, true) ∧ WE B w wr b m u n8 L) (fun v19 _ => 16 - (intOf v19).toNat)
  case atStart => exact ⟨0, s, rfl, Nat.zero_le _, rfl, HW2.out⟩
  case round =>
    clear HW2
    obtain ⟨k, u, rfl, hk, hu, hW⟩ := hrel
    have Hu := Lib.hid hu
    have HW := Lib.hid hW
    clear hu hW
    by_cases hk16 : k < 16
    · have hx := Hx.out k hk16
      have hlt := Hlt.out k
      have HS : Hid (bodyS a L (k + 1) = if k % 8 = 0 then bodyS a L k else bodyS a L k ++ [.st (a + k) (L.getD k 0)]) := rfl
      obtain ⟨v, Hv⟩ : ∃ v, Hid (L.getD k 0 = v) := ⟨_, rfl⟩
      rw [Hv.out] at hx hlt HS
      have htm : (k : Int).tmod 8 = ((k % 8 : Nat) : Int) := by rw [Int.tmod_eq_emod_of_nonneg (by omega)]; omega
      have hem : (k : Int) % 8 = ((k % 8 : Nat) : Int) := by omega
      by_cases h8 : k % 8 = 0
      · have HS2 : Hid (bodyS a L (k + 1) = bodyS a L k) := by show _ = _; rw [HS.out, if_pos h8]
        rw [h8] at htm hem
        clear HS
        go_wp2_with fail
        exact ⟨⟨k + 1, u, by go_num, by omega, by rw [HS2.out]; exact Hu.out, HW.out⟩, by simp [intOf]; omega⟩
      · have HS2 : Hid (bodyS a L (k + 1) = bodyS a L k ++ [.st (a + k) v]) := by show _ = _; rw [HS.out, if_neg h8]
        have h8b : ((k % 8 : Nat) : Int) ≠ 0 := by omega
        obtain ⟨r, Hr⟩ : ∃ r, Hid (k % 8 = r) := ⟨_, rfl⟩
        rw [Hr.out] at htm hem h8b
        have h8c : ((r : Int) == 0) = false := by rw [beq_eq_false_iff_ne]; exact h8b
        have h8d : (r == 0) = false := by rw [beq_eq_false_iff_ne]; omega
        have hak : (a : Int) + (k : Int) = ((a + k : Nat) : Int) := by omega
        obtain ⟨q, Hq⟩ : ∃ q, Hid (a + k = q) := ⟨_, rfl⟩
        have hq : q < 8 * m := by rw [← Hq.out]; omega
        have hq2 : q ≤ 1000 := by rw [← Hq.out]; omega
        rw [Hq.out] at hak HS2
        clear HS
        go_wp2_with fail
        refine (store_any B b m u q v wr HW.out.dev hq hm2).mono ?_
        rintro e w3 ⟨rfl, hd3, hm3⟩
        have HW3 := Lib.hid (HW.out.mod hn8 hd3 hm3)
        clear hd3 hm3
        cases hb : (exec u [.st q v]).2 with
        | false =>
          have HF : Hid (exec s (writeS a L) = exec u [.st q v]) := by
            show _ = _
            obtain ⟨c, hc⟩ := bodyS_split a L (k + 1) 16 (by omega)
            unfold writeS
            rw [hc, HS2.out, List.append_assoc, List.append_assoc, List.singleton_append]
            exact exec_next_no Hu.out hb
          have Hb := Lib.hid hb
          clear hb
          have he3 : ecode false = 3 := rfl
          rw [he3]
          go_wp2_with fail
          go_ret
          rw [HF.out, Hb.out]
          exact ⟨rfl, HW3.out.dev, HW3.out.md⟩
        | true =>
          have HF : Hid (exec s (bodyS a L (k + 1)) = ((exec u [.st q v]).1, true)) := by
            show _ = _
            rw [HS2.out, exec_next_yes Hu.out, ← hb]
          clear hb
          have he0 : ecode true = 0 := rfl
          rw [he0]
          go_wp2_with fail
          exact ⟨⟨k + 1, (exec u [.st q v]).1, by go_num, by omega, HF.out, HW3.out⟩, by simp [intOf]; omega⟩
    · obtain rfl : k = 16 := by omega
      clear Hx hsz
      rw [show ((16 : Nat) : Int) = 16 from rfl]
      go_wp2_with fail
      go_loopw [12] (fun v12 wr => ∃ (k : Nat) (x : DS), v12 = .int .i64 k ∧ k ≤ 16 ∧ k % 8 = 0 ∧ exec s (bodyS a L 16 ++ epochS a L (k / 8)) = (x, true) ∧ WE B w wr b m x n8 L) (fun v12 _ => 24 - (intOf v12).toNat)
      case atStart => exact ⟨0, u, rfl, Nat.zero_le _, rfl, by simpa [epochS] using Hu.out, HW.out⟩
      case round =>
        clear HW Hu
        obtain ⟨k, x, rfl, hj, hk0, hx, hW⟩ := hrel
        obtain ⟨j, Hjk⟩ : ∃ j, Hid (k / 8 = j) := ⟨_, rfl⟩
        have Hk : Hid (8 * j = k) := by have := Hjk.out; show _ = _; omega
        rw [Hjk.out] at hx
        have Hu := Lib.hid hx
        have HW := Lib.hid hW
        clear hx hW
        by_cases hj2 : k < 16
        · have hj2' : j < 2 := by have := Hk.out; omega
          have hlt := Hlt.out (8 * j)
          have c0 := HW.out.o.word (8 * j) (by rw [hl16.out]; omega)
          have HS : Hid (epochS a L (j + 1) = epochS a L j ++ [.st (a + 8 * j) (L.getD (8 * j) 0)]) := rfl
          obtain ⟨v, Hv⟩ : ∃ v, Hid (L.getD (8 * j) 0 = v) := ⟨_, rfl⟩
          rw [Hv.out] at c0 hlt HS
          have hak : (a : Int) + (k : Int) = ((a + k : Nat) : Int) := by omega
          rw [Hk.out] at c0 HS
          obtain ⟨q, Hq⟩ : ∃ q, Hid (a + k = q) := ⟨_, rfl⟩
          have hq : q < 8 * m := by rw [← Hq.out]; omega
          have hq2 : q ≤ 1000 := by rw [← Hq.out]; omega
          rw [Hq.out] at hak HS
          go_wp2_with fail
          refine (store_any B b m x q v wr HW.out.dev hq hm2).mono ?_
          rintro e w3 ⟨rfl, hd3, hm3⟩
          have HW3 := Lib.hid (HW.out.mod hn8 hd3 hm3)
          clear hd3 hm3
          cases hb : (exec x [.st q v]).2 with
          | false =>
            have HF : Hid (exec s (writeS a L) = exec x [.st q v]) := by
              show _ = _
              obtain ⟨c, hc⟩ := epochS_split a L (j + 1) (by omega)
              rw [hc, HS.out, List.append_assoc, List.singleton_append, ← List.append_assoc]
              exact exec_next_no Hu.out hb
            have Hb := Lib.hid hb
            clear hb
            have he3 : ecode false = 3 := rfl
            rw [he3]
            go_wp2_with fail
            go_ret
            rw [HF.out, Hb.out]
            exact ⟨rfl, HW3.out.dev, HW3.out.md⟩
          | true =>
            have HF : Hid (exec s (bodyS a L 16 ++ epochS a L (j + 1)) = ((exec x [.st q v]).1, true)) := by
              show _ = _
              rw [HS.out, ← List.append_assoc, exec_next_yes Hu.out, ← hb]
            clear hb
            have he0 : ecode true = 0 := rfl
            rw [he0]
            have Hk1 : Hid ((k + 8) / 8 = j + 1) := by have := Hk.out; show _ = _; omega
            go_wp2_with fail
            exact ⟨⟨k + 8, (exec x [.st q v]).1, by go_num, by omega, by omega, by rw [Hk1.out]; exact HF.out, HW3.out⟩, by simp [intOf]; omega⟩
        · obtain rfl : k = 16 := by omega
          obtain rfl : j = 2 := by have := Hk.out; omega
          have HF : Hid (exec s (writeS a L) = exec x (persistS a 16)) := by
            show _ = _
            have : writeS a L = (bodyS a L 16 ++ epochS a L 2) ++ persistS a 16 := by simp [writeS, epochS]
            rw [this, exec_ok (by rw [Hu.out]), Hu.out]
          go_wp2_with fail
          refine (persist_any B b m x a 16 wr HW.out.dev (by omega) (by omega) hm2).mono ?_
          rintro e w3 ⟨rfl, hd3, hm3⟩
          have HW3 := Lib.hid (HW.out.mod hn8 hd3 hm3)
          clear hd3 hm3
          go_wp2_with fail
          go_ret
          rw [HF.out]
          exact ⟨rfl, HW3.out.dev, HW3.out.md⟩
end Go.Proofs.YtcnjipicifkfjaaGreat

/- roots.Format, super.Encode, super.Write, blocks.Format. -/
namespace Go.Proofs.YtcnjipicifkfjaaGreat
open Go.RowKit
set_option linter.unusedVariables false
set_option linter.unusedSimpArgs false

/-- A device that doesn't stop. -/
structure DS.Live (s : DS) : Prop where
  a : s.armed = false
  d : s.dead = false
theorem fenceOne_flags (s : DS) (i : Nat) : (fenceOne s i).armed = s.armed ∧ (fenceOne s i).dead = s.dead := by
  unfold fenceOne
  split
  · exact ⟨rfl, rfl⟩
  · exact ⟨rfl, rfl⟩
theorem fenceTo_flags (s : DS) (i : Nat) : (fenceTo s i).armed = s.armed ∧ (fenceTo s i).dead = s.dead := by
  induction i with
  | zero => exact ⟨rfl, rfl⟩
  | succ i ih =>
    have := fenceOne_flags (fenceTo s i) i
    exact ⟨this.1.trans ih.1, this.2.trans ih.2⟩
theorem Step.run_flags (s : DS) (o : Step) : (Step.run s o).armed = s.armed ∧ (Step.run s o).dead = s.dead := by
  cases o with
  | st a v => exact ⟨rfl, rfl⟩
  | fl l =>
    show (if s.D.getD l false then _ else s : DS).armed = _ ∧ (if s.D.getD l false then _ else s : DS).dead = _
    by_cases hx : s.D.getD l false = true
    · rw [if_pos hx]; exact ⟨rfl, rfl⟩
    · rw [if_neg hx]; exact ⟨rfl, rfl⟩
  | fe => exact fenceTo_flags s _
theorem exec_live {s : DS} (h : s.Live) (os : List Step) : (exec s os).2 = true ∧ (exec s os).1.Live := by
  induction os generalizing s with
  | nil => exact ⟨rfl, h⟩
  | cons o os ih =>
    have hc : s.can = true := by simp [DS.can, h.a, h.d]
    simp only [exec, hc, if_true]
    have := Step.run_flags s.tick o
    exact ih ⟨by rw [this.1]; exact h.a, by rw [this.2]; exact h.d⟩
theorem exec_live_app {s : DS} (h : s.Live) (a c : List Step) : (exec s (a ++ c)).1 = (exec (exec s a).1 c).1 := by rw [exec_ok (exec_live h a).1]
theorem ecode_live {s : DS} (h : s.Live) (os : List Step) : ecode (exec s os).2 = 0 := by rw [(exec_live h os).1]; rfl

theorem RootsOk.zeros : RootsOk (zerosN 8) := ⟨rfl, fun i _ => by
  have : (zerosN 8).getD i 0 = 0 := by
    rw [List.getD_eq_getElem?_getD]
    unfold zerosN
    rw [List.getElem?_replicate]
    split <;> rfl
  rw [this]; decide⟩

theorem rformat_any (B : Nat) (b : DB) (m : Nat) (s : DS) (w : World) (h : Dev B w b m s) (hm : 64 ≤ m) (hm2 : m ≤ 100000) :
    Calls Tryz.prog 70 #[.pointer (some ⟨b.d, 0, none⟩)] w fun e w' => e = .returned (.int .i64 (ecode (exec s (writeS 64 (slotEnc 1 (zerosN 8)))).2)) ∧ Dev B w' b m (exec s (writeS 64 (slotEnc 1 (zerosN 8)))).1 ∧ Mod w w' b.has := by
  have HW := Lib.hid (rwrite_any B b m s 0 1 (zerosN 8) w h (by decide) hm hm2 RootsOk.zeros (by decide) (by decide))
  clear h
  have he : scells 1 (zerosN 8) = #[.int .u64 1, .int .i64 0, .int .i64 0, .int .i64 0, .int .i64 0, .int .i64 0, .int .i64 0, .int .i64 0, .int .i64 0] := rfl
  rw [he] at HW
  clear he
  go_enter Tryz.func70, Tryz.ntmps70
  go_wp2_with (go_at_call 119; refine HW.out.mono ?_; rintro e w' ⟨rfl, hd, hm⟩; have HD := Lib.hid hd; have HM := Lib.hid hm; clear hd hm)
  go_ret
  exact ⟨rfl, HD.out, HM.out⟩

/-- The first line of a device. -/
def superL (B id : Nat) : List Nat := [8390047168116913201, 1, B, id, 0, 0, 0, crcW [8390047168116913201, 1, B, id, 0, 0, 0]]
theorem superL_lt (B id : Nat) (hB : B ≤ 256) (hid : id < 18446744073709551616) : lt64 (superL B id) := by
  have := crcW_lt [8390047168116913201, 1, B, id, 0, 0, 0]
  unfold superL
  generalize crcW _ = c at *
  intro j
  rcases (by omega : j = 0 ∨ j = 1 ∨ j = 2 ∨ j = 3 ∨ j = 4 ∨ j = 5 ∨ j = 6 ∨ j = 7 ∨ 8 ≤ j) with rfl | rfl | rfl | rfl | rfl | rfl | rfl | rfl | h
  all_goals try (simp only [List.getD_cons_zero, List.getD_cons_succ]; omega)
  rw [List.getD_eq_getElem?_getD, List.getElem?_eq_none (by simpa using h)]
  decide
theorem size180 : (Tryz.prog.info? 180).map (·.size) = some 8 := by kernel_rfl

set_option maxRecDepth 100000 in
set_option maxHeartbeats 2000000 in
theorem supenc_any (B id : Nat) (w : World) (hB : B ≤ 256) (hid : id < 18446744073709551616) :
    Calls Tryz.prog 120 #[.agg #[.int .i64 B, .int .u64 id]] w fun e w' => e = .returned (.agg (wcells (superL B id)).toArray) ∧ Below w.heap.size w w' := by
  have Hlt := Lib.hid (superL_lt B id hB hid)
  obtain ⟨c, Hc⟩ : ∃ c, Hid (crcW [8390047168116913201, 1, B, id, 0, 0, 0] = c) := ⟨_, rfl⟩
  have hc := crcW_lt [8390047168116913201, 1, B, id, 0, 0, 0]
  have HS : Hid (superL B id = [8390047168116913201, 1, B, id, 0, 0, 0, c]) := by show _ = _; rw [← Hc.out]; rfl
  rw [Hc.out] at hc
  obtain ⟨n2, Hn2⟩ : ∃ n, Hid (w.heap.size + 1 = n) := ⟨_, rfl⟩
  obtain ⟨n3, Hn3⟩ : ∃ n, Hid (w.heap.size + 1 + 1 = n) := ⟨_, rfl⟩
  have h23 : ¬ n3 = n2 := by rw [← Hn2.out, ← Hn3.out]; omega
  have h23' : ¬ n2 = n3 := fun e => h23 e.symm
  have hn3 : ¬ n3 < w.heap.size := by rw [← Hn3.out]; omega
  have hn2 : ¬ n2 < w.heap.size := by rw [← Hn2.out]; omega
  have hsz : (Tryz.prog.info? 180).map (·.size) = some (wcells (superL B id)).toArray.size := by rw [size180, HS.out]; rfl
  go_enter Tryz.func120, Tryz.ntmps120
  go_wp2_with fail
  rw [Hn3.out, Hn2.out]
  obtain ⟨w1, Hw1⟩ : ∃ w1, Hid ((((w.alloc (Obj.cells #[.int .i64 B, .int .u64 id] 96)).alloc (Obj.cells (wcells (zerosN 8)).toArray 180)).alloc (Obj.cells (wcells [8390047168116913201, 1, B, id, 0, 0, 0, 0]).toArray 180)) = w1) := ⟨_, rfl⟩
  have HB1 : Hid (Below w.heap.size w w1) := by rw [← Hw1.out]; exact ((below_box w _).alloc (by simp) _).alloc (by simp; omega) _
  have HR1 : Hid (Blk w1 n2 180 (wcells (zerosN 8)).toArray) := by
    rw [← Hw1.out, ← Hn2.out]
    refine Lib.hid ?_
    have := (Blk.new (w.alloc (.cells #[.int .i64 B, .int .u64 id] 96)) 180 (wcells (zerosN 8)).toArray).alloc (.cells (wcells [8390047168116913201, 1, B, id, 0, 0, 0, 0]).toArray 180)
    simpa using this
  have HO1 : Hid (Blk w1 n3 180 (wcells [8390047168116913201, 1, B, id, 0, 0, 0, 0]).toArray) := by
    rw [← Hw1.out, ← Hn3.out]
    refine Lib.hid ?_
    have := Blk.new ((w.alloc (.cells #[.int .i64 B, .int .u64 id] 96)).alloc (.cells (wcells (zerosN 8)).toArray 180)) 180 (wcells [8390047168116913201, 1, B, id, 0, 0, 0, 0]).toArray
    simpa using this
  have hw : ((w.alloc (.cells #[.int .i64 B, .int .u64 id] 96)).alloc (.cells #[.int .u64 0, .int .u64 0, .int .u64 0, .int .u64 0, .int .u64 0, .int .u64 0, .int .u64 0, .int .u64 0] 180)).alloc (.cells #[.int .u64 8390047168116913201, .int .u64 1, .int .u64 B, .int .u64 id, .int .u64 0, .int .u64 0, .int .u64 0, .int .u64 0] 180) = w1 := Hw1.out
  rw [hw]
  clear hw
  refine (cwords_any _ 7 8 [8390047168116913201, 1, B, id, 0, 0, 0] w1 (by omega) ?_ (HO1.out.part 0 7 (by simp))).mono ?_
  · intro j hj
    have := Hlt.out j
    rw [HS.out] at this
    rcases (by simp at hj; omega : j = 0 ∨ j = 1 ∨ j = 2 ∨ j = 3 ∨ j = 4 ∨ j = 5 ∨ j = 6) with rfl | rfl | rfl | rfl | rfl | rfl | rfl <;> exact this
  rintro e w2 ⟨rfl, hb2⟩
  rw [Hc.out]
  have HB2 : Hid (Below w.heap.size w w2) := HB1.out.trans (hb2.mono HB1.out.size)
  have HR2 := Lib.hid (HR1.out.below hb2 HR1.out.lt)
  have HO2 := Lib.hid (HO1.out.below hb2 HO1.out.lt)
  have y7 : w2.cell? ⟨n3, 7, none⟩ = some (.int .u64 0) := HO2.out.cell 7
  have f7 := HO2.out.frozen 7
  clear hb2
  have HO3 : Hid (Blk (w2.setCell ⟨n3, 7, none⟩ (.int .u64 c)) n3 180 (wcells (superL B id)).toArray) := by rw [HS.out]; exact HO2.out.setw 7 c
  have HR3 : Hid (Blk (w2.setCell ⟨n3, 7, none⟩ (.int .u64 c)) n2 180 (wcells (zerosN 8)).toArray) := HR2.out.far (p := ⟨n3, 7, none⟩) h23' _
  have HB3 : Hid (Below w.heap.size w (w2.setCell ⟨n3, 7, none⟩ (.int .u64 c))) := HB2.out.setCell (p := ⟨n3, 7, none⟩) (by simp; omega) _
  go_wp2_with (first
    | (refine wpList_load_row rfl 180 (.tmp 3) rfl n3 rfl 180 _ (0, 0) _ HO3.out Tryz.underlying180 rfl hsz ?_)
    | (refine wpList_store_row rfl (.tmp 2) (.tmp 14) rfl rfl rfl HR3.out hsz (by rw [HS.out]; rfl) (by simpa using wcells_one) ?_))
  intro w4 hB4 hM4
  have HB4 := Lib.hid hB4
  have HG4 := Lib.hid (Below.mod HB3.out hM4 HB3.out.size (fun k _ e => by omega))
  clear hB4 hM4
  go_wp2_with fail
  refine bodyPost_ret (results_cell_row rfl _ _ n2 180 _ _ _ rfl HB4.out Tryz.underlying180 rfl hsz) rfl ?_
  exact ⟨rfl, HG4.out⟩
end Go.Proofs.YtcnjipicifkfjaaGreat
