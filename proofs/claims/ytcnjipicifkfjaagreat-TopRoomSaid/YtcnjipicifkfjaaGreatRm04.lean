/- bits.Bytes, crc.Words, Seal, Open. -/
import Derived.Test.YtcnjipicifkfjaaGreatRm03

namespace Go.Proofs.YtcnjipicifkfjaaGreat
open Go.RowKit
set_option linter.unusedVariables false
set_option linter.unusedSimpArgs false

/-- Words' cells. -/
def wcells (l : List Nat) : List Value := l.map fun x => .int .u64 (x : Nat)
theorem wcells_len (l : List Nat) : (wcells l).length = l.length := by simp [wcells]
theorem wcells_at (l : List Nat) (j : Nat) (h : j < l.length) : (wcells l)[j]? = some (.int .u64 (l.getD j 0 : Nat)) := by simp [wcells, h, List.getD_eq_getElem?_getD]
def byteL (x : Nat) : List Nat := (List.range 8).map fun i => x / 2 ^ (8 * i) % 256
def bytesOf (l : List Nat) : List Nat := l.flatMap byteL
theorem byteL_len (x : Nat) : (byteL x).length = 8 := by simp [byteL]
theorem bytesOf_lt (l : List Nat) (j : Nat) : (bytesOf l).getD j 0 < 256 := by
  rw [List.getD_eq_getElem?_getD]
  cases h : (bytesOf l)[j]? with
  | none => simp
  | some b =>
    have := List.mem_of_getElem? h
    simp only [bytesOf, byteL, List.mem_flatMap, List.mem_map] at this
    obtain ⟨_, _, _, _, rfl⟩ := this
    exact Nat.mod_lt _ (by decide)
theorem bcells_append (l m : List Nat) : bcells (l ++ m) = bcells l ++ bcells m := by simp [bcells]
theorem info5 : (Tryz.prog.info? 5).map (fun i => (i.size, i.bytes, i.zero)) = some (1, 1, some (.int .u8 0)) := by kernel_rfl
theorem info5s : ∃ i, Tryz.prog.info? 5 = some i ∧ i.zero = some (.int .u8 0) ∧ i.size = 1 ∧ i.bytes = 1 := by
  obtain ⟨i, hi, hi2⟩ := Option.map_eq_some_iff.1 info5
  simp only [Prod.mk.injEq] at hi2
  exact ⟨i, hi, hi2.2.2, hi2.1, hi2.2.1⟩

theorem sum_any (A : Option Addr) (n cap : Nat) (l : List Nat) (w : World) (hn : n ≤ 1000000) (hl : ∀ j, j < l.length → l.getD j 0 < 256) (hr : Rd w 1 A n (bcells l)) :
    Calls Tryz.prog 216 #[.slice A n cap] w fun e w' => e = .returned (.int .u32 ((crcNot (crcFold (crcNot 0) l) : Nat) : Int)) ∧ w = w' := by
  have H := Lib.hid (more_any 0 A n cap l w (by decide) hn hl hr)
  clear hl hr
  go_enter Tryz.func216, Tryz.ntmps216
  go_wp2_with (go_at_call 238; refine H.out.mono ?_; rintro e w' ⟨rfl, rfl⟩)
  go_ret
  exact ⟨rfl, rfl⟩

set_option maxRecDepth 100000 in
set_option maxHeartbeats 1000000 in
theorem bytes_any (A : Option Addr) (n cap : Nat) (l : List Nat) (w : World) (hn : n ≤ 1000) (hl : ∀ j, j < l.length → l.getD j 0 < 18446744073709551616) (hr : Rd w 1 A n (wcells l)) :
    Calls Tryz.prog 217 #[.slice A n cap] w fun e w' => ∃ A' cap', e = .returned (.slice A' (8 * n) cap') ∧ Own w' w.heap.size 5 1 A' (8 * n) cap' (bcells (bytesOf l)) ∧ Below w.heap.size w w' := by
  obtain ⟨i5, hi5, hz1, hz2, hz3⟩ := info5s
  have Hr := Lib.hid hr
  have Hln : Hid (l.length = n) := by have := hr.1; rw [wcells_len] at this; show _ = _; omega
  have Hl := Lib.hid hl
  clear hr hl
  have hmk : ∀ w : World, (Instr.makeSlice 92 (.int .i64 0) (.int .i64 (8 * (n : Int)))).run Tryz.prog w = .ok (.slice (some ⟨w.heap.size, 0, none⟩) 0 (8 * n)) (w.alloc (.cells (madeCells #[.int .u8 0] (8 * n)) 5)) := by
    intro w
    have hr := run_make (P := Tryz.prog) w 92 5 i5 (.int .u8 0) Tryz.underlying92 hi5 hz1 .i64 .i64 0 (8 * n) (by omega) (by omega) (by rw [hz3]; omega) (by omega)
    simp only [Int.toNat_zero, show (8 * (n : Int)).toNat = 8 * n by omega, hz2, Nat.mul_one] at hr
    rw [hr]
    simp [Value.cells]
  go_enter Tryz.func217, Tryz.ntmps217
  go_wp2_with fail
  obtain ⟨N, HN⟩ : ∃ N, Hid (w.heap.size = N) := ⟨_, rfl⟩
  have HO : Hid (Own (w.alloc (.cells (madeCells #[.int .u8 0] (8 * n)) 5)) w.heap.size 5 1 (some ⟨N, 0, none⟩) 0 (8 * n) []) := by
    refine ⟨by simp, .inr ⟨N, _, rfl, by rw [HN.out]; exact Nat.le_refl _, by rw [← HN.out]; exact Blk.new w 5 _, Nat.zero_le _, by unfold maxLen; omega, ?_, by simp⟩⟩
    rw [← Array.length_toList, toList_madeCells_one]
    simp
  have HB := Lib.hid ((Below.refl w.heap.size w).alloc (Nat.le_refl _) (.cells (madeCells #[.int .u8 0] (8 * n)) 5))
  rw [HN.out]
  clear hmk
  generalize w.alloc _ = w1 at *
  go_loopw [3, 13] (fun v3 v13 wr => ∃ (j : Nat) (A' : Option Addr) (cap' : Nat), v13 = .int .i64 j ∧ j ≤ n ∧ v3 = .slice A' (8 * j) cap' ∧ Own wr w.heap.size 5 1 A' (8 * j) cap' (bcells (bytesOf (l.take j))) ∧ Below w.heap.size w wr) (fun _ v13 _ => n - (intOf v13).toNat)
  case atStart => exact ⟨0, _, _, rfl, Nat.zero_le _, rfl, HO.out, HB.out⟩
  case round =>
    clear HO HB
    obtain ⟨j, A', cap', rfl, hj, rfl, hO, hb⟩ := hrel
    have HO := Lib.hid hO
    have HB := Lib.hid hb
    clear hO hb
    by_cases hjn : j < n
    · obtain ⟨g, off, rfl, hg, hc⟩ := (Hr.out.below HB.out (Nat.le_refl _)).2 (by omega)
      have c0 := hc j _ (wcells_at l j (by rw [Hln.out]; exact hjn))
      have hx := Hl.out j (by rw [Hln.out]; exact hjn)
      have HS : Hid (bytesOf (l.take (j + 1)) = bytesOf (l.take j) ++ byteL (l.getD j 0)) := by
        show _ = _
        have hjl : j < l.length := by rw [Hln.out]; exact hjn
        unfold bytesOf
        rw [List.take_add_one, List.getElem?_eq_getElem hjl, List.getD_eq_getElem?_getD, List.getElem?_eq_getElem hjl, List.flatMap_append]
        simp only [Option.toList_some, List.flatMap_cons, List.flatMap_nil, List.append_nil, Option.getD_some]
      clear hc
      generalize l.getD j 0 = x at *
      go_wp2_with fail
      go_loopw [3, 17] (fun v3 v17 wx => ∃ (k : Nat) (A2 : Option Addr) (cap2 : Nat), v17 = .int .i64 k ∧ k ≤ 8 ∧ v3 = .slice A2 (8 * j + k) cap2 ∧ Own wx w.heap.size 5 1 A2 (8 * j + k) cap2 (bcells (bytesOf (l.take j) ++ (byteL x).take k)) ∧ Below w.heap.size w wx) (fun _ v17 _ => 8 - (intOf v17).toNat)
      case atStart => exact ⟨0, _, _, rfl, Nat.zero_le _, rfl, by simpa using HO.out, HB.out⟩
      case round =>
        clear HO HB c0
        obtain ⟨k, A2, cap2, rfl, hk, rfl, hO, hb⟩ := hrel
        have HO := Lib.hid hO
        have HB := Lib.hid hb
        have hBs := hb.size
        clear hO hb
        by_cases hk8 : k < 8
        · have HT : Hid ((byteL x).take (k + 1) = (byteL x).take k ++ [x / 2 ^ (8 * k) % 256]) := by
            show _ = _
            rw [List.take_add_one]
            have : (byteL x)[k]? = some (x / 2 ^ (8 * k) % 256) := by simp [byteL, hk8]
            rw [this]
            rfl
          go_wp2_with (at_builtin; (refine append_one rfl (.tmp 20) (.tmp 27) 92 rfl w.heap.size 5 i5 _ 1 Tryz.underlying92 hi5 hz1 hz2 hz3 rfl A2 (8 * j + k) cap2 _ rfl HO.out _ rfl rfl (by unfold maxLen; omega) (by omega) hBs ?_))
          intro A5 cap5 w5 hO5 hM5 hat5
          have e : (Value.int .u8 ((x : Int) / 2 ^ (8 * k) % 256)) = .int .u8 ((x / 2 ^ (8 * k) % 256 : Nat) : Int) := by simp
          have HO5 : Hid (Own w5 w.heap.size 5 1 A5 (8 * j + (k + 1)) cap5 (bcells (bytesOf (l.take j) ++ (byteL x).take (k + 1)))) := by
            rw [e] at hO5
            rw [HT.out, ← List.append_assoc, bcells_append]
            exact hO5
          have HB5 := Lib.hid (Below.mod HB.out hM5 hBs (fun b _ ⟨a, ha, e⟩ => by rw [← e]; exact (HO.out.lt a ha).1))
          clear hO5 hM5 hat5 e
          go_wp2_with fail
          exact ⟨⟨k + 1, A5, cap5, by go_num, by omega, rfl, HO5.out, HB5.out⟩, by simp [intOf]; omega⟩
        · obtain rfl : k = 8 := by omega
          have h8 : (byteL x).take 8 = byteL x := List.take_of_length_le (by rw [byteL_len]; exact Nat.le_refl _)
          go_wp2_with fail
          exact ⟨⟨j + 1, A2, cap2, by go_num, by omega, by rw [show 8 * (j + 1) = 8 * j + 8 by omega], by rw [HS.out, ← h8, show 8 * (j + 1) = 8 * j + 8 by omega]; exact HO.out, HB.out⟩, by simp [intOf]; omega⟩
    · obtain rfl : j = n := by omega
      have h4 : l.take j = l := List.take_of_length_le (by rw [Hln.out]; exact Nat.le_refl _)
      rw [h4] at HO
      go_wp2_with fail
      go_ret
      exact ⟨A', cap', rfl, HO.out, HB.out⟩

/-- crc.Words, crc.Seal. -/
def crcW (l : List Nat) : Nat := crcNot (crcFold (crcNot 0) (bytesOf l))
theorem crcW_lt (l : List Nat) : crcW l < 4294967296 := crcNot_lt (crcFold_lt _ _ (by decide))
def sealN (n place : Nat) : Nat := crcW [n, place] * 4294967296 + n

theorem cwords_any (A : Option Addr) (n cap : Nat) (l : List Nat) (w : World) (hn : n ≤ 1000) (hl : ∀ j, j < l.length → l.getD j 0 < 18446744073709551616) (hr : Rd w 1 A n (wcells l)) :
    Calls Tryz.prog 171 #[.slice A n cap] w fun e w' => e = .returned (.int .u32 (crcW l : Nat)) ∧ Below w.heap.size w w' := by
  have H := Lib.hid (bytes_any A n cap l w hn hl hr)
  clear hl hr
  go_enter Tryz.func171, Tryz.ntmps171
  go_wp2_with fail
  refine H.out.mono ?_
  rintro e w1 ⟨A', cap', rfl, hO, hb⟩
  have HR := Lib.hid hO.rd
  have HB := Lib.hid hb
  clear hO hb
  go_wp2_with fail
  refine (sum_any A' (8 * n) cap' (bytesOf l) w1 (by omega) (fun j _ => bytesOf_lt l j) HR.out).mono ?_
  rintro e w2 ⟨rfl, rfl⟩
  go_wp2_with fail
  go_ret
  exact ⟨rfl, HB.out⟩

theorem rd_two (w : World) (a b : Nat) : Rd (w.alloc (.cells #[.int .u64 a, .int .u64 b] 28)) 1 (some ⟨w.heap.size, 0, none⟩) 2 (wcells [a, b]) := by
  refine ⟨rfl, fun _ => ⟨_, 0, rfl, by simp, fun j u hu => ?_⟩⟩
  rw [Nat.zero_add, (Blk.new w 28 _).cell]
  simpa [wcells] using hu
theorem or_u64_seal (c n : Nat) (hc : c < 4294967296) (hn : n < 4294967296) : bits .or .u64 ((c : Int) * 4294967296) (n : Int) = ((c * 4294967296 + n : Nat) : Int) := by
  rw [bits_join .u64 64 (by decide) wraps_u64 32 ((c : Int) * 4294967296) n (by omega) (by omega) (by omega) (by omega) (by omega) (by omega)]
  simp
theorem seal_any (n place : Nat) (w : World) (hn : n < 4294967296) (hp : place < 9223372036854775808) :
    Calls Tryz.prog 166 #[.int .u32 n, .int .i64 place] w fun e w' => e = .returned (.int .u64 (sealN n place : Nat)) ∧ Below w.heap.size w w' := by
  have h1 := or_u64_seal (crcW [n, place]) n (crcW_lt _) hn
  have h2 := crcW_lt [n, place]
  go_enter Tryz.func166, Tryz.ntmps166
  go_wp2_with fail
  refine (cwords_any _ 2 2 [n, place] _ (by omega) (fun j hj => by match j, hj with | 0, _ => simp; omega | 1, _ => simp; omega) (rd_two w n place)).mono ?_
  rintro e w1 ⟨rfl, hb⟩
  have HB := Lib.hid (((Below.refl w.heap.size w).alloc (Nat.le_refl _) _).trans (hb.mono (by simp)))
  clear hb
  go_wp2_with fail
  go_ret
  refine ⟨?_, HB.out⟩
  unfold sealN
  simp
theorem sealN_lt (n place : Nat) (hn : n < 4294967296) : sealN n place < 18446744073709551616 := by
  have := crcW_lt [n, place]
  unfold sealN
  omega
theorem sealN_mod (n place : Nat) (hn : n < 4294967296) : sealN n place % 4294967296 = n := by unfold sealN; omega
/-- crc.Open of what was sealed there. -/
theorem open_seal (n place : Nat) (w : World) (hn : n < 4294967296) (hp : place < 9223372036854775808) :
    Calls Tryz.prog 219 #[.int .u64 (sealN n place : Nat), .int .i64 place] w fun e w' => e = .returned (.tuple #[.int .u32 n, .bool true]) ∧ Below w.heap.size w w' := by
  have h1 := sealN_lt n place hn
  have h2 : ((sealN n place : Nat) : Int) % 4294967296 = (n : Int) := by have := sealN_mod n place hn; omega
  obtain ⟨s, Hs⟩ : ∃ s, Hid (sealN n place = s) := ⟨_, rfl⟩
  rw [Hs.out] at h1 h2 ⊢
  go_enter Tryz.func219, Tryz.ntmps219
  go_wp2_with fail
  refine (seal_any n place w hn hp).mono ?_
  rintro e w1 ⟨rfl, hb⟩
  rw [Hs.out]
  have HB := Lib.hid hb
  clear hb
  go_wp2_with fail
  go_ret2
  exact ⟨rfl, HB.out⟩
end Go.Proofs.YtcnjipicifkfjaaGreat

/- bits.Put, Get; class; geom; headers of blocks. -/
namespace Go.Proofs.YtcnjipicifkfjaaGreat
open Go.RowKit
set_option linter.unusedVariables false
set_option linter.unusedSimpArgs false

def putM (x : Int) (at_ k : Nat) (n : Int) : Int :=
  bits .or .u64 (bits .andNot .u64 x (IntKind.u64.wrap (((2 ^ k - 1 : Nat) : Int) * 2 ^ at_))) (bits .and .u64 (IntKind.u64.wrap (n * 2 ^ at_)) (IntKind.u64.wrap (((2 ^ k - 1 : Nat) : Int) * 2 ^ at_)))
def getM (x : Int) (at_ k : Nat) : Int := bits .and .u64 (x / 2 ^ at_) ((2 ^ k - 1 : Nat) : Int)
theorem put_any (x n : Int) (at_ k : Nat) (w : World) (h : at_ < 64) (hk : 0 < k) (hk2 : k < 64) :
    Calls Tryz.prog 165 #[.int .u64 x, .int .i64 at_, .int .i64 k, .int .u64 n] w fun e w' => e = .returned (.int .u64 (putM x at_ k n)) ∧ w = w' := by
  go_enter Tryz.func165, Tryz.ntmps165
  go_wp2_with (go_at_call 213; refine (mask_any _ _ hk hk2).mono ?_; rintro e w' ⟨rfl, rfl⟩)
  go_ret
  exact ⟨rfl, rfl⟩
theorem get_any (x : Int) (at_ k : Nat) (w : World) (h : at_ < 64) (hk : 0 < k) (hk2 : k < 64) :
    Calls Tryz.prog 220 #[.int .u64 x, .int .i64 at_, .int .i64 k] w fun e w' => e = .returned (.int .u64 (getM x at_ k)) ∧ w = w' := by
  go_enter Tryz.func220, Tryz.ntmps220
  go_wp2_with (go_at_call 213; refine (mask_any _ _ hk hk2).mono ?_; rintro e w' ⟨rfl, rfl⟩)
  go_ret
  exact ⟨rfl, rfl⟩
theorem cright_yes (k : Nat) (w : World) (h : k < 32) : Calls Tryz.prog 105 #[.int .i64 k] w fun e w' => e = .returned (.bool true) ∧ w = w' := by
  have hd : decide ((k : Int) < 32) = true := by rw [decide_eq_true_eq]; omega
  go_enter Tryz.func105, Tryz.ntmps105
  go_wp2_with fail
  go_ret
  exact ⟨rfl, rfl⟩

/-- Headers of blocks: free, or of small objects of a class. -/
def Hdr (kd cl : Nat) : Prop := (kd = 0 ∧ cl = 0) ∨ (kd = 1 ∧ cl < 32)
def hagg (kd cl : Nat) : Value := .agg #[.int .i64 kd, .int .i64 cl, .int .i64 0]
def hnum (kd cl : Nat) : Nat := kd + 4 * cl
theorem bhright_any (kd cl : Nat) (w : World) (h : Hdr kd cl) : Calls Tryz.prog 164 #[.agg #[.int .i64 kd, .int .i64 cl, .int .i64 0]] w fun e w' => e = .returned (.bool true) ∧ Below w.heap.size w w' := by
  have HB := fun o => Lib.hid ((Below.refl w.heap.size w).alloc (Nat.le_refl _) o)
  rcases h with ⟨rfl, rfl⟩ | ⟨rfl, h⟩
  · go_enter Tryz.func164, Tryz.ntmps164
    go_wp2_with fail
    go_ret
    exact ⟨rfl, (HB _).out⟩
  · go_enter Tryz.func164, Tryz.ntmps164
    go_wp2_with (go_at_call 105; refine (cright_yes _ _ h).mono ?_; rintro e w' ⟨rfl, rfl⟩)
    go_ret
    exact ⟨rfl, (HB _).out⟩
theorem puts_hdr (kd cl : Nat) (h : Hdr kd cl) : putM 0 0 2 kd = kd ∧ putM kd 2 6 cl = (hnum kd cl : Nat) ∧ putM (hnum kd cl : Nat) 8 16 0 = (hnum kd cl : Nat) := by
  rcases h with ⟨rfl, rfl⟩ | ⟨rfl, h⟩
  · decide
  · have : ∀ c : Fin 32, putM 0 0 2 (1 : Nat) = (1 : Nat) ∧ putM (1 : Nat) 2 6 (c.1 : Nat) = (hnum 1 c.1 : Nat) ∧ putM (hnum 1 c.1 : Nat) 8 16 0 = (hnum 1 c.1 : Nat) := by decide
    exact this ⟨cl, h⟩
theorem gets_hdr (kd cl : Nat) (h : Hdr kd cl) : getM (hnum kd cl : Nat) 0 2 = kd ∧ getM (hnum kd cl : Nat) 2 6 = cl ∧ getM (hnum kd cl : Nat) 8 16 = 0 := by
  rcases h with ⟨rfl, rfl⟩ | ⟨rfl, h⟩
  · decide
  · have : ∀ c : Fin 32, getM (hnum 1 c.1 : Nat) 0 2 = (1 : Nat) ∧ getM (hnum 1 c.1 : Nat) 2 6 = (c.1 : Nat) ∧ getM (hnum 1 c.1 : Nat) 8 16 = 0 := by decide
    exact this ⟨cl, h⟩
theorem hnum_lt (kd cl : Nat) (h : Hdr kd cl) : hnum kd cl < 256 ∧ kd < 2 ∧ cl < 32 := by
  unfold hnum
  rcases h with ⟨rfl, rfl⟩ | ⟨rfl, h⟩ <;> omega
/-- A header's word. -/
def hword (b kd cl : Nat) : Nat := sealN (hnum kd cl) (256 + b)

theorem bhenc_any (b kd cl : Nat) (w : World) (h : Hdr kd cl) (hb : b < 1000000) :
    Calls Tryz.prog 117 #[.int .i64 b, .agg #[.int .i64 kd, .int .i64 cl, .int .i64 0]] w fun e w' => e = .returned (.int .u64 (hword b kd cl : Nat)) ∧ Below w.heap.size w w' := by
  obtain ⟨p1, p2, p3⟩ := puts_hdr kd cl h
  have HP := Lib.hid (And.intro p1 (And.intro p2 p3))
  obtain ⟨n1, n2, n3⟩ := hnum_lt kd cl h
  obtain ⟨n, Hn⟩ : ∃ n, Hid (hnum kd cl = n) := ⟨_, rfl⟩
  have hsum : (256 : Int) + (b : Int) = ((256 + b : Nat) : Int) := by omega
  unfold hword
  rw [Hn.out] at HP n1 ⊢
  clear p1 p2 p3
  have Hh := Lib.hid h
  clear h
  obtain ⟨q, Hq⟩ : ∃ q, Hid (256 + b = q) := ⟨_, rfl⟩
  have hq : (256 : Int) + (b : Int) = (q : Int) := by rw [← Hq.out]; omega
  rw [Hq.out]
  have hq2 : q < 2000000 := by rw [← Hq.out]; omega
  clear hsum
  go_enter Tryz.func117, Tryz.ntmps117
  go_wp2_with fail
  refine (bhright_any kd cl _ Hh.out).mono ?_
  rintro e w1 ⟨rfl, hb1⟩
  have HB1 := Lib.hid (((Below.refl w.heap.size w).alloc (Nat.le_refl _) (.cells #[.int .i64 kd, .int .i64 cl, .int .i64 0] 178)).trans (hb1.mono (by simp)))
  have HX := Lib.hid (Blk.below (Blk.new w 178 #[.int .i64 kd, .int .i64 cl, .int .i64 0]) hb1 (by simp))
  obtain ⟨N, HN⟩ : ∃ N, Hid (w.heap.size = N) := ⟨_, rfl⟩
  have x0 := HX.out.cell 0
  have x1 := HX.out.cell 1
  have x2 := HX.out.cell 2
  simp only [List.getElem?_toArray, List.getElem?_cons_zero, List.getElem?_cons_succ] at x0 x1 x2
  rw [HN.out] at x0 x1 x2 ⊢
  clear hb1
  go_wp2_with fail
  refine (put_any 0 kd 0 2 w1 (by omega) (by omega) (by omega)).mono ?_
  rintro e w' ⟨rfl, rfl⟩
  rw [HP.out.1]
  go_wp2_with fail
  refine (put_any kd cl 2 6 w1 (by omega) (by omega) (by omega)).mono ?_
  rintro e w' ⟨rfl, rfl⟩
  rw [HP.out.2.1]
  go_wp2_with fail
  refine (put_any n 0 8 16 w1 (by omega) (by omega) (by omega)).mono ?_
  rintro e w' ⟨rfl, rfl⟩
  rw [HP.out.2.2]
  go_wp2_with fail
  refine (seal_any n q w1 (by omega) (by omega)).mono ?_
  rintro e w2 ⟨rfl, hb2⟩
  have HB2 := Lib.hid (HB1.out.trans (hb2.mono HB1.out.size))
  clear hb2
  go_wp2_with fail
  go_ret
  exact ⟨rfl, HN.out ▸ HB2.out⟩

theorem bhdec_any (b kd cl : Nat) (w : World) (h : Hdr kd cl) (hb : b < 1000000) :
    Calls Tryz.prog 178 #[.int .i64 b, .int .u64 (hword b kd cl : Nat)] w fun e w' => e = .returned (.tuple #[.agg #[.int .i64 kd, .int .i64 cl, .int .i64 0], .int .i64 0]) ∧ Below w.heap.size w w' := by
  obtain ⟨p1, p2, p3⟩ := gets_hdr kd cl h
  have HP := Lib.hid (And.intro p1 (And.intro p2 p3))
  obtain ⟨n1, n2, n3⟩ := hnum_lt kd cl h
  obtain ⟨n, Hn⟩ : ∃ n, Hid (hnum kd cl = n) := ⟨_, rfl⟩
  obtain ⟨q, Hq⟩ : ∃ q, Hid (256 + b = q) := ⟨_, rfl⟩
  have hq : (256 : Int) + (b : Int) = (q : Int) := by rw [← Hq.out]; omega
  have hq2 : q < 2000000 := by rw [← Hq.out]; omega
  have HE : Hid (∀ w, Calls Tryz.prog 117 #[.int .i64 b, .agg #[.int .i64 kd, .int .i64 cl, .int .i64 0]] w fun e w' => e = .returned (.int .u64 (hword b kd cl : Nat)) ∧ Below w.heap.size w w') := fun w => bhenc_any b kd cl w h hb
  unfold hword at HE ⊢
  rw [Hn.out] at HP n1 HE ⊢
  rw [Hq.out] at HE ⊢
  clear p1 p2 p3 h
  go_enter Tryz.func178, Tryz.ntmps178
  have HB0 := Lib.hid ((Below.refl w.heap.size w).alloc (Nat.le_refl _) (.cells #[.int .i64 0, .int .i64 0, .int .i64 0] 178))
  have HX0 := Lib.hid (Blk.new w 178 #[.int .i64 0, .int .i64 0, .int .i64 0])
  have hsz : w.heap.size < (w.alloc (.cells #[.int .i64 0, .int .i64 0, .int .i64 0] 178)).heap.size := by simp
  obtain ⟨N, HN⟩ : ∃ N, Hid (w.heap.size = N) := ⟨_, rfl⟩
  rw [HN.out] at HX0 hsz
  go_wp2_with fail
  rw [HN.out]
  generalize w.alloc _ = w0 at *
  refine (open_seal n q w0 (by omega) (by omega)).mono ?_
  rintro e w1 ⟨rfl, hb1⟩
  have HB1 := Lib.hid (HB0.out.trans (hb1.mono HB0.out.size))
  have HX1 := Lib.hid (HX0.out.below hb1 hsz)
  have hsz1 := Nat.lt_of_lt_of_le hsz hb1.size
  clear hb1 hsz HB0 HX0
  go_wp2_with fail
  refine (get_any n 0 2 w1 (by omega) (by omega) (by omega)).mono ?_
  rintro e w' ⟨rfl, rfl⟩
  rw [HP.out.1]
  go_wp2_with fail
  refine (get_any n 2 6 w1 (by omega) (by omega) (by omega)).mono ?_
  rintro e w' ⟨rfl, rfl⟩
  rw [HP.out.2.1]
  go_wp2_with fail
  refine (get_any n 8 16 w1 (by omega) (by omega) (by omega)).mono ?_
  rintro e w' ⟨rfl, rfl⟩
  rw [HP.out.2.2]
  go_wp2_with fail
  refine (HE.out _).mono ?_
  rintro e w2 ⟨rfl, hb2⟩
  have HB2 := Lib.hid ((HB1.out.alloc HB1.out.size _).trans (hb2.mono (by have := HB1.out.size; simp; omega)))
  have HX2 := Lib.hid (Blk.below (Blk.new w1 178 #[.int .i64 kd, .int .i64 cl, .int .i64 0]) hb2 (by simp))
  have HX3 := Lib.hid ((HX1.out.alloc (.cells #[.int .i64 kd, .int .i64 cl, .int .i64 0] 178)).below hb2 (by simp; omega))
  obtain ⟨M, HM⟩ : ∃ M, Hid (w1.heap.size = M) := ⟨_, rfl⟩
  have x0 := HX2.out.cell 0
  have x1 := HX2.out.cell 1
  have x2 := HX2.out.cell 2
  have y0 := HX3.out.cell 0
  have y1 := HX3.out.cell 1
  have y2 := HX3.out.cell 2
  have f0 := HX3.out.frozen 0
  have f1 := HX3.out.frozen 1
  have f2 := HX3.out.frozen 2
  simp only [List.getElem?_toArray, List.getElem?_cons_zero, List.getElem?_cons_succ] at x0 x1 x2 y0 y1 y2
  rw [HM.out] at x0 x1 x2 hsz1 ⊢
  clear hb2 HX2
  go_wp2_with fail
  have HF := Lib.hid (HX3.out.store3 (.int .i64 kd) (.int .i64 cl) (.int .i64 0))
  have HG := Lib.hid (below_only HB2.out (only_store3 w2 N (.int .i64 kd) (.int .i64 cl) (.int .i64 0)) HB2.out.size (by rw [← HN.out]; exact Nat.le_refl _))
  obtain ⟨z0, z1, z2, _⟩ := all3 HF.out
  unfold store3 at z0 z1 z2 HG
  refine bodyPost_ret (v := .tuple #[.agg #[.int .i64 kd, .int .i64 cl, .int .i64 0], .int .i64 0]) (by simp [results, Tryz.results178, go_sem, z0, z1, z2]) rfl ?_
  exact ⟨rfl, HG.out⟩
end Go.Proofs.YtcnjipicifkfjaaGreat

/- geom: where things lie. -/
namespace Go.Proofs.YtcnjipicifkfjaaGreat
open Go.RowKit
set_option linter.unusedVariables false
set_option linter.unusedSimpArgs false

theorem below_box (w : World) (o : Obj) : Below w.heap.size w (w.alloc o) := (Below.refl _ w).alloc (Nat.le_refl _) o
theorem gright_any (B : Nat) (w : World) (h1 : 2 ≤ B) (h2 : B ≤ 256) : Calls Tryz.prog 22 #[.agg #[.int .i64 B]] w fun e w' => e = .returned (.bool true) ∧ Below w.heap.size w w' := by
  go_enter Tryz.func22, Tryz.ntmps22
  go_wp2_with fail
  go_ret
  exact ⟨ret_bool (by simp; omega), below_box _ _⟩
theorem gwords_any (B : Nat) (w : World) (h2 : B ≤ 256) : Calls Tryz.prog 24 #[.agg #[.int .i64 B]] w fun e w' => e = .returned (.int .i64 ((B * 512 : Nat) : Int)) ∧ Below w.heap.size w w' := by
  go_enter Tryz.func24, Tryz.ntmps24
  go_wp2_with fail
  go_ret
  exact ⟨ret_int (by simp), below_box _ _⟩
theorem gmost_any (B : Nat) (w : World) (h1 : 2 ≤ B) (h2 : B ≤ 256) : Calls Tryz.prog 50 #[.agg #[.int .i64 B]] w fun e w' => e = .returned (.int .i64 (((B - 1) * 512 : Nat) : Int)) ∧ Below w.heap.size w w' := by
  obtain ⟨C, rfl⟩ : ∃ C, B = C + 1 := ⟨B - 1, by omega⟩
  go_enter Tryz.func50, Tryz.ntmps50
  go_wp2_with fail
  go_ret
  exact ⟨ret_int (by simp), below_box _ _⟩
theorem gfirst_any (B b : Nat) (w : World) (h1 : b < B) (h2 : B ≤ 256) : Calls Tryz.prog 158 #[.agg #[.int .i64 B], .int .i64 b] w fun e w' => e = .returned (.int .i64 ((b * 512 : Nat) : Int)) ∧ Below w.heap.size w w' := by
  go_enter Tryz.func158, Tryz.ntmps158
  go_wp2_with fail
  go_ret
  exact ⟨ret_int (by simp), below_box _ _⟩
theorem gheader_any (B b : Nat) (w : World) (h0 : 1 ≤ b) (h1 : b < B) (h2 : B ≤ 256) : Calls Tryz.prog 116 #[.agg #[.int .i64 B], .int .i64 b] w fun e w' => e = .returned (.int .i64 ((256 + b : Nat) : Int)) ∧ Below w.heap.size w w' := by
  go_enter Tryz.func116, Tryz.ntmps116
  go_wp2_with fail
  go_ret
  exact ⟨ret_int (by simp), below_box _ _⟩
theorem slotat_any (i : Nat) (w : World) (h : i < 2) : Calls Tryz.prog 169 #[.int .i64 i] w fun e w' => e = .returned (.int .i64 ((64 + i * 64 : Nat) : Int)) ∧ w = w' := by
  have hb : bits BinOp.and IntKind.i64 (i : Int) 1 = (i : Int) := by
    rcases (by omega : i = 0 ∨ i = 1) with rfl | rfl <;> decide
  go_enter Tryz.func169, Tryz.ntmps169
  go_wp2_with fail
  go_ret
  exact ⟨ret_int (by simp), rfl⟩
theorem gblockof_any (B at_ : Nat) (w : World) (h1 : at_ < B * 512) (h2 : B ≤ 256) : Calls Tryz.prog 133 #[.agg #[.int .i64 B], .int .i64 at_] w fun e w' => e = .returned (.int .i64 ((at_ / 512 : Nat) : Int)) ∧ Below w.heap.size w w' := by
  obtain ⟨q, Hq⟩ : ∃ q, Hid (at_ / 512 = q) := ⟨_, rfl⟩
  have hq : (at_ : Int) / 512 = (q : Int) := by rw [← Hq.out]; omega
  have hqb : q < 1000000 := by rw [← Hq.out]; omega
  obtain ⟨W, HW⟩ : ∃ W, Hid (B * 512 = W) := ⟨_, rfl⟩
  rw [HW.out] at h1
  rw [Hq.out]
  go_enter Tryz.func133, Tryz.ntmps133
  have HB := Lib.hid (below_box w (.cells #[.int .i64 B] 64))
  go_wp2_with fail
  generalize w.alloc _ = w0 at *
  refine (gwords_any B w0 h2).mono ?_
  rintro e w1 ⟨rfl, hb⟩
  rw [HW.out]
  have HB1 := Lib.hid (HB.out.trans (hb.mono HB.out.size))
  clear hb HB
  go_wp2_with fail
  go_ret
  exact ⟨rfl, HB1.out⟩
theorem gdata_any (B at_ : Nat) (w : World) (h0 : 512 ≤ at_) (h1 : at_ < B * 512) (h2 : B ≤ 256) : Calls Tryz.prog 239 #[.agg #[.int .i64 B], .int .i64 at_] w fun e w' => e = .returned (.bool true) ∧ Below w.heap.size w w' := by
  have H := Lib.hid (fun w => gblockof_any B at_ w h1 h2)
  obtain ⟨q, Hq⟩ : ∃ q, Hid (at_ / 512 = q) := ⟨_, rfl⟩
  have hq : 1 ≤ q := by rw [← Hq.out]; omega
  clear h1 h2
  go_enter Tryz.func239, Tryz.ntmps239
  have HB := Lib.hid (below_box w (.cells #[.int .i64 B] 64))
  go_wp2_with fail
  generalize w.alloc _ = w0 at *
  refine (H.out w0).mono ?_
  rintro e w1 ⟨rfl, hb⟩
  rw [Hq.out]
  have HB1 := Lib.hid (HB.out.trans (hb.mono HB.out.size))
  clear hb HB
  go_wp2_with fail
  go_ret
  exact ⟨ret_bool (by simp; omega), HB1.out⟩
end Go.Proofs.YtcnjipicifkfjaaGreat

/- class: sizes of small objects. -/
namespace Go.Proofs.YtcnjipicifkfjaaGreat
open Go.RowKit
set_option linter.unusedVariables false
set_option linter.unusedSimpArgs false

def sizesL : List Nat := [2, 3, 4, 5, 6, 7, 8, 10, 12, 14, 16, 18, 20, 24, 28, 32, 36, 40, 46, 51, 56, 64, 73, 85, 92, 102, 113, 128, 146, 170, 204, 256]
def csize (k : Nat) : Nat := sizesL.getD k 0
def ncells (l : List Nat) : List Value := l.map fun x => .int .i64 (x : Nat)
theorem size245 : (Tryz.prog.info? 245).map (·.size) = some (ncells sizesL).toArray.size := by kernel_rfl
def zeros32 : Array Value := #[.int .i64 0, .int .i64 0, .int .i64 0, .int .i64 0, .int .i64 0, .int .i64 0, .int .i64 0, .int .i64 0, .int .i64 0, .int .i64 0, .int .i64 0, .int .i64 0, .int .i64 0, .int .i64 0, .int .i64 0, .int .i64 0, .int .i64 0, .int .i64 0, .int .i64 0, .int .i64 0, .int .i64 0, .int .i64 0, .int .i64 0, .int .i64 0, .int .i64 0, .int .i64 0, .int .i64 0, .int .i64 0, .int .i64 0, .int .i64 0, .int .i64 0, .int .i64 0]
set_option maxRecDepth 10000 in
theorem sizes_any (w : World) : Calls Tryz.prog 191 #[] w fun e w' => e = .returned (.agg (ncells sizesL).toArray) ∧ Below w.heap.size w w' := by
  go_enter Tryz.func191, Tryz.ntmps191
  obtain ⟨N, HN⟩ : ∃ N, Hid (w.heap.size = N) := ⟨_, rfl⟩
  have HX := Lib.hid (Blk.new w 245 zeros32)
  have HB := Lib.hid (below_box w (.cells zeros32 245))
  unfold zeros32 at HX HB
  rw [HN.out] at HX
  refine wp_seq_k fun K0 hK0 => ?_
  have HC0 := Lib.hid hK0
  clear hK0
  go_wp2_with fail
  rw [HN.out]
  generalize w.alloc _ = w0 at *
  refine HC0.out _ _ ?_
  clear HC0
  go_wp2_with (refine wpList_store_row (cs := (ncells sizesL).toArray) rfl (.tmp 0) (.tmp 1) rfl rfl rfl HX.out size245 rfl (by decide) ?_)
  intro w1 hB1 hM1
  have HX1 := Lib.hid hB1
  have HB1 := Lib.hid (Below.mod HB.out hM1 HB.out.size (fun k _ h => by rw [h, ← HN.out]; exact Nat.le_refl _))
  clear hB1 hM1
  go_wp2_with fail
  refine bodyPost_ret (results_cell_row rfl _ _ N 245 _ _ _ rfl HX1.out Tryz.underlying245 rfl size245) rfl ?_
  exact ⟨rfl, HB1.out⟩
theorem csize_pos (k : Nat) (h : k < 32) : 2 ≤ csize k ∧ csize k ≤ 256 := by
  have : ∀ k : Fin 32, 2 ≤ csize k.1 ∧ csize k.1 ≤ 256 := by decide
  exact this ⟨k, h⟩
theorem cwords'_any (k : Nat) (w : World) (h : k < 32) : Calls Tryz.prog 146 #[.int .i64 k] w fun e w' => e = .returned (.int .i64 (csize k : Nat)) ∧ Below w.heap.size w w' := by
  have hx : ∀ w, (Instr.index 245 (.agg (ncells sizesL).toArray) (.int .i64 (k : Int))).run Tryz.prog w = .ok (.int .i64 (csize k : Nat)) w :=
    run_index_one 32 k _ Tryz.underlying245 Tryz.underlying3 rfl (by kernel_rfl) h (by
      rw [List.getElem?_toArray]
      unfold ncells csize
      rw [List.getElem?_map, List.getD_eq_getElem?_getD]
      have : k < sizesL.length := h
      simp [this])
  obtain ⟨A, HA⟩ : ∃ A, Hid ((ncells sizesL).toArray = A) := ⟨_, rfl⟩
  rw [HA.out] at hx
  go_enter Tryz.func146, Tryz.ntmps146
  go_wp2_with fail
  refine (cright_yes k w h).mono ?_
  rintro e w' ⟨rfl, rfl⟩
  go_wp2_with fail
  refine (sizes_any w).mono ?_
  rintro e w1 ⟨rfl, hb⟩
  have HB := Lib.hid hb
  clear hb
  rw [HA.out]
  go_wp2_with fail
  go_ret
  exact ⟨rfl, HB.out⟩
theorem cmost_any (w : World) : Calls Tryz.prog 145 #[] w fun e w' => e = .returned (.int .i64 256) ∧ Below w.heap.size w w' := by
  go_enter Tryz.func145, Tryz.ntmps145
  go_wp2_with fail
  refine (cwords'_any 31 w (by omega)).mono ?_
  rintro e w1 ⟨rfl, hb⟩
  have HB := Lib.hid hb
  clear hb
  go_wp2_with fail
  go_ret
  exact ⟨rfl, HB.out⟩
def ccells (k : Nat) : Nat := 512 / csize k
theorem ccells_any (k : Nat) (w : World) (h : k < 32) : Calls Tryz.prog 108 #[.int .i64 k] w fun e w' => e = .returned (.int .i64 (ccells k : Nat)) ∧ Below w.heap.size w w' := by
  have Hw := Lib.hid (fun w => cwords'_any k w h)
  obtain ⟨h1, h2⟩ := csize_pos k h
  unfold ccells
  obtain ⟨c, Hc⟩ : ∃ c, Hid (csize k = c) := ⟨_, rfl⟩
  rw [Hc.out] at h1 h2 ⊢
  have hq : (512 : Int) / (c : Int) = ((512 / c : Nat) : Int) := by simp
  have hq2 : 512 / c ≤ 512 := Nat.div_le_self _ _
  obtain ⟨q, Hq⟩ : ∃ q, Hid (512 / c = q) := ⟨_, rfl⟩
  rw [Hq.out] at hq hq2 ⊢
  go_enter Tryz.func108, Tryz.ntmps108
  go_wp2_with fail
  refine (cright_yes k w h).mono ?_
  rintro e w' ⟨rfl, rfl⟩
  go_wp2_with fail
  refine (Hw.out w).mono ?_
  rintro e w1 ⟨rfl, hb⟩
  have HB := Lib.hid hb
  clear hb
  rw [Hc.out]
  go_wp2_with fail
  go_ret
  exact ⟨ret_int hq, HB.out⟩
/-- The least class whose cells have so many words. -/
def cof (n : Nat) : Nat := (sizesL.filter (· < n)).length
theorem cof_le (n k : Nat) (hn : n ≤ 256) (hk : k < 32) : (n ≤ csize k) ↔ cof n ≤ k := by
  have : ∀ n : Fin 257, ∀ k : Fin 32, (n.1 ≤ csize k.1) ↔ cof n.1 ≤ k.1 := by decide +kernel
  exact this ⟨n, by omega⟩ ⟨k, hk⟩
theorem cof_lt (n : Nat) (hn : n ≤ 256) : cof n < 32 := by
  have := (cof_le n 31 hn (by omega)).1 hn
  omega
theorem cof_any (n : Nat) (w : World) (h1 : 1 ≤ n) (h2 : n ≤ 256) : Calls Tryz.prog 104 #[.int .i64 n] w fun e w' => e = .returned (.tuple #[.int .i64 (cof n : Nat), .bool true]) ∧ Below w.heap.size w w' := by
  have Hle : Hid (∀ k, k < 32 → ((n ≤ csize k) ↔ cof n ≤ k)) := fun k hk => cof_le n k h2 hk
  have hc := cof_lt n h2
  obtain ⟨c, Hc⟩ : ∃ c, Hid (cof n = c) := ⟨_, rfl⟩
  rw [Hc.out] at hc Hle ⊢
  go_enter Tryz.func104, Tryz.ntmps104
  go_wp2_with fail
  refine (cmost_any w).mono ?_
  rintro e w1 ⟨rfl, hb⟩
  have HB := Lib.hid hb
  clear hb
  go_wp2_with fail
  go_loopw [4, 5] (fun v4 v5 wr => ∃ lo hi : Nat, v4 = .int .i64 lo ∧ v5 = .int .i64 hi ∧ lo ≤ c ∧ c ≤ hi ∧ hi ≤ 31 ∧ Below w.heap.size w wr) (fun v4 v5 _ => (intOf v5).toNat - (intOf v4).toNat)
  case atStart => exact ⟨0, 31, rfl, rfl, Nat.zero_le _, by omega, Nat.le_refl _, HB.out⟩
  case round =>
    clear HB
    obtain ⟨lo, hi, rfl, rfl, ha, hb, hc31, hB⟩ := hrel
    have HB := Lib.hid hB
    clear hB
    by_cases hlt : lo < hi
    · obtain ⟨mid, Hm⟩ : ∃ mid, Hid ((lo + hi) / 2 = mid) := ⟨_, rfl⟩
      have hm1 : lo ≤ mid := by rw [← Hm.out]; omega
      have hm2 : mid < hi := by rw [← Hm.out]; omega
      have hm3 : ((lo : Int) + (hi : Int)) / 2 = (mid : Int) := by rw [← Hm.out]; omega
      have hl := Hle.out mid (by omega)
      go_wp2_with fail
      refine (cwords'_any mid wr (by omega)).mono ?_
      rintro e w2 ⟨rfl, hb2⟩
      have HB2 := Lib.hid (HB.out.trans (hb2.mono HB.out.size))
      clear hb2 HB
      obtain ⟨s, Hs⟩ : ∃ s, Hid (csize mid = s) := ⟨_, rfl⟩
      rw [Hs.out] at hl ⊢
      by_cases hns : n ≤ s
      · have hcm := hl.1 hns
        go_wp2_with fail
        exact ⟨⟨lo, mid, rfl, rfl, ha, hcm, by omega, HB2.out⟩, by simp [intOf]; omega⟩
      · have hcm : ¬ c ≤ mid := fun h => hns (hl.2 h)
        go_wp2_with fail
        exact ⟨⟨mid + 1, hi, by go_num, rfl, by omega, hb, hc31, HB2.out⟩, by simp [intOf]; omega⟩
    · obtain rfl : lo = hi := by omega
      obtain rfl : lo = c := by omega
      go_wp2_with fail
      go_ret2
      exact ⟨rfl, HB.out⟩
theorem csz_any (p d : Nat) (w : World) (hp : p ≤ 63) (hd : d ≤ 16384) : Calls Tryz.prog 103 #[.int .i64 p, .int .i64 d] w fun e w' => e = .returned (.tuple #[.int .i64 ((1 + p + d : Nat) : Int), .int .i64 0]) ∧ w = w' := by
  go_enter Tryz.func103, Tryz.ntmps103
  go_wp2_with fail
  go_ret2
  exact ⟨rfl, rfl⟩
end Go.Proofs.YtcnjipicifkfjaaGreat
