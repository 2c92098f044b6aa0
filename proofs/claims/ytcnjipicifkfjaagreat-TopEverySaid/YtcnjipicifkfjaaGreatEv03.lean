/- bits.Put, Get; class; geom; headers of blocks. -/
import Derived.Test.YtcnjipicifkfjaaGreatEv02

namespace Go.Proofs.YtcnjipicifkfjaaGreat
open Go.RowKit
set_option linter.unusedVariables false
set_option linter.unusedSimpArgs false

def putM (x : Int) (at_ k : Nat) (n : Int) : Int :=
  bits .or .u64 (bits .andNot .u64 x (IntKind.u64.wrap (((2 ^ k - 1 : Nat) : Int) * 2 ^ at_))) (bits .and .u64 (IntKind.u64.wrap (n * 2 ^ at_)) (IntKind.u64.wrap (((2 ^ k - 1 : Nat) : Int) * 2 ^ at_)))
def getM (x : Int) (at_ k : Nat) : Int := bits .and .u64 (x / 2 ^ at_) ((2 ^ k - 1 : Nat) : Int)
theorem put_any (x n : Int) (at_ k : Nat) (w : World) (h : at_ < 64) (hk : 0 < k) (hk2 : k < 64) :
    Calls Tryz.prog 165 #[.int .u64 x, .int .i64 at_, .int .i64 k, .int .u64 n] w fun e w' => e = .returned (.int .u64 (putM x at_ k n)) ∧ w = w' := by
  go_enter Tryz.func165, Tryz.ntmps165
  go_wp2_with (go_at_call 213; refine (mask_any _ _ hk hk2).mono ?_; rintro e w' ⟨rfl, rfl⟩)
  go_ret
  exact ⟨rfl, rfl⟩
theorem get_any (x : Int) (at_ k : Nat) (w : World) (h : at_ < 64) (hk : 0 < k) (hk2 : k < 64) :
    Calls Tryz.prog 220 #[.int .u64 x, .int .i64 at_, .int .i64 k] w fun e w' => e = .returned (.int .u64 (getM x at_ k)) ∧ w = w' := by
  go_enter Tryz.func220, Tryz.ntmps220
  go_wp2_with (go_at_call 213; refine (mask_any _ _ hk hk2).mono ?_; rintro e w' ⟨rfl, rfl⟩)
  go_ret
  exact ⟨rfl, rfl⟩
theorem cright_yes (k : Nat) (w : World) (h : k < 32) : Calls Tryz.prog 105 #[.int .i64 k] w fun e w' => e = .returned (.bool true) ∧ w = w' := by
  have hd : decide ((k : Int) < 32) = true := by rw [decide_eq_true_eq]; omega
  go_enter Tryz.func105, Tryz.ntmps105
  go_wp2_with fail
  go_ret
  exact ⟨rfl, rfl⟩

/-- Headers of blocks: free, or of small objects of a class. -/
def Hdr (kd cl : Nat) : Prop := (kd = 0 ∧ cl = 0) ∨ (kd = 1 ∧ cl < 32)
def hagg (kd cl : Nat) : Value := .agg #[.int .i64 kd, .int .i64 cl, .int .i64 0]
def hnum (kd cl : Nat) : Nat := kd + 4 * cl
theorem bhright_any (kd cl : Nat) (w : World) (h : Hdr kd cl) : Calls Tryz.prog 164 #[.agg #[.int .i64 kd, .int .i64 cl, .int .i64 0]] w fun e w' => e = .returned (.bool true) ∧ Below w.heap.size w w' := by
  have HB := fun o => Lib.hid ((Below.refl w.heap.size w).alloc (Nat.le_refl _) o)
  rcases h with ⟨rfl, rfl⟩ | ⟨rfl, h⟩
  · go_enter Tryz.func164, Tryz.ntmps164
    go_wp2_with fail
    go_ret
    exact ⟨rfl, (HB _).out⟩
  · go_enter Tryz.func164, Tryz.ntmps164
    go_wp2_with (go_at_call 105; refine (cright_yes _ _ h).mono ?_; rintro e w' ⟨rfl, rfl⟩)
    go_ret
    exact ⟨rfl, (HB _).out⟩
theorem puts_hdr (kd cl : Nat) (h : Hdr kd cl) : putM 0 0 2 kd = kd ∧ putM kd 2 6 cl = (hnum kd cl : Nat) ∧ putM (hnum kd cl : Nat) 8 16 0 = (hnum kd cl : Nat) := by
  rcases h with ⟨rfl, rfl⟩ | ⟨rfl, h⟩
  · decide
  · have : ∀ c : Fin 32, putM 0 0 2 (1 : Nat) = (1 : Nat) ∧ putM (1 : Nat) 2 6 (c.1 : Nat) = (hnum 1 c.1 : Nat) ∧ putM (hnum 1 c.1 : Nat) 8 16 0 = (hnum 1 c.1 : Nat) := by decide
    exact this ⟨cl, h⟩
theorem gets_hdr (kd cl : Nat) (h : Hdr kd cl) : getM (hnum kd cl : Nat) 0 2 = kd ∧ getM (hnum kd cl : Nat) 2 6 = cl ∧ getM (hnum kd cl : Nat) 8 16 = 0 := by
  rcases h with ⟨rfl, rfl⟩ | ⟨rfl, h⟩
  · decide
  · have : ∀ c : Fin 32, getM (hnum 1 c.1 : Nat) 0 2 = (1 : Nat) ∧ getM (hnum 1 c.1 : Nat) 2 6 = (c.1 : Nat) ∧ getM (hnum 1 c.1 : Nat) 8 16 = 0 := by decide
    exact this ⟨cl, h⟩
theorem hnum_lt (kd cl : Nat) (h : Hdr kd cl) : hnum kd cl < 256 ∧ kd < 2 ∧ cl < 32 := by
  unfold hnum
  rcases h with ⟨rfl, rfl⟩ | ⟨rfl, h⟩ <;> omega
/-- A header's word. -/
def hword (b kd cl : Nat) : Nat := sealN (hnum kd cl) (256 + b)

theorem bhenc_any (b kd cl : Nat) (w : World) (h : Hdr kd cl) (hb : b < 1000000) :
    Calls Tryz.prog 117 #[.int .i64 b, .agg #[.int .i64 kd, .int .i64 cl, .int .i64 0]] w fun e w' => e = .returned (.int .u64 (hword b kd cl : Nat)) ∧ Below w.heap.size w w' := by
  obtain ⟨p1, p2, p3⟩ := puts_hdr kd cl h
  have HP := Lib.hid (And.intro p1 (And.intro p2 p3))
  obtain ⟨n1, n2, n3⟩ := hnum_lt kd cl h
  obtain ⟨n, Hn⟩ : ∃ n, Hid (hnum kd cl = n) := ⟨_, rfl⟩
  have hsum : (256 : Int) + (b : Int) = ((256 + b : Nat) : Int) := by omega
  unfold hword
  rw [Hn.out] at HP n1 ⊢
  clear p1 p2 p3
  have Hh := Lib.hid h
  clear h
  obtain ⟨q, Hq⟩ : ∃ q, Hid (256 + b = q) := ⟨_, rfl⟩
  have hq : (256 : Int) + (b : Int) = (q : Int) := by rw [← Hq.out]; omega
  rw [Hq.out]
  have hq2 : q < 2000000 := by rw [← Hq.out]; omega
  clear hsum
  go_enter Tryz.func117, Tryz.ntmps117
  go_wp2_with fail
  refine (bhright_any kd cl _ Hh.out).mono ?_
  rintro e w1 ⟨rfl, hb1⟩
  have HB1 := Lib.hid (((Below.refl w.heap.size w).alloc (Nat.le_refl _) (.cells #[.int .i64 kd, .int .i64 cl, .int .i64 0] 178)).trans (hb1.mono (by simp)))
  have HX := Lib.hid (Blk.below (Blk.new w 178 #[.int .i64 kd, .int .i64 cl, .int .i64 0]) hb1 (by simp))
  obtain ⟨N, HN⟩ : ∃ N, Hid (w.heap.size = N) := ⟨_, rfl⟩
  have x0 := HX.out.cell 0
  have x1 := HX.out.cell 1
  have x2 := HX.out.cell 2
  simp only [List.getElem?_toArray, List.getElem?_cons_zero, List.getElem?_cons_succ] at x0 x1 x2
  rw [HN.out] at x0 x1 x2 ⊢
  clear hb1
  go_wp2_with fail
  refine (put_any 0 kd 0 2 w1 (by omega) (by omega) (by omega)).mono ?_
  rintro e w' ⟨rfl, rfl⟩
  rw [HP.out.1]
  go_wp2_with fail
  refine (put_any kd cl 2 6 w1 (by omega) (by omega) (by omega)).mono ?_
  rintro e w' ⟨rfl, rfl⟩
  rw [HP.out.2.1]
  go_wp2_with fail
  refine (put_any n 0 8 16 w1 (by omega) (by omega) (by omega)).mono ?_
  rintro e w' ⟨rfl, rfl⟩
  rw [HP.out.2.2]
  go_wp2_with fail
  refine (seal_any n q w1 (by omega) (by omega)).mono ?_
  rintro e w2 ⟨rfl, hb2⟩
  have HB2 := Lib.hid (HB1.out.trans (hb2.mono HB1.out.size))
  clear hb2
  go_wp2_with fail
  go_ret
  exact ⟨rfl, HN.out ▸ HB2.out⟩

theorem bhdec_any (b kd cl : Nat) (w : World) (h : Hdr kd cl) (hb : b < 1000000) :
    Calls Tryz.prog 178 #[.int .i64 b, .int .u64 (hword b kd cl : Nat)] w fun e w' => e = .returned (.tuple #[.agg #[.int .i64 kd, .int .i64 cl, .int .i64 0], .int .i64 0]) ∧ Below w.heap.size w w' := by
  obtain ⟨p1, p2, p3⟩ := gets_hdr kd cl h
  have HP := Lib.hid (And.intro p1 (And.intro p2 p3))
  obtain ⟨n1, n2, n3⟩ := hnum_lt kd cl h
  obtain ⟨n, Hn⟩ : ∃ n, Hid (hnum kd cl = n) := ⟨_, rfl⟩
  obtain ⟨q, Hq⟩ : ∃ q, Hid (256 + b = q) := ⟨_, rfl⟩
  have hq : (256 : Int) + (b : Int) = (q : Int) := by rw [← Hq.out]; omega
  have hq2 : q < 2000000 := by rw [← Hq.out]; omega
  have HE : Hid (∀ w, Calls Tryz.prog 117 #[.int .i64 b, .agg #[.int .i64 kd, .int .i64 cl, .int .i64 0]] w fun e w' => e = .returned (.int .u64 (hword b kd cl : Nat)) ∧ Below w.heap.size w w') := fun w => bhenc_any b kd cl w h hb
  unfold hword at HE ⊢
  rw [Hn.out] at HP n1 HE ⊢
  rw [Hq.out] at HE ⊢
  clear p1 p2 p3 h
  go_enter Tryz.func178, Tryz.ntmps178
  have HB0 := Lib.hid ((Below.refl w.heap.size w).alloc (Nat.le_refl _) (.cells #[.int .i64 0, .int .i64 0, .int .i64 0] 178))
  have HX0 := Lib.hid (Blk.new w 178 #[.int .i64 0, .int .i64 0, .int .i64 0])
  have hsz : w.heap.size < (w.alloc (.cells #[.int .i64 0, .int .i64 0, .int .i64 0] 178)).heap.size := by simp
  obtain ⟨N, HN⟩ : ∃ N, Hid (w.heap.size = N) := ⟨_, rfl⟩
  rw [HN.out] at HX0 hsz
  go_wp2_with fail
  rw [HN.out]
  generalize w.alloc _ = w0 at *
  refine (open_seal n q w0 (by omega) (by omega)).mono ?_
  rintro e w1 ⟨rfl, hb1⟩
  have HB1 := Lib.hid (HB0.out.trans (hb1.mono HB0.out.size))
  have HX1 := Lib.hid (HX0.out.below hb1 hsz)
  have hsz1 := Nat.lt_of_lt_of_le hsz hb1.size
  clear hb1 hsz HB0 HX0
  go_wp2_with fail
  refine (get_any n 0 2 w1 (by omega) (by omega) (by omega)).mono ?_
  rintro e w' ⟨rfl, rfl⟩
  rw [HP.out.1]
  go_wp2_with fail
  refine (get_any n 2 6 w1 (by omega) (by omega) (by omega)).mono ?_
  rintro e w' ⟨rfl, rfl⟩
  rw [HP.out.2.1]
  go_wp2_with fail
  refine (get_any n 8 16 w1 (by omega) (by omega) (by omega)).mono ?_
  rintro e w' ⟨rfl, rfl⟩
  rw [HP.out.2.2]
  go_wp2_with fail
  refine (HE.out _).mono ?_
  rintro e w2 ⟨rfl, hb2⟩
  have HB2 := Lib.hid ((HB1.out.alloc HB1.out.size _).trans (hb2.mono (by have := HB1.out.size; simp; omega)))
  have HX2 := Lib.hid (Blk.below (Blk.new w1 178 #[.int .i64 kd, .int .i64 cl, .int .i64 0]) hb2 (by simp))
  have HX3 := Lib.hid ((HX1.out.alloc (.cells #[.int .i64 kd, .int .i64 cl, .int .i64 0] 178)).below hb2 (by simp; omega))
  obtain ⟨M, HM⟩ : ∃ M, Hid (w1.heap.size = M) := ⟨_, rfl⟩
  have x0 := HX2.out.cell 0
  have x1 := HX2.out.cell 1
  have x2 := HX2.out.cell 2
  have y0 := HX3.out.cell 0
  have y1 := HX3.out.cell 1
  have y2 := HX3.out.cell 2
  have f0 := HX3.out.frozen 0
  have f1 := HX3.out.frozen 1
  have f2 := HX3.out.frozen 2
  simp only [List.getElem?_toArray, List.getElem?_cons_zero, List.getElem?_cons_succ] at x0 x1 x2 y0 y1 y2
  rw [HM.out] at x0 x1 x2 hsz1 ⊢
  clear hb2 HX2
  go_wp2_with fail
  have HF := Lib.hid (HX3.out.store3 (.int .i64 kd) (.int .i64 cl) (.int .i64 0))
  have HG := Lib.hid (below_only HB2.out (only_store3 w2 N (.int .i64 kd) (.int .i64 cl) (.int .i64 0)) HB2.out.size (by rw [← HN.out]; exact Nat.le_refl _))
  obtain ⟨z0, z1, z2, _⟩ := all3 HF.out
  unfold store3 at z0 z1 z2 HG
  refine bodyPost_ret (v := .tuple #[.agg #[.int .i64 kd, .int .i64 cl, .int .i64 0], .int .i64 0]) (by simp [results, Tryz.results178, go_sem, z0, z1, z2]) rfl ?_
  exact ⟨rfl, HG.out⟩
end Go.Proofs.YtcnjipicifkfjaaGreat

/- geom: where things lie. -/
namespace Go.Proofs.YtcnjipicifkfjaaGreat
open Go.RowKit
set_option linter.unusedVariables false
set_option linter.unusedSimpArgs false

theorem below_box (w : World) (o : Obj) : Below w.heap.size w (w.alloc o) := (Below.refl _ w).alloc (Nat.le_refl _) o
theorem gright_any (B : Nat) (w : World) (h1 : 2 ≤ B) (h2 : B ≤ 256) : Calls Tryz.prog 22 #[.agg #[.int .i64 B]] w fun e w' => e = .returned (.bool true) ∧ Below w.heap.size w w' := by
  go_enter Tryz.func22, Tryz.ntmps22
  go_wp2_with fail
  go_ret
  exact ⟨ret_bool (by simp; omega), below_box _ _⟩
theorem gwords_any (B : Nat) (w : World) (h2 : B ≤ 256) : Calls Tryz.prog 24 #[.agg #[.int .i64 B]] w fun e w' => e = .returned (.int .i64 ((B * 512 : Nat) : Int)) ∧ Below w.heap.size w w' := by
  go_enter Tryz.func24, Tryz.ntmps24
  go_wp2_with fail
  go_ret
  exact ⟨ret_int (by simp), below_box _ _⟩
theorem gmost_any (B : Nat) (w : World) (h1 : 2 ≤ B) (h2 : B ≤ 256) : Calls Tryz.prog 50 #[.agg #[.int .i64 B]] w fun e w' => e = .returned (.int .i64 (((B - 1) * 512 : Nat) : Int)) ∧ Below w.heap.size w w' := by
  obtain ⟨C, rfl⟩ : ∃ C, B = C + 1 := ⟨B - 1, by omega⟩
  go_enter Tryz.func50, Tryz.ntmps50
  go_wp2_with fail
  go_ret
  exact ⟨ret_int (by simp), below_box _ _⟩
theorem gfirst_any (B b : Nat) (w : World) (h1 : b < B) (h2 : B ≤ 256) : Calls Tryz.prog 158 #[.agg #[.int .i64 B], .int .i64 b] w fun e w' => e = .returned (.int .i64 ((b * 512 : Nat) : Int)) ∧ Below w.heap.size w w' := by
  go_enter Tryz.func158, Tryz.ntmps158
  go_wp2_with fail
  go_ret
  exact ⟨ret_int (by simp), below_box _ _⟩
theorem gheader_any (B b : Nat) (w : World) (h0 : 1 ≤ b) (h1 : b < B) (h2 : B ≤ 256) : Calls Tryz.prog 116 #[.agg #[.int .i64 B], .int .i64 b] w fun e w' => e = .returned (.int .i64 ((256 + b : Nat) : Int)) ∧ Below w.heap.size w w' := by
  go_enter Tryz.func116, Tryz.ntmps116
  go_wp2_with fail
  go_ret
  exact ⟨ret_int (by simp), below_box _ _⟩
theorem slotat_any (i : Nat) (w : World) (h : i < 2) : Calls Tryz.prog 169 #[.int .i64 i] w fun e w' => e = .returned (.int .i64 ((64 + i * 64 : Nat) : Int)) ∧ w = w' := by
  have hb : bits BinOp.and IntKind.i64 (i : Int) 1 = (i : Int) := by
    rcases (by omega : i = 0 ∨ i = 1) with rfl | rfl <;> decide
  go_enter Tryz.func169, Tryz.ntmps169
  go_wp2_with fail
  go_ret
  exact ⟨ret_int (by simp), rfl⟩
theorem gblockof_any (B at_ : Nat) (w : World) (h1 : at_ < B * 512) (h2 : B ≤ 256) : Calls Tryz.prog 133 #[.agg #[.int .i64 B], .int .i64 at_] w fun e w' => e = .returned (.int .i64 ((at_ / 512 : Nat) : Int)) ∧ Below w.heap.size w w' := by
  obtain ⟨q, Hq⟩ : ∃ q, Hid (at_ / 512 = q) := ⟨_, rfl⟩
  have hq : (at_ : Int) / 512 = (q : Int) := by rw [← Hq.out]; omega
  have hqb : q < 1000000 := by rw [← Hq.out]; omega
  obtain ⟨W, HW⟩ : ∃ W, Hid (B * 512 = W) := ⟨_, rfl⟩
  rw [HW.out] at h1
  rw [Hq.out]
  go_enter Tryz.func133, Tryz.ntmps133
  have HB := Lib.hid (below_box w (.cells #[.int .i64 B] 64))
  go_wp2_with fail
  generalize w.alloc _ = w0 at *
  refine (gwords_any B w0 h2).mono ?_
  rintro e w1 ⟨rfl, hb⟩
  rw [HW.out]
  have HB1 := Lib.hid (HB.out.trans (hb.mono HB.out.size))
  clear hb HB
  go_wp2_with fail
  go_ret
  exact ⟨rfl, HB1.out⟩
theorem gdata_any (B at_ : Nat) (w : World) (h0 : 512 ≤ at_) (h1 : at_ < B * 512) (h2 : B ≤ 256) : Calls Tryz.prog 239 #[.agg #[.int .i64 B], .int .i64 at_] w fun e w' => e = .returned (.bool true) ∧ Below w.heap.size w w' := by
  have H := Lib.hid (fun w => gblockof_any B at_ w h1 h2)
  obtain ⟨q, Hq⟩ : ∃ q, Hid (at_ / 512 = q) := ⟨_, rfl⟩
  have hq : 1 ≤ q := by rw [← Hq.out]; omega
  clear h1 h2
  go_enter Tryz.func239, Tryz.ntmps239
  have HB := Lib.hid (below_box w (.cells #[.int .i64 B] 64))
  go_wp2_with fail
  generalize w.alloc _ = w0 at *
  refine (H.out w0).mono ?_
  rintro e w1 ⟨rfl, hb⟩
  rw [Hq.out]
  have HB1 := Lib.hid (HB.out.trans (hb.mono HB.out.size))
  clear hb HB
  go_wp2_with fail
  go_ret
  exact ⟨ret_bool (by simp; omega), HB1.out⟩
end Go.Proofs.YtcnjipicifkfjaaGreat

/- class: sizes of small objects. -/
namespace Go.Proofs.YtcnjipicifkfjaaGreat
open Go.RowKit
set_option linter.unusedVariables false
set_option linter.unusedSimpArgs false

def sizesL : List Nat := [2, 3, 4, 5, 6, 7, 8, 10, 12, 14, 16, 18, 20, 24, 28, 32, 36, 40, 46, 51, 56, 64, 73, 85, 92, 102, 113, 128, 146, 170, 204, 256]
def csize (k : Nat) : Nat := sizesL.getD k 0
def ncells (l : List Nat) : List Value := l.map fun x => .int .i64 (x : Nat)
theorem size245 : (Tryz.prog.info? 245).map (·.size) = some (ncells sizesL).toArray.size := by kernel_rfl
def zeros32 : Array Value := #[.int .i64 0, .int .i64 0, .int .i64 0, .int .i64 0, .int .i64 0, .int .i64 0, .int .i64 0, .int .i64 0, .int .i64 0, .int .i64 0, .int .i64 0, .int .i64 0, .int .i64 0, .int .i64 0, .int .i64 0, .int .i64 0, .int .i64 0, .int .i64 0, .int .i64 0, .int .i64 0, .int .i64 0, .int .i64 0, .int .i64 0, .int .i64 0, .int .i64 0, .int .i64 0, .int .i64 0, .int .i64 0, .int .i64 0, .int .i64 0, .int .i64 0, .int .i64 0]
set_option maxRecDepth 10000 in
theorem sizes_any (w : World) : Calls Tryz.prog 191 #[] w fun e w' => e = .returned (.agg (ncells sizesL).toArray) ∧ Below w.heap.size w w' := by
  go_enter Tryz.func191, Tryz.ntmps191
  obtain ⟨N, HN⟩ : ∃ N, Hid (w.heap.size = N) := ⟨_, rfl⟩
  have HX := Lib.hid (Blk.new w 245 zeros32)
  have HB := Lib.hid (below_box w (.cells zeros32 245))
  unfold zeros32 at HX HB
  rw [HN.out] at HX
  refine wp_seq_k fun K0 hK0 => ?_
  have HC0 := Lib.hid hK0
  clear hK0
  go_wp2_with fail
  rw [HN.out]
  generalize w.alloc _ = w0 at *
  refine HC0.out _ _ ?_
  clear HC0
  go_wp2_with (refine wpList_store_row (cs := (ncells sizesL).toArray) rfl (.tmp 0) (.tmp 1) rfl rfl rfl HX.out size245 rfl (by decide) ?_)
  intro w1 hB1 hM1
  have HX1 := Lib.hid hB1
  have HB1 := Lib.hid (Below.mod HB.out hM1 HB.out.size (fun k _ h => by rw [h, ← HN.out]; exact Nat.le_refl _))
  clear hB1 hM1
  go_wp2_with fail
  refine bodyPost_ret (results_cell_row rfl _ _ N 245 _ _ _ rfl HX1.out Tryz.underlying245 rfl size245) rfl ?_
  exact ⟨rfl, HB1.out⟩
theorem csize_pos (k : Nat) (h : k < 32) : 2 ≤ csize k ∧ csize k ≤ 256 := by
  have : ∀ k : Fin 32, 2 ≤ csize k.1 ∧ csize k.1 ≤ 256 := by decide
  exact this ⟨k, h⟩
theorem cwords'_any (k : Nat) (w : World) (h : k < 32) : Calls Tryz.prog 146 #[.int .i64 k] w fun e w' => e = .returned (.int .i64 (csize k : Nat)) ∧ Below w.heap.size w w' := by
  have hx : ∀ w, (Instr.index 245 (.agg (ncells sizesL).toArray) (.int .i64 (k : Int))).run Tryz.prog w = .ok (.int .i64 (csize k : Nat)) w :=
    run_index_one 32 k _ Tryz.underlying245 Tryz.underlying3 rfl (by kernel_rfl) h (by
      rw [List.getElem?_toArray]
      unfold ncells csize
      rw [List.getElem?_map, List.getD_eq_getElem?_getD]
      have : k < sizesL.length := h
      simp [this])
  obtain ⟨A, HA⟩ : ∃ A, Hid ((ncells sizesL).toArray = A) := ⟨_, rfl⟩
  rw [HA.out] at hx
  go_enter Tryz.func146, Tryz.ntmps146
  go_wp2_with fail
  refine (cright_yes k w h).mono ?_
  rintro e w' ⟨rfl, rfl⟩
  go_wp2_with fail
  refine (sizes_any w).mono ?_
  rintro e w1 ⟨rfl, hb⟩
  have HB := Lib.hid hb
  clear hb
  rw [HA.out]
  go_wp2_with fail
  go_ret
  exact ⟨rfl, HB.out⟩
theorem cmost_any (w : World) : Calls Tryz.prog 145 #[] w fun e w' => e = .returned (.int .i64 256) ∧ Below w.heap.size w w' := by
  go_enter Tryz.func145, Tryz.ntmps145
  go_wp2_with fail
  refine (cwords'_any 31 w (by omega)).mono ?_
  rintro e w1 ⟨rfl, hb⟩
  have HB := Lib.hid hb
  clear hb
  go_wp2_with fail
  go_ret
  exact ⟨rfl, HB.out⟩
def ccells (k : Nat) : Nat := 512 / csize k
theorem ccells_any (k : Nat) (w : World) (h : k < 32) : Calls Tryz.prog 108 #[.int .i64 k] w fun e w' => e = .returned (.int .i64 (ccells k : Nat)) ∧ Below w.heap.size w w' := by
  have Hw := Lib.hid (fun w => cwords'_any k w h)
  obtain ⟨h1, h2⟩ := csize_pos k h
  unfold ccells
  obtain ⟨c, Hc⟩ : ∃ c, Hid (csize k = c) := ⟨_, rfl⟩
  rw [Hc.out] at h1 h2 ⊢
  have hq : (512 : Int) / (c : Int) = ((512 / c : Nat) : Int) := by simp
  have hq2 : 512 / c ≤ 512 := Nat.div_le_self _ _
  obtain ⟨q, Hq⟩ : ∃ q, Hid (512 / c = q) := ⟨_, rfl⟩
  rw [Hq.out] at hq hq2 ⊢
  go_enter Tryz.func108, Tryz.ntmps108
  go_wp2_with fail
  refine (cright_yes k w h).mono ?_
  rintro e w' ⟨rfl, rfl⟩
  go_wp2_with fail
  refine (Hw.out w).mono ?_
  rintro e w1 ⟨rfl, hb⟩
  have HB := Lib.hid hb
  clear hb
  rw [Hc.out]
  go_wp2_with fail
  go_ret
  exact ⟨ret_int hq, HB.out⟩
/-- The least class whose cells have so many words. -/
def cof (n : Nat) : Nat := (sizesL.filter (· < n)).length
theorem cof_le (n k : Nat) (hn : n ≤ 256) (hk : k < 32) : (n ≤ csize k) ↔ cof n ≤ k := by
  have : ∀ n : Fin 257, ∀ k : Fin 32, (n.1 ≤ csize k.1) ↔ cof n.1 ≤ k.1 := by decide +kernel
  exact this ⟨n, by omega⟩ ⟨k, hk⟩
theorem cof_lt (n : Nat) (hn : n ≤ 256) : cof n < 32 := by
  have := (cof_le n 31 hn (by omega)).1 hn
  omega
theorem cof_any (n : Nat) (w : World) (h1 : 1 ≤ n) (h2 : n ≤ 256) : Calls Tryz.prog 104 #[.int .i64 n] w fun e w' => e = .returned (.tuple #[.int .i64 (cof n : Nat), .bool true]) ∧ Below w.heap.size w w' := by
  have Hle : Hid (∀ k, k < 32 → ((n ≤ csize k) ↔ cof n ≤ k)) := fun k hk => cof_le n k h2 hk
  have hc := cof_lt n h2
  obtain ⟨c, Hc⟩ : ∃ c, Hid (cof n = c) := ⟨_, rfl⟩
  rw [Hc.out] at hc Hle ⊢
  go_enter Tryz.func104, Tryz.ntmps104
  go_wp2_with fail
  refine (cmost_any w).mono ?_
  rintro e w1 ⟨rfl, hb⟩
  have HB := Lib.hid hb
  clear hb
  go_wp2_with fail
  go_loopw [4, 5] (fun v4 v5 wr => ∃ lo hi : Nat, v4 = .int .i64 lo ∧ v5 = .int .i64 hi ∧ lo ≤ c ∧ c ≤ hi ∧ hi ≤ 31 ∧ Below w.heap.size w wr) (fun v4 v5 _ => (intOf v5).toNat - (intOf v4).toNat)
  case atStart => exact ⟨0, 31, rfl, rfl, Nat.zero_le _, by omega, Nat.le_refl _, HB.out⟩
  case round =>
    clear HB
    obtain ⟨lo, hi, rfl, rfl, ha, hb, hc31, hB⟩ := hrel
    have HB := Lib.hid hB
    clear hB
    by_cases hlt : lo < hi
    · obtain ⟨mid, Hm⟩ : ∃ mid, Hid ((lo + hi) / 2 = mid) := ⟨_, rfl⟩
      have hm1 : lo ≤ mid := by rw [← Hm.out]; omega
      have hm2 : mid < hi := by rw [← Hm.out]; omega
      have hm3 : ((lo : Int) + (hi : Int)) / 2 = (mid : Int) := by rw [← Hm.out]; omega
      have hl := Hle.out mid (by omega)
      go_wp2_with fail
      refine (cwords'_any mid wr (by omega)).mono ?_
      rintro e w2 ⟨rfl, hb2⟩
      have HB2 := Lib.hid (HB.out.trans (hb2.mono HB.out.size))
      clear hb2 HB
      obtain ⟨s, Hs⟩ : ∃ s, Hid (csize mid = s) := ⟨_, rfl⟩
      rw [Hs.out] at hl ⊢
      by_cases hns : n ≤ s
      · have hcm := hl.1 hns
        go_wp2_with fail
        exact ⟨⟨lo, mid, rfl, rfl, ha, hcm, by omega, HB2.out⟩, by simp [intOf]; omega⟩
      · have hcm : ¬ c ≤ mid := fun h => hns (hl.2 h)
        go_wp2_with fail
        exact ⟨⟨mid + 1, hi, by go_num, rfl, by omega, hb, hc31, HB2.out⟩, by simp [intOf]; omega⟩
    · obtain rfl : lo = hi := by omega
      obtain rfl : lo = c := by omega
      go_wp2_with fail
      go_ret2
      exact ⟨rfl, HB.out⟩
theorem csz_any (p d : Nat) (w : World) (hp : p ≤ 63) (hd : d ≤ 16384) : Calls Tryz.prog 103 #[.int .i64 p, .int .i64 d] w fun e w' => e = .returned (.tuple #[.int .i64 ((1 + p + d : Nat) : Int), .int .i64 0]) ∧ w = w' := by
  go_enter Tryz.func103, Tryz.ntmps103
  go_wp2_with fail
  go_ret2
  exact ⟨rfl, rfl⟩
end Go.Proofs.YtcnjipicifkfjaaGreat

/- ohead: headers of objects. -/
namespace Go.Proofs.YtcnjipicifkfjaaGreat
open Go.RowKit
set_option linter.unusedVariables false
set_option linter.unusedSimpArgs false

/-- Objects that are spoken of: one pointer and one word, or no pointer and few words. -/
def Obj (p d : Nat) : Prop := (p = 1 ∧ d = 1) ∨ (p = 0 ∧ d ≤ 60)
def onum (p d : Nat) : Nat := 165 + 256 * p + 16384 * d
def oword (at_ p d : Nat) : Nat := sealN (onum p d) at_
theorem Obj.le {p d : Nat} (h : Obj p d) : p ≤ 1 ∧ d ≤ 60 ∧ onum p d < 1000000 := by
  unfold onum
  rcases h with ⟨rfl, rfl⟩ | ⟨rfl, h⟩ <;> omega
theorem puts_obj (p d : Nat) (h : Obj p d) : putM 165 8 6 p = ((165 + 256 * p : Nat) : Int) ∧ putM ((165 + 256 * p : Nat) : Int) 14 15 d = (onum p d : Nat) := by
  rcases h with ⟨rfl, rfl⟩ | ⟨rfl, h⟩
  · decide
  · have : ∀ d : Fin 61, putM 165 8 6 (0 : Nat) = ((165 + 256 * 0 : Nat) : Int) ∧ putM ((165 + 256 * 0 : Nat) : Int) 14 15 (d.1 : Nat) = (onum 0 d.1 : Nat) := by decide +kernel
    exact this ⟨d, by omega⟩
theorem gets_obj (p d : Nat) (h : Obj p d) : getM (onum p d : Nat) 8 6 = p ∧ getM (onum p d : Nat) 14 15 = d := by
  rcases h with ⟨rfl, rfl⟩ | ⟨rfl, h⟩
  · decide
  · have : ∀ d : Fin 61, getM (onum 0 d.1 : Nat) 8 6 = (0 : Nat) ∧ getM (onum 0 d.1 : Nat) 14 15 = (d.1 : Nat) := by decide +kernel
    exact this ⟨d, by omega⟩

theorem osize_any (p d : Nat) (w : World) (hp : p ≤ 63) (hd : d ≤ 16384) : Calls Tryz.prog 48 #[.agg #[.int .i64 p, .int .i64 d]] w fun e w' => e = .returned (.int .i64 ((1 + p + d : Nat) : Int)) ∧ Below w.heap.size w w' := by
  obtain ⟨s, Hs⟩ : ∃ s, Hid (1 + p + d = s) := ⟨_, rfl⟩
  rw [Hs.out]
  go_enter Tryz.func48, Tryz.ntmps48
  have HB := Lib.hid (below_box w (.cells #[.int .i64 p, .int .i64 d] 51))
  go_wp2_with fail
  generalize w.alloc _ = w0 at *
  refine (csz_any p d w0 hp hd).mono ?_
  rintro e w1 ⟨rfl, rfl⟩
  rw [Hs.out]
  go_wp2_with fail
  go_ret
  exact ⟨rfl, HB.out⟩
theorem osmall_any (p d : Nat) (w : World) (hp : p ≤ 63) (h : 1 + p + d ≤ 256) : Calls Tryz.prog 51 #[.agg #[.int .i64 p, .int .i64 d]] w fun e w' => e = .returned (.tuple #[.int .i64 (cof (1 + p + d) : Nat), .bool true]) ∧ Below w.heap.size w w' := by
  have H1 := Lib.hid (fun w => osize_any p d w hp (by omega))
  have H2 := Lib.hid (fun w => cof_any (1 + p + d) w (by omega) h)
  obtain ⟨s, Hs⟩ : ∃ s, Hid (1 + p + d = s) := ⟨_, rfl⟩
  rw [Hs.out] at H1 H2 h ⊢
  obtain ⟨c, Hc⟩ : ∃ c, Hid (cof s = c) := ⟨_, rfl⟩
  rw [Hc.out] at H2 ⊢
  go_enter Tryz.func51, Tryz.ntmps51
  have HB := Lib.hid (below_box w (.cells #[.int .i64 p, .int .i64 d] 51))
  go_wp2_with fail
  generalize w.alloc _ = w0 at *
  refine (H1.out w0).mono ?_
  rintro e w1 ⟨rfl, hb⟩
  have HB1 := Lib.hid (HB.out.trans (hb.mono HB.out.size))
  clear hb HB
  go_wp2_with fail
  refine (H2.out w1).mono ?_
  rintro e w2 ⟨rfl, hb⟩
  have HB2 := Lib.hid (HB1.out.trans (hb.mono HB1.out.size))
  clear hb HB1
  go_wp2_with fail
  go_ret2
  exact ⟨rfl, HB2.out⟩

theorem oenc_any (at_ p d : Nat) (w : World) (h : Obj p d) (ha : at_ < 1000000) :
    Calls Tryz.prog 162 #[.agg #[.int .i64 p, .int .i64 d], .int .i64 at_] w fun e w' => e = .returned (.int .u64 (oword at_ p d : Nat)) ∧ Below w.heap.size w w' := by
  obtain ⟨p1, p2⟩ := puts_obj p d h
  obtain ⟨n1, n2, n3⟩ := h.le
  have H1 := Lib.hid (fun w => osize_any p d w (by omega) (by omega))
  obtain ⟨m, Hm⟩ : ∃ m, Hid (165 + 256 * p = m) := ⟨_, rfl⟩
  have hm : m < 1000000 := by rw [← Hm.out]; omega
  rw [Hm.out] at p1 p2
  have HP := Lib.hid (And.intro p1 p2)
  obtain ⟨n, Hn⟩ : ∃ n, Hid (onum p d = n) := ⟨_, rfl⟩
  unfold oword
  rw [Hn.out] at HP n3 ⊢
  clear p1 p2 h
  obtain ⟨s, Hs⟩ : ∃ s, Hid (1 + p + d = s) := ⟨_, rfl⟩
  have hs : 1 ≤ s := by rw [← Hs.out]; omega
  have hs2 : ((s : Int) == 0) = false := by rw [beq_eq_false_iff_ne]; omega
  have hs3 : (s == 0) = false := by rw [beq_eq_false_iff_ne]; omega
  rw [Hs.out] at H1
  obtain ⟨N, HN⟩ : ∃ N, Hid (w.heap.size = N) := ⟨_, rfl⟩
  go_enter Tryz.func162, Tryz.ntmps162
  have HB := Lib.hid (below_box w (.cells #[.int .i64 p, .int .i64 d] 51))
  have HX := Lib.hid (Blk.new w 51 #[.int .i64 p, .int .i64 d])
  have hsz : w.heap.size < (w.alloc (.cells #[.int .i64 p, .int .i64 d] 51)).heap.size := by simp
  rw [HN.out] at HX hsz
  go_wp2_with fail
  rw [HN.out]
  generalize w.alloc _ = w0 at *
  refine (H1.out w0).mono ?_
  rintro e w1 ⟨rfl, hb⟩
  have HB1 := Lib.hid (HB.out.trans (hb.mono HB.out.size))
  have HX1 := HX.out.below hb hsz
  have x0 := HX1.cell 0
  have x1 := HX1.cell 1
  simp only [List.getElem?_toArray, List.getElem?_cons_zero, List.getElem?_cons_succ] at x0 x1
  clear hb HB HX HX1
  go_wp2_with fail
  refine (put_any 165 p 8 6 w1 (by omega) (by omega) (by omega)).mono ?_
  rintro e w' ⟨rfl, rfl⟩
  rw [HP.out.1]
  go_wp2_with fail
  refine (put_any m d 14 15 w1 (by omega) (by omega) (by omega)).mono ?_
  rintro e w' ⟨rfl, rfl⟩
  rw [HP.out.2]
  go_wp2_with fail
  refine (seal_any n at_ w1 (by omega) (by omega)).mono ?_
  rintro e w2 ⟨rfl, hb2⟩
  have HB2 := Lib.hid (HB1.out.trans (hb2.mono HB1.out.size))
  clear hb2
  go_wp2_with fail
  go_ret
  exact ⟨rfl, HB2.out⟩

theorem optr_any (p d : Nat) (i : Nat) (w : World) (hi : i < p) (hp : p ≤ 63) :
    Calls Tryz.prog 172 #[.agg #[.int .i64 p, .int .i64 d], .int .i64 i] w fun e w' => e = .returned (.tuple #[.int .i64 ((1 + i : Nat) : Int), .bool true]) ∧ Below w.heap.size w w' := by
  have h1 : (1 : Int) + (i : Int) = ((1 + i : Nat) : Int) := by omega
  obtain ⟨s, Hs⟩ : ∃ s, Hid (1 + i = s) := ⟨_, rfl⟩
  have hsb : s ≤ 64 := by rw [← Hs.out]; omega
  rw [Hs.out] at h1 ⊢
  go_enter Tryz.func172, Tryz.ntmps172
  have HB := Lib.hid (below_box w (.cells #[.int .i64 p, .int .i64 d] 51))
  have HX := Lib.hid (Blk.new w 51 #[.int .i64 p, .int .i64 d])
  have x0 := HX.out.cell 0
  simp only [List.getElem?_toArray, List.getElem?_cons_zero, List.getElem?_cons_succ] at x0
  go_wp2_with fail
  go_quiet (fail)
  go_wp2_with fail
  go_ret2
  exact ⟨by first | (simp; done) | (simp; omega), below_drewN HB.out _⟩
theorem odata_any (p d : Nat) (i : Nat) (w : World) (hi : i < d) (hp : p ≤ 63) (hd : d ≤ 16384) :
    Calls Tryz.prog 173 #[.agg #[.int .i64 p, .int .i64 d], .int .i64 i] w fun e w' => e = .returned (.tuple #[.int .i64 ((1 + p + i : Nat) : Int), .bool true]) ∧ Below w.heap.size w w' := by
  have h1 : (1 : Int) + (p : Int) + (i : Int) = ((1 + p + i : Nat) : Int) := by omega
  obtain ⟨s, Hs⟩ : ∃ s, Hid (1 + p + i = s) := ⟨_, rfl⟩
  have hsb : s ≤ 100000 := by rw [← Hs.out]; omega
  rw [Hs.out] at h1 ⊢
  go_enter Tryz.func173, Tryz.ntmps173
  have HB := Lib.hid (below_box w (.cells #[.int .i64 p, .int .i64 d] 51))
  have HX := Lib.hid (Blk.new w 51 #[.int .i64 p, .int .i64 d])
  have x0 := HX.out.cell 0
  have x1 := HX.out.cell 1
  simp only [List.getElem?_toArray, List.getElem?_cons_zero, List.getElem?_cons_succ] at x0 x1
  go_wp2_with fail
  go_quiet (fail)
  go_wp2_with fail
  go_ret2
  exact ⟨by first | (simp; done) | (simp; omega), below_drewN HB.out _⟩

theorem odec_any (at_ p d : Nat) (w : World) (h : Obj p d) (ha : at_ < 1000000) :
    Calls Tryz.prog 175 #[.int .i64 at_, .int .u64 (oword at_ p d : Nat)] w fun e w' => e = .returned (.tuple #[.agg #[.int .i64 p, .int .i64 d], .int .i64 0]) ∧ Below w.heap.size w w' := by
  obtain ⟨p1, p2⟩ := gets_obj p d h
  have HP := Lib.hid (And.intro p1 p2)
  obtain ⟨n1, n2, n3⟩ := h.le
  have HE : Hid (∀ w, Calls Tryz.prog 162 #[.agg #[.int .i64 p, .int .i64 d], .int .i64 at_] w fun e w' => e = .returned (.int .u64 (oword at_ p d : Nat)) ∧ Below w.heap.size w w') := fun w => oenc_any at_ p d w h ha
  obtain ⟨n, Hn⟩ : ∃ n, Hid (onum p d = n) := ⟨_, rfl⟩
  unfold oword at HE ⊢
  rw [Hn.out] at HP n3 HE ⊢
  clear p1 p2 h
  go_enter Tryz.func175, Tryz.ntmps175
  have HB0 := Lib.hid (below_box w (.cells #[.int .i64 0, .int .i64 0] 51))
  have HX0 := Lib.hid (Blk.new w 51 #[.int .i64 0, .int .i64 0])
  have hsz : w.heap.size < (w.alloc (.cells #[.int .i64 0, .int .i64 0] 51)).heap.size := by simp
  obtain ⟨N, HN⟩ : ∃ N, Hid (w.heap.size = N) := ⟨_, rfl⟩
  rw [HN.out] at HX0 hsz
  go_wp2_with fail
  rw [HN.out]
  generalize w.alloc _ = w0 at *
  refine (open_seal n at_ w0 (by omega) (by omega)).mono ?_
  rintro e w1 ⟨rfl, hb1⟩
  have HB1 := Lib.hid (HB0.out.trans (hb1.mono HB0.out.size))
  have HX1 := Lib.hid (HX0.out.below hb1 hsz)
  have hsz1 := Nat.lt_of_lt_of_le hsz hb1.size
  clear hb1 hsz HB0 HX0
  go_wp2_with fail
  refine (get_any n 8 6 w1 (by omega) (by omega) (by omega)).mono ?_
  rintro e w' ⟨rfl, rfl⟩
  rw [HP.out.1]
  go_wp2_with fail
  refine (get_any n 14 15 w1 (by omega) (by omega) (by omega)).mono ?_
  rintro e w' ⟨rfl, rfl⟩
  rw [HP.out.2]
  go_wp2_with fail
  refine (HE.out _).mono ?_
  rintro e w2 ⟨rfl, hb2⟩
  have HB2 := Lib.hid ((HB1.out.alloc HB1.out.size _).trans (hb2.mono (by have := HB1.out.size; simp; omega)))
  have HX2 := Lib.hid (Blk.below (Blk.new w1 51 #[.int .i64 p, .int .i64 d]) hb2 (by simp))
  have HX3 := Lib.hid ((HX1.out.alloc (.cells #[.int .i64 p, .int .i64 d] 51)).below hb2 (by simp; omega))
  obtain ⟨M, HM⟩ : ∃ M, Hid (w1.heap.size = M) := ⟨_, rfl⟩
  have x0 := HX2.out.cell 0
  have x1 := HX2.out.cell 1
  have y0 := HX3.out.cell 0
  have y1 := HX3.out.cell 1
  have f0 := HX3.out.frozen 0
  have f1 := HX3.out.frozen 1
  simp only [List.getElem?_toArray, List.getElem?_cons_zero, List.getElem?_cons_succ] at x0 x1 y0 y1
  rw [HM.out] at x0 x1 hsz1 ⊢
  clear hb2 HX2
  go_wp2_with fail
  have HF := Lib.hid ((HX3.out.set_ 0 (.int .i64 p)).set_ 1 (.int .i64 d))
  have HG := Lib.hid ((HB2.out.setCell (p := ⟨N, 0, none⟩) (by rw [← HN.out]; exact Nat.le_refl _) (.int .i64 p)).setCell (p := ⟨N, 1, none⟩) (by rw [← HN.out]; exact Nat.le_refl _) (.int .i64 d))
  have z0 := HF.out.cell 0
  have z1 := HF.out.cell 1
  simp at z0 z1
  refine bodyPost_ret (v := .tuple #[.agg #[.int .i64 p, .int .i64 d], .int .i64 0]) (by simp [results, Tryz.results175, go_sem, z0, z1]) rfl ?_
  exact ⟨rfl, HG.out⟩
end Go.Proofs.YtcnjipicifkfjaaGreat
