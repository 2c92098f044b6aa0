/- nvm.New, revive.Format. -/
import Derived.Test.YtcnjipicifkfjaaGreatRm12
import Derived.ChangeKeysEq

namespace Go.Proofs.YtcnjipicifkfjaaGreat
open Go.RowKit
set_option linter.unusedVariables false
set_option linter.unusedSimpArgs false

theorem nnew_any (m : Nat) (w : World) (hm0 : 0 < m) (hm : m ≤ 50000) :
    Calls Tryz.prog 23 #[.int .i64 ((8 * m : Nat) : Int)] w fun e w' => ∃ b, e = .returned (.pointer (some ⟨b.d, 0, none⟩)) ∧ Dev w.heap.size w' b m (fresh (zerosN (8 * m)) m) ∧ Below w.heap.size w w' := by
  obtain ⟨N, HN⟩ : ∃ N, Hid (8 * m = N) := ⟨_, rfl⟩
  have hN : N ≤ 400000 := by rw [← HN.out]; omega
  have hup : Hid (∀ w, Calls Tryz.prog 67 #[.int .i64 N, .int .i64 8] w fun e w' => e = .returned (.int .i64 m) ∧ w = w') := fun w => by
    have := up_pos N 8 w (by have := HN.out; omega) (by omega) (by omega) (by omega)
    rw [show (N - 1) / 8 + 1 = m by have := HN.out; omega] at this
    exact this
  have hmul : (m : Int) * 8 = (N : Int) := by have := HN.out; omega
  have hmk := mk22 N (by omega)
  obtain ⟨g, Hg⟩ : ∃ g, Hid (w.heap.size = g) := ⟨_, rfl⟩
  have HO := Lib.hid (own_madeW w w.heap.size N g Hg.out (by rw [Hg.out]; exact Nat.le_refl _) (by omega))
  have HB := Lib.hid (below_box w (.cells (madeCells #[.int .u64 0] N) 28))
  have HO2 : Hid (Own (w.alloc (.cells (madeCells #[.int .u64 0] N) 28)) w.heap.size 28 1 (some ⟨g, 0, none⟩) (8 * m) N (wcells (zerosN N))) := by rw [HN.out]; exact HO.out
  have HL := Lib.hid (load_any w.heap.size g N m (zerosN N) _ hm0 (by omega) HO2.out HB.out.size)
  rw [HN.out] at HL ⊢
  go_enter Tryz.func23, Tryz.ntmps23
  go_wp2_with (go_at_call 67; refine (hup.out _).mono ?_; rintro e w' ⟨rfl, rfl⟩)
  rw [Hg.out]
  refine HL.out.mono ?_
  rintro e w' ⟨b, rfl, hd, -, -, -, hb⟩
  have HD := Lib.hid hd
  have HBB := Lib.hid (HB.out.trans (hb.mono HB.out.size))
  clear hd hb
  go_wp2_with fail
  go_ret
  exact ⟨b, rfl, Hg.out ▸ HD.out, Hg.out ▸ HBB.out⟩

/-- The steps of Format. -/
def formatS (K id : Nat) : List Step := blocksS K ++ (writeS 64 (slotEnc 1 (zerosN 8)) ++ superS K id)
set_option maxRecDepth 100000 in
set_option maxHeartbeats 2000000 in
theorem format_any (B : Nat) (b : DB) (m : Nat) (s : DS) (K id : Nat) (w : World) (h : Dev B w b m s) (hl : s.Live) (hK : 2 ≤ K) (hK2 : K ≤ 200) (hid : id < 18446744073709551616) (hm : m = K * 64) :
    Calls Tryz.prog 25 #[.pointer (some ⟨b.d, 0, none⟩), .int .u64 id] w fun e w' => e = .returned (.int .i64 0) ∧ Dev B w' b m (exec s (formatS K id)).1 ∧ Mod w w' b.has := by
  have HL := Lib.hid hl
  have hm2 : m ≤ 100000 := by omega
  have hm3 : 64 ≤ m := by omega
  have Hr := Lib.hid (fun w => gright_any K w hK (by omega))
  have Hw := Lib.hid (fun w => gwords_any K w (by omega))
  have Hb := Lib.hid (fun w h => bformat_any B b m s K w h hl hK hK2 hm)
  have Hn := Lib.hid (fun (w : World) (h : Dev B w b m s) => len_any B b m s w h)
  have HmK : Hid (K * 512 = 8 * m) := by show _ = _; omega
  rw [HmK.out] at Hw
  obtain ⟨n0, Hn0⟩ : ∃ n, Hid (w.heap.size = n) := ⟨_, rfl⟩
  have H0 : Hid (SF B w (w.alloc (.cells #[.int .i64 K] 64)) b m s n0 K) := by
    refine ⟨h.below (below_box w (.cells #[.int .i64 K] 64)) (Nat.le_refl _), (Mod.refl w b.has).alloc _, ?_⟩
    rw [← Hn0.out]; exact Blk.new w 64 _
  have hn0 : ¬ b.has n0 := fun hk => by have := (h.lt n0 hk).2; rw [Hn0.out] at this; omega
  have H := Lib.hid h
  clear h hl
  obtain ⟨N, HN⟩ : ∃ N, Hid (8 * m = N) := ⟨_, rfl⟩
  have hq : (N : Int) / 512 = (K : Int) := by have := HN.out; have := HmK.out; omega
  have hq2 : (N : Int).tdiv 512 = (K : Int) := by rw [Int.tdiv_eq_ediv_of_nonneg (by omega)]; exact hq
  have hN : N ≤ 1000000 := by have := HN.out; omega
  rw [HN.out] at Hn Hw
  go_enter Tryz.func25, Tryz.ntmps25
  go_wp2_with (go_at_call 43; refine (Hn.out _ H.out).mono ?_; rintro e w3 ⟨rfl, rfl⟩)
  refine (Hr.out _).mono ?_
  rintro e w1 ⟨rfl, hb1⟩
  have H1 := Lib.hid (H0.out.below hb1 (Nat.le_refl _))
  clear hb1 H0 Hr
  rw [Hn0.out]
  have c0 : w1.cell? ⟨n0, 0, none⟩ = some (.int .i64 K) := H1.out.s.cell 0
  go_wp2_with fail
  refine (Hw.out _).mono ?_
  rintro e w2 ⟨rfl, hb2⟩
  have H2 := Lib.hid (H1.out.below hb2 (Nat.le_refl _))
  clear hb2 H1 c0
  have c0 : w2.cell? ⟨n0, 0, none⟩ = some (.int .i64 K) := H2.out.s.cell 0
  go_wp2_with (first
    | (go_at_call 43; refine (Hn.out _ H2.out.dev).mono ?_; rintro e w3 ⟨rfl, rfl⟩)
    | (go_at_call 69; refine (Hb.out _ H2.out.dev).mono ?_; rintro e w4 ⟨rfl, hd4, hm4⟩))
  have H4 := Lib.hid (H2.out.mod hn0 hd4 hm4)
  have HL4 := Lib.hid (exec_live HL.out (blocksS K)).2
  have HF4 := Lib.hid (exec_live_app HL.out (blocksS K) (writeS 64 (slotEnc 1 (zerosN 8)) ++ superS K id))
  clear hd4 hm4 H2 c0
  obtain ⟨s4, Hs4⟩ : ∃ s4, Hid ((exec s (blocksS K)).1 = s4) := ⟨_, rfl⟩
  rw [Hs4.out] at H4 HL4 HF4
  go_wp2_with fail
  refine (rformat_any B b m s4 _ H4.out.dev hm3 hm2).mono ?_
  rintro e w5 ⟨rfl, hd5, hm5⟩
  have H5 := Lib.hid (H4.out.mod hn0 hd5 hm5)
  have HL5 := Lib.hid (exec_live HL4.out (writeS 64 (slotEnc 1 (zerosN 8)))).2
  have HF5 := Lib.hid (exec_live_app HL4.out (writeS 64 (slotEnc 1 (zerosN 8))) (superS K id))
  rw [ecode_live HL4.out]
  clear hd5 hm5 H4
  obtain ⟨s5, Hs5⟩ : ∃ s5, Hid ((exec s4 (writeS 64 (slotEnc 1 (zerosN 8)))).1 = s5) := ⟨_, rfl⟩
  rw [Hs5.out] at H5 HL5 HF5
  have c0 : w5.cell? ⟨n0, 0, none⟩ = some (.int .i64 K) := H5.out.s.cell 0
  go_wp2_with fail
  refine (supwrite_any B b m s5 K id _ H5.out.dev HL5.out hK (by omega) hid hm).mono ?_
  rintro e w6 ⟨rfl, hd6, hm6⟩
  have H6 := Lib.hid (H5.out.mod hn0 hd6 hm6)
  clear hd6 hm6 H5 c0
  go_wp2_with fail
  go_ret
  refine ⟨rfl, ?_, H6.out.md⟩
  unfold formatS
  rw [HF4.out, HF5.out]
  exact H6.out.dev
end Go.Proofs.YtcnjipicifkfjaaGreat

/- super.Line, Decode, Read. -/
namespace Go.Proofs.YtcnjipicifkfjaaGreat
open Go.RowKit
set_option linter.unusedVariables false
set_option linter.unusedSimpArgs false

/-- The first k of some words, noughts behind. -/
def copyS (f : Nat → Nat) (n : Nat) : Nat → List Nat
  | 0 => zerosN n
  | k + 1 => (copyS f n k).set k (f k)
theorem copyS_len (f : Nat → Nat) (n k : Nat) : (copyS f n k).length = n := by
  induction k with
  | zero => simp [copyS, zerosN]
  | succ k ih => simp [copyS, ih]
theorem copyS_get (f : Nat → Nat) (n k j : Nat) (hk : k ≤ n) : (copyS f n k).getD j 0 = if j < k then f j else 0 := by
  induction k with
  | zero =>
    simp only [copyS, Nat.not_lt_zero, if_false]
    rw [List.getD_eq_getElem?_getD]
    unfold zerosN
    rw [List.getElem?_replicate]
    split <;> rfl
  | succ k ih =>
    have := ih (by omega)
    rw [List.getD_eq_getElem?_getD] at this ⊢
    simp only [copyS, List.getElem?_set, copyS_len]
    by_cases h : k = j
    · subst h
      simp [show k < n by omega]
    · rw [if_neg h, this]
      by_cases h1 : j < k
      · rw [if_pos h1, if_pos (by omega)]
      · rw [if_neg h1, if_neg (by omega)]
theorem list_ext0 {a b : List Nat} (hl : a.length = b.length) (h : ∀ j, j < a.length → a.getD j 0 = b.getD j 0) : a = b := by
  apply List.ext_getElem hl
  intro i h1 h2
  have := h i h1
  simpa [List.getD_eq_getElem?_getD, h1, h2] using this
theorem copyS_all (f : Nat → Nat) (l : List Nat) (n : Nat) (hl : l.length = n) (h : ∀ j, j < n → f j = l.getD j 0) : copyS f n n = l := by
  apply list_ext0 (by rw [copyS_len, hl])
  intro j hj
  rw [copyS_len] at hj
  rw [copyS_get f n n j (Nat.le_refl _), if_pos hj, h j hj]

set_option maxRecDepth 100000 in
set_option maxHeartbeats 2000000 in
theorem supline_any (B : Nat) (b : DB) (m : Nat) (s : DS) (w : World) (h : Dev B w b m s) (hm0 : 0 < m) (hm : m ≤ 100000) :
    Calls Tryz.prog 177 #[.pointer (some ⟨b.d, 0, none⟩)] w fun e w' => e = .returned (.agg (wcells (copyS (fun j => s.C.getD j 0) 8 8)).toArray) ∧ Below w.heap.size w w' := by
  have HD := Lib.hid h
  clear h
  obtain ⟨f, Hf⟩ : ∃ f : Nat → Nat, Hid ((fun j => s.C.getD j 0) = f) := ⟨_, rfl⟩
  rw [Hf.out]
  have Hg : Hid (∀ w (a : Nat), Dev B w b m s → a < 8 → Calls Tryz.prog 123 #[.pointer (some ⟨b.d, 0, none⟩), .int .i64 a] w fun e w' => e = .returned (.int .u64 (f a : Nat)) ∧ w = w') := fun w a hd ha => by
    have := get_yes B b m s a w hd (by omega) hm
    rw [show s.C.getD a 0 = f a by rw [← Hf.out]] at this
    exact this
  obtain ⟨n1, Hn1⟩ : ∃ n, Hid (w.heap.size = n) := ⟨_, rfl⟩
  obtain ⟨n2, Hn2⟩ : ∃ n, Hid (w.heap.size + 1 = n) := ⟨_, rfl⟩
  have h12 : ¬ n1 = n2 := by rw [← Hn1.out, ← Hn2.out]; omega
  have HB0 : Hid (SE w ((w.alloc (.cells (wcells (zerosN 8)).toArray 180)).alloc (.cells (wcells (zerosN 8)).toArray 180)) n1 n1 n2 0 [] [] → True) := fun _ => trivial
  have HB1 : Hid (Below w.heap.size w ((w.alloc (.cells (wcells (zerosN 8)).toArray 180)).alloc (.cells (wcells (zerosN 8)).toArray 180))) := (below_box w _).alloc (by simp) _
  have HR1 : Hid (Blk ((w.alloc (.cells (wcells (zerosN 8)).toArray 180)).alloc (.cells (wcells (zerosN 8)).toArray 180)) n1 180 (wcells (zerosN 8)).toArray) := by rw [← Hn1.out]; exact (Blk.new w 180 _).alloc _
  have HO1 : Hid (Blk ((w.alloc (.cells (wcells (zerosN 8)).toArray 180)).alloc (.cells (wcells (zerosN 8)).toArray 180)) n2 180 (wcells (zerosN 8)).toArray) := by
    rw [← Hn2.out]
    refine Lib.hid ?_
    have := Blk.new (w.alloc (.cells (wcells (zerosN 8)).toArray 180)) 180 (wcells (zerosN 8)).toArray
    simpa using this
  clear HB0
  go_enter Tryz.func177, Tryz.ntmps177
  go_wp2_with fail
  rw [Hn2.out, Hn1.out]
  have hw : (w.alloc (.cells #[.int .u64 0, .int .u64 0, .int .u64 0, .int .u64 0, .int .u64 0, .int .u64 0, .int .u64 0, .int .u64 0] 180)).alloc (.cells #[.int .u64 0, .int .u64 0, .int .u64 0, .int .u64 0, .int .u64 0, .int .u64 0, .int .u64 0, .int .u64 0] 180) = ((w.alloc (.cells (wcells (zerosN 8)).toArray 180)).alloc (.cells (wcells (zerosN 8)).toArray 180)) := rfl
  rw [hw]
  clear hw
  generalize ((w.alloc (.cells (wcells (zerosN 8)).toArray 180)).alloc (.cells (wcells (zerosN 8)).toArray 180)) = w1 at *
  go_loopw [5] (fun v5 wr => ∃ k : Nat, v5 = .int .i64 k ∧ k ≤ 8 ∧ Below w.heap.size w wr ∧ Blk wr n1 180 (wcells (zerosN 8)).toArray ∧ Blk wr n2 180 (wcells (copyS f 8 k)).toArray) (fun v5 _ => 8 - (intOf v5).toNat)
  case atStart => exact ⟨0, rfl, Nat.zero_le _, HB1.out, HR1.out, HO1.out⟩
  case round =>
    clear HB1 HR1 HO1
    obtain ⟨k, rfl, hk, hB, hR, hO⟩ := hrel
    have HB := Lib.hid hB
    have HR := Lib.hid hR
    have HO := Lib.hid hO
    clear hB hR hO
    have hl := copyS_len f 8 k
    by_cases hk8 : k < 8
    · have HS : Hid (copyS f 8 (k + 1) = (copyS f 8 k).set k (f k)) := rfl
      have y0 := HO.out.word k (by omega)
      have y1 := HO.out.frozen k
      go_wp2_with fail
      refine (Hg.out _ k (HD.out.below HB.out (Nat.le_refl _)) hk8).mono ?_
      rintro e w4 ⟨rfl, rfl⟩
      obtain ⟨v, Hv⟩ : ∃ v, Hid (f k = v) := ⟨_, rfl⟩
      rw [Hv.out] at HS ⊢
      have hn2 : w.heap.size ≤ n2 := by rw [← Hn2.out]; omega
      go_wp2_with fail
      exact ⟨⟨k + 1, by go_num, by omega, HB.out.setCell (p := ⟨n2, k, none⟩) hn2 _, HR.out.far (p := ⟨n2, k, none⟩) h12 _, by rw [HS.out]; exact HO.out.setw k v⟩, by simp [intOf]; omega⟩
    · obtain rfl : k = 8 := by omega
      have hsz : (Tryz.prog.info? 180).map (·.size) = some (wcells (copyS f 8 8)).toArray.size := by rw [size180]; simp [wcells_len, hl]
      have hn1 : w.heap.size ≤ n1 := by rw [← Hn1.out]; exact Nat.le_refl _
      go_wp2_with (first
        | (refine wpList_load_row rfl 180 (.tmp 3) rfl n2 rfl 180 _ (0, 0) _ HO.out Tryz.underlying180 rfl hsz ?_)
        | (refine wpList_store_row rfl (.tmp 2) (.tmp 15) rfl rfl rfl HR.out hsz (by simp [wcells_len, hl, zerosN]) (by simpa using wcells_one) ?_))
      intro w2 hB2 hM2
      have HB2 := Lib.hid hB2
      have HG2 := Lib.hid (Below.mod HB.out hM2 HB.out.size (fun k _ e => by omega))
      clear hB2 hM2
      go_wp2_with fail
      refine bodyPost_ret (results_cell_row rfl _ _ n1 180 _ _ _ rfl HB2.out Tryz.underlying180 rfl hsz) rfl ?_
      exact ⟨rfl, HG2.out⟩
end Go.Proofs.YtcnjipicifkfjaaGreat

/- Arrays of words compared; super.Decode, super.Read. -/
namespace Go.Proofs.YtcnjipicifkfjaaGreat
open Go.RowKit
set_option linter.unusedVariables false
set_option linter.unusedSimpArgs false

theorem cells28 : Tryz.prog.cellsOf 28 = 1 := by kernel_rfl
theorem eq_items (d n : Nat) (L L' : List Nat) (hl : L.length = n) (hl' : L'.length = n) (w : World) (is : List Nat) (hi : ∀ i ∈ is, i < n) :
    (Op.eqItems (d + 1) 28 1 (wcells L).toArray (wcells L').toArray is).run Tryz.prog w = .ok (is.all fun i => L.getD i 0 == L'.getD i 0) w := by
  induction is with
  | nil => simp [Op.eqItems]
  | cons i is ih =>
    have hlt := hi i (by simp)
    have p1 := part_one (P := Tryz.prog) (w := w) 28 (wcells L).toArray (i * 1) _ Tryz.underlying28 rfl (by rw [Nat.mul_one, List.getElem?_toArray]; exact wcells_at L i (by omega))
    have p2 := part_one (P := Tryz.prog) (w := w) 28 (wcells L').toArray (i * 1) _ Tryz.underlying28 rfl (by rw [Nat.mul_one, List.getElem?_toArray]; exact wcells_at L' i (by omega))
    have p3 := run_equalIn_int (P := Tryz.prog) w d 28 .u64 .u64 (L.getD i 0 : Nat) (L'.getD i 0 : Nat) Tryz.underlying28
    have e : (((L.getD i 0 : Nat) : Int) == ((L'.getD i 0 : Nat) : Int)) = (L.getD i 0 == L'.getD i 0) := by
      rw [Bool.eq_iff_iff]; simp only [beq_iff_eq]; omega
    rw [e] at p3
    simp only [Op.eqItems, Sem.run_bind, p1, p2, p3, Result.andThen_ok, List.all_cons]
    cases L.getD i 0 == L'.getD i 0
    · simp
    · simpa using ih (fun j hj => hi j (by simp [hj]))
theorem eq_words (d n : Nat) (t : TypeId) (L L' : List Nat) (hl : L.length = n) (hl' : L'.length = n) (ht : Tryz.prog.underlying t = some (.array n 28)) (w : World) :
    (Op.equalIn (d + 2) t (.agg (wcells L).toArray) (.agg (wcells L').toArray)).run Tryz.prog w = .ok (decide (L = L')) w := by
  obtain ⟨i, hi, -⟩ := info28s
  have hb : ((List.range n).all fun i => L.getD i 0 == L'.getD i 0) = decide (L = L') := by
    rw [Bool.eq_iff_iff]
    simp only [List.all_eq_true, List.mem_range, beq_iff_eq, decide_eq_true_eq]
    constructor
    · intro h
      exact list_ext0 (by rw [hl, hl']) (fun j hj => h j (by omega))
    · rintro rfl j hj
      rfl
  rw [run_equalIn_array w (d + 1) _ _ ht hi, cells28, eq_items d n L L' hl hl' w (List.range n) (fun i hi => by simpa using hi), hb]
theorem neq_words (n : Nat) (t : TypeId) (L L' : List Nat) (hl : L.length = n) (hl' : L'.length = n) (ht : Tryz.prog.underlying t = some (.array n 28)) (w : World) :
    (binOp .neq t (.agg (wcells L).toArray) (.agg (wcells L').toArray)).run Tryz.prog w = .ok (.bool (!decide (L = L'))) w := by
  simp only [binOp]
  simp [Op.equal, Op.maxDepth, eq_words 9998 n t L L' hl hl' ht]

/-- The first line's cells. -/
def superC (K id c : Nat) : Array Value := #[.int .u64 8390047168116913201, .int .u64 1, .int .u64 K, .int .u64 id, .int .u64 0, .int .u64 0, .int .u64 0, .int .u64 c]
theorem superC_eq (K id : Nat) : (wcells (superL K id)).toArray = superC K id (crcW [8390047168116913201, 1, K, id, 0, 0, 0]) := rfl
/-- The cells of a first line, in a world. -/
def SupAt (w : World) (n K id c : Nat) : Prop :=
  w.cell? ⟨n, 0, none⟩ = some (.int .u64 8390047168116913201) ∧ w.cell? ⟨n, 1, none⟩ = some (.int .u64 1) ∧ w.cell? ⟨n, 2, none⟩ = some (.int .u64 K) ∧ w.cell? ⟨n, 3, none⟩ = some (.int .u64 id) ∧
  w.cell? ⟨n, 4, none⟩ = some (.int .u64 0) ∧ w.cell? ⟨n, 5, none⟩ = some (.int .u64 0) ∧ w.cell? ⟨n, 6, none⟩ = some (.int .u64 0) ∧ w.cell? ⟨n, 7, none⟩ = some (.int .u64 c)
theorem SupAt.of {w : World} {n K id c : Nat} (h : Blk w n 180 (superC K id c)) : SupAt w n K id c :=
  ⟨h.cell 0, h.cell 1, h.cell 2, h.cell 3, h.cell 4, h.cell 5, h.cell 6, h.cell 7⟩

set_option maxRecDepth 100000 in
set_option maxHeartbeats 2000000 in
theorem supdec_any (K id : Nat) (w : World) (hK : 2 ≤ K) (hK2 : K ≤ 256) (hid : id < 18446744073709551616) :
    Calls Tryz.prog 176 #[.agg (wcells (superL K id)).toArray] w fun e w' => e = .returned (.tuple #[.agg #[.int .i64 K, .int .u64 id], .int .i64 0]) ∧ Below w.heap.size w w' := by
  have Hlt := Lib.hid (superL_lt K id hK2 hid)
  have He := Lib.hid (fun w => supenc_any K id w hK2 hid)
  have Hr := Lib.hid (fun w => gright_any K w hK hK2)
  rw [superC_eq] at He ⊢
  have hcl := crcW_lt [8390047168116913201, 1, K, id, 0, 0, 0]
  have Hne : Hid (∀ w, (binOp .neq 180 (.agg (superC K id (crcW [8390047168116913201, 1, K, id, 0, 0, 0]))) (.agg (superC K id (crcW [8390047168116913201, 1, K, id, 0, 0, 0])))).run Tryz.prog w = .ok (.bool false) w) := fun w => by
    rw [← superC_eq, neq_words 8 180 _ _ rfl rfl Tryz.underlying180]
    simp
  obtain ⟨c, Hc⟩ : ∃ c, Hid (crcW [8390047168116913201, 1, K, id, 0, 0, 0] = c) := ⟨_, rfl⟩
  rw [Hc.out] at He Hne hcl ⊢
  have HW : Hid (∀ (n : Nat) (w : World), Blk w n 180 (superC K id c) → Calls Tryz.prog 171 #[.slice (some ⟨n, 0, none⟩) 7 8] w fun e w' => e = .returned (.int .u32 c) ∧ Below w.heap.size w w') := fun n w h => by
    have hlt := Hlt.out
    unfold superL at hlt
    rw [Hc.out] at hlt
    have := cwords_any (some ⟨n, 0, none⟩) 7 8 [8390047168116913201, 1, K, id, 0, 0, 0] w (by omega) (fun j hj => by
      have := hlt j
      rcases (by simp at hj; omega : j = 0 ∨ j = 1 ∨ j = 2 ∨ j = 3 ∨ j = 4 ∨ j = 5 ∨ j = 6) with rfl | rfl | rfl | rfl | rfl | rfl | rfl <;> exact this)
      (Blk.part (L := [8390047168116913201, 1, K, id, 0, 0, 0, c]) h 0 7 (by simp))
    rw [Hc.out] at this
    exact this
  obtain ⟨n1, Hn1⟩ : ∃ n, Hid (w.heap.size = n) := ⟨_, rfl⟩
  obtain ⟨n2, Hn2⟩ : ∃ n, Hid (w.heap.size + 1 = n) := ⟨_, rfl⟩
  have h12 : ¬ n1 = n2 := by rw [← Hn1.out, ← Hn2.out]; omega
  have HB1 : Hid (Below w.heap.size w ((w.alloc (.cells (superC K id c) 180)).alloc (.cells #[.int .i64 0, .int .u64 0] 96))) := (below_box w _).alloc (by simp) _
  have HL1 : Hid (Blk ((w.alloc (.cells (superC K id c) 180)).alloc (.cells #[.int .i64 0, .int .u64 0] 96)) n1 180 (superC K id c)) := by rw [← Hn1.out]; exact (Blk.new w 180 _).alloc _
  have HR1 : Hid (Blk ((w.alloc (.cells (superC K id c) 180)).alloc (.cells #[.int .i64 0, .int .u64 0] 96)) n2 96 #[.int .i64 0, .int .u64 0]) := by
    rw [← Hn2.out]
    refine Lib.hid ?_
    have := Blk.new (w.alloc (.cells (superC K id c) 180)) 96 #[.int .i64 0, .int .u64 0]
    simpa using this
  unfold superC at He Hne HB1 HL1 HR1 ⊢
  go_enter Tryz.func176, Tryz.ntmps176
  go_wp2_with fail
  rw [Hn2.out, Hn1.out]
  generalize (w.alloc _).alloc _ = w1 at *
  obtain ⟨q0, q1, q2, q3, q4, q5, q6, q7⟩ := SupAt.of HL1.out
  go_wp2_with fail
  have HLd : Hid (Blk w1.drew n1 180 (superC K id c)) := HL1.out.drew
  have q7d : w1.drew.cell? ⟨n1, 7, none⟩ = some (.int .u64 c) := q7
  have hwc : IntKind.u64.wrap (c : Int) = (c : Int) := by rw [IntKind.wrap_u64]; omega
  go_region_held3 (fun w' => w'.cell? ⟨n1, 7, none⟩ = some (.int .u64 c))
    (first | exact q7d | exact (HLd.out.below hb2 HLd.out.lt).cell 7)
    ((go_at_call 171; refine (HW.out n1 _ HLd.out).mono ?_; rintro e w2 ⟨rfl, hb2⟩))
  have HB2 : Hid (Below w.heap.size w w2) := (below_drewN HB1.out 1).trans (hb2.mono HB1.out.size)
  have HL2 : Hid (Blk w2 n1 180 (superC K id c)) := HLd.out.below hb2 HLd.out.lt
  have HR2 : Hid (Blk w2 n2 96 #[.int .i64 0, .int .u64 0]) := HR1.out.drew.below hb2 HR1.out.lt
  clear q0 q1 q2 q3 q4 q5 q6 q7 q7d HB1 HL1 HR1 HLd hb2
  obtain ⟨q0, q1, q2, q3, q4, q5, q6, q7⟩ := SupAt.of HL2.out
  have hK3 : K ≤ 1073741824 := by omega
  have hmin : min (K : Int) 1073741824 = (K : Int) := by omega
  obtain ⟨n4, Hn4⟩ : ∃ n, Hid (w2.heap.size = n) := ⟨_, rfl⟩
  go_wp2_with fail
  rw [Hn4.out]
  have hn4 : ¬ n4 = n2 := by have := HR2.out.lt; rw [Hn4.out] at this; omega
  have hn4' : ¬ n2 = n4 := fun e => hn4 e.symm
  have HB3 : Hid (Below w.heap.size w (w2.alloc (.cells #[.int .i64 K, .int .u64 id] 96)).drew) := below_drewN (HB2.out.alloc HB2.out.size _) 1
  have HL3 : Hid (Blk (w2.alloc (.cells #[.int .i64 K, .int .u64 id] 96)).drew n1 180 (superC K id c)) := (HL2.out.alloc _).drew
  have HR3 : Hid (Blk (w2.alloc (.cells #[.int .i64 K, .int .u64 id] 96)).drew n2 96 #[.int .i64 0, .int .u64 0]) := (HR2.out.alloc _).drew
  have HS3 : Hid (Blk (w2.alloc (.cells #[.int .i64 K, .int .u64 id] 96)).drew n4 96 #[.int .i64 K, .int .u64 id]) := by rw [← Hn4.out]; exact (Blk.new w2 96 _).drew
  generalize w2.alloc _ = w3 at *
  clear q0 q1 q2 q3 q4 q5 q6 q7 HB2 HL2 HR2
  obtain ⟨q0, q1, q2, q3, q4, q5, q6, q7⟩ := SupAt.of HL3.out
  have r0 : w3.drew.cell? ⟨n4, 0, none⟩ = some (.int .i64 K) := HS3.out.cell 0
  have r1 : w3.drew.cell? ⟨n4, 1, none⟩ = some (.int .u64 id) := HS3.out.cell 1
  have hne := Hne.out
  go_region_held3 (fun w' => Below w3.drew.heap.size w3.drew w' ∧ w'.cell? ⟨n4, 0, none⟩ = some (.int .i64 K) ∧ w'.cell? ⟨n4, 1, none⟩ = some (.int .u64 id) ∧ w'.cell? ⟨n1, 0, none⟩ = some (.int .u64 8390047168116913201) ∧ w'.cell? ⟨n1, 1, none⟩ = some (.int .u64 1) ∧ w'.cell? ⟨n1, 2, none⟩ = some (.int .u64 K) ∧ w'.cell? ⟨n1, 3, none⟩ = some (.int .u64 id) ∧
      w'.cell? ⟨n1, 4, none⟩ = some (.int .u64 0) ∧ w'.cell? ⟨n1, 5, none⟩ = some (.int .u64 0) ∧ w'.cell? ⟨n1, 6, none⟩ = some (.int .u64 0) ∧ w'.cell? ⟨n1, 7, none⟩ = some (.int .u64 c))
    (first
      | exact ⟨Below.refl _ _, r0, r1, q0, q1, q2, q3, q4, q5, q6, q7⟩
      | exact ⟨hb5, (HS3.out.below hb5 HS3.out.lt).cell 0, (HS3.out.below hb5 HS3.out.lt).cell 1, SupAt.of (HL3.out.below hb5 HL3.out.lt)⟩
      | exact ⟨hb5.trans (hb6.mono hb5.size), ((HS3.out.below hb5 HS3.out.lt).below hb6 (HS3.out.below hb5 HS3.out.lt).lt).cell 0, ((HS3.out.below hb5 HS3.out.lt).below hb6 (HS3.out.below hb5 HS3.out.lt).lt).cell 1, SupAt.of ((HL3.out.below hb5 HL3.out.lt).below hb6 (HL3.out.below hb5 HL3.out.lt).lt)⟩)
    (first
      | (go_at_call 22; refine (Hr.out _).mono ?_; rintro e w5 ⟨rfl, hb5⟩)
      | (go_at_call 120; refine (He.out _).mono ?_; rintro e w6 ⟨rfl, hb6⟩))
  have HB6 : Hid (Below w.heap.size w w6) := (HB3.out.trans (hb5.mono HB3.out.size)).trans (hb6.mono (HB3.out.trans (hb5.mono HB3.out.size)).size)
  have HS6 : Hid (Blk w6 n4 96 #[.int .i64 K, .int .u64 id]) := (HS3.out.below hb5 HS3.out.lt).below hb6 (HS3.out.below hb5 HS3.out.lt).lt
  have HR6 : Hid (Blk w6 n2 96 #[.int .i64 0, .int .u64 0]) := (HR3.out.below hb5 HR3.out.lt).below hb6 (HR3.out.below hb5 HR3.out.lt).lt
  clear q0 q1 q2 q3 q4 q5 q6 q7 r0 r1 hb5 hb6 HB3 HL3 HR3 HS3 hne Hne He Hr HW
  have r0 : w6.cell? ⟨n4, 0, none⟩ = some (.int .i64 K) := HS6.out.cell 0
  have r1 : w6.cell? ⟨n4, 1, none⟩ = some (.int .u64 id) := HS6.out.cell 1
  have q0 : w6.cell? ⟨n2, 0, none⟩ = some (.int .i64 0) := HR6.out.cell 0
  have q1 : w6.cell? ⟨n2, 1, none⟩ = some (.int .u64 0) := HR6.out.cell 1
  have f0 := HR6.out.frozen 0
  have f1 := HR6.out.frozen 1
  have hn2 : w.heap.size ≤ n2 := by rw [← Hn2.out]; omega
  go_wp2_with fail
  have HR7 : Blk ((w6.setCell ⟨n2, 0, none⟩ (.int .i64 K)).setCell ⟨n2, 1, none⟩ (.int .u64 id)) n2 96 #[.int .i64 K, .int .u64 id] := Blk.conv ((HR6.out.set_ 0 _).set_ 1 _) rfl
  have z0 := HR7.cell 0
  have z1 := HR7.cell 1
  refine bodyPost_ret (v := .tuple #[.agg #[.int .i64 K, .int .u64 id], .int .i64 0]) (by simp [results, Tryz.results176, go_sem, z0, z1]) rfl ?_
  exact ⟨rfl, (HB6.out.setCell (p := ⟨n2, 0, none⟩) hn2 _).setCell (p := ⟨n2, 1, none⟩) hn2 _⟩
end Go.Proofs.YtcnjipicifkfjaaGreat

/- super.Read. -/
namespace Go.Proofs.YtcnjipicifkfjaaGreat
open Go.RowKit
set_option linter.unusedVariables false
set_option linter.unusedSimpArgs false

/-- A device begins with its first line. -/
def SupIn (s : DS) (K id : Nat) : Prop := ∀ j, j < 8 → s.C.getD j 0 = (superL K id).getD j 0

set_option maxRecDepth 100000 in
set_option maxHeartbeats 2000000 in
theorem supread_any (B : Nat) (b : DB) (m : Nat) (s : DS) (K id : Nat) (w : World) (h : Dev B w b m s) (hS : SupIn s K id) (hK : 2 ≤ K) (hK2 : K ≤ 200) (hid : id < 18446744073709551616) (hm : m = K * 64) :
    Calls Tryz.prog 129 #[.pointer (some ⟨b.d, 0, none⟩)] w fun e w' => e = .returned (.tuple #[.agg #[.int .i64 K, .int .u64 id], .int .i64 0]) ∧ Below w.heap.size w w' := by
  have HL : Hid (∀ w, Dev B w b m s → Calls Tryz.prog 177 #[.pointer (some ⟨b.d, 0, none⟩)] w fun e w' => e = .returned (.agg (wcells (superL K id)).toArray) ∧ Below w.heap.size w w') := fun w h => by
    have := supline_any B b m s w h (by omega) (by omega)
    rw [copyS_all _ (superL K id) 8 rfl hS] at this
    exact this
  have Hd := Lib.hid (fun w => supdec_any K id w hK (by omega) hid)
  have Hn := Lib.hid (fun (w : World) (h : Dev B w b m s) => len_any B b m s w h)
  have Hw := Lib.hid (fun w => gwords_any K w (by omega))
  rw [show K * 512 = 8 * m by omega] at Hw
  obtain ⟨N, HN⟩ : ∃ N, Hid (8 * m = N) := ⟨_, rfl⟩
  rw [HN.out] at Hn Hw
  obtain ⟨n1, Hn1⟩ : ∃ n, Hid (w.heap.size = n) := ⟨_, rfl⟩
  have H0 := Lib.hid (h.below (below_box w (.cells #[.int .i64 0, .int .u64 0] 96)) (Nat.le_refl _))
  have HB0 := Lib.hid (below_box w (.cells #[.int .i64 0, .int .u64 0] 96))
  have HR0 : Hid (Blk (w.alloc (.cells #[.int .i64 0, .int .u64 0] 96)) n1 96 #[.int .i64 0, .int .u64 0]) := by rw [← Hn1.out]; exact Blk.new w 96 _
  clear h hS
  go_enter Tryz.func129, Tryz.ntmps129
  go_wp2_with fail
  rw [Hn1.out]
  refine (HL.out _ H0.out).mono ?_
  rintro e w1 ⟨rfl, hb1⟩
  have H1 := Lib.hid (H0.out.below hb1 (Nat.le_refl _))
  have HB1 := Lib.hid (HB0.out.trans (hb1.mono HB0.out.size))
  have HR1 := Lib.hid (HR0.out.below hb1 HR0.out.lt)
  clear H0 HB0 HR0 hb1
  go_wp2_with fail
  refine (Hd.out _).mono ?_
  rintro e w2 ⟨rfl, hb2⟩
  have H2 := Lib.hid (H1.out.below hb2 (Nat.le_refl _))
  have HB2 := Lib.hid (HB1.out.trans (hb2.mono HB1.out.size))
  have HR2 := Lib.hid (HR1.out.below hb2 HR1.out.lt)
  clear H1 HB1 HR1 hb2
  obtain ⟨n4, Hn4⟩ : ∃ n, Hid (w2.heap.size = n) := ⟨_, rfl⟩
  go_wp2_with fail
  rw [Hn4.out]
  have H3 := Lib.hid (H2.out.below (below_box w2 (.cells #[.int .i64 K, .int .u64 id] 96)) (Nat.le_refl _))
  have HB3 : Hid (Below w.heap.size w (w2.alloc (.cells #[.int .i64 K, .int .u64 id] 96))) := HB2.out.alloc HB2.out.size _
  have HR3 := Lib.hid (HR2.out.alloc (.cells #[.int .i64 K, .int .u64 id] 96))
  have HS3 : Hid (Blk (w2.alloc (.cells #[.int .i64 K, .int .u64 id] 96)) n4 96 #[.int .i64 K, .int .u64 id]) := by rw [← Hn4.out]; exact Blk.new w2 96 _
  have hn4 : ¬ n4 = n1 := by have := HR2.out.lt; rw [Hn4.out] at this; omega
  have hn4' : ¬ n1 = n4 := fun e => hn4 e.symm
  generalize w2.alloc _ = w3 at *
  clear H2 HB2 HR2
  refine (Hw.out _).mono ?_
  rintro e w4 ⟨rfl, hb4⟩
  have H4 := Lib.hid (H3.out.below hb4 (Nat.le_refl _))
  have HB4 := Lib.hid (HB3.out.trans (hb4.mono HB3.out.size))
  have HR4 := Lib.hid (HR3.out.below hb4 HR3.out.lt)
  have HS4 := Lib.hid (HS3.out.below hb4 HS3.out.lt)
  clear H3 HB3 HR3 HS3 hb4
  have r0 : w4.cell? ⟨n4, 0, none⟩ = some (.int .i64 K) := HS4.out.cell 0
  have r1 : w4.cell? ⟨n4, 1, none⟩ = some (.int .u64 id) := HS4.out.cell 1
  have q0 : w4.cell? ⟨n1, 0, none⟩ = some (.int .i64 0) := HR4.out.cell 0
  have q1 : w4.cell? ⟨n1, 1, none⟩ = some (.int .u64 0) := HR4.out.cell 1
  have f0 := HR4.out.frozen 0
  have f1 := HR4.out.frozen 1
  have hn1 : w.heap.size ≤ n1 := by rw [← Hn1.out]; exact Nat.le_refl _
  go_wp2_with (go_at_call 43; refine (Hn.out _ H4.out).mono ?_; rintro e w3 ⟨rfl, rfl⟩)
  have HR7 : Blk ((w4.setCell ⟨n1, 0, none⟩ (.int .i64 K)).setCell ⟨n1, 1, none⟩ (.int .u64 id)) n1 96 #[.int .i64 K, .int .u64 id] := Blk.conv ((HR4.out.set_ 0 _).set_ 1 _) rfl
  have z0 := HR7.cell 0
  have z1 := HR7.cell 1
  refine bodyPost_ret (v := .tuple #[.agg #[.int .i64 K, .int .u64 id], .int .i64 0]) (by simp [results, Tryz.results129, go_sem, z0, z1]) rfl ?_
  exact ⟨rfl, (HB4.out.setCell (p := ⟨n1, 0, none⟩) hn1 _).setCell (p := ⟨n1, 1, none⟩) hn1 _⟩
end Go.Proofs.YtcnjipicifkfjaaGreat
