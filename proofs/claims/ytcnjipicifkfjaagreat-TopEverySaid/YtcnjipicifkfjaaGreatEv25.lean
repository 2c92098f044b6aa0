/- A range over a map of whole numbers; slices.Sort. -/
import Derived.Test.YtcnjipicifkfjaaGreatEv10
import Derived.Test.YtcnjipicifkfjaaGreatEv24
import Derived.Test.YtcnjipicifkfjaaGreatEv08
import Derived.Sort.OwnSortedInts
import Derived.LoopN
import Derived.Shelf.Slices.In.SortNone
import Derived.Deep.LoopGhost

namespace Go.Proofs.YtcnjipicifkfjaaGreat
open Go.RowKit
set_option linter.unusedVariables false
set_option linter.unusedSimpArgs false

/-- Where a range over a map stands: these entries have come. -/
structure Rng (w : World) (r q : Nat) (es : List (Nat × Value × Nat)) (clock : Nat) (vs : List (Nat × Value × Nat)) : Prop where
  m : MapR w r natK es clock
  i : ∃ seen : Array Nat, w.heap[q]? = some (.mapIter (some r) clock seen clock) ∧ seen.toList = vs.map (·.2.2)
  sub : ∀ e ∈ vs, e ∈ es
  nd : vs.Nodup
theorem born_inj {es : List (Nat × Value × Nat)} (h : (es.map (·.2.2)).Nodup) {a b : Nat × Value × Nat} (ha : a ∈ es) (hb : b ∈ es) (e : a.2.2 = b.2.2) : a = b := by
  obtain ⟨i, hi, rfl⟩ := List.getElem_of_mem ha
  obtain ⟨j, hj, rfl⟩ := List.getElem_of_mem hb
  rcases Nat.lt_trichotomy i j with h1 | h1 | h1
  · exact absurd e (by have := List.pairwise_iff_getElem.1 h i j (by simpa using hi) (by simpa using hj) h1; simpa using this)
  · subst h1; rfl
  · exact absurd e.symm (by have := List.pairwise_iff_getElem.1 h j i (by simpa using hj) (by simpa using hi) h1; simpa using this)
theorem Rng.next {P : Program} {w : World} {r q clock : Nat} {es vs : List (Nat × Value × Nat)} (h : Rng w r q es clock vs) :
    ((∀ e ∈ es, e ∈ vs) ∧ ∀ ty, (Instr.next (.pointer (some ⟨q, 0, none⟩)) false ty).run P w = .ok (.tuple #[.bool false]) w) ∨
    ∃ e ∈ es, e ∉ vs ∧ ∃ w', (∀ ty, (Instr.next (.pointer (some ⟨q, 0, none⟩)) false ty).run P w = .ok (.tuple #[.bool true, natK e.1, e.2.1]) w') ∧ Rng w' r q es clock (vs ++ [e]) ∧ Mod w w' (fun k => k = q) ∧
      (Instr.entry (.pointer (some ⟨q, 0, none⟩))).run P w' = .ok (.tuple #[natK e.1, e.2.1]) w' := by
  obtain ⟨seen, hq, hs⟩ := h.i
  have hnx := run_next_at (P := P) w 0 q r clock clock seen (es.map (mkE natK)).toArray clock hq h.m.at_ (fun x hx => by
    simp only [List.mem_map] at hx
    obtain ⟨e, he, rfl⟩ := hx
    exact h.m.lt e he) (Nat.le_refl _)
  have hsn : ∀ e ∈ es, (seen.contains (mkE natK e).born = false ↔ e ∉ vs) := by
    intro e he
    rw [← Bool.not_eq_true, Array.contains_iff_mem, ← Array.mem_toList_iff, hs]
    show ¬ e.2.2 ∈ vs.map (·.2.2) ↔ _
    refine not_congr ⟨fun hm => ?_, fun hm => List.mem_map_of_mem (f := fun x : Nat × Value × Nat => x.2.2) hm⟩
    obtain ⟨e2, h2, h3⟩ := List.mem_map.1 hm
    have := born_inj h.m.born (h.sub e2 h2) he h3
    rwa [this] at h2
  have hleft : ∀ x, x ∈ (leftOf (es.map (mkE natK)).toArray seen).toList ↔ ∃ e ∈ es, mkE natK e = x ∧ e ∉ vs := by
    intro x
    simp only [leftOf, Array.toList_filter, List.mem_filter, List.mem_map]
    constructor
    · rintro ⟨⟨e, he, rfl⟩, h2⟩
      exact ⟨e, he, rfl, (hsn e he).1 (by simpa using h2)⟩
    · rintro ⟨e, he, rfl, h2⟩
      exact ⟨⟨e, he, rfl⟩, by simpa using (hsn e he).2 h2⟩
  rcases hnx with ⟨h0, h1⟩ | ⟨x, hx, w1, hw1, h1⟩
  · refine .inl ⟨fun e he => ?_, fun ty => h1⟩
    by_cases hv : e ∈ vs
    · exact hv
    · have := (hleft (mkE natK e)).2 ⟨e, he, rfl, hv⟩
      rw [Array.eq_empty_of_size_eq_zero h0] at this
      simp at this
  · obtain ⟨e, he, rfl, hv⟩ := (hleft x).1 hx
    right
    have hrq : r ≠ q := by
      rintro rfl
      have := h.m.at_
      rw [hq] at this; cases this
    have hqs : q < w1.heap.size := by
      have := (Array.getElem?_eq_some_iff.1 hq).1
      rcases hw1 with rfl | rfl <;> exact this
    have hm : Mod w1 (ChangeMaps.setBlock w1 q (.mapIter (some r) clock (seen.push (mkE natK e).born) clock)) (fun k => k = q) :=
      ⟨rfl, rfl, rfl, by simp [ChangeMaps.setBlock], fun k hk hn => by simp only [ChangeMaps.setBlock]; exact Array.getElem?_setIfInBounds_ne (fun e => hn e.symm)⟩
    have hM : Mod w (ChangeMaps.setBlock w1 q (.mapIter (some r) clock (seen.push (mkE natK e).born) clock)) (fun k => k = q) := by
      rcases hw1 with rfl | rfl
      · exact hm
      · exact ⟨hm.os, hm.tape, hm.output, hm.size, hm.block⟩
    have hh : (ChangeMaps.setBlock w1 q (.mapIter (some r) clock (seen.push (mkE natK e).born) clock)).heap[q]? = some (.mapIter (some r) clock (seen.push (mkE natK e).born) clock) := by simp [ChangeMaps.setBlock, hqs]
    have hR := h.m.mod hM hrq
    refine ⟨e, he, hv, _, fun ty => h1, ⟨hR, ⟨_, hh, by simp [hs]; rfl⟩, ?_, ?_⟩, hM, ?_⟩
    · intro e2 h2
      rcases List.mem_append.1 h2 with h2 | h2
      · exact h.sub e2 h2
      · rw [List.mem_singleton.1 h2]; exact he
    · rw [List.nodup_append]
      exact ⟨h.nd, by simp, fun a ha b hb => by rw [List.mem_singleton.1 hb]; rintro rfl; exact hv ha⟩
    · refine run_entry_at _ q r clock seen (es.map (mkE natK)).toArray clock (mkE natK e) hh hR.at_ (by simp only [List.mem_map]; exact ⟨e, he, rfl⟩) ?_
      simp only [List.map_map]
      exact h.m.born
theorem Rng.start {w : World} {r clock : Nat} {es : List (Nat × Value × Nat)} (h : MapR w r natK es clock) (q : Nat) (hq : w.heap.size = q) : Rng (w.alloc (.mapIter (some r) clock #[] clock)) r q es clock [] :=
  ⟨h.mod ((Mod.refl w Nob).alloc _) (fun h => h), ⟨#[], by rw [← hq]; exact heap_alloc_new w _, rfl⟩, fun e he => absurd he List.not_mem_nil, List.nodup_nil⟩
theorem Rng.mod {w w' : World} {r q clock : Nat} {es vs : List (Nat × Value × Nat)} {S : Nat → Prop} (h : Rng w r q es clock vs) (m : Mod w w' S) (h1 : ¬ S r) (h2 : ¬ S q) : Rng w' r q es clock vs := by
  obtain ⟨seen, hq, hs⟩ := h.i
  have hlt : q < w.heap.size := (Array.getElem?_eq_some_iff.1 hq).1
  exact ⟨h.m.mod m h1, ⟨seen, (m.block q hlt h2).trans hq, hs⟩, h.sub, h.nd⟩
/-- When all have come, the keys are a permutation of the map's. -/
theorem Rng.perm {w : World} {r q clock : Nat} {es vs : List (Nat × Value × Nat)} (h : Rng w r q es clock vs) (hall : ∀ e ∈ es, e ∈ vs) (st : Nat → Bool) (hf : ∀ x, (if st x then some (Value.bool true) else none) = getE es x) (l : List Nat) (hl : l.Nodup) (hx : ∀ x, x ∈ l ↔ st x = true) :
    (vs.map (·.1)).Perm l := by
  have hk : (es.map (·.1)).Nodup := h.m.keys
  have hvk : (vs.map (·.1)).Nodup := by
    refine List.Pairwise.map (R := fun a b => a ∈ es ∧ b ∈ es ∧ a ≠ b) _ ?_ ?_
    · rintro a b ⟨ha, hb, hne⟩ e
      obtain ⟨i, hi, rfl⟩ := List.getElem_of_mem ha
      obtain ⟨j, hj, rfl⟩ := List.getElem_of_mem hb
      rcases Nat.lt_trichotomy i j with h1 | h1 | h1
      · have := List.pairwise_iff_getElem.1 hk i j (by simpa using hi) (by simpa using hj) h1
        simp at this; exact this e
      · subst h1; exact hne rfl
      · have := List.pairwise_iff_getElem.1 hk j i (by simpa using hj) (by simpa using hi) h1
        simp at this; exact this e.symm
    · refine List.Pairwise.imp_of_mem ?_ h.nd
      intro a b ha hb hne
      exact ⟨h.sub a ha, h.sub b hb, hne⟩
  rw [List.perm_ext_iff_of_nodup hvk hl]
  intro x
  rw [hx]
  constructor
  · intro hm
    obtain ⟨e, he, rfl⟩ := List.mem_map.1 hm
    have := getE_of_mem hk (x := e.1) (v := e.2.1) (b := e.2.2) (h.sub e he)
    rw [← hf] at this
    by_cases hs : st e.1 = true
    · exact hs
    · rw [if_neg hs] at this; cases this
  · intro hs
    have := hf x
    rw [if_pos hs] at this
    obtain ⟨b, hb⟩ := getE_mem this.symm
    exact List.mem_map.2 ⟨_, hall _ hb, rfl⟩
theorem mergeSort_nat {l ts : List Nat} (hp : l.Perm ts) (hs : ts.Pairwise (· ≤ ·)) : (l.map fun x : Nat => (x : Int)).mergeSort (fun x y => decide (x ≤ y)) = ts.map fun x : Nat => (x : Int) := by
  refine List.Perm.eq_of_pairwise (le := fun a b : Int => a ≤ b) (fun a b _ _ h1 h2 => by omega) ?_ ?_ ?_
  · have := List.pairwise_mergeSort (le := fun x y : Int => decide (x ≤ y)) (by simp; omega) (by simp; omega) (l.map fun x : Nat => (x : Int))
    exact this.imp (fun h => by simpa using h)
  · rw [List.pairwise_map]
    exact hs.imp (fun h => by omega)
  · exact (List.mergeSort_perm _ _).trans (hp.map _)
/-- slices.Sort of a row of the call's own. -/
theorem sort_any (base g n cap : Nat) (l ts : List Nat) (w : World) (hO : Own w base 3 1 (some ⟨g, 0, none⟩) n cap (ncells l)) (hn : n ≤ 1000000) (hp : l.Perm ts) (hs : ts.Pairwise (· ≤ ·)) :
    Calls Tryz.prog 193 #[.slice (some ⟨g, 0, none⟩) n cap] w fun e w' => e = .returned (.tuple #[]) ∧ Own w' base 3 1 (some ⟨g, 0, none⟩) n cap (ncells ts) ∧ Mod w w' (fun k => k = g) := by
  have hl : l.length = n := by have := hO.len; rw [ncells_len] at this; omega
  rcases hO.form with ⟨h, _⟩ | ⟨g', cur, h, hb, hB, h1, h2, h3, h4⟩
  · cases h
  cases h
  have hnc : ∀ l : List Nat, ncells l = (l.map fun x : Nat => (x : Int)).map (Value.int .i64) := by intro l; simp [ncells]
  have hlen : (l.map fun x : Nat => (x : Int)).length = n := by simp [hl]
  have hc := Tryz.slices_Sort_int g 0 cap (l.map fun x : Nat => (x : Int)) w (holds_of_blockI hB (by rw [hlen, ← Nat.mul_one n, h4, hnc])) hB.lt (by rw [hlen]; omega)
  rw [mergeSort_nat hp hs, hlen] at hc
  refine hc.mono ?_
  rintro e w' ⟨rfl, m, os, rfl⟩
  have hlt : (ts.map fun x : Nat => (x : Int)).length = (l.map fun x : Nat => (x : Int)).length := by simp [hp.length_eq]
  have hr := ownsRow_sortedI (n := m) (os := os) (e := 3) hlt hb hB (by rw [hlen]; exact h1) h2 h3
  rw [hlen, ← hnc] at hr
  obtain ⟨A', c', e1, hO'⟩ := Own.of_row hr
  cases e1
  refine ⟨rfl, hO', (Mod.of_grown (grownBy_sortedI _)).mono (fun k _ h => ?_)⟩
  cases h; rfl
end Go.Proofs.YtcnjipicifkfjaaGreat

/- trace: Seen. -/
namespace Go.Proofs.YtcnjipicifkfjaaGreat
open Go.RowKit
set_option linter.unusedVariables false
set_option linter.unusedSimpArgs false

theorem sort_none (w : World) : Calls Tryz.prog 193 #[.slice none 0 0] w fun e w' => e = .returned (.tuple #[]) ∧ w' = w := Any.slices_Sort_int_none Tryz.lays189 none 0 w
set_option maxRecDepth 100000 in
set_option maxHeartbeats 2000000 in
theorem trseen_any (w : World) (B tr d K g gcap sm bm c : Nat) (hs : List (Nat × Nat)) (A : Option Addr) (st : Nat → Bool) (opn ts : List Nat) (h : TraceX w B tr d K hs g gcap sm bm A c st opn) (hl : ts.Nodup) (hx : ∀ x, x ∈ ts ↔ st x = true) (hsrt : ts.Pairwise (· ≤ ·)) (htl : ts.length ≤ 1000) :
    Calls Tryz.prog 184 #[.pointer (some ⟨tr, 0, none⟩)] w fun e w' => ∃ A' cap', e = .returned (.slice A' ts.length cap') ∧ Own w' w.heap.size 3 1 A' ts.length cap' (ncells ts) ∧ Below w.heap.size w w' := by
  obtain ⟨i0, hi0, hz0, hz1, hz2⟩ := info3s
  obtain ⟨es, clock, hm, hf⟩ := h.s
  have c3 : w.cell? ⟨tr, 3, none⟩ = some (.map (some sm)) := h.b.cell 3
  obtain ⟨q, Hq⟩ : ∃ q, Hid (w.heap.size = q) := ⟨_, rfl⟩
  have hrg := run_range_map (P := Tryz.prog) hm Tryz.underlying266
  have HR := Lib.hid (Rng.start hm q Hq.out)
  have HB := Lib.hid (below_box w (.mapIter (some sm) clock #[] clock))
  have hsl : sm < w.heap.size := h.s.size
  have Hsl := Lib.hid hsl
  have Hfe := Lib.hid hf
  have Hl := Lib.hid hl
  have Hx := Lib.hid hx
  have Hsrt := Lib.hid hsrt
  have Hes : Hid (es.length = ts.length) := by
    have : (es.map (·.1)).Perm ts := by
      rw [List.perm_ext_iff_of_nodup hm.keys hl]
      intro x
      rw [hx]
      constructor
      · intro hmm
        obtain ⟨e, he, rfl⟩ := List.mem_map.1 hmm
        have := getE_of_mem hm.keys (x := e.1) (v := e.2.1) (b := e.2.2) he
        rw [← hf] at this
        unfold seenF at this
        split at this
        · assumption
        · cases this
      · intro hst
        have := hf x
        unfold seenF at this
        rw [if_pos hst] at this
        obtain ⟨b, hb⟩ := getE_mem this.symm
        exact List.mem_map.2 ⟨_, hb, rfl⟩
    have := this.length_eq
    rwa [List.length_map] at this
  have HQ1 : Hid (q < (w.alloc (.mapIter (some sm) clock #[] clock)).heap.size) := by show _ < _; rw [World.size_alloc, Hq.out]; omega
  clear h hm hf hl hx hsrt hsl
  go_enter Tryz.func184, Tryz.ntmps184
  go_wp2_with fail
  rw [Hq.out]
  clear hrg c3
  generalize w.alloc _ = w1 at *
  go_loopg [3] (es.length + 1) (fun k v wr => ∃ A n cap vs, v = .slice A n cap ∧ n = vs.length ∧ es.length + 1 = k + vs.length ∧ Own wr w.heap.size 3 1 A n cap (ncells (vs.map (·.1))) ∧ Rng wr sm q es clock vs ∧ Below w.heap.size w wr ∧ q < wr.heap.size)
  case atStart => exact ⟨none, 0, 0, [], rfl, rfl, by simp, Own.nil _ _ _ _, HR.out, HB.out, HQ1.out⟩
  case round =>
    clear HR HB
    obtain ⟨A, n, cap, vs, rfl, hn, hk, hO, hR, hB, hqw⟩ := hrel
    rcases hR.next (P := Tryz.prog) with ⟨hall, hnx⟩ | ⟨e, he, hv, w2, hnx, hR2, hM2, hen⟩
    · have HP : Hid ((vs.map (·.1)).Perm ts) := hR.perm hall st Hfe.out ts Hl.out Hx.out
      have hvl : vs.length = ts.length := by rw [← HP.out.length_eq, List.length_map]
      have HO := Lib.hid hO
      have HB := Lib.hid hB
      have Hvl := Lib.hid (hn.trans hvl)
      clear hR hO hB hall hvl
      have hnA : (A = none ∧ n = 0 ∧ cap = 0) ∨ ∃ g, A = some ⟨g, 0, none⟩ := by
        rcases HO.out.form with h | ⟨g, _, h, _⟩
        · exact .inl h
        · exact .inr ⟨g, h⟩
      rcases hnA with ⟨rfl, rfl, rfl⟩ | ⟨g, rfl⟩
      · have Hts : Hid (ts = []) := List.eq_nil_of_length_eq_zero Hvl.out.symm
        have hso := Lib.hid (sort_none wr)
        clear hn hk
        go_wp2_with fail
        refine hso.out.mono ?_
        rintro e w3 ⟨rfl, rfl⟩
        go_wp2_with fail
        go_ret
        rw [Hts.out]
        exact ⟨none, 0, rfl, Own.nil _ _ _ _, HB.out⟩
      · have hso := Lib.hid (sort_any w.heap.size g n cap (vs.map (·.1)) ts wr HO.out (by have := Hvl.out; omega) HP.out Hsrt.out)
        clear hn hk
        have Hgw := Lib.hid (HO.out.lt _ rfl).1
        go_wp2_with fail
        refine hso.out.mono ?_
        rintro e w3 ⟨rfl, hO3, hM3⟩
        have HO3 := Lib.hid hO3
        have HB3 : Hid (Below w.heap.size w w3) := Below.mod HB.out hM3 HB.out.size (fun k _ e => by rw [e]; exact Hgw.out)
        clear hO3 hM3 hso
        go_wp2_with fail
        go_ret
        rw [← Hvl.out]
        exact ⟨_, cap, rfl, HO3.out, HB3.out⟩
    · have hlt : vs.length + 1 ≤ es.length := by
        have h1 : (vs ++ [e]).length ≤ es.length := List.Nodup.length_le_of_subset hR2.nd (fun x hx => hR2.sub x hx)
        simpa using h1
      simp only [natK] at hnx hen
      have HO2 := Lib.hid (hO.mod hM2 (fun a ha hq2 => by
        obtain ⟨seen, h1, _⟩ := hR.i
        rcases hO.form with ⟨h3, _⟩ | ⟨g', cur, h3, _, hb, _⟩
        · rw [h3] at ha; cases ha
        · rw [h3] at ha
          cases ha
          unfold Blk at hb
          simp only at hq2
          rw [hq2, h1] at hb
          cases hb))
      have HB2 : Hid (Below w.heap.size w w2) := Below.mod hB hM2 hB.size (fun k _ e => by rw [e, ← Hq.out]; exact Nat.le_refl _)
      have HR2 := Lib.hid hR2
      have hw2 : w.heap.size ≤ w2.heap.size := HB2.out.size
      have hn2 : n ≤ 1000 := by have := Hes.out; omega
      have Hk := Lib.hid hk
      have Hn := Lib.hid hn
      have HqL := Lib.hid (Nat.lt_of_lt_of_le hqw hM2.size)
      have Hlt := Lib.hid hlt
      clear hR hR2 hO hB hM2 hk hn hqw hlt
      go_wp2_with (at_builtin; (refine append_elem rfl (.tmp 14) (.tmp 16) 60 rfl w.heap.size 3 i0 _ 1 8 Tryz.underlying60 hi0 hz0 hz1 hz2 rfl (by omega) A n cap (ncells (vs.map (·.1))) rfl HO2.out [.int .i64 e.1] rfl rfl (by simp [Value.oneCell']) (by unfold maxLen; omega) (by omega) hw2 ?_))
      intro A4 c4 w4 hO4 hM4 hat4
      have HO4 := Lib.hid hO4
      have HR4 := Lib.hid (HR2.out.mod hM4 (fun h => by
        obtain ⟨ad, had, e⟩ := h
        have := (HO2.out.lt ad had).1
        have := Hsl.out
        omega) (fun h => by
        obtain ⟨ad, had, e⟩ := h
        obtain ⟨seen, h1, _⟩ := HR2.out.i
        rcases HO2.out.form with ⟨h3, _⟩ | ⟨g', cur, h3, _, hb, _⟩
        · rw [h3] at had; cases had
        · rw [h3] at had
          cases had
          unfold Blk at hb
          simp only at e
          rw [e, h1] at hb
          cases hb))
      have HB4 : Hid (Below w.heap.size w w4) := Below.mod HB2.out hM4 hw2 (fun k _ h => by obtain ⟨ad, had, e⟩ := h; rw [← e]; exact (HO2.out.lt ad had).1)
      have HqL4 := Lib.hid (Nat.lt_of_lt_of_le HqL.out hM4.size)
      clear hO4 hM4 hat4 HO2 HR2 HB2
      go_wp2_with fail
      go_roundg (gk - 1)
      case measure =>
        have := Hk.out
        have := Hlt.out
        omega
      case rel =>
        refine ⟨A4, n + 1, c4, vs ++ [e], rfl, by rw [List.length_append, Hn.out]; rfl, by have := Hk.out; have := Hlt.out; rw [List.length_append]; simp; omega, ?_, HR4.out, HB4.out, HqL4.out⟩
        rw [List.map_append, List.map_cons, List.map_nil, ncells_snoc']
        exact HO4.out
end Go.Proofs.YtcnjipicifkfjaaGreat

/- trace: Run, Closure, along a pile. -/
namespace Go.Proofs.YtcnjipicifkfjaaGreat
open Go.RowKit
set_option linter.unusedVariables false
set_option linter.unusedSimpArgs false

/-- Where Run stands: how many rounds are to come. -/
def RunI (wr : World) (B tr d K : Nat) (hs : List (Nat × Nat)) (g gcap sm bm j k : Nat) : Prop :=
  ∃ A c, (k = 0 ∧ TraceX wr B tr d K hs g gcap sm bm A c (seenP 1 j) []) ∨ (1 ≤ k ∧ k ≤ j ∧ TraceX wr B tr d K hs g gcap sm bm A c (seenP k j) [adr k])
set_option maxRecDepth 100000 in
set_option maxHeartbeats 1000000 in
theorem trrun_any (B0 : Nat) (b : DB) (m : Nat) (s : DS) (tr K g gcap sm bm B j k : Nat) (hs : List (Nat × Nat)) (w : World) (hD : Dev B0 w b m s) (h : RunI w B tr b.d K hs g gcap sm bm j k) (hB : B ≤ w.heap.size) (hj : j ≤ 170)
    (hP : PileIn s m K hs j) (hm : m = K * 64) (hK : K ≤ 150) (hgB : g < B) (hbB : ∀ k, b.has k → k < B) :
    Calls Tryz.prog 183 #[.pointer (some ⟨tr, 0, none⟩)] w fun e w' => e = .returned (.int .i64 0) ∧ (∃ A' c', TraceX w' B tr b.d K hs g gcap sm bm A' c' (seenP 1 j) []) ∧ Below B w w' := by
  have HDb : Hid (∀ wr, Below B w wr → Dev B0 wr b m s) := fun wr hb => hD.mod (Mod.of_below hb) (fun k h1 h2 => by have := hbB k h1; omega)
  have Hst : Hid (∀ A c i wr, Below B w wr → 1 ≤ i → i ≤ j → TraceX wr B tr b.d K hs g gcap sm bm A c (seenP i j) [adr i] → Calls Tryz.prog 223 #[.pointer (some ⟨tr, 0, none⟩)] wr fun e w' => e = .returned (.bool true) ∧ (∃ A' c', TraceX w' B tr b.d K hs g gcap sm bm A' c' (if i = 1 then seenP 1 j else seenP (i - 1) j) (if i = 1 then [] else [adr (i - 1)])) ∧ Below B wr w') :=
    fun A c i wr hb hi hij hX => trstep_any B0 b m s tr K g gcap sm bm c B i j hs A wr (HDb.out wr hb) hX (Nat.le_trans hB hb.size) hi hij hj hP hm hK hgB hbB
  have Hen : Hid (∀ A c wr, TraceX wr B tr b.d K hs g gcap sm bm A c (seenP 1 j) [] → Calls Tryz.prog 223 #[.pointer (some ⟨tr, 0, none⟩)] wr fun e w' => e = .returned (.bool false) ∧ wr = w') :=
    fun A c wr hX => trstep_end tr b.d K g gcap sm bm c B hs A _ wr hX
  have H := Lib.hid h
  clear hD h hP hbB
  go_enter Tryz.func183, Tryz.ntmps183
  go_wp2_with fail
  go_loopg [] k (fun k wr => RunI wr B tr b.d K hs g gcap sm bm j k ∧ Below B w wr)
  case atStart => exact ⟨H.out, Below.refl _ _⟩
  case round =>
    clear H
    obtain ⟨⟨A, c, hR⟩, hb⟩ := hrel
    rcases hR with ⟨rfl, hX⟩ | ⟨hk1, hk2, hX⟩
    · have He := Lib.hid (Hen.out A c wr hX)
      have HX := Lib.hid hX
      have HB := Lib.hid hb
      have c5 : wr.cell? ⟨tr, 5, none⟩ = some (.map (some bm)) := hX.b.cell 5
      obtain ⟨q, hq⟩ := hX.bad
      have hlen : (Builtin.len_ #[267] 3 #[.map (some bm)]).run Tryz.prog wr = .ok (.int .i64 0) wr := by
        simp [Builtin.len_, Sem.run_bind, run_underlying Tryz.underlying267, MapKept.run_getObj_map hq, goInt]
      clear hX hb hq
      go_wp2_with fail
      refine He.out.mono ?_
      rintro e _ ⟨rfl, rfl⟩
      go_wp2_with fail
      go_ret
      exact ⟨rfl, ⟨A, c, HX.out⟩, HB.out⟩
    · have He := Lib.hid (Hst.out A c gk wr hb hk1 hk2 hX)
      have HB := Lib.hid hb
      clear hX hb
      go_wp2_with fail
      refine He.out.mono ?_
      rintro e w2 ⟨rfl, ⟨A2, c2, hX2⟩, hb2⟩
      have HX2 := Lib.hid hX2
      have HB2 : Hid (Below B w w2) := HB.out.trans hb2
      clear hX2 hb2
      go_wp2_with fail
      by_cases h1 : gk = 1
      · go_roundg 0
        case measure => omega
        case rel =>
          have := HX2.out
          rw [if_pos h1, if_pos h1] at this
          exact ⟨⟨A2, c2, .inl ⟨rfl, this⟩⟩, HB2.out⟩
      · go_roundg (gk - 1)
        case measure => omega
        case rel =>
          have := HX2.out
          rw [if_neg h1, if_neg h1] at this
          exact ⟨⟨A2, c2, .inr ⟨by omega, by omega, this⟩⟩, HB2.out⟩
/-- The addresses of a pile, rising. -/
def adrs (j : Nat) : List Nat := (List.range j).map fun t => adr (t + 1)
theorem adrs_len (j : Nat) : (adrs j).length = j := by simp [adrs]
theorem adrs_at (j i : Nat) (h : i < j) : (adrs j).getD i 0 = adr (i + 1) := by
  unfold adrs
  rw [List.getD_eq_getElem?_getD]
  simp [h]
theorem adrs_sorted (j : Nat) : (adrs j).Pairwise (· < ·) := by
  unfold adrs
  rw [List.pairwise_map]
  refine List.Pairwise.imp ?_ List.pairwise_lt_range
  intro a b h
  unfold adr
  omega
theorem adrs_nodup (j : Nat) : (adrs j).Nodup := (adrs_sorted j).imp (fun h => by omega)
theorem adrs_mem (j x : Nat) : x ∈ adrs j ↔ seenP 1 j x = true := by
  unfold adrs seenP adr
  rw [decide_eq_true_eq]
  simp only [List.mem_map, List.mem_range]
  constructor
  · rintro ⟨t, ht, rfl⟩
    omega
  · intro h
    exact ⟨(x - 512) / 3, by omega, by omega⟩
set_option maxRecDepth 100000 in
set_option maxHeartbeats 2000000 in
theorem closure_any (B0 : Nat) (b : DB) (m : Nat) (s : DS) (K g gcap j n cap : Nat) (hs : List (Nat × Nat)) (A : Option Addr) (l : List Nat) (w : World) (hD : Dev B0 w b m s) (hl : Own w 0 178 3 (some ⟨g, 0, none⟩) K gcap (hcells hs)) (hr : Rd w 1 A n (ncells l)) (hn1 : 1 ≤ n) (hn : n ≤ 1000)
    (hl0 : l.getD 0 0 = if j = 0 then 0 else adr j) (hl1 : ∀ i, 1 ≤ i → l.getD i 0 = 0) (hj : j ≤ 170) (hP : PileIn s m K hs j) (hm : m = K * 64) (hK : K ≤ 150) :
    Calls Tryz.prog 132 #[.pointer (some ⟨b.d, 0, none⟩), .agg #[.int .i64 K], .slice (some ⟨g, 0, none⟩) K gcap, .slice A n cap] w fun e w' => ∃ A' cap', e = .returned (.tuple #[.slice A' j cap', .int .i64 0]) ∧ Own w' w.heap.size 3 1 A' j cap' (ncells (adrs j)) ∧ Below w.heap.size w w' := by
  have hln : l.length = n := by have := hr.1; rw [ncells_len] at this; omega
  obtain ⟨n1, Hn1⟩ : ∃ n, Hid (w.heap.size = n) := ⟨_, rfl⟩
  have L1 := Lib.hid ((Loc.nil Nob w).box 64 #[.int .i64 K] n1 Hn1.out)
  have HB1 := Lib.hid (below_box w (.cells #[.int .i64 K] 64))
  have c0 : (w.alloc (.cells #[.int .i64 K] 64)).cell? ⟨n1, 0, none⟩ = some (.int .i64 K) := L1.out.b0.cell 0
  have Hnew := Lib.hid (trnew_any b.d K g gcap hs (w.alloc (.cells #[.int .i64 K] 64)) (hl.below (below_box w _) (Nat.le_refl _)))
  obtain ⟨B, HBB⟩ : ∃ B, Hid ((w.alloc (.cells #[.int .i64 K] 64)).heap.size = B) := ⟨_, rfl⟩
  have hB0 : w.heap.size ≤ B := by rw [← HBB.out]; exact HB1.out.size
  have hB1 : w.heap.size < B := by rw [← HBB.out, World.size_alloc]; omega
  rw [HBB.out] at Hnew
  have hg : g < B := Nat.lt_of_lt_of_le (hl.lt _ rfl).2 hB0
  have hbB : ∀ k, b.has k → k < B := fun k hk => Nat.lt_of_lt_of_le (hD.lt k hk).2 hB0
  have HDb : Hid (∀ wr, Below w.heap.size w wr → Dev B0 wr b m s) := fun wr hb => hD.below hb (Nat.le_refl _)
  have HRd : Hid (∀ wr, Below w.heap.size w wr → Rd wr 1 A n (ncells l)) := fun wr hb => hr.below hb (Nat.le_refl _)
  have Hrz : Hid (∀ tr sm bm A c st opn wr, TraceX wr B tr b.d K hs g gcap sm bm A c st opn → B ≤ wr.heap.size → Calls Tryz.prog 182 #[.pointer (some ⟨tr, 0, none⟩), .int .i64 0] wr fun e w' => e = .returned (.int .i64 0) ∧ TraceX w' B tr b.d K hs g gcap sm bm A c st opn ∧ Below B wr w') :=
    fun tr sm bm A c st opn wr hX hB => root_zero tr b.d K g gcap sm bm c B hs A st opn wr hX hB
  have Hra : Hid (∀ tr sm bm A c wr, 1 ≤ j → Below w.heap.size w wr → TraceX wr B tr b.d K hs g gcap sm bm A c (fun _ => false) [] → B ≤ wr.heap.size → Calls Tryz.prog 182 #[.pointer (some ⟨tr, 0, none⟩), .int .i64 (adr j : Nat)] wr fun e w' => e = .returned (.int .i64 0) ∧ (∃ A' c', TraceX w' B tr b.d K hs g gcap sm bm A' c' (seenP j j) [adr j]) ∧ Below B wr w') :=
    fun tr sm bm A c wr hj1 hb hX hB => root_at B0 b m s tr K g gcap sm bm c B j hs A wr (HDb.out wr hb) hX hB hj1 hP hm hK hg hbB
  have Hru : Hid (∀ tr sm bm wr, Below w.heap.size w wr → RunI wr B tr b.d K hs g gcap sm bm j j → B ≤ wr.heap.size → Calls Tryz.prog 183 #[.pointer (some ⟨tr, 0, none⟩)] wr fun e w' => e = .returned (.int .i64 0) ∧ (∃ A' c', TraceX w' B tr b.d K hs g gcap sm bm A' c' (seenP 1 j) []) ∧ Below B wr w') :=
    fun tr sm bm wr hb hX hB => trrun_any B0 b m s tr K g gcap sm bm B j j hs wr (HDb.out wr hb) hX hB hj hP hm hK hg hbB
  clear hD hl hr hP hg hbB
  go_enter Tryz.func132, Tryz.ntmps132
  go_wp2_with fail
  rw [Hn1.out]
  refine Hnew.out.mono ?_
  generalize w.alloc _ = w1 at *
  rintro e w2 ⟨tr, sm, bm, rfl, hX2, hb2⟩
  have HX2 := Lib.hid hX2
  have hsz1 : w.heap.size ≤ w1.heap.size := HB1.out.size
  have HB2 : Hid (Below w.heap.size w w2) := HB1.out.trans (hb2.mono hB0)
  have HSz2 : Hid (B ≤ w2.heap.size) := by show B ≤ _; rw [← HBB.out]; exact hb2.size
  clear hX2 hb2 c0 Hnew
  go_wp2_with fail
  go_loopw [11, 22] (fun v11 v22 wr => ∃ i : Nat, v22 = .int .i64 i ∧ v11 = .int .i64 0 ∧ i ≤ n ∧ ((i = 0 ∧ TraceX wr B tr b.d K hs g gcap sm bm none 0 (fun _ => false) []) ∨ (1 ≤ i ∧ RunI wr B tr b.d K hs g gcap sm bm j j)) ∧ Below w.heap.size w wr ∧ B ≤ wr.heap.size) (fun _ v22 _ => n - (intOf v22).toNat)
  case atStart => exact ⟨0, rfl, rfl, Nat.zero_le _, .inl ⟨rfl, HX2.out⟩, HB2.out, HSz2.out⟩
  case round =>
    clear HX2 HB2 HSz2
    obtain ⟨i, rfl, rfl, hi, hX, hb, hsz⟩ := hrel
    have HX := Lib.hid hX
    have HB := Lib.hid hb
    have HSz := Lib.hid hsz
    clear hX hb hsz
    by_cases hin : i < n
    · obtain ⟨g2, off, rfl, hg, hc⟩ := (HRd.out wr HB.out).2 (by omega)
      have y0 : wr.cell? ⟨g2, off + i, none⟩ = some (.int .i64 (l.getD i 0 : Nat)) := hc i _ (ncells_at l i (by rw [hln]; exact hin))
      have HC : Hid (Calls Tryz.prog 182 #[.pointer (some ⟨tr, 0, none⟩), .int .i64 (l.getD i 0 : Nat)] wr fun e w' => e = .returned (.int .i64 0) ∧ RunI w' B tr b.d K hs g gcap sm bm j j ∧ Below B wr w') := by
        rcases HX.out with ⟨h0, hX⟩ | ⟨h1, hX⟩
        · subst h0
          rw [hl0]
          by_cases hj0 : j = 0
          · rw [if_pos hj0]
            refine (Hrz.out tr sm bm _ _ _ _ wr hX HSz.out).mono ?_
            rintro e w' ⟨rfl, hX', hb'⟩
            refine ⟨rfl, ⟨_, _, .inl ⟨hj0, hX'.conv (fun x => ?_)⟩⟩, hb'⟩
            rw [hj0]; exact (seenP_none 0 x).symm
          · rw [if_neg hj0]
            refine (Hra.out tr sm bm _ _ wr (by omega) HB.out hX HSz.out).mono ?_
            rintro e w' ⟨rfl, ⟨A', c', hX'⟩, hb'⟩
            exact ⟨rfl, ⟨A', c', .inr ⟨by omega, Nat.le_refl _, hX'⟩⟩, hb'⟩
        · rw [hl1 i h1]
          obtain ⟨A1, c1, hX⟩ := hX
          rcases hX with ⟨h0, hX⟩ | ⟨h2, h3, hX⟩
          · refine (Hrz.out tr sm bm _ _ _ _ wr hX HSz.out).mono ?_
            rintro e w' ⟨rfl, hX', hb'⟩
            exact ⟨rfl, ⟨_, _, .inl ⟨h0, hX'⟩⟩, hb'⟩
          · refine (Hrz.out tr sm bm _ _ _ _ wr hX HSz.out).mono ?_
            rintro e w' ⟨rfl, hX', hb'⟩
            exact ⟨rfl, ⟨_, _, .inr ⟨h2, h3, hX'⟩⟩, hb'⟩
      generalize l.getD i 0 = x at *
      clear hc HX hl0 hl1
      go_wp2_with fail
      refine HC.out.mono ?_
      rintro e w3 ⟨rfl, hX3, hb3⟩
      have HX3 := Lib.hid hX3
      have HB3 : Hid (Below w.heap.size w w3) := HB.out.trans (hb3.mono hB0)
      have HSz3 := Lib.hid (Nat.le_trans HSz.out hb3.size)
      clear hX3 hb3 HC y0
      go_wp2_with fail
      exact ⟨⟨i + 1, by go_num, by go_num, by omega, .inr ⟨by omega, HX3.out⟩, HB3.out, HSz3.out⟩, by simp [intOf]; omega⟩
    · have hi0 : i = n := by omega
      have HX1 : Hid (RunI wr B tr b.d K hs g gcap sm bm j j) := by
        rcases HX.out with ⟨h0, _⟩ | ⟨_, h⟩
        · omega
        · exact h
      subst hi0
      have HC := Lib.hid (Hru.out tr sm bm wr HB.out HX1.out HSz.out)
      clear hl0 hl1 HX
      go_wp2_with fail
      refine HC.out.mono ?_
      rintro e w3 ⟨rfl, ⟨A3, c3, hX3⟩, hb3⟩
      have HS := Lib.hid (trseen_any w3 B tr b.d K g gcap sm bm c3 hs A3 (seenP 1 j) [] (adrs j) hX3 (adrs_nodup j) (adrs_mem j) ((adrs_sorted j).imp (fun h => by omega)) (by rw [adrs_len]; omega))
      rw [adrs_len] at HS
      have HB3 : Hid (Below w.heap.size w w3) := HB.out.trans (hb3.mono hB0)
      clear hX3 hb3 HC
      go_wp2_with fail
      refine HS.out.mono ?_
      rintro e w4 ⟨A4, c4, rfl, hO4, hb4⟩
      have HO4 := Lib.hid (hO4.base_ HB3.out.size)
      have HB4 : Hid (Below w.heap.size w w4) := HB3.out.trans (hb4.mono HB3.out.size)
      clear hO4 hb4 HS
      go_wp2_with fail
      go_ret2
      exact ⟨A4, c4, rfl, HO4.out, HB4.out⟩
end Go.Proofs.YtcnjipicifkfjaaGreat
