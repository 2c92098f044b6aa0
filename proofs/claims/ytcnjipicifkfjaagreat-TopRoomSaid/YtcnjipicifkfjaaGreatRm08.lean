/- free: lists of free cells; Has, Push. -/
import Derived.Test.YtcnjipicifkfjaaGreatRm07
import Derived.Test.YtcnjipicifkfjaaGreatRm02
import Derived.Test.YtcnjipicifkfjaaGreatRm04
import Derived.Test.YtcnjipicifkfjaaGreatRm06

namespace Go.Proofs.YtcnjipicifkfjaaGreat
open Go.RowKit
set_option linter.unusedVariables false
set_option linter.unusedSimpArgs false

/-- The cells of the lists: of one class alone there are any. -/
def fcells (k : Nat) (v : Value) (mb : Nat) : Array Value := ((List.range 32).map (fun j => if j = k then v else Value.slice none 0 0) ++ [Value.map (some mb)]).toArray
theorem fcells_at (k : Nat) (v : Value) (mb : Nat) (hk : k < 32) : (fcells k v mb)[k]? = some v := by
  unfold fcells
  rw [List.getElem?_toArray, List.getElem?_append_left (by simp; exact hk)]
  simp [hk]
theorem fcells_map (k : Nat) (v : Value) (mb : Nat) : (fcells k v mb)[32]? = some (.map (some mb)) := by
  unfold fcells
  rw [List.getElem?_toArray, List.getElem?_append_right (by simp)]
  simp
theorem fcells_set (k : Nat) (v u : Value) (mb : Nat) : (fcells k v mb).setIfInBounds k u = fcells k u mb ∨ 32 ≤ k := by
  rcases Nat.lt_or_ge k 32 with hk | hk
  · refine .inl ?_
    unfold fcells
    rw [List.setIfInBounds_toArray]
    congr 1
    rw [List.set_append_left _ _ (by simp; exact hk)]
    congr 1
    apply List.ext_getElem?
    intro i
    by_cases hi : k = i
    · subst hi
      simp [hk]
    · rw [List.getElem?_set_ne hi]
      simp only [List.getElem?_map]
      cases hr : (List.range 32)[i]? with
      | none => rfl
      | some y =>
        have : y = i := by
          have := List.getElem?_eq_some_iff.1 hr
          obtain ⟨h1, h2⟩ := this
          simp at h2
          exact h2.symm
        subst this
        have hyk : ¬ y = k := fun e => hi e.symm
        simp [hyk]
  · exact .inr hk

/-- Where a mutator's cells lie, and what the map tells of it. -/
def CacheR (w : World) (k : Nat) (fm : Nat × Nat → Option Value) (ad : Nat → Option Addr) (cp : Nat → Nat) (cs : Nat → List Nat) (m : Nat) : Prop :=
  (fm (m, k) = none ∧ cs m = [] ∧ ad m = none ∧ cp m = 0) ∨ (fm (m, k) = some (.slice (ad m) (cs m).length (cp m)) ∧ Own w 0 3 1 (ad m) (cs m).length (cp m) (ncells (cs m)))
/-- The lists at block f, of class k: those for all; each mutator's own. -/
structure FreeX (w : World) (F : Nat → Prop) (f k : Nat) (glob : List Nat) (cs : Nat → List Nat) (mb : Nat) (A : Option Addr) (cap : Nat) (fm : Nat × Nat → Option Value) (ad : Nat → Option Addr) (cp : Nat → Nat) : Prop where
  hk : k < 32
  b : Blk w f 238 (fcells k (.slice A glob.length cap) mb)
  g : Own w 0 3 1 A glob.length cap (ncells glob)
  m : MapF w mb slotK fm
  c : ∀ m, CacheR w k fm ad cp cs m
  no : ∀ m j, j ≠ k → fm (m, j) = none
  d1 : ∀ a m b, A = some a → ad m = some b → a.block ≠ b.block
  d2 : ∀ m m' a b, m ≠ m' → ad m = some a → ad m' = some b → a.block ≠ b.block
  ff : F f
  fmb : F mb
  fA : ∀ a, A = some a → F a.block
  fad : ∀ m a, ad m = some a → F a.block
def FreeR (w : World) (F : Nat → Prop) (f k : Nat) (glob : List Nat) (cs : Nat → List Nat) : Prop := ∃ mb A cap fm ad cp, FreeX w F f k glob cs mb A cap fm ad cp
section
variable {w w' : World} {F F' S : Nat → Prop} {f k : Nat} {glob : List Nat} {cs : Nat → List Nat} {mb : Nat} {A : Option Addr} {cap : Nat} {fm : Nat × Nat → Option Value} {ad : Nat → Option Addr} {cp : Nat → Nat}
theorem CacheR.mod {m : Nat} (h : CacheR w k fm ad cp cs m) (hm : Mod w w' S) (hs : ∀ a, ad m = some a → ¬ S a.block) : CacheR w' k fm ad cp cs m := by
  rcases h with h | ⟨h1, h2⟩
  · exact .inl h
  · exact .inr ⟨h1, h2.mod hm hs⟩
theorem FreeX.mod (h : FreeX w F f k glob cs mb A cap fm ad cp) (m : Mod w w' S) (hs : ∀ k, F k → ¬ S k) : FreeX w' F f k glob cs mb A cap fm ad cp :=
  ⟨h.hk, m.blk h.b (hs _ h.ff), h.g.mod m (fun a ha => hs _ (h.fA a ha)), h.m.mod m (hs _ h.fmb), fun x => (h.c x).mod m (fun a ha => hs _ (h.fad x a ha)), h.no, h.d1, h.d2, h.ff, h.fmb, h.fA, h.fad⟩
theorem FreeR.mod (h : FreeR w F f k glob cs) (m : Mod w w' S) (hs : ∀ k, F k → ¬ S k) : FreeR w' F f k glob cs := by
  obtain ⟨mb, A, cap, fm, ad, cp, h⟩ := h
  exact ⟨mb, A, cap, fm, ad, cp, h.mod m hs⟩
theorem FreeX.lt (h : FreeX w F f k glob cs mb A cap fm ad cp) : f < w.heap.size ∧ mb < w.heap.size ∧ (∀ a, A = some a → a.block < w.heap.size) ∧ ∀ m a, ad m = some a → a.block < w.heap.size := by
  refine ⟨h.b.lt, h.m.size, fun a ha => (h.g.lt a ha).2, fun m a ha => ?_⟩
  rcases h.c m with ⟨_, _, h1, _⟩ | ⟨_, h2⟩
  · rw [h1] at ha; cases ha
  · exact (h2.lt a ha).2
theorem FreeX.weak (h : FreeX w F f k glob cs mb A cap fm ad cp) (hF : ∀ k, k < w.heap.size → F k → F' k) : FreeX w F' f k glob cs mb A cap fm ad cp := by
  obtain ⟨l1, l2, l3, l4⟩ := h.lt
  exact ⟨h.hk, h.b, h.g, h.m, h.c, h.no, h.d1, h.d2, hF _ l1 h.ff, hF _ l2 h.fmb, fun a ha => hF _ (l3 a ha) (h.fA a ha), fun m a ha => hF _ (l4 m a ha) (h.fad m a ha)⟩
theorem FreeR.weak (h : FreeR w F f k glob cs) (hF : ∀ k, k < w.heap.size → F k → F' k) : FreeR w F' f k glob cs := by
  obtain ⟨mb, A, cap, fm, ad, cp, h⟩ := h
  exact ⟨mb, A, cap, fm, ad, cp, h.weak hF⟩
theorem FreeX.below {B : Nat} (h : FreeX w F f k glob cs mb A cap fm ad cp) (hb : Below B w w') (hB : w.heap.size ≤ B) : FreeX w' F f k glob cs mb A cap fm ad cp := by
  obtain ⟨l1, l2, l3, l4⟩ := h.lt
  have h2 := (h.weak (F' := fun k => F k ∧ k < w.heap.size) (fun k h1 h2 => ⟨h2, h1⟩)).mod (Mod.of_below hb) (fun k hk => Nat.not_le.2 (Nat.lt_of_lt_of_le hk.2 hB))
  exact h2.weak (fun k _ hk => hk.1)
theorem FreeR.below {B : Nat} (h : FreeR w F f k glob cs) (hb : Below B w w') (hB : w.heap.size ≤ B) : FreeR w' F f k glob cs := by
  obtain ⟨mb, A, cap, fm, ad, cp, h⟩ := h
  exact ⟨mb, A, cap, fm, ad, cp, h.below hb hB⟩
theorem zeroValue60 : ∀ w, (zeroValue 60).run Tryz.prog w = .ok (.slice none 0 0) w := fun w => by kernel_rfl
/-- What a look into the caches gives. -/
theorem FreeX.look (h : FreeX w F f k glob cs mb A cap fm ad cp) (m : Nat) : (Instr.lookup 235 (.map (some mb)) (slotK (m, k)) false).run Tryz.prog w = .ok (.slice (ad m) (cs m).length (cp m)) w := by
  have := h.m.look slotT Tryz.underlying235 zeroValue60 (m, k)
  rw [this]
  rcases h.c m with ⟨h1, h2, h3, h4⟩ | ⟨h1, _⟩
  · rw [h1, h2, h3, h4]; rfl
  · rw [h1]; rfl
theorem FreeX.rd (h : FreeX w F f k glob cs mb A cap fm ad cp) (m : Nat) : Rd w 1 (ad m) (cs m).length (ncells (cs m)) := by
  rcases h.c m with ⟨h1, h2, h3, h4⟩ | ⟨_, h1⟩
  · rw [h2]; exact Rd.nil w 1 _
  · exact h1.rd
end

def HasF (glob : List Nat) (cs : Nat → List Nat) (a : Nat) : Prop := a ∈ glob ∨ ∃ m, m < 4 ∧ a ∈ cs m
instance (glob : List Nat) (cs : Nat → List Nat) (a : Nat) : Decidable (HasF glob cs a) := by unfold HasF; exact inferInstance
set_option maxRecDepth 100000 in
set_option maxHeartbeats 1000000 in
theorem fhas_any (F : Nat → Prop) (f k a : Nat) (glob : List Nat) (cs : Nat → List Nat) (w : World) (h : FreeR w F f k glob cs) (hg : glob.length ≤ 1000) (hc : ∀ m, (cs m).length ≤ 1000) :
    Calls Tryz.prog 228 #[.pointer (some ⟨f, 0, none⟩), .int .i64 k, .int .i64 a] w fun e w' => e = .returned (.bool (decide (HasF glob cs a))) ∧ w = w' := by
  obtain ⟨mb, A, cap, fm, ad, cp, h⟩ := h
  have hk := h.hk
  have Hr := Lib.hid (fun w => cright_yes k w hk)
  have Hg := Lib.hid (contains_any A glob.length cap a glob w h.g.rd (by omega))
  have Hc := Lib.hid (fun m => contains_any (ad m) (cs m).length (cp m) a (cs m) w (h.rd m) (by have := hc m; omega))
  have Hl : Hid (∀ m, (Instr.lookup 235 (.map (some mb)) (.agg #[.int .i64 (m : Nat), .int .i64 (k : Nat)]) false).run Tryz.prog w = .ok (.slice (ad m) (cs m).length (cp m)) w) := fun m => h.look m
  have x0 : w.cell? ⟨f, k, none⟩ = some (.slice A glob.length cap) := (h.b.cell k).trans (fcells_at k _ mb hk)
  have x1 : w.cell? ⟨f, 32, none⟩ = some (.map (some mb)) := (h.b.cell 32).trans (fcells_map k _ mb)
  have k0 : (0 : Int) ≤ (k : Int) := by omega
  have k1 : (k : Int) < 32 := by omega
  clear h
  by_cases hag : a ∈ glob
  · have HE : Hid (decide (HasF glob cs a) = true) := decide_eq_true (.inl hag)
    rw [decide_eq_true hag] at Hg
    clear hag
    go_enter Tryz.func228, Tryz.ntmps228
    go_wp2_with (first
      | (go_at_call 105; refine (Hr.out _).mono ?_; rintro e w' ⟨rfl, rfl⟩)
      | (go_at_call 240; refine Hg.out.mono ?_; rintro e w' ⟨rfl, rfl⟩))
    go_ret
    rw [HE.out]
    exact ⟨rfl, rfl⟩
  · have Hag := Lib.hid hag
    rw [decide_eq_false hag] at Hg
    clear hag
    go_enter Tryz.func228, Tryz.ntmps228
    go_wp2_with (first
      | (go_at_call 105; refine (Hr.out _).mono ?_; rintro e w' ⟨rfl, rfl⟩)
      | (go_at_call 240; refine Hg.out.mono ?_; rintro e w' ⟨rfl, rfl⟩))
    go_loop [19] (fun v19 => ∃ m : Nat, v19 = .int .i64 m ∧ m ≤ 4 ∧ ∀ j, j < m → a ∉ cs j) (fun v19 => 4 - (intOf v19).toNat)
    case atStart => exact ⟨0, rfl, Nat.zero_le _, fun j hj => absurd hj (Nat.not_lt_zero _)⟩
    case round =>
      obtain ⟨m, rfl, hm, hall⟩ := hrel
      have Hall := Lib.hid hall
      clear hall Hg
      by_cases hm4 : m < 4
      · have hl := Hl.out m
        have Hcm := Lib.hid (Hc.out m)
        generalize (cs m).length = n at *
        generalize ad m = A2 at *
        generalize cp m = c2 at *
        by_cases ham : a ∈ cs m
        · have HE : Hid (decide (HasF glob cs a) = true) := decide_eq_true (.inr ⟨m, hm4, ham⟩)
          rw [decide_eq_true ham] at Hcm
          clear ham
          go_wp2_with (go_at_call 240; refine Hcm.out.mono ?_; rintro e w' ⟨rfl, rfl⟩)
          go_ret
          rw [HE.out]
          exact ⟨rfl, rfl⟩
        · have HN : Hid (∀ j, j < m + 1 → a ∉ cs j) := by
            intro j hj
            rcases Nat.lt_or_ge j m with h | h
            · exact Hall.out j h
            · obtain rfl : j = m := by omega
              exact ham
          rw [decide_eq_false ham] at Hcm
          clear ham
          go_wp2_with (go_at_call 240; refine Hcm.out.mono ?_; rintro e w' ⟨rfl, rfl⟩)
          exact ⟨⟨m + 1, by go_num, by omega, HN.out⟩, by simp [intOf]; omega⟩
      · obtain rfl : m = 4 := by omega
        have HE : Hid (decide (HasF glob cs a) = false) := by
          refine decide_eq_false ?_
          rintro (h | ⟨j, hj, h⟩)
          · exact Hag.out h
          · exact Hall.out j hj h
        go_wp2_with fail
        go_ret
        rw [HE.out]
        exact ⟨rfl, rfl⟩
end Go.Proofs.YtcnjipicifkfjaaGreat

/- free: Push. -/
namespace Go.Proofs.YtcnjipicifkfjaaGreat
open Go.RowKit
set_option linter.unusedVariables false
set_option linter.unusedSimpArgs false

/-- 'append(s, x...)' at a step of a region that draws its order. -/
theorem step_append_rd {P : Program} {ops : Array Oper} {o : Oper} {a : Act} {w : World} {K : Act → World → Prop} {Q : Exit → Act → World → Prop} {E : Prop} (hgd : o.guard = none) (s x : Operand) (t : TypeId)
    (ho : o.op = .call { callee := .builtin .append, args := #[s, x], argTypes := #[t, t] })
    (base : Nat) (e : TypeId) (i : TypeInfo) (z : Value) (sz bytes : Nat) (ht : P.underlying t = some (.slice e)) (hi : P.info? e = some i) (hz : i.zero = some z)
    (hsize : i.size = sz) (hby : i.bytes = bytes) (hzs : z.cells.size = sz) (hsz : 0 < sz)
    (A : Option Addr) (n cap : Nat) (xs : List Value) (hs : a.eval s = .slice A n cap) (hown : Own w base e sz A n cap xs)
    (A2 : Option Addr) (m c2 : Nat) (vs : List Value) (hx : a.eval x = .slice A2 m c2) (hr : Rd w sz A2 m vs) (h1 : ∀ u ∈ vs, u.oneCell' = true)
    (tot : Nat) (htot : n + m = tot) (ys : List Value) (hys : xs ++ vs = ys) (h63 : tot ≤ maxLen) (hbytes : tot * bytes ≤ 140737488355328) (hbase : base ≤ w.heap.size)
    (h : ∀ A' cap' w', Own w' base e sz A' tot cap' ys → Mod w w' (fun k => ∃ a, A = some a ∧ a.block = k) →
      (∀ a', A' = some a' → (∃ a, A = some a ∧ a.block = a'.block) ∨ w.heap.size ≤ a'.block) → K (a.put o.dst (.slice A' tot cap')) w') :
    if Region.wanted o (yielded ops a.tmps) = true then Oper.wp P o a w K Q else E := by
  have hw : Region.wanted o (yielded ops a.tmps) = true := by simp [Region.wanted, hgd]
  rw [if_pos hw]
  subst htot hys
  obtain ⟨A', cap', w', hrun, h2, h3, h4⟩ := run_append_rd (P := P) base t o.type e i z sz bytes ht hi hz hsize hby hzs hsz hown A2 m c2 vs hr h1 h63 hbytes hbase
  unfold Oper.wp execOp
  simp only [ho, resolve, invoke, builtin, Sem.run_bind, Sem.run_pure, Result.andThen_ok, List.map_toArray, List.map_cons, List.map_nil, hs, hx, hrun]
  exact h _ _ _ h2 h3 h4
theorem rd_one (w : World) (a : Nat) (N : Nat) (hN : w.heap.size = N) : Rd (w.alloc (.cells #[.int .i64 (a : Nat)] 3)) 1 (some ⟨N, 0, none⟩) 1 (ncells [a]) := by
  refine ⟨rfl, fun _ => ⟨N, 0, rfl, by rw [← hN]; simp, fun j u hu => ?_⟩⟩
  rw [← hN, (Blk.new w 3 _).cell]
  simpa [ncells] using hu
/-- The lists' blocks behind a call. -/
def GrowF (F : Nat → Prop) (w : World) (k : Nat) : Prop := F k ∨ w.heap.size ≤ k
theorem FreeX.pushX {w w1 : World} {F : Nat → Prop} {f k : Nat} {glob : List Nat} {cs : Nat → List Nat} {mb : Nat} {A A5 : Option Addr} {cap cap5 : Nat} {fm : Nat × Nat → Option Value} {ad : Nat → Option Addr} {cp : Nat → Nat}
    (h : FreeX w F f k glob cs mb A cap fm ad cp) (glob' : List Nat) (hO : Own w1 0 3 1 A5 glob'.length cap5 (ncells glob')) (hM : Mod w w1 (fun k => ∃ a, A = some a ∧ a.block = k))
    (hat : ∀ a', A5 = some a' → (∃ a, A = some a ∧ a.block = a'.block) ∨ w.heap.size ≤ a'.block) :
    FreeX (w1.setCell ⟨f, k, none⟩ (.slice A5 glob'.length cap5)) (GrowF F w) f k glob' cs mb A5 cap5 fm ad cp ∧ Mod w (w1.setCell ⟨f, k, none⟩ (.slice A5 glob'.length cap5)) F := by
  obtain ⟨l1, l2, l3, l4⟩ := h.lt
  have hfA : ¬ ∃ a, A = some a ∧ a.block = f := by
    rintro ⟨a, ha, e⟩
    exact h.g.ne h.b (by decide) a ha e
  have hmA : ¬ ∃ a, A = some a ∧ a.block = mb := by
    rintro ⟨a, ha, e⟩
    obtain ⟨es, c, hm, _⟩ := h.m
    have h1 := hm.at_
    rcases h.g.form with ⟨h0, _⟩ | ⟨g, cur, h0, _, hb, _⟩
    · rw [h0] at ha; cases ha
    · rw [h0] at ha; cases ha
      rw [show g = mb from e] at hb
      unfold Blk at hb
      rw [hb] at h1; cases h1
  have hfm : f ≠ mb := by
    rintro e
    obtain ⟨es, c, hm, _⟩ := h.m
    have h1 := hm.at_
    have hb := h.b
    unfold Blk at hb
    rw [e] at hb
    rw [hb] at h1; cases h1
  have hb1 : Blk w1 f 238 (fcells k (.slice A glob.length cap) mb) := hM.blk h.b hfA
  have hm1 := h.m.mod hM hmA
  have hset : (fcells k (.slice A glob.length cap) mb).setIfInBounds k (.slice A5 glob'.length cap5) = fcells k (.slice A5 glob'.length cap5) mb := by
    rcases fcells_set k (.slice A glob.length cap) (.slice A5 glob'.length cap5) mb with h1 | h1
    · exact h1
    · have := h.hk; omega
  have m2 : Mod w1 (w1.setCell ⟨f, k, none⟩ (.slice A5 glob'.length cap5)) (fun j => j = f) := Mod.set (p := ⟨f, k, none⟩) (Mod.refl w1 (fun j => j = f)) (.inr rfl) _
  refine ⟨?_, ?_⟩
  · refine ⟨h.hk, (hb1.set_ k _).conv hset, hO.mod m2 (fun a ha => hO.ne hb1 (by decide) a ha), hm1.mod m2 (fun e => hfm e.symm), fun m => ?_, h.no, ?_, h.d2, .inl h.ff, .inl h.fmb, ?_, fun m a ha => .inl (h.fad m a ha)⟩
    · have hc := (h.c m).mod hM (fun a ha => by rintro ⟨a2, ha2, e⟩; exact h.d1 _ _ _ ha2 ha e)
      refine hc.mod m2 (fun a ha => ?_)
      rcases hc with ⟨_, _, h1, _⟩ | ⟨_, h1⟩
      · rw [h1] at ha; cases ha
      · exact h1.ne hb1 (by decide) a ha
    · intro a m b ha hb e
      rcases hat a ha with ⟨a2, ha2, e2⟩ | h1
      · exact h.d1 _ _ _ ha2 hb (e2.trans e)
      · have := l4 m b hb; omega
    · intro a ha
      rcases hat a ha with ⟨a2, ha2, e2⟩ | h1
      · rw [← e2]; exact .inl (h.fA a2 ha2)
      · exact .inr h1
  · refine (hM.mono (S' := F) ?_).trans m2 (fun j _ e => by rw [e]; exact h.ff)
    rintro j _ ⟨a, ha, rfl⟩
    exact h.fA a ha
theorem FreeX.push {w w1 : World} {F : Nat → Prop} {f k : Nat} {glob : List Nat} {cs : Nat → List Nat} {mb : Nat} {A A5 : Option Addr} {cap cap5 : Nat} {fm : Nat × Nat → Option Value} {ad : Nat → Option Addr} {cp : Nat → Nat}
    (h : FreeX w F f k glob cs mb A cap fm ad cp) (glob' : List Nat) (hO : Own w1 0 3 1 A5 glob'.length cap5 (ncells glob')) (hM : Mod w w1 (fun k => ∃ a, A = some a ∧ a.block = k))
    (hat : ∀ a', A5 = some a' → (∃ a, A = some a ∧ a.block = a'.block) ∨ w.heap.size ≤ a'.block) :
    FreeR (w1.setCell ⟨f, k, none⟩ (.slice A5 glob'.length cap5)) (GrowF F w) f k glob' cs ∧ Mod w (w1.setCell ⟨f, k, none⟩ (.slice A5 glob'.length cap5)) F :=
  ⟨⟨mb, A5, cap5, fm, ad, cp, (h.pushX glob' hO hM hat).1⟩, (h.pushX glob' hO hM hat).2⟩
set_option maxRecDepth 100000 in
set_option maxHeartbeats 2000000 in
theorem fpush_any (F : Nat → Prop) (f k a : Nat) (glob : List Nat) (cs : Nat → List Nat) (w : World) (h : FreeR w F f k glob cs) (hg : glob.length ≤ 900) (hc : ∀ m, (cs m).length ≤ 1000) (hno : ¬ HasF glob cs a) :
    Calls Tryz.prog 190 #[.pointer (some ⟨f, 0, none⟩), .int .i64 k, .int .i64 a] w fun e w' => e = .returned (.int .i64 0) ∧ FreeR w' (GrowF F w) f k (glob ++ [a]) cs ∧ Mod w w' F := by
  have Hh := Lib.hid (fhas_any F f k a glob cs w h (by omega) hc)
  rw [decide_eq_false hno] at Hh
  obtain ⟨i, hi, h3, h1, h2⟩ := info3s
  obtain ⟨mb, A, cap, fm, ad, cp, hx⟩ := h
  have hk := hx.hk
  have Hr := Lib.hid (fun w => cright_yes k w hk)
  have x0 : w.cell? ⟨f, k, none⟩ = some (.slice A glob.length cap) := (hx.b.cell k).trans (fcells_at k _ mb hk)
  have x0d : w.drew.cell? ⟨f, k, none⟩ = some (.slice A glob.length cap) := x0
  have x1 := hx.b.frozen k
  have k0 : (0 : Int) ≤ (k : Int) := by omega
  have k1 : (k : Int) < 32 := by omega
  have HX := Lib.hid hx
  have HO := Lib.hid hx.g
  have hfA : ¬ ∃ a, A = some a ∧ a.block = f := by
    rintro ⟨a, ha, e⟩
    exact hx.g.ne hx.b (by decide) a ha e
  have HfA := Lib.hid hfA
  have hfl := hx.b.lt
  have Hnc : Hid (ncells glob ++ ncells [a] = ncells (glob ++ [a])) := by show _ = _; simp [ncells]
  have hl : (glob ++ [a]).length = glob.length + 1 := by simp
  have Hl := Lib.hid hl
  clear hno hc hx hfA hl
  generalize hgl : glob.length = n at *
  have Hgl := Lib.hid hgl
  clear hgl
  have x0a : (w.drew.alloc (.cells #[.int .i64 (a : Nat)] 3)).cell? ⟨f, k, none⟩ = some (.slice A n cap) := (((Blk.drew HX.out.b).alloc _).cell k).trans (by rw [Hgl.out]; exact fcells_at k _ mb hk)
  have x1a : (w.drew.alloc (.cells #[.int .i64 (a : Nat)] 3)).frozen? ⟨f, k, none⟩ = false := ((Blk.drew HX.out.b).alloc _).frozen k
  have hfl1 : f < (w.drew.alloc (.cells #[.int .i64 (a : Nat)] 3)).heap.size := ((Blk.drew HX.out.b).alloc _).lt
  go_enter Tryz.func190, Tryz.ntmps190
  go_wp2_with (first
    | (go_at_call 105; refine (Hr.out _).mono ?_; rintro e w' ⟨rfl, rfl⟩)
    | (go_at_call 228; refine Hh.out.mono ?_; rintro e w' ⟨rfl, rfl⟩))
  go_region_law ((refine step_append_rd (by rfl) _ _ 60 (by rfl) 0 3 i _ 1 8 Tryz.underlying60 hi h3 h1 h2 rfl (by omega) A n cap (ncells glob) (by rfl) ((HO.out.drewN 1).alloc _) _ 1 1 (ncells [a]) (by rfl) (rd_one w.drew a _ rfl) ncells_one (n + 1) rfl (ncells (glob ++ [a])) Hnc.out (by unfold maxLen; omega) (by omega) (Nat.zero_le _) ?_; intro A5 cap5 w5 hO5 hM5 hat5; have y1 := cell_mod hM5 x0a HfA.out; have y2 := frozen_mod hM5 hfl1 x1a HfA.out))
  all_goals
    have hm5 : Mod w w5 (fun k => ∃ a, A = some a ∧ a.block = k) := (((Mod.refl w _).drewN 1).alloc _).trans hM5 (fun _ _ h => h)
    have hO5' : Own w5 0 3 1 A5 (glob ++ [a]).length cap5 (ncells (glob ++ [a])) := by rw [Hl.out]; exact hO5
    have HP := Lib.hid (HX.out.push (glob ++ [a]) hO5' hm5 (fun a' ha' => by
      rcases hat5 a' ha' with h | h
      · exact .inl h
      · simp at h; exact .inr (by omega)))
    rw [Hl.out] at HP
    clear hO5 hM5 hat5 hm5 hO5' y1 y2
    go_wp2_with fail
    go_ret
    exact ⟨rfl, HP.out⟩
end Go.Proofs.YtcnjipicifkfjaaGreat
