/-
  The reference's book in memory, where one of its parts has turned. No conditions.
  The reference's book: note. No conditions but the list's length.
  The reference's book: hold. No conditions.
-/
import Derived.Test.YtfnmjlnpfoclbaaGreatQueueRunsPaw

namespace Go.Proofs.YtfnmjlnpfoclbaaGreat
section
open Go.RowKit Go.Maps
set_option linter.unusedVariables false

theorem RefMem.st {w : World} {F : Nat → Prop} {p : Nat} {st : BookSt} {es : List Ent} {wh : Bool} {N mb : Nat} {lv ev : Value} {D : DataW Unit} (h : RefMem w F p st es wh N mb lv ev D) {st' : BookSt}
    (h1 : st'.budget = st.budget) (h2 : st'.acc = st.acc) (h3 : st'.leases = st.leases) (h4 : st'.last = st.last) (h5 : st'.time = st.time) : RefMem w F p st' es wh N mb lv ev D := by
  refine ⟨?_, h.fp, h.map, h.fmap, h.tidy, by rw [h2]; exact h.size, by rw [h2]; exact h.look, by rw [h2]; exact h.has, by rw [h3]; exact h.lrow, h.flea, h.erow, h.fent⟩
  have := h.self
  unfold refCells at *
  rw [h1, h4, h5]
  exact this
theorem RefAt.st {w : World} {F : Nat → Prop} {p : Nat} {st : BookSt} {es : List Ent} {wh : Bool} {N : Nat} (h : RefAt w F p st es wh N) {st' : BookSt}
    (h1 : st'.budget = st.budget) (h2 : st'.acc = st.acc) (h3 : st'.leases = st.leases) (h4 : st'.last = st.last) (h5 : st'.time = st.time) : RefAt w F p st' es wh N := by
  obtain ⟨mb, lv, ev, D, h⟩ := h; exact ⟨mb, lv, ev, D, h.st h1 h2 h3 h4 h5⟩
theorem RefAt.more {w : World} {F : Nat → Prop} {p : Nat} {st : BookSt} {es : List Ent} {wh : Bool} {N M : Nat} (h : RefAt w F p st es wh N) (hm : N ≤ M) : RefAt w F p st es wh M := by
  obtain ⟨mb, lv, ev, D, h⟩ := h
  exact ⟨mb, lv, ev, D, h.self, h.fp, h.map.mono hm, h.fmap, h.tidy, h.size, h.look, h.has, h.lrow, h.flea, h.erow, h.fent⟩

theorem RefMem.nm {w : World} {F : Nat → Prop} {p : Nat} {st : BookSt} {es : List Ent} {wh : Bool} {N mb : Nat} {lv ev : Value} {D : DataW Unit} (h : RefMem w F p st es wh N mb lv ev D) : mb ≠ p ∧ ev.ownBlock ≠ some mb ∧ lv.ownBlock ≠ some mb := by
  obtain ⟨xs, clock, hx, _⟩ := h.map
  refine ⟨fun e => ?_, fun e => ?_, fun e => ?_⟩
  · subst e; rw [h.self] at hx; simp at hx
  · obtain ⟨cur, hc⟩ := h.erow.block e; rw [hc] at hx; simp at hx
  · obtain ⟨cur, hc⟩ := row_block h.lrow e; rw [hc] at hx; simp at hx
theorem RefMem.el {w : World} {F : Nat → Prop} {p : Nat} {st : BookSt} {es : List Ent} {wh : Bool} {N mb : Nat} {lv ev : Value} {D : DataW Unit} (h : RefMem w F p st es wh N mb lv ev D) {k : Nat} (h1 : ev.ownBlock = some k) : lv.ownBlock ≠ some k := by
  intro h2
  obtain ⟨cur, hc⟩ := h.erow.block h1
  obtain ⟨cur2, hc2⟩ := row_block h.lrow h2
  rw [hc] at hc2
  simp only [Option.some.injEq, Obj.cells.injEq] at hc2
  exact absurd hc2.2.1 (by decide)

/-- The book's own numbers have turned. -/
theorem RefMem.nums {w W : World} {F : Nat → Prop} {p : Nat} {st : BookSt} {es : List Ent} {wh : Bool} {N mb : Nat} {lv ev : Value} {D : DataW Unit} (h : RefMem w F p st es wh N mb lv ev D) {st' : BookSt}
    (h2 : st'.acc = st.acc) (h3 : st'.leases = st.leases) (hp : W.heap[p]? = some (.cells (refCells st' wh mb lv ev) 66 (0, 0)))
    (hk : ∀ k, k < w.heap.size → k ≠ p → W.heap[k]? = w.heap[k]?) : RefMem W F p st' es wh N mb lv ev D := by
  refine ⟨hp, h.fp, ownsMap_same h.map (hk mb h.map.lt h.nm.1), h.fmap, h.tidy, by rw [h2]; exact h.size, by rw [h2]; exact h.look, by rw [h2]; exact h.has, by
    rw [h3]
    refine ownsRow_same h.lrow (fun k hk' => ?_)
    obtain ⟨cur, hc⟩ := row_block h.lrow hk'
    exact hk k (lt_of hc) (fun e => h.pl (e ▸ hk')), h.flea, h.erow.same ?_, h.fent⟩
  · intro k hk'
    obtain ⟨cur, hc⟩ := h.erow.block hk'
    exact hk k (lt_of hc) (fun e => h.pe (e ▸ hk'))

/-- The row of the entries has moved, or grown, and its field is stored. -/
theorem RefMem.ents {w W : World} {F : Nat → Prop} {p : Nat} {st : BookSt} {es : List Ent} {wh : Bool} {N mb : Nat} {lv ev : Value} {D : DataW Unit} (h : RefMem w F p st es wh N mb lv ev D) (v' : Value) (es' : List Ent)
    (hp : W.heap[p]? = some (.cells (refCells st wh mb lv v') 66 (0, 0)))
    (hk : ∀ k, k < w.heap.size → k ≠ p → ev.ownBlock ≠ some k → W.heap[k]? = w.heap[k]?)
    (hrow : OffRow W 61 6 v' es'.length (es'.flatMap Ent.cells)) (hv : ∀ k, v'.ownBlock = some k → F k ∨ w.heap.size ≤ k) :
    RefMem W (fun k => F k ∨ w.heap.size ≤ k) p st es' wh N mb lv v' D := by
  refine ⟨hp, Or.inl h.fp, ownsMap_same h.map (hk mb h.map.lt h.nm.1 h.nm.2.1), Or.inl h.fmap, h.tidy, h.size, h.look, h.has, ownsRow_same h.lrow ?_, fun k hk => Or.inl (h.flea k hk), hrow, hv⟩
  intro k hk'
  obtain ⟨cur, hc⟩ := row_block h.lrow hk'
  exact hk k (lt_of hc) (fun e => h.pl (e ▸ hk')) (fun e => h.el e hk')

/-- The row of the leases. -/
theorem RefMem.leasesTo {w W : World} {F : Nat → Prop} {p : Nat} {st : BookSt} {es : List Ent} {wh : Bool} {N mb : Nat} {lv ev : Value} {D : DataW Unit} (h : RefMem w F p st es wh N mb lv ev D) (v' : Value) (st' : BookSt) (h2 : st'.acc = st.acc)
    (hp : W.heap[p]? = some (.cells (refCells st' wh mb v' ev) 66 (0, 0)))
    (hk : ∀ k, k < w.heap.size → k ≠ p → lv.ownBlock ≠ some k → W.heap[k]? = w.heap[k]?)
    (hrow : W.ownsRow 0 98 4 v' st'.leases.length (st'.leases.flatMap Lea.cells)) (hv : ∀ k, v'.ownBlock = some k → F k ∨ w.heap.size ≤ k) :
    RefMem W (fun k => F k ∨ w.heap.size ≤ k) p st' es wh N mb v' ev D := by
  refine ⟨hp, Or.inl h.fp, ownsMap_same h.map (hk mb h.map.lt h.nm.1 h.nm.2.2), Or.inl h.fmap, h.tidy, by rw [h2]; exact h.size, by rw [h2]; exact h.look, by rw [h2]; exact h.has, hrow, hv, h.erow.same ?_, fun k hk => Or.inl (h.fent k hk)⟩
  intro k hk'
  obtain ⟨cur, hc⟩ := h.erow.block hk'
  exact hk k (lt_of hc) (fun e => h.pe (e ▸ hk')) (fun e => h.el hk' e)

theorem isLit (o : Int) : WideAt.IsKeyLit (.int .i64 o) := by simp [WideAt.IsKeyLit]

/-- An account is put. -/
theorem RefMem.putMem {w w1 : World} {F : Nat → Prop} {p : Nat} {st : BookSt} {es : List Ent} {wh : Bool} {mb : Nat} {lv ev : Value} {D : DataW Unit} (h : RefMem w F p st es wh 40 mb lv ev D) (o l x s : Int) (ho : 1 ≤ o ∧ o ≤ 40)
    (hm : w1.ownsMap Tryz.prog 3 accElem mb (40 + 1) (D.put (.int .i64 o) (.agg [.lit (.int .i64 l), .lit (.int .i64 x)])))
    (hg : w.grownBy w1 (some mb)) :
    (∃ D', RefMem w1 F p (st.put o (some (l, x, s))) es wh 40 mb lv ev D') ∧ Touch F w w1 := by
  have hk : ∀ k, k < w.heap.size → k ≠ mb → w1.heap[k]? = w.heap[k]? := fun k hk hne => hg.block k hk (fun e => hne (by simpa using e))
  have hmap : Maps.IsMap D := by obtain ⟨_, _, _, _, _, hD⟩ := h.map; exact ⟨_, hD⟩
  have hsz : (Maps.size (D.put (.int .i64 o) (.agg [.lit (.int .i64 l), .lit (.int .i64 x)])) : Int) = accCnt (st.put o (some (l, x, s))).acc := by
    show _ = accCnt (fun y => if y = o then some (l, x, s) else st.acc y)
    rw [size_put h.tidy, accCnt_upd _ _ _ ho.1 ho.2, ← h.size, h.has o]
    cases (st.acc o) <;> simp [accOne]
  have hle : Maps.size (D.put (.int .i64 o) (.agg [.lit (.int .i64 l), .lit (.int .i64 x)])) ≤ 40 := by
    have := accCnt_le (st.put o (some (l, x, s))).acc
    omega
  refine ⟨⟨_, (hk p (lt_of h.self) (fun e => h.nm.1 e.symm)).trans h.self, h.fp, (ownsMap_tight hm).mono hle, h.fmap, h.tidy.put (isLit o) _, hsz, ?_, ?_, ownsRow_same h.lrow ?_, h.flea, h.erow.same ?_, h.fent⟩, (Touch.refl F w).grown hg (fun k e => by simp at e; subst e; exact Or.inl h.fmap)⟩
  · intro y z
    by_cases e : y = o
    · subst e
      rw [Maps.atKey_put_same hmap (isLit y)]
      simp [BookSt.put, accAt]
    · rw [Maps.atKey_put_other (lit_ne e), h.look]
      simp [BookSt.put, e]
  · intro y
    by_cases e : y = o
    · subst e
      rw [Maps.has_put_same hmap (isLit y)]
      simp [BookSt.put]
    · rw [Maps.has_put_other (lit_ne e), h.has]
      simp [BookSt.put, e]
  · intro k hk'
    obtain ⟨cur, hc⟩ := row_block h.lrow hk'
    exact hk k (lt_of hc) (fun e => h.nm.2.2 (e ▸ hk'))
  · intro k hk'
    obtain ⟨cur, hc⟩ := h.erow.block hk'
    exact hk k (lt_of hc) (fun e => h.nm.2.1 (e ▸ hk'))

theorem RefMem.putAcc {w w1 : World} {F : Nat → Prop} {p : Nat} {st : BookSt} {es : List Ent} {wh : Bool} {mb : Nat} {lv ev : Value} {D : DataW Unit} (h : RefMem w F p st es wh 40 mb lv ev D) (o l x s : Int) (ho : 1 ≤ o ∧ o ≤ 40)
    (hm : w1.ownsMap Tryz.prog 3 accElem mb (40 + 1) (D.put (.int .i64 o) (.agg [.lit (.int .i64 l), .lit (.int .i64 x)])))
    (hg : w.grownBy w1 (some mb)) :
    RefAt w1 F p (st.put o (some (l, x, s))) es wh 40 ∧ Touch F w w1 := by
  obtain ⟨⟨D', h1⟩, h2⟩ := h.putMem o l x s ho hm hg
  exact ⟨⟨mb, lv, ev, D', h1⟩, h2⟩

/-- An account is struck. -/
theorem RefMem.delAcc {w w1 : World} {F : Nat → Prop} {p : Nat} {st : BookSt} {es : List Ent} {wh : Bool} {mb M : Nat} {lv ev : Value} {D : DataW Unit} (h : RefMem w F p st es wh 40 mb lv ev D) (o : Int) (ho : 1 ≤ o ∧ o ≤ 40)
    (hm : w1.ownsMap Tryz.prog 3 accElem mb M (D.del (.int .i64 o))) (hg : w.grownBy w1 (some mb)) :
    RefAt w1 F p (st.put o none) es wh 40 ∧ Touch F w w1 := by
  have hk : ∀ k, k < w.heap.size → k ≠ mb → w1.heap[k]? = w.heap[k]? := fun k hk hne => hg.block k hk (fun e => hne (by simpa using e))
  have hsz : (Maps.size (D.del (.int .i64 o)) : Int) = accCnt (st.put o none).acc := by
    show _ = accCnt (fun y => if y = o then none else st.acc y)
    have := size_del h.tidy (k := .int .i64 o)
    rw [accCnt_upd _ _ _ ho.1 ho.2, ← h.size]
    rw [h.has o] at this
    cases e : (st.acc o) <;> rw [e] at this <;> simp [accOne] at this ⊢ <;> omega
  have hle : Maps.size (D.del (.int .i64 o)) ≤ 40 := by
    have := accCnt_le (st.put o none).acc
    omega
  refine ⟨⟨mb, lv, ev, _, (hk p (lt_of h.self) (fun e => h.nm.1 e.symm)).trans h.self, h.fp, (ownsMap_tight hm).mono hle, h.fmap, h.tidy.del _, hsz, ?_, ?_, ownsRow_same h.lrow ?_, h.flea, h.erow.same ?_, h.fent⟩, (Touch.refl F w).grown hg (fun k e => by simp at e; subst e; exact Or.inl h.fmap)⟩
  · intro y z
    by_cases e : y = o
    · subst e
      rw [Maps.atKey_del_same]
      simp [BookSt.put, accAt]
    · rw [Maps.atKey_del_other (lit_ne e), h.look]
      simp [BookSt.put, e]
  · intro y
    by_cases e : y = o
    · subst e
      rw [Maps.has_del_same]
      simp [BookSt.put]
    · rw [Maps.has_del_other (lit_ne e), h.has]
      simp [BookSt.put, e]
  · intro k hk'
    obtain ⟨cur, hc⟩ := row_block h.lrow hk'
    exact hk k (lt_of hc) (fun e => h.nm.2.2 (e ▸ hk'))
  · intro k hk'
    obtain ⟨cur, hc⟩ := h.erow.block hk'
    exact hk k (lt_of hc) (fun e => h.nm.2.1 (e ▸ hk'))

/-! The entries that the reference keeps. -/
def noteE (wh : Bool) (es : List Ent) (en : Ent) : List Ent := if wh then es ++ [en] else last5 (es ++ [en])
def seenE (wh : Bool) (l : List Ent) : List Ent := if wh then l else last5 l
theorem seen_note (wh : Bool) (st : BookSt) (en : Ent) (h : wh = true → st.entries.length ≤ 9999) : noteE wh (seenE wh st.entries) en = seenE wh (st.note en).entries := by
  cases wh with
  | false =>
    simp only [noteE, seenE, Bool.false_eq_true, if_false]
    exact (last5_note st en).symm
  | true =>
    have := h rfl
    simp only [noteE, seenE, if_true, BookSt.note, trimE]
    rw [if_neg (by rw [List.length_append, List.length_singleton]; omega)]
theorem seen_len (wh : Bool) (st : BookSt) (h : wh = true → st.entries.length ≤ 9999) : (seenE wh st.entries).length ≤ 9999 := by
  cases wh with
  | false =>
    have := last5_len st.entries
    simp only [seenE, Bool.false_eq_true, if_false]
    omega
  | true =>
    simp only [seenE, if_true]
    exact h rfl
theorem seen_len5 (st : BookSt) : (seenE false st.entries).length ≤ 5000 := by
  simp only [seenE, Bool.false_eq_true, if_false]
  exact last5_len st.entries

/-- The book behind a call. -/
def RefPost (err : Int) (F : Nat → Prop) (p : Nat) (st : BookSt) (es : List Ent) (wh : Bool) (w : World) : Ending → World → Prop := fun e w' =>
  e = .returned (.int .i64 err) ∧ RefAt w' (fun k => F k ∨ w.heap.size ≤ k) p st es wh 40 ∧ Touch F w w'
def RefDone (F : Nat → Prop) (p : Nat) (st : BookSt) (es : List Ent) (wh : Bool) (w : World) : Ending → World → Prop := fun e w' =>
  e = .returned (.tuple #[]) ∧ RefAt w' (fun k => F k ∨ w.heap.size ≤ k) p st es wh 40 ∧ Touch F w w'
theorem ref_fin {w W : World} {F : Nat → Prop} {p : Nat} {st : BookSt} {es : List Ent} {wh : Bool} {N : Nat} (hb : RefAt w F p st es wh N) (B : Below w.heap.size w W) : RefAt W (fun k => F k ∨ w.heap.size ≤ k) p st es wh N ∧ Touch F w W :=
  ⟨(hb.same (Below.same_on B)).wider (fun k hk => Or.inl hk), Touch.of_below B⟩

theorem ownBad_iff (o : Int) : ownBad o = false ↔ 1 ≤ o ∧ o ≤ 40 := by unfold ownBad; simp
theorem numBad_any (ns : List Int) : ns.any numBad = false ↔ ∀ z ∈ ns, 0 ≤ z ∧ z ≤ 10000000 := by
  rw [List.any_eq_false]
  constructor
  · intro h z hz
    have := h z hz
    unfold numBad at this
    simpa using this
  · intro h z hz
    have := h z hz
    unfold numBad
    simpa using this
theorem faultE_one (st : BookSt) (o : Int) (ns : List Int) : faultE st [o] ns = if chkE o ns = 0 then (if (st.acc o).isSome then 0 else 7) else 2 := by
  unfold faultE chkE
  by_cases h1 : ownBad o = false
  · by_cases h2 : ns.any numBad = false
    · have e1 := (ownBad_iff o).1 h1
      have e2 := (numBad_any ns).1 h2
      rw [if_neg (by simp [h1, h2]), if_pos (show (if (1 ≤ o ∧ o ≤ 40) ∧ ∀ z ∈ ns, 0 ≤ z ∧ z ≤ 10000000 then (0 : Int) else 2) = 0 from if_pos ⟨e1, e2⟩)]
      simp
    · have e2 : ¬ ∀ z ∈ ns, 0 ≤ z ∧ z ≤ 10000000 := fun h => h2 ((numBad_any ns).2 h)
      rw [if_pos (by simp at h2; simp [h2]), if_neg (by rw [if_neg (fun h => e2 h.2)]; decide)]
  · have e1 : ¬ (1 ≤ o ∧ o ≤ 40) := fun h => h1 ((ownBad_iff o).2 h)
    rw [if_pos (by simp at h1; simp [h1]), if_neg (by rw [if_neg (fun h => e1 h.1)]; decide)]
/-- The account that a call names is there and the numbers are right, or its error. -/
theorem fault_cases (st : BookSt) (o : Int) (ns : List Int) : (faultE st [o] ns = 2 ∧ chkE o ns = 2) ∨ (faultE st [o] ns = 7 ∧ chkE o ns = 0 ∧ st.acc o = none) ∨ (faultE st [o] ns = 0 ∧ chkE o ns = 0 ∧ ∃ l h s, st.acc o = some (l, h, s)) := by
  rw [faultE_one]
  rcases chkE_vals o ns with h | h
  · rw [if_pos h]
    cases ha : st.acc o with
    | none => exact Or.inr (Or.inl ⟨by simp, h, rfl⟩)
    | some a => exact Or.inr (Or.inr ⟨by simp, h, a.1, a.2.1, a.2.2, rfl⟩)
  · rw [if_neg (by rw [h]; decide)]
    exact Or.inl ⟨rfl, h⟩

end
end Go.Proofs.YtfnmjlnpfoclbaaGreat

namespace Go.Proofs.YtfnmjlnpfoclbaaGreat
section
open Go.RowKit Go.Maps
set_option linter.unusedVariables false

theorem noteR_mem {w w' : World} {F : Nat → Prop} {p : Nat} {st : BookSt} {es : List Ent} {wh : Bool} {N mb : Nat} {lv ev : Value} {D : DataW Unit} (h : RefMem w F p st es wh N mb lv ev D) (en : Ent) (o : Obj) (g off cap : Nat)
    (hrow : OffRow w' 61 6 (.slice (some ⟨g, off, none⟩) (es.length + 1) cap) (es.length + 1) (es.flatMap Ent.cells ++ en.cells))
    (hgr : (w.alloc o).drew.grownBy w' ev.ownBlock) (hpl : ev.ownBlock = some g ∨ w.heap.size + 1 ≤ g) :
    RefMem (w'.setCell ⟨p, 6, none⟩ (.slice (some ⟨g, off, none⟩) (es.length + 1) cap)) (fun k => F k ∨ w.heap.size ≤ k) p st (es ++ [en]) wh N mb lv (.slice (some ⟨g, off, none⟩) (es.length + 1) cap) D ∧
      Touch F w (w'.setCell ⟨p, 6, none⟩ (.slice (some ⟨g, off, none⟩) (es.length + 1) cap)) := by
  have hp := lt_of h.self
  have blk' : ∀ k, k < w.heap.size → ev.ownBlock ≠ some k → w'.heap[k]? = w.heap[k]? := fun k hk hne =>
    (hgr.block k (by simp; omega) (fun e => hne e.symm)).trans (heap_alloc_old w _ hk)
  have hp' := (blk' p hp h.pe).trans h.self
  have hgp : g ≠ p := by
    rcases hpl with e | e
    · intro x; subst x; exact h.pe e
    · omega
  refine ⟨h.ents _ _ ?_ ?_ ?_ ?_, ?_⟩
  · rw [block_setCell hp']; rfl
  · intro k hk hne hne2
    rw [Below.heap_setCell _ _ _ _ hne]
    exact blk' k hk hne2
  · have := hrow.same (w' := w'.setCell ⟨p, 6, none⟩ (.slice (some ⟨g, off, none⟩) (es.length + 1) cap)) (fun k hk => Below.heap_setCell _ _ _ _ (by simp [Value.ownBlock] at hk; subst hk; exact hgp))
    simpa [List.flatMap_append] using this
  · intro k hk
    simp only [Value.ownBlock, Option.some.injEq] at hk
    subst hk
    rcases hpl with e | e
    · exact Or.inl (h.fent _ e)
    · exact Or.inr (by omega)
  · refine Touch.setCell ?_ (Or.inl h.fp) _
    exact ((Touch.refl F w).alloc o).drew.grown hgr (fun k hk => Or.inl (h.fent k hk))

theorem noteR_cut {w W : World} {F : Nat → Prop} {p : Nat} {st : BookSt} {es : List Ent} {wh : Bool} {N mb : Nat} {lv : Value} {D : DataW Unit} {g off cap n : Nat} (h : RefMem W (fun k => F k ∨ w.heap.size ≤ k) p st es wh N mb lv (.slice (some ⟨g, off, none⟩) n cap) D) (ht : Touch F w W) (hn : es.length = n) (k : Nat) (hk : k ≤ n) :
    RefAt (W.setCell ⟨p, 6, none⟩ (.slice (some ⟨g, off + k * 6, none⟩) (n - k) (cap - k))) (fun k => F k ∨ w.heap.size ≤ k) p st (es.drop k) wh N ∧ Touch F w (W.setCell ⟨p, 6, none⟩ (.slice (some ⟨g, off + k * 6, none⟩) (n - k) (cap - k))) := by
  have hgp : g ≠ p := fun e => h.pe (by simp [Value.ownBlock, e])
  refine ⟨⟨mb, lv, _, D, (h.ents (W := W.setCell ⟨p, 6, none⟩ (.slice (some ⟨g, off + k * 6, none⟩) (n - k) (cap - k))) (.slice (some ⟨g, off + k * 6, none⟩) (n - k) (cap - k)) (es.drop k) ?_ ?_ ?_ ?_).wider (G := fun k => F k ∨ w.heap.size ≤ k) ?_⟩, Touch.setCell ht h.fp _⟩
  · rw [block_setCell h.self]; rfl
  · intro k hk hne hne2
    exact Below.heap_setCell _ _ _ _ hne
  · have he := h.erow
    rw [hn] at he
    have := (he.drop hk).same (w' := W.setCell ⟨p, 6, none⟩ (.slice (some ⟨g, off + k * 6, none⟩) (n - k) (cap - k))) (fun k hk => Below.heap_setCell _ _ _ _ (by simp [Value.ownBlock] at hk; subst hk; exact hgp))
    rw [drop_cells] at this
    rw [List.length_drop, hn]
    exact this
  · intro k hk
    simp only [Value.ownBlock, Option.some.injEq] at hk
    subst hk
    exact Or.inl (h.fent _ rfl)
  · rintro k (h1 | h1)
    · exact h1
    · exact Or.inr (Nat.le_trans ht.size h1)

set_option maxHeartbeats 4000000 in
set_option maxRecDepth 100000 in
theorem noteR_any (p : Nat) (en : Ent) (w : World) (F : Nat → Prop) (st : BookSt) (es : List Ent) (wh : Bool) (hb : RefAt w F p st es wh 40) (hn : es.length ≤ 9999) (hn5 : wh = false → es.length ≤ 5000) :
    Calls Tryz.prog 58 #[.pointer (some ⟨p, 0, none⟩), .agg #[.int .i64 en.kind, .int .i64 en.owner, .int .i64 en.other, .int .i64 en.amount, .int .i64 en.lease, .int .i64 en.untl]] w
      (RefDone F p st (noteE wh es en) wh w) := by
  obtain ⟨i0, hi0, hz0, hz1, hz2⟩ := info_parts infoEnt
  obtain ⟨mb, lv, ev, D, hm⟩ := hb
  obtain ⟨en1, en2, en3, en4, en5, en6⟩ := en
  have hp := lt_of hm.self
  have c6 : w.cell? ⟨p, 6, none⟩ = some ev := by rw [cell_of hm.self]; rfl
  have HM := Lib.hid hm
  have ONE : ∀ u ∈ [Value.int .i64 en1, .int .i64 en2, .int .i64 en3, .int .i64 en4, .int .i64 en5, .int .i64 en6], u.oneCell' = true := by
    intro u hu
    simp at hu
    rcases hu with rfl | rfl | rfl | rfl | rfl | rfl <;> rfl
  have same : ∀ w', (w.alloc (.cells #[.int .i64 en1, .int .i64 en2, .int .i64 en3, .int .i64 en4, .int .i64 en5, .int .i64 en6] 61)).drew.grownBy w' ev.ownBlock → w'.heap[p]? = some (.cells (refCells st wh mb lv ev) 66 (0, 0)) := by
    intro w' hg
    have h1 := hg.block p (by simp; omega) (fun e => hm.pe e.symm)
    exact h1.trans ((heap_alloc_old w _ hp).trans hm.self)
  have PC : ∀ w', (w.alloc (.cells #[.int .i64 en1, .int .i64 en2, .int .i64 en3, .int .i64 en4, .int .i64 en5, .int .i64 en6] 61)).drew.grownBy w' ev.ownBlock → w'.cell? ⟨p, 6, none⟩ = some ev := fun w' h => by rw [cell_of (same w' h)]; rfl
  have PF : ∀ w', (w.alloc (.cells #[.int .i64 en1, .int .i64 en2, .int .i64 en3, .int .i64 en4, .int .i64 en5, .int .i64 en6] 61)).drew.grownBy w' ev.ownBlock → w'.frozen? ⟨p, 6, none⟩ = false := fun w' h => free_of (same w' h) 6
  have SAME := Lib.hid same
  have HN5 := Lib.hid hn5
  clear hm same hn5
  go_enter Tryz.func58, Tryz.ntmps58
  go_wp2_with fail
  go_region_law ((go_loud (refine step_append_off rfl (.tmp 8) (.tmp 10) 59 rfl 61 i0 (.agg #[.int .i64 0, .int .i64 0, .int .i64 0, .int .i64 0, .int .i64 0, .int .i64 0]) 6 48 Tryz.underlying59 hi0 hz0 hz1 hz2 rfl (by decide) ev es.length (es.flatMap Ent.cells) (w.alloc (.cells #[.int .i64 en1, .int .i64 en2, .int .i64 en3, .int .i64 en4, .int .i64 en5, .int .i64 en6] 61)).drew _ [.int .i64 en1, .int .i64 en2, .int .i64 en3, .int .i64 en4, .int .i64 en5, .int .i64 en6] rfl (by exact HM.out.erow.same (fun k hk => by obtain ⟨cur, hc⟩ := HM.out.erow.block hk; exact heap_alloc_old w _ (lt_of hc))) (by simp [Act.eval]) rfl ONE (by unfold maxLen; omega) (by omega) ?_); intro g off cap w' hrow hgr hpl hsz; have d6 := PC w' hgr; have f6 := PF w' hgr))
  all_goals
    obtain ⟨h1, h2⟩ := noteR_mem HM.out ⟨en1, en2, en3, en4, en5, en6⟩ _ g off cap hrow hgr (hpl.imp id (fun x => by simpa using x))
    have H1 := Lib.hid h1
    have H2 := Lib.hid h2
    have hcap : es.length + 1 ≤ cap := by
      rcases hrow.2 with ⟨e, _⟩ | ⟨g', off', cap', cur, e, _, h1, _⟩
      · cases e
      · simp only [Value.slice.injEq] at e
        omega
    have hself : (w'.setCell ⟨p, 6, none⟩ (.slice (some ⟨g, off, none⟩) (es.length + 1) cap)).heap[p]? = some (.cells (refCells st wh mb lv (.slice (some ⟨g, off, none⟩) (es.length + 1) cap)) 66 (0, 0)) := h1.self
    have d5 : (w'.setCell ⟨p, 6, none⟩ (.slice (some ⟨g, off, none⟩) (es.length + 1) cap)).cell? ⟨p, 5, none⟩ = some (.bool wh) := by rw [cell_of hself]; rfl
    have d7 : (w'.setCell ⟨p, 6, none⟩ (.slice (some ⟨g, off, none⟩) (es.length + 1) cap)).cell? ⟨p, 6, none⟩ = some (.slice (some ⟨g, off, none⟩) (es.length + 1) cap) := by rw [cell_of hself]; rfl
    have f7 : (w'.setCell ⟨p, 6, none⟩ (.slice (some ⟨g, off, none⟩) (es.length + 1) cap)).frozen? ⟨p, 6, none⟩ = false := free_of hself 6
    clear h1 h2 hself hrow hgr hpl PC PF
    cases wh with
    | true =>
      go_wp2_with fail
      go_end0
      exact ⟨rfl, ⟨mb, lv, _, D, H1.out⟩, H2.out⟩
    | false =>
      have hn6 := HN5.out rfl
      have HNE : Hid (noteE false es ⟨en1, en2, en3, en4, en5, en6⟩ = (es ++ [(⟨en1, en2, en3, en4, en5, en6⟩ : Ent)]).drop (es.length + 1 - 5000)) := Lib.hid (by simp only [noteE, last5, Bool.false_eq_true, if_false, List.length_append, List.length_singleton])
      have HL : Hid ((es ++ [(⟨en1, en2, en3, en4, en5, en6⟩ : Ent)]).length = es.length + 1) := Lib.hid (by rw [List.length_append]; rfl)
      by_cases h5 : es.length = 5000
      · have hw1 : IntKind.i64.wrap ((es.length : Int) + 1 - 5000) = 1 := by rw [h5]; decide
        have hc1 : ¬ cap = 1 := by omega
        have hk1 : (1 : Int) ≤ (es.length : Int) + 1 := by omega
        have HZ : Hid (es.length + 1 - 5000 = 1) := Lib.hid (by omega)
        clear h5 hn6 hn HN5
        go_wp2_with fail
        go_region_law (fail)
        all_goals
          go_wp2_with fail
          go_end0
          obtain ⟨r1, r2⟩ := noteR_cut H1.out H2.out HL.out 1 (by omega)
          exact ⟨rfl, by rw [HNE.out, HZ.out]; exact r1.same (fun _ _ _ => rfl), r2.drew⟩
      · have HZ : Hid (es.length + 1 - 5000 = 0) := Lib.hid (by omega)
        have hn7 : es.length ≤ 4999 := by omega
        obtain ⟨X, hw1, hX⟩ : ∃ X : Int, IntKind.i64.wrap ((es.length : Int) + 1 - 5000) = X ∧ (if (0 : Int) < X then X else 0) = 0 := ⟨_, IntWalk.i64_in _ (by omega), if_neg (by omega)⟩
        have hx0 : (0 : Int) ≤ (es.length : Int) + 1 := by omega
        have hc1 : ¬ cap = 0 := by omega
        clear h5 hn6 hn HN5
        go_wp2_with fail
        go_region_law (fail)
        all_goals
          go_wp2_with fail
          go_end0
          obtain ⟨r1, r2⟩ := noteR_cut H1.out H2.out HL.out 0 (by omega)
          exact ⟨rfl, by rw [HNE.out, HZ.out]; exact r1.same (fun _ _ _ => rfl), r2.drew⟩

end
end Go.Proofs.YtfnmjlnpfoclbaaGreat

namespace Go.Proofs.YtfnmjlnpfoclbaaGreat
section
open Go.RowKit Go.Maps
set_option linter.unusedVariables false

/-- An account put into the map, in the world behind a new block and a draw. -/
theorem RefMem.putRun {w W : World} {F : Nat → Prop} {p : Nat} {st : BookSt} {es : List Ent} {wh : Bool} {mb : Nat} {lv ev : Value} {D : DataW Unit} (hm : RefMem w F p st es wh 40 mb lv ev D) (B : Below w.heap.size w W) (o l x s : Int) (ho : 1 ≤ o ∧ o ≤ 40) :
    ∃ w1, (Instr.mapUpdate 63 (.map (some mb)) (.int .i64 o) (.agg #[.int .i64 l, .int .i64 x])).run Tryz.prog W = .ok () w1 ∧
      RefAt w1 (fun k => F k ∨ w.heap.size ≤ k) p (st.put o (some (l, x, s))) es wh 40 ∧ Touch F w w1 := by
  have hwf : (Lit.int .i64 o).wf = true := WalkArith.wf_i64 (by omega)
  have hm1 := hm.same (Below.same_on B)
  obtain ⟨w1, h1, h2, h3⟩ := hm1.map.update (t := 63) intKey Tryz.underlying63 (by unfold maxLen; omega) (Maps.keyOf_int_mk Tryz.underlying3 hwf) (val := .agg #[.int .i64 l, .int .i64 x]) (d := .agg [.lit (.int .i64 l), .lit (.int .i64 x)]) (ps := []) rfl
  obtain ⟨r1, r2⟩ := hm1.putAcc o l x s ho h2 h3
  exact ⟨w1, h1, r1.wider (fun k hk => Or.inl hk), (Touch.of_below B).then r2⟩

set_option maxHeartbeats 2000000 in
set_option maxRecDepth 100000 in
theorem holdR_any (p : Nat) (o by_ l h s : Int) (w : World) (F : Nat → Prop) (st : BookSt) (es : List Ent) (wh : Bool) (hb : RefAt w F p st es wh 40) (ho : 1 ≤ o ∧ o ≤ 40) (ha : st.acc o = some (l, h, s)) (hr : -1000000000 ≤ h + by_ ∧ h + by_ ≤ 1000000000) :
    Calls Tryz.prog 91 #[.pointer (some ⟨p, 0, none⟩), .int .i64 o, .int .i64 by_] w (RefDone F p (st.put o (some (l, h + by_, s))) es wh w) := by
  obtain ⟨mb, lv, ev, D, hm⟩ := hb
  have c1 : w.cell? ⟨p, 1, none⟩ = some (.map (some mb)) := by rw [cell_of hm.self]; rfl
  have LK := ref_lookup hm o ho ha
  have HM := Lib.hid hm
  obtain ⟨w1, hrun, hp1, hp2⟩ := hm.putRun (W := (w.alloc (.cells #[.int .i64 l, .int .i64 (h + by_)] 115)).drew) (bdrewN ((Below.refl _ w).alloc (Nat.le_refl _) _) 1) o l (h + by_) s ho
  have HP1 := Lib.hid hp1
  have HP2 := Lib.hid hp2
  have c2 : (w.alloc (.cells #[.int .i64 l, .int .i64 (h + by_)] 115)).cell? ⟨p, 1, none⟩ = some (.map (some mb)) := old_cell ((Below.refl _ w).alloc (Nat.le_refl _) _) c1
  clear hm hp1 hp2
  go_enter Tryz.func91, Tryz.ntmps91
  go_wp2_with fail
  go_upto_region 2 with fail
  go_region_law (fail)
  all_goals
    go_wp2_with fail
    go_end0
    exact ⟨rfl, HP1.out, HP2.out⟩

end
end Go.Proofs.YtfnmjlnpfoclbaaGreat
