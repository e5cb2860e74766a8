/-
  The reference's book in memory, where one of its parts has turned. No conditions.
-/
import Derived.Test.YtljjndifmfhffaaGreatDoorLedgerChecksPap
namespace Go.Proofs.YtljjndifmfhffaaGreatDoor
open Go.RowKit Go.Maps
set_option linter.unusedVariables false

theorem RefMem.st {w : World} {F : Nat → Prop} {p : Nat} {st : BookSt} {es : List Ent} {wh : Bool} {N mb : Nat} {lv ev : Value} {D : DataW Unit} (h : RefMem w F p st es wh N mb lv ev D) {st' : BookSt}
    (h1 : st'.budget = st.budget) (h2 : st'.acc = st.acc) (h3 : st'.leases = st.leases) (h4 : st'.last = st.last) (h5 : st'.time = st.time) : RefMem w F p st' es wh N mb lv ev D := by
  refine ⟨?_, h.fp, h.map, h.fmap, h.tidy, by rw [h2]; exact h.size, by rw [h2]; exact h.look, by rw [h2]; exact h.has, by rw [h3]; exact h.lrow, h.flea, h.erow, h.fent⟩
  have := h.self
  unfold refCells at *
  rw [h1, h4, h5]
  exact this
theorem RefAt.st {w : World} {F : Nat → Prop} {p : Nat} {st : BookSt} {es : List Ent} {wh : Bool} {N : Nat} (h : RefAt w F p st es wh N) {st' : BookSt}
    (h1 : st'.budget = st.budget) (h2 : st'.acc = st.acc) (h3 : st'.leases = st.leases) (h4 : st'.last = st.last) (h5 : st'.time = st.time) : RefAt w F p st' es wh N := by
  obtain ⟨mb, lv, ev, D, h⟩ := h; exact ⟨mb, lv, ev, D, h.st h1 h2 h3 h4 h5⟩
theorem RefAt.more {w : World} {F : Nat → Prop} {p : Nat} {st : BookSt} {es : List Ent} {wh : Bool} {N M : Nat} (h : RefAt w F p st es wh N) (hm : N ≤ M) : RefAt w F p st es wh M := by
  obtain ⟨mb, lv, ev, D, h⟩ := h
  exact ⟨mb, lv, ev, D, h.self, h.fp, h.map.mono hm, h.fmap, h.tidy, h.size, h.look, h.has, h.lrow, h.flea, h.erow, h.fent⟩

theorem RefMem.nm {w : World} {F : Nat → Prop} {p : Nat} {st : BookSt} {es : List Ent} {wh : Bool} {N mb : Nat} {lv ev : Value} {D : DataW Unit} (h : RefMem w F p st es wh N mb lv ev D) : mb ≠ p ∧ ev.ownBlock ≠ some mb ∧ lv.ownBlock ≠ some mb := by
  obtain ⟨xs, clock, hx, _⟩ := h.map
  refine ⟨fun e => ?_, fun e => ?_, fun e => ?_⟩
  · subst e; rw [h.self] at hx; simp at hx
  · obtain ⟨cur, hc⟩ := h.erow.block e; rw [hc] at hx; simp at hx
  · obtain ⟨cur, hc⟩ := row_block h.lrow e; rw [hc] at hx; simp at hx
theorem RefMem.el {w : World} {F : Nat → Prop} {p : Nat} {st : BookSt} {es : List Ent} {wh : Bool} {N mb : Nat} {lv ev : Value} {D : DataW Unit} (h : RefMem w F p st es wh N mb lv ev D) {k : Nat} (h1 : ev.ownBlock = some k) : lv.ownBlock ≠ some k := by
  intro h2
  obtain ⟨cur, hc⟩ := h.erow.block h1
  obtain ⟨cur2, hc2⟩ := row_block h.lrow h2
  rw [hc] at hc2
  simp only [Option.some.injEq, Obj.cells.injEq] at hc2
  exact absurd hc2.2.1 (by decide)

/-- The book's own numbers have turned. -/
theorem RefMem.nums {w W : World} {F : Nat → Prop} {p : Nat} {st : BookSt} {es : List Ent} {wh : Bool} {N mb : Nat} {lv ev : Value} {D : DataW Unit} (h : RefMem w F p st es wh N mb lv ev D) {st' : BookSt}
    (h2 : st'.acc = st.acc) (h3 : st'.leases = st.leases) (hp : W.heap[p]? = some (.cells (refCells st' wh mb lv ev) 46 (0, 0)))
    (hk : ∀ k, k < w.heap.size → k ≠ p → W.heap[k]? = w.heap[k]?) : RefMem W F p st' es wh N mb lv ev D := by
  refine ⟨hp, h.fp, ownsMap_same h.map (hk mb h.map.lt h.nm.1), h.fmap, h.tidy, by rw [h2]; exact h.size, by rw [h2]; exact h.look, by rw [h2]; exact h.has, by
    rw [h3]
    refine ownsRow_same h.lrow (fun k hk' => ?_)
    obtain ⟨cur, hc⟩ := row_block h.lrow hk'
    exact hk k (lt_of hc) (fun e => h.pl (e ▸ hk')), h.flea, h.erow.same ?_, h.fent⟩
  · intro k hk'
    obtain ⟨cur, hc⟩ := h.erow.block hk'
    exact hk k (lt_of hc) (fun e => h.pe (e ▸ hk'))

/-- The row of the entries has moved, or grown, and its field is stored. -/
theorem RefMem.ents {w W : World} {F : Nat → Prop} {p : Nat} {st : BookSt} {es : List Ent} {wh : Bool} {N mb : Nat} {lv ev : Value} {D : DataW Unit} (h : RefMem w F p st es wh N mb lv ev D) (v' : Value) (es' : List Ent)
    (hp : W.heap[p]? = some (.cells (refCells st wh mb lv v') 46 (0, 0)))
    (hk : ∀ k, k < w.heap.size → k ≠ p → ev.ownBlock ≠ some k → W.heap[k]? = w.heap[k]?)
    (hrow : OffRow W 33 6 v' es'.length (es'.flatMap Ent.cells)) (hv : ∀ k, v'.ownBlock = some k → F k ∨ w.heap.size ≤ k) :
    RefMem W (fun k => F k ∨ w.heap.size ≤ k) p st es' wh N mb lv v' D := by
  refine ⟨hp, Or.inl h.fp, ownsMap_same h.map (hk mb h.map.lt h.nm.1 h.nm.2.1), Or.inl h.fmap, h.tidy, h.size, h.look, h.has, ownsRow_same h.lrow ?_, fun k hk => Or.inl (h.flea k hk), hrow, hv⟩
  intro k hk'
  obtain ⟨cur, hc⟩ := row_block h.lrow hk'
  exact hk k (lt_of hc) (fun e => h.pl (e ▸ hk')) (fun e => h.el e hk')

/-- The row of the leases. -/
theorem RefMem.leasesTo {w W : World} {F : Nat → Prop} {p : Nat} {st : BookSt} {es : List Ent} {wh : Bool} {N mb : Nat} {lv ev : Value} {D : DataW Unit} (h : RefMem w F p st es wh N mb lv ev D) (v' : Value) (st' : BookSt) (h2 : st'.acc = st.acc)
    (hp : W.heap[p]? = some (.cells (refCells st' wh mb v' ev) 46 (0, 0)))
    (hk : ∀ k, k < w.heap.size → k ≠ p → lv.ownBlock ≠ some k → W.heap[k]? = w.heap[k]?)
    (hrow : W.ownsRow 0 88 4 v' st'.leases.length (st'.leases.flatMap Lea.cells)) (hv : ∀ k, v'.ownBlock = some k → F k ∨ w.heap.size ≤ k) :
    RefMem W (fun k => F k ∨ w.heap.size ≤ k) p st' es wh N mb v' ev D := by
  refine ⟨hp, Or.inl h.fp, ownsMap_same h.map (hk mb h.map.lt h.nm.1 h.nm.2.2), Or.inl h.fmap, h.tidy, by rw [h2]; exact h.size, by rw [h2]; exact h.look, by rw [h2]; exact h.has, hrow, hv, h.erow.same ?_, fun k hk => Or.inl (h.fent k hk)⟩
  intro k hk'
  obtain ⟨cur, hc⟩ := h.erow.block hk'
  exact hk k (lt_of hc) (fun e => h.pe (e ▸ hk')) (fun e => h.el hk' e)

theorem isLit (o : Int) : WideAt.IsKeyLit (.int .i64 o) := by simp [WideAt.IsKeyLit]

/-- An account is put. -/
theorem RefMem.putMem {w w1 : World} {F : Nat → Prop} {p : Nat} {st : BookSt} {es : List Ent} {wh : Bool} {mb : Nat} {lv ev : Value} {D : DataW Unit} (h : RefMem w F p st es wh 40 mb lv ev D) (o l x s : Int) (ho : 1 ≤ o ∧ o ≤ 40)
    (hm : w1.ownsMap Tryz.prog 3 accElem mb (40 + 1) (D.put (.int .i64 o) (.agg [.lit (.int .i64 l), .lit (.int .i64 x)])))
    (hg : w.grownBy w1 (some mb)) :
    (∃ D', RefMem w1 F p (st.put o (some (l, x, s))) es wh 40 mb lv ev D') ∧ Touch F w w1 := by
  have hk : ∀ k, k < w.heap.size → k ≠ mb → w1.heap[k]? = w.heap[k]? := fun k hk hne => hg.block k hk (fun e => hne (by simpa using e))
  have hmap : Maps.IsMap D := by obtain ⟨_, _, _, _, _, hD⟩ := h.map; exact ⟨_, hD⟩
  have hsz : (Maps.size (D.put (.int .i64 o) (.agg [.lit (.int .i64 l), .lit (.int .i64 x)])) : Int) = accCnt (st.put o (some (l, x, s))).acc := by
    show _ = accCnt (fun y => if y = o then some (l, x, s) else st.acc y)
    rw [size_put h.tidy, accCnt_upd _ _ _ ho.1 ho.2, ← h.size, h.has o]
    cases (st.acc o) <;> simp [accOne]
  have hle : Maps.size (D.put (.int .i64 o) (.agg [.lit (.int .i64 l), .lit (.int .i64 x)])) ≤ 40 := by
    have := accCnt_le (st.put o (some (l, x, s))).acc
    omega
  refine ⟨⟨_, (hk p (lt_of h.self) (fun e => h.nm.1 e.symm)).trans h.self, h.fp, (ownsMap_tight hm).mono hle, h.fmap, h.tidy.put (isLit o) _, hsz, ?_, ?_, ownsRow_same h.lrow ?_, h.flea, h.erow.same ?_, h.fent⟩, (Touch.refl F w).grown hg (fun k e => by simp at e; subst e; exact Or.inl h.fmap)⟩
  · intro y z
    by_cases e : y = o
    · subst e
      rw [Maps.atKey_put_same hmap (isLit y)]
      simp [BookSt.put, accAt]
    · rw [Maps.atKey_put_other (lit_ne e), h.look]
      simp [BookSt.put, e]
  · intro y
    by_cases e : y = o
    · subst e
      rw [Maps.has_put_same hmap (isLit y)]
      simp [BookSt.put]
    · rw [Maps.has_put_other (lit_ne e), h.has]
      simp [BookSt.put, e]
  · intro k hk'
    obtain ⟨cur, hc⟩ := row_block h.lrow hk'
    exact hk k (lt_of hc) (fun e => h.nm.2.2 (e ▸ hk'))
  · intro k hk'
    obtain ⟨cur, hc⟩ := h.erow.block hk'
    exact hk k (lt_of hc) (fun e => h.nm.2.1 (e ▸ hk'))

theorem RefMem.putAcc {w w1 : World} {F : Nat → Prop} {p : Nat} {st : BookSt} {es : List Ent} {wh : Bool} {mb : Nat} {lv ev : Value} {D : DataW Unit} (h : RefMem w F p st es wh 40 mb lv ev D) (o l x s : Int) (ho : 1 ≤ o ∧ o ≤ 40)
    (hm : w1.ownsMap Tryz.prog 3 accElem mb (40 + 1) (D.put (.int .i64 o) (.agg [.lit (.int .i64 l), .lit (.int .i64 x)])))
    (hg : w.grownBy w1 (some mb)) :
    RefAt w1 F p (st.put o (some (l, x, s))) es wh 40 ∧ Touch F w w1 := by
  obtain ⟨⟨D', h1⟩, h2⟩ := h.putMem o l x s ho hm hg
  exact ⟨⟨mb, lv, ev, D', h1⟩, h2⟩

/-- An account is struck. -/
theorem RefMem.delAcc {w w1 : World} {F : Nat → Prop} {p : Nat} {st : BookSt} {es : List Ent} {wh : Bool} {mb M : Nat} {lv ev : Value} {D : DataW Unit} (h : RefMem w F p st es wh 40 mb lv ev D) (o : Int) (ho : 1 ≤ o ∧ o ≤ 40)
    (hm : w1.ownsMap Tryz.prog 3 accElem mb M (D.del (.int .i64 o))) (hg : w.grownBy w1 (some mb)) :
    RefAt w1 F p (st.put o none) es wh 40 ∧ Touch F w w1 := by
  have hk : ∀ k, k < w.heap.size → k ≠ mb → w1.heap[k]? = w.heap[k]? := fun k hk hne => hg.block k hk (fun e => hne (by simpa using e))
  have hsz : (Maps.size (D.del (.int .i64 o)) : Int) = accCnt (st.put o none).acc := by
    show _ = accCnt (fun y => if y = o then none else st.acc y)
    have := size_del h.tidy (k := .int .i64 o)
    rw [accCnt_upd _ _ _ ho.1 ho.2, ← h.size]
    rw [h.has o] at this
    cases e : (st.acc o) <;> rw [e] at this <;> simp [accOne] at this ⊢ <;> omega
  have hle : Maps.size (D.del (.int .i64 o)) ≤ 40 := by
    have := accCnt_le (st.put o none).acc
    omega
  refine ⟨⟨mb, lv, ev, _, (hk p (lt_of h.self) (fun e => h.nm.1 e.symm)).trans h.self, h.fp, (ownsMap_tight hm).mono hle, h.fmap, h.tidy.del _, hsz, ?_, ?_, ownsRow_same h.lrow ?_, h.flea, h.erow.same ?_, h.fent⟩, (Touch.refl F w).grown hg (fun k e => by simp at e; subst e; exact Or.inl h.fmap)⟩
  · intro y z
    by_cases e : y = o
    · subst e
      rw [Maps.atKey_del_same]
      simp [BookSt.put, accAt]
    · rw [Maps.atKey_del_other (lit_ne e), h.look]
      simp [BookSt.put, e]
  · intro y
    by_cases e : y = o
    · subst e
      rw [Maps.has_del_same]
      simp [BookSt.put]
    · rw [Maps.has_del_other (lit_ne e), h.has]
      simp [BookSt.put, e]
  · intro k hk'
    obtain ⟨cur, hc⟩ := row_block h.lrow hk'
    exact hk k (lt_of hc) (fun e => h.nm.2.2 (e ▸ hk'))
  · intro k hk'
    obtain ⟨cur, hc⟩ := h.erow.block hk'
    exact hk k (lt_of hc) (fun e => h.nm.2.1 (e ▸ hk'))

/-! The entries that the reference keeps. -/
def noteE (wh : Bool) (es : List Ent) (en : Ent) : List Ent := if wh then es ++ [en] else last5 (es ++ [en])
def seenE (wh : Bool) (l : List Ent) : List Ent := if wh then l else last5 l
theorem seen_note (wh : Bool) (st : BookSt) (en : Ent) (h : wh = true → st.entries.length ≤ 9999) : noteE wh (seenE wh st.entries) en = seenE wh (st.note en).entries := by
  cases wh with
  | false =>
    simp only [noteE, seenE, Bool.false_eq_true, if_false]
    exact (last5_note st en).symm
  | true =>
    have := h rfl
    simp only [noteE, seenE, if_true, BookSt.note, trimE]
    rw [if_neg (by rw [List.length_append, List.length_singleton]; omega)]
theorem seen_len (wh : Bool) (st : BookSt) (h : wh = true → st.entries.length ≤ 9999) : (seenE wh st.entries).length ≤ 9999 := by
  cases wh with
  | false =>
    have := last5_len st.entries
    simp only [seenE, Bool.false_eq_true, if_false]
    omega
  | true =>
    simp only [seenE, if_true]
    exact h rfl
theorem seen_len5 (st : BookSt) : (seenE false st.entries).length ≤ 5000 := by
  simp only [seenE, Bool.false_eq_true, if_false]
  exact last5_len st.entries

/-- The book behind a call. -/
def RefPost (err : Int) (F : Nat → Prop) (p : Nat) (st : BookSt) (es : List Ent) (wh : Bool) (w : World) : Ending → World → Prop := fun e w' =>
  e = .returned (.int .i64 err) ∧ RefAt w' (fun k => F k ∨ w.heap.size ≤ k) p st es wh 40 ∧ Touch F w w'
def RefDone (F : Nat → Prop) (p : Nat) (st : BookSt) (es : List Ent) (wh : Bool) (w : World) : Ending → World → Prop := fun e w' =>
  e = .returned (.tuple #[]) ∧ RefAt w' (fun k => F k ∨ w.heap.size ≤ k) p st es wh 40 ∧ Touch F w w'
theorem ref_fin {w W : World} {F : Nat → Prop} {p : Nat} {st : BookSt} {es : List Ent} {wh : Bool} {N : Nat} (hb : RefAt w F p st es wh N) (B : Below w.heap.size w W) : RefAt W (fun k => F k ∨ w.heap.size ≤ k) p st es wh N ∧ Touch F w W :=
  ⟨(hb.same (Below.same_on B)).wider (fun k hk => Or.inl hk), Touch.of_below B⟩

theorem ownBad_iff (o : Int) : ownBad o = false ↔ 1 ≤ o ∧ o ≤ 40 := by unfold ownBad; simp
theorem numBad_any (ns : List Int) : ns.any numBad = false ↔ ∀ z ∈ ns, 0 ≤ z ∧ z ≤ 10000000 := by
  rw [List.any_eq_false]
  constructor
  · intro h z hz
    have := h z hz
    unfold numBad at this
    simpa using this
  · intro h z hz
    have := h z hz
    unfold numBad
    simpa using this
theorem faultE_one (st : BookSt) (o : Int) (ns : List Int) : faultE st [o] ns = if chkE o ns = 0 then (if (st.acc o).isSome then 0 else 7) else 2 := by
  unfold faultE chkE
  by_cases h1 : ownBad o = false
  · by_cases h2 : ns.any numBad = false
    · have e1 := (ownBad_iff o).1 h1
      have e2 := (numBad_any ns).1 h2
      rw [if_neg (by simp [h1, h2]), if_pos (show (if (1 ≤ o ∧ o ≤ 40) ∧ ∀ z ∈ ns, 0 ≤ z ∧ z ≤ 10000000 then (0 : Int) else 2) = 0 from if_pos ⟨e1, e2⟩)]
      simp
    · have e2 : ¬ ∀ z ∈ ns, 0 ≤ z ∧ z ≤ 10000000 := fun h => h2 ((numBad_any ns).2 h)
      rw [if_pos (by simp at h2; simp [h2]), if_neg (by rw [if_neg (fun h => e2 h.2)]; decide)]
  · have e1 : ¬ (1 ≤ o ∧ o ≤ 40) := fun h => h1 ((ownBad_iff o).2 h)
    rw [if_pos (by simp at h1; simp [h1]), if_neg (by rw [if_neg (fun h => e1 h.1)]; decide)]
/-- The account that a call names is there and the numbers are right, or its error. -/
theorem fault_cases (st : BookSt) (o : Int) (ns : List Int) : (faultE st [o] ns = 2 ∧ chkE o ns = 2) ∨ (faultE st [o] ns = 7 ∧ chkE o ns = 0 ∧ st.acc o = none) ∨ (faultE st [o] ns = 0 ∧ chkE o ns = 0 ∧ ∃ l h s, st.acc o = some (l, h, s)) := by
  rw [faultE_one]
  rcases chkE_vals o ns with h | h
  · rw [if_pos h]
    cases ha : st.acc o with
    | none => exact Or.inr (Or.inl ⟨by simp, h, rfl⟩)
    | some a => exact Or.inr (Or.inr ⟨by simp, h, a.1, a.2.1, a.2.2, rfl⟩)
  · rw [if_neg (by rw [h]; decide)]
    exact Or.inl ⟨rfl, h⟩

end Go.Proofs.YtljjndifmfhffaaGreatDoor
