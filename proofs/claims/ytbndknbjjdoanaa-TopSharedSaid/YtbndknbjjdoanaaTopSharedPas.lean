/-
  Blocks filled with octets: the plain part and the memory law. Conditions: numbers in their bounds.
  What sweep keeps: the map of what is kept; the plain part. No conditions.
-/
import Derived.Test.YtbndknbjjdoanaaTopSharedPaq
import Derived.Test.YtbndknbjjdoanaaTopSharedPar
import Derived.Maps.RangeWalk

namespace Go.Proofs.Ytbndknbjjdoanaa
section
open Go.RowKit
set_option linter.unusedVariables false

def PoolSt.growAll (P : PoolSt) (bks : List Bk) : PoolSt := bks.foldl PoolSt.grow P
theorem growAll_snoc (P : PoolSt) (bks : List Bk) (x : Bk) : P.growAll (bks ++ [x]) = (P.growAll bks).grow x := by unfold PoolSt.growAll; rw [List.foldl_append]; rfl
theorem growAll_cons (P : PoolSt) (bks : List Bk) (x : Bk) : P.growAll (x :: bks) = (P.grow x).growAll bks := rfl
theorem growAll_size : ∀ (P : PoolSt) (bks : List Bk), (P.growAll bks).size = P.size
  | _, [] => rfl
  | P, x :: l => by rw [growAll_cons, growAll_size]; rfl
theorem growAll_st : ∀ (P : PoolSt) (bks : List Bk), (P.growAll bks).st = P.st
  | _, [] => rfl
  | P, x :: l => by rw [growAll_cons, growAll_st]; rfl
theorem growAll_lastS : ∀ (P : PoolSt) (bks : List Bk), (P.growAll bks).lastS = P.lastS
  | _, [] => rfl
  | P, x :: l => by rw [growAll_cons, growAll_lastS]; rfl
theorem growAll_lastB : ∀ (P : PoolSt) (bks : List Bk), (P.growAll bks).lastB = P.lastB + bks.length
  | _, [] => rfl
  | P, x :: l => by rw [growAll_cons, growAll_lastB, List.length_cons]; show P.lastB + 1 + l.length = _; omega
theorem growAll_bl : ∀ (P : PoolSt) (bks : List Bk), (P.growAll bks).bl.length = P.bl.length + bks.length
  | _, [] => rfl
  | P, x :: l => by
    rw [growAll_cons, growAll_bl, List.length_cons]
    show (P.bl ++ [(P.lastB + 1, x)]).length + l.length = _
    simp
    omega
theorem grow_nb {P : PoolSt} (x : Bk) (hn : ∀ p ∈ P.bl, p.1 ≤ P.lastB) : ∀ p ∈ (P.grow x).bl, p.1 ≤ (P.grow x).lastB := fun p hp => by
  rcases List.mem_append.1 hp with hp | hp
  · exact Nat.le_succ_of_le (hn p hp)
  · have e : p = (P.lastB + 1, x) := by simpa using hp
    rw [e]
    exact Nat.le_refl _
theorem growAll_nb : ∀ {P : PoolSt} (bks : List Bk), (∀ p ∈ P.bl, p.1 ≤ P.lastB) → ∀ p ∈ (P.growAll bks).bl, p.1 ≤ (P.growAll bks).lastB
  | _, [], hn => hn
  | P, x :: l, hn => growAll_nb (P := P.grow x) l (grow_nb x hn)
theorem growAll_old : ∀ {P : PoolSt} (bks : List Bk) {k : Int} {y : Bk}, (∀ p ∈ P.bl, p.1 ≤ P.lastB) → lookN P.bl k = some y → lookN (P.growAll bks).bl k = some y
  | _, [], _, _, _, h => h
  | P, x :: l, k, y, hn, h => growAll_old (P := P.grow x) l (grow_nb x hn) (grow_old hn h)
theorem growAll_new : ∀ {P : PoolSt} (bks : List Bk) {j : Nat} {y : Bk}, (∀ p ∈ P.bl, p.1 ≤ P.lastB) → bks[j]? = some y → lookN (P.growAll bks).bl ((P.lastB + 1 + j : Nat) : Int) = some y
  | _, [], _, _, _, h => by simp at h
  | P, x :: l, 0, y, hn, h => by
    simp at h
    subst h
    exact growAll_old (P := P.grow x) l (grow_nb x hn) (grow_new hn)
  | P, x :: l, j + 1, y, hn, h => by
    have h1 := growAll_new (P := P.grow x) l (j := j) (grow_nb x hn) (by simpa using h)
    have e : (P.grow x).lastB = P.lastB + 1 := rfl
    rw [e] at h1
    rw [show P.lastB + 1 + (j + 1) = P.lastB + 1 + 1 + j by omega]
    exact h1

/-- The parts of octets that fill blocks of their own. -/
def fillPts (lb size : Nat) (zs : List Int) (k : Nat) : List Pt := (List.range k).map fun j => ⟨lb + 1 + j, 0, (partZ zs size j).length⟩
theorem fillPts_len (lb size : Nat) (zs : List Int) (k : Nat) : (fillPts lb size zs k).length = k := by unfold fillPts; rw [List.length_map, List.length_range]
theorem fillPts_snoc (lb size : Nat) (zs : List Int) (k : Nat) : fillPts lb size zs (k + 1) = fillPts lb size zs k ++ [⟨lb + 1 + k, 0, (partZ zs size k).length⟩] := by
  unfold fillPts
  rw [List.range_succ, List.map_append]
  rfl
def Fills (size : Nat) (zs : List Int) (bks : List Bk) : Prop := ∀ j x, bks[j]? = some x → ∃ a g, x = newBk size a g (partZ zs size j)
theorem Fills.pts {P : PoolSt} {zs : List Int} {bks : List Bk} (h : Fills P.size zs bks) (hn : ∀ p ∈ P.bl, p.1 ≤ P.lastB) : PtsOf (P.growAll bks) (fillPts P.lastB P.size zs bks.length) := fun x hx => by
  unfold fillPts at hx
  obtain ⟨j, hj, rfl⟩ := List.mem_map.1 hx
  have hj := List.mem_range.1 hj
  obtain ⟨y, hy⟩ : ∃ y, bks[j]? = some y := ⟨_, List.getElem?_eq_getElem hj⟩
  obtain ⟨a, g, e⟩ := h j y hy
  refine ⟨y, growAll_new bks hn hy, Nat.zero_le _, ?_⟩
  rw [e]
  exact Nat.le_refl _
theorem Fills.oct {P : PoolSt} {zs : List Int} {bks : List Bk} (h : Fills P.size zs bks) (hn : ∀ p ∈ P.bl, p.1 ≤ P.lastB) : ∀ k, k ≤ bks.length → octP (P.growAll bks).oct (fillPts P.lastB P.size zs k) = zs.take (k * P.size)
  | 0, _ => by simp [fillPts, octP]
  | k + 1, hk => by
    have ih := Fills.oct h hn k (by omega)
    obtain ⟨y, hy⟩ : ∃ y, bks[k]? = some y := ⟨_, List.getElem?_eq_getElem (by omega)⟩
    obtain ⟨a, g, e⟩ := h k y hy
    have h1 := growAll_new bks hn hy
    rw [fillPts_snoc, octP_app, ih, Nat.succ_mul, List.take_add]
    congr 1
    unfold octP octPt
    simp only [List.flatMap_cons, List.flatMap_nil, List.append_nil]
    rw [oct_of h1, e]
    unfold newBk
    simp only [List.drop_zero]
    rw [List.take_append_of_le_length (Nat.le_refl _), List.take_length]
    rfl
theorem lenP_fill (lb size : Nat) (zs : List Int) : ∀ k, lenP (fillPts lb size zs k) = min (k * size) zs.length
  | 0 => by simp [fillPts, lenP]
  | k + 1 => by
    rw [fillPts_snoc, lenP_app, lenP_fill lb size zs k, Nat.succ_mul]
    have e : lenP [(⟨lb + 1 + k, 0, (partZ zs size k).length⟩ : Pt)] = (partZ zs size k).length := by simp [lenP, Pt.n]
    rw [e, partZ_len]
    omega

theorem PoolMem.lt {w : World} {F : Nat → Prop} {h bp : Nat} {P : PoolSt} {mb ms N1 N2 : Nat} {D1 D2 : DataW Unit} (m : PoolMem w F h bp P mb ms N1 N2 D1 D2) : ∀ p ∈ P.bl, p.1 ≤ P.lastB := fun p hp => (m.nb p hp).2

/-- The same, by a list of the chunks' numbers. -/
def fillPtsL (lb size : Nat) (zs : List Int) (pre : List Nat) : List Pt := pre.zipIdx.map fun p => ⟨lb + 1 + p.2, 0, (partZ zs size p.1).length⟩
theorem fillPtsL_snoc (lb size : Nat) (zs : List Int) (pre : List Nat) (x : Nat) : fillPtsL lb size zs (pre ++ [x]) = fillPtsL lb size zs pre ++ [⟨lb + 1 + pre.length, 0, (partZ zs size x).length⟩] := by
  unfold fillPtsL
  rw [List.zipIdx_append, List.map_append]
  simp
theorem fillPtsL_range (lb size : Nat) (zs : List Int) : ∀ k, fillPtsL lb size zs (List.range k) = fillPts lb size zs k
  | 0 => rfl
  | k + 1 => by rw [List.range_succ, fillPtsL_snoc, fillPts_snoc, fillPtsL_range lb size zs k, List.length_range]
def FillsL (size : Nat) (zs : List Int) (pre : List Nat) (bks : List Bk) : Prop := bks.length = pre.length ∧ ∀ (j : Nat) (x : Bk) (i : Nat), bks[j]? = some x → pre[j]? = some i → ∃ a g, x = newBk size a g (partZ zs size i)
theorem FillsL.snoc {size : Nat} {zs : List Int} {pre : List Nat} {bks : List Bk} (h : FillsL size zs pre bks) (i a g : Nat) : FillsL size zs (pre ++ [i]) (bks ++ [newBk size a g (partZ zs size i)]) := by
  refine ⟨by rw [List.length_append, List.length_append, h.1]; rfl, fun j x i' hx hi => ?_⟩
  have hl := h.1
  rcases Nat.lt_trichotomy j bks.length with h1 | h1 | h1
  · rw [List.getElem?_append_left h1] at hx
    rw [List.getElem?_append_left (by omega)] at hi
    exact h.2 j x i' hx hi
  · rw [List.getElem?_append_right (by omega), show j - bks.length = 0 by omega] at hx
    rw [List.getElem?_append_right (by omega), show j - pre.length = 0 by omega] at hi
    simp at hx hi
    exact ⟨a, g, by rw [← hi]; exact hx.symm⟩
  · rw [List.getElem?_eq_none (by rw [List.length_append]; simp; omega)] at hx
    cases hx
theorem FillsL.range {size : Nat} {zs : List Int} {k : Nat} {bks : List Bk} (h : FillsL size zs (List.range k) bks) : bks.length = k ∧ Fills size zs bks := by
  have hl := h.1
  rw [List.length_range] at hl
  refine ⟨hl, fun j x hx => ?_⟩
  have hj := (List.getElem?_eq_some_iff.1 hx).1
  exact h.2 j x j hx (by rw [List.getElem?_range (by omega)])

/-- Between two rounds of filled. -/
def FillI (w9 : World) (h bp : Nat) (P : PoolSt) (mb ms N1 N2 : Nat) (D2 : DataW Unit) (F : Nat → Prop) (Bo : Nat) (os : List Int) (pre : List Nat) (W : World) : Prop :=
  ∃ (bks : List Bk) (D1' : DataW Unit) (F' : Nat → Prop) (v : Value), FillsL P.size os pre bks ∧ PoolMem W F' h bp (P.growAll bks) mb ms (N1 + pre.length) N2 D1' D2 ∧
    (∀ k, F' k → F k ∨ (w9.heap.size ≤ k ∧ ∃ o : Obj, W.heap[k]? = some o ∧ o.isCells = true)) ∧ (∀ k, F k → F' k) ∧ W.heap[Bo]? = some (.cells #[v] 66 (0, 0)) ∧
    W.ownsRow w9.heap.size 75 3 v pre.length (ptCells (fillPtsL P.lastB P.size os pre)) ∧ (∀ k, v.ownBlock = some k → ¬ F' k) ∧ Touch (fun k => F k ∨ k = Bo) w9 W

theorem FillI.own {w9 : World} {h bp : Nat} {P : PoolSt} {mb ms N1 N2 : Nat} {D2 : DataW Unit} {F : Nat → Prop} {Bo : Nat} {os : List Int} (hF : ∀ k, F k → k < w9.heap.size) (hBo : Bo < w9.heap.size) : Go.OwnFrom w9.heap.size (FillI w9 h bp P mb ms N1 N2 D2 F Bo os) := by
  rintro pre W W' row ⟨bks, D1', F', v, h2, hm, hF', hFF, hbo, hrow, hap, ht⟩ hg hr
  have ne : ∀ k, k < w9.heap.size → row ≠ some k := fun k hk e => by have := (hr k e).1; omega
  have ne2 : ∀ k o, W.heap[k]? = some o → o.isCells = true → row ≠ some k := fun k o h1 h2 e => by
    obtain ⟨r1, o', r2, r3⟩ := hr k e
    rw [h1] at r2
    cases r2
    rw [h2] at r3
    cases r3
  have hne : ∀ k, F' k → row ≠ some k := fun k hk => by
    rcases hF' k hk with hk | ⟨_, o, r2, r3⟩
    · exact ne k (hF k hk)
    · exact ne2 k o r2 r3
  refine ⟨bks, D1', F', v, h2, hm.same (fun k hk hl => hg.block k hl (fun e => hne k hk e.symm)), fun k hk => ?_, hFF, (hg.block Bo (lt_of hbo) (fun e => ne Bo hBo e.symm)).trans hbo, ownsRow_same hrow (fun k hk => ?_), hap, ht.grown hg (fun k e => Or.inr (hr k e).1)⟩
  · rcases hF' k hk with hx | ⟨x1, o, x2, x3⟩
    · exact Or.inl hx
    · exact Or.inr ⟨x1, o, (hg.block k (Array.getElem?_eq_some_iff.1 x2).1 (fun e => hne k hk e.symm)).trans x2, x3⟩
  · obtain ⟨cur, hc⟩ := row_block hrow hk
    exact hg.block k (lt_of hc) (fun e => ne2 k _ hc rfl e.symm)

theorem FillI.round {w9 W W1 w' : World} {h bp : Nat} {P : PoolSt} {mb ms N1 N2 : Nat} {D1 D2 : DataW Unit} {F F' : Nat → Prop} {Bo : Nat} {os : List Int} {pre : List Nat} {x a g g2 cap : Nat} {bks : List Bk} {v : Value} (hF : ∀ k, F k → k < w9.heap.size) (hBo : ¬ F Bo) (hBo2 : Bo < w9.heap.size)
    (h2 : FillsL P.size os pre bks) (hF' : ∀ k, F' k → F k ∨ (w9.heap.size ≤ k ∧ ∃ o : Obj, W.heap[k]? = some o ∧ o.isCells = true)) (hFF : ∀ k, F k → F' k)
    (hap : ∀ k, v.ownBlock = some k → ¬ F' k) (hvl : ∀ k, v.ownBlock = some k → w9.heap.size ≤ k ∧ k < W.heap.size) (ht : Touch (fun k => F k ∨ k = Bo) w9 W)
    (hm1 : PoolMem W1 (fun k => F' k ∨ k = a ∨ k = g) h bp ((P.growAll bks).grow (newBk P.size a g (partZ os P.size x))) mb ms (N1 + pre.length + 1) N2 D1 D2) (ht1 : Touch (fun k => k = h ∨ k = mb) W W1) (hh : F h) (hmb : F mb) (ha : W.heap.size ≤ a) (hg : W.heap.size ≤ g) (ha1 : a < W1.heap.size) (hg1 : g < W1.heap.size)
    (hr : w'.ownsRow w9.heap.size 75 3 (.slice (some ⟨g2, 0, none⟩) (pre.length + 1) cap) (pre.length + 1) (ptCells (fillPtsL P.lastB P.size os pre) ++ [.int .i64 ((P.lastB + 1 + pre.length : Nat) : Int), .int .i64 0, .int .i64 ((partZ os P.size x).length : Int)])) (hgr : W1.grownBy w' v.ownBlock) (hp : v.ownBlock = some g2 ∨ W1.heap.size ≤ g2) (hcb : w'.heap[Bo]? = some (.cells #[v] 66 (0, 0))) :
    FillI w9 h bp P mb ms N1 N2 D2 F Bo os (pre ++ [x]) (w'.setCell ⟨Bo, 0, none⟩ (.slice (some ⟨g2, 0, none⟩) (pre.length + 1) cap)) := by
  have F'lt : ∀ k, F' k → k < W.heap.size := fun k hk => by
    rcases hF' k hk with hk | ⟨_, o, r2, _⟩
    · have := hF k hk; have := ht.size; omega
    · exact (Array.getElem?_eq_some_iff.1 r2).1
  have F'Bo : ∀ k, F' k → k ≠ Bo := fun k hk e => by
    rcases hF' k hk with hk | ⟨r1, _⟩
    · exact hBo (e ▸ hk)
    · omega
  have s1 := ht1.size
  have s0 := ht.size
  have off : ∀ k, k ≠ Bo → (w'.setCell ⟨Bo, 0, none⟩ (.slice (some ⟨g2, 0, none⟩) (pre.length + 1) cap)).heap[k]? = w'.heap[k]? := fun k hk => Below.heap_setCell _ _ _ _ hk
  have keep : ∀ k, (F' k ∨ k = a ∨ k = g) → k < W1.heap.size → (w'.setCell ⟨Bo, 0, none⟩ (.slice (some ⟨g2, 0, none⟩) (pre.length + 1) cap)).heap[k]? = W1.heap[k]? := fun k hk hl => by
    have hne : v.ownBlock ≠ some k := fun e => by
      have := hvl k e
      rcases hk with hk | hk | hk
      · exact hap k e hk
      · omega
      · omega
    rw [off k (by rcases hk with hk | hk | hk; exact F'Bo k hk; omega; omega), hgr.block k hl (fun e => hne e.symm)]
  have NEW := hm1.same keep
  have e1 : (pre ++ [x]).length = pre.length + 1 := by simp
  have eg : P.growAll (bks ++ [newBk P.size a g (partZ os P.size x)]) = (P.growAll bks).grow (newBk P.size a g (partZ os P.size x)) := growAll_snoc _ _ _
  refine ⟨bks ++ [newBk P.size a g (partZ os P.size x)], D1, fun k => F' k ∨ k = a ∨ k = g, .slice (some ⟨g2, 0, none⟩) (pre.length + 1) cap, h2.snoc x a g, by rw [eg, e1]; exact NEW, ?_, fun k hk => Or.inl (hFF k hk), ?_, ?_, ?_, ?_⟩
  · intro k hk
    have hb := NEW.bk (((P.growAll bks).lastB + 1), newBk P.size a g (partZ os P.size x)) (List.mem_append_right _ (by simp))
    rcases hk with hk | rfl | rfl
    · rcases hF' k hk with hx | ⟨r1, o, r2, r3⟩
      · exact Or.inl hx
      · right
        refine ⟨r1, ?_⟩
        have l1 := hF h hh
        have l2 := hF mb hmb
        have e : (w'.setCell ⟨Bo, 0, none⟩ (.slice (some ⟨g2, 0, none⟩) (pre.length + 1) cap)).heap[k]? = W1.heap[k]? := keep k (Or.inl hk) (by have := F'lt k hk; omega)
        exact ⟨o, e.trans ((ht1.block k (F'lt k hk) (by omega)).trans r2), r3⟩
    · exact Or.inr ⟨by omega, _, hb.1, rfl⟩
    · exact Or.inr ⟨by omega, _, hb.2.1, rfl⟩
  · rw [block_setCell hcb 0]; rfl
  · rw [e1, fillPtsL_snoc, ptCells_app]
    refine ownsRow_same hr (fun k hk => off k ?_)
    have := (hr.lt k hk).1
    omega
  · intro k hk
    have hkg : k = g2 := by
      cases hk
      rfl
    subst hkg
    rintro (hk | hk | hk)
    · rcases hp with hp | hp
      · exact hap k hp hk
      · have := F'lt k hk; omega
    · rcases hp with hp | hp
      · have := hvl k hp; omega
      · omega
    · rcases hp with hp | hp
      · have := hvl k hp; omega
      · omega
  · have T1 : Touch (fun k => F k ∨ k = Bo) w9 W1 := ht.then (ht1.mono (fun k hk => Or.inl (by rcases hk with rfl | rfl; exact hh; exact hmb)))
    exact (T1.grown hgr (fun k hk => Or.inr (hvl k hk).1)).setCell (p := ⟨Bo, 0, none⟩) (Or.inl (Or.inr rfl)) _

end
end Go.Proofs.Ytbndknbjjdoanaa

namespace Go.Proofs.Ytbndknbjjdoanaa
section
open Go.RowKit
set_option linter.unusedVariables false

/-- A map of ints to whether. -/
def KpM (w : World) (b n : Nat) (K : Int → Bool) : Prop := ∃ D : DataW Unit, w.ownsMap Try.prog 3 (plainElem Try.prog 4) b n D ∧ ∀ k : Int, D.atKey (.int .i64 k) (.lit (.bool false)) = .lit (.bool (K k))
theorem KpM.same {w w' : World} {b n : Nat} {K : Int → Bool} (h : KpM w b n K) (hs : w'.heap[b]? = w.heap[b]?) : KpM w' b n K := by
  obtain ⟨D, ⟨es, clock, h1, h2⟩, h3⟩ := h
  exact ⟨D, ⟨es, clock, hs.trans h1, h2⟩, h3⟩
theorem KpM.lt {w : World} {b n : Nat} {K : Int → Bool} (h : KpM w b n K) : b < w.heap.size := by
  obtain ⟨D, h1, _⟩ := h
  exact h1.lt
theorem KpM.notCells {w : World} {b n : Nat} {K : Int → Bool} (h : KpM w b n K) : ∃ es c, w.heap[b]? = some (.map es c) := by
  obtain ⟨D, ⟨es, clock, h1, h2⟩, h3⟩ := h
  exact ⟨es, clock, h1⟩
theorem KpM.new (w : World) : KpM (w.alloc (.map #[] 0)) w.heap.size 0 (fun _ => false) := by
  refine ⟨.map [], World.ownsMap_made (H := Unit) w Try.prog 3 (plainElem Try.prog 4), fun k => rfl⟩
theorem KpM.put {w : World} {b n : Nat} {K : Int → Bool} (h : KpM w b n K) (x : Int) (hx : -9223372036854775808 ≤ x ∧ x ≤ 9223372036854775807) (hn : n < 1000000000) :
    ∃ w', (Instr.mapUpdate 115 (.map (some b)) (.int .i64 x) (.bool true)).run Try.prog w = .ok () w' ∧ KpM w' b (n + 1) (fun k => K k || decide (k = x)) ∧ w.grownBy w' (some b) := by
  obtain ⟨D, h1, h3⟩ := h
  have hkey := Maps.keyOf_int_mk (P := Try.prog) (k := 3) Try.underlying3 (a := x) (WalkArith.wf_i64 hx)
  have ismap := h1.isMap
  obtain ⟨w', hrun, hm, hg⟩ := h1.update (Maps.int_keyed Try.underlying3) Try.underlying115 (by unfold maxLen; omega) hkey (val := .bool true) (plainElem_bool Try.underlying4 true)
  refine ⟨w', hrun, ⟨_, hm, fun k => ?_⟩, hg⟩
  by_cases e : x = k
  · subst e
    rw [Maps.atKey_put_same ismap (by simp [WideAt.IsKeyLit])]
    simp
  · rw [Maps.atKey_put_other (by simp; omega), h3 k]
    have e' : ¬ k = x := fun h => e h.symm
    simp [e']
set_option maxRecDepth 100000 in
theorem KpM.look {w : World} {b n : Nat} {K : Int → Bool} (h : KpM w b n K) (x : Int) (hx : -9223372036854775808 ≤ x ∧ x ≤ 9223372036854775807) :
    (Instr.lookup 115 (.map (some b)) (.int .i64 x) false).run Try.prog w = .ok (.bool (K x)) w := by
  obtain ⟨D, h1, h3⟩ := h
  have hz : (zeroValue 4).run Try.prog w = .ok (.bool false) w := by kernel_rfl
  obtain ⟨v, ps, hrun, hv⟩ := h1.lookup (Maps.int_keyed Try.underlying3) Try.underlying115 hz (zd := .lit (.bool false)) (zp := []) (plainElem_bool Try.underlying4 false) (Maps.keyOf_int_mk Try.underlying3 (WalkArith.wf_i64 hx))
  rw [h3 x] at hv
  have hb : v = .bool (K x) := by
    unfold plainElem at hv
    rw [Try.underlying4] at hv
    cases v <;> simp at hv
    rw [hv.1]
  rw [hrun, hb]

theorem ptrElem_shapeB {v : Value} {y : DataW Unit × List MemPlace} (e : ptrElem v = some y) : ∃ c : Option Nat, v = ptrOf c := by
  unfold ptrElem at e
  split at e
  · exact ⟨none, rfl⟩
  · next b => exact ⟨some b, rfl⟩
  · cases e
theorem rowElem_shape {v : Value} {y : DataW Unit × List MemPlace} (e : rowElem v = some y) : ∃ c : Option (Nat × Nat × Nat), v = rowOf c := by
  unfold rowElem at e
  split at e
  · exact ⟨none, rfl⟩
  · next g n c => exact ⟨some (g, n, c), rfl⟩
  · cases e

theorem lookN_of_mem {α : Type} : ∀ {l : List (Nat × α)} {n : Nat} {x : α}, (l.map Prod.fst).Nodup → (n, x) ∈ l → lookN l (n : Int) = some x
  | [], _, _, _, h => by simp at h
  | p :: l, n, x, hn, h => by
    rw [List.map_cons, List.nodup_cons] at hn
    unfold lookN
    rw [List.find?_cons]
    rcases List.mem_cons.1 h with rfl | h
    · simp
    · have hne : ¬ ((p.1 : Int) = (n : Int)) := fun e => hn.1 (by
        have e' : p.1 = n := by omega
        rw [e']
        exact List.mem_map.2 ⟨_, h, rfl⟩)
      simp only [hne, decide_false]
      exact lookN_of_mem hn.2 h
theorem lookN_filter {α : Type} (q : Int → Bool) : ∀ (l : List (Nat × α)) (k : Int), lookN (l.filter fun p => q (p.1 : Int)) k = if q k then lookN l k else none
  | [], k => by simp [lookN]
  | p :: l, k => by
    have ih := lookN_filter q l k
    rw [List.filter_cons]
    by_cases hp : q (p.1 : Int) = true
    · rw [if_pos hp]
      unfold lookN at *
      rw [List.find?_cons, List.find?_cons]
      by_cases e : (p.1 : Int) = k
      · simp only [e, decide_true, Option.map_some]
        rw [← e, hp, if_pos rfl]
      · simp only [e, decide_false]
        exact ih
    · rw [if_neg hp, ih]
      by_cases e : (p.1 : Int) = k
      · rw [← e, if_neg hp, if_neg hp]
      · have e2 : lookN (p :: l) k = lookN l k := by
          unfold lookN
          rw [List.find?_cons]
          simp only [e, decide_false]
        rw [e2]
/-- One less. -/
theorem filter_less {α : Type} {q q' : Int → Bool} {n : Nat} (hq : q (n : Int) = true) (hq' : q' (n : Int) = false) (ho : ∀ k : Int, k ≠ n → q' k = q k) : ∀ {l : List (Nat × α)}, (l.map Prod.fst).Nodup → (∃ x, (n, x) ∈ l) → (l.filter fun p => q' (p.1 : Int)).length + 1 = (l.filter fun p => q (p.1 : Int)).length
  | [], _, h => by obtain ⟨x, h⟩ := h; simp at h
  | p :: l, hn, h => by
    rw [List.map_cons, List.nodup_cons] at hn
    rw [List.filter_cons, List.filter_cons]
    by_cases e : p.1 = n
    · have e1 : (l.filter fun p => q' (p.1 : Int)) = l.filter fun p => q (p.1 : Int) := List.filter_congr (fun r hr => ho _ (fun e2 => hn.1 (List.mem_map.2 ⟨r, hr, by omega⟩)))
      rw [e, hq, hq', if_pos rfl, e1]
      simp
    · obtain ⟨x, hx⟩ := h
      have hx' : (n, x) ∈ l := by
        rcases List.mem_cons.1 hx with e2 | e2
        · exact absurd (by rw [← e2]) e
        · exact e2
      have ih := filter_less hq hq' ho hn.2 ⟨x, hx'⟩
      rw [ho (p.1 : Int) (by omega)]
      split
      · simp only [List.length_cons]; omega
      · exact ih

/-- A block that a string has. -/
def PoolSt.keeps (P : PoolSt) (k : Int) : Bool := P.st.any fun s => s.2.2.any fun x => decide ((x.b : Int) = k)
def PoolSt.swept (P : PoolSt) : PoolSt := { P with bl := P.bl.filter fun p => P.keeps (p.1 : Int) }
/-- What is marked while the strings are gone through. -/
def Marks (P : PoolSt) (left : Lit → Bool) (K : Int → Bool) : Prop := ∀ k : Int, K k = true ↔ ∃ p ∈ P.st, left (.int .i64 (p.1 : Int)) = false ∧ ∃ x ∈ p.2.2, (x.b : Int) = k
theorem Marks.all {P : PoolSt} {left : Lit → Bool} {K : Int → Bool} (h : Marks P left K) (hl : ∀ kl, left kl = false) : K = P.keeps := by
  funext k
  have h1 := h k
  unfold PoolSt.keeps
  rw [Bool.eq_iff_iff, h1, List.any_eq_true]
  constructor
  · rintro ⟨p, hp, _, x, hx, e⟩
    exact ⟨p, hp, List.any_eq_true.2 ⟨x, hx, by simp [e]⟩⟩
  · rintro ⟨p, hp, hx⟩
    obtain ⟨x, hx, e⟩ := List.any_eq_true.1 hx
    exact ⟨p, hp, hl _, x, hx, by simpa using e⟩
theorem Marks.step {P : PoolSt} {left : Lit → Bool} {K : Int → Bool} {s : Nat} {o : Option (Nat × Nat × Nat)} {l : List Pt} (h : Marks P left K) (hk : (P.st.map Prod.fst).Nodup) (hm : (s, o, l) ∈ P.st) (hl : left (.int .i64 (s : Int)) = true) : Marks P (fun z => left z && !z.sameKey (.int .i64 (s : Int))) (fun k => K k || l.any fun x => decide ((x.b : Int) = k)) := fun k => by
  have h1 := h k
  rw [Bool.or_eq_true, h1, List.any_eq_true]
  constructor
  · rintro (⟨p, hp, hlp, x, hx, e⟩ | ⟨x, hx, e⟩)
    · refine ⟨p, hp, ?_, x, hx, e⟩
      simp [hlp]
    · exact ⟨(s, o, l), hm, by simp [Lit.sameKey], x, hx, by simpa using e⟩
  · rintro ⟨p, hp, hlp, x, hx, e⟩
    by_cases e2 : p.1 = s
    · right
      have : p.2 = (o, l) := by
        have a1 := lookN_of_mem hk (show (p.1, p.2) ∈ P.st from hp)
        have a2 := lookN_of_mem hk hm
        rw [e2, a2] at a1
        exact (Option.some.inj a1).symm
      rw [this] at hx
      exact ⟨x, hx, by simp [e]⟩
    · left
      refine ⟨p, hp, ?_, x, hx, e⟩
      have e3 : ¬ ((p.1 : Int) = (s : Int)) := by omega
      simpa [Lit.sameKey, e3] using hlp

end
end Go.Proofs.Ytbndknbjjdoanaa
