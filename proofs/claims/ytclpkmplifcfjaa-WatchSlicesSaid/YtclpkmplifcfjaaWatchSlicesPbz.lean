/-
  What the law keeps while it compares the slices two by two. No conditions but bounds.
-/
import Derived.Test.YtclpkmplifcfjaaWatchSlicesPby
import Derived.Test.YtclpkmplifcfjaaWatchSlicesPbm
namespace Go.Proofs.Ytclpkmplifcfjaa
open Go.RowKit Go.Shelf
set_option linter.unusedVariables false

/-- The clones that are kept. -/
def BefAt (w : World) (B : Nat) (v : Value) (xs : List (Wn × Option Addr)) (M : Nat → Nat → Int) (k : Nat) : Prop :=
  ∃ vs : List Value, vs.length = k ∧ w.ownsRow B 22 1 v k vs ∧ ∀ j x, vs[j]? = some x → w.ownsRow B 5 1 x (xs.getD j W0).1.n (((xs.getD j W0).1.row M).map (Value.int .u8))
theorem BefAt.start (w : World) (B : Nat) (xs : List (Wn × Option Addr)) (M : Nat → Nat → Int) : BefAt w B (.slice none 0 0) xs M 0 :=
  ⟨[], rfl, World.ownsRow_nil _ _ _ _, fun j x h => by simp at h⟩
theorem BefAt.below {w w' : World} {B : Nat} {v : Value} {xs : List (Wn × Option Addr)} {M : Nat → Nat → Int} {k : Nat} (h : BefAt w B v xs M k) (hb : Below w.heap.size w w') : BefAt w' B v xs M k := by
  obtain ⟨vs, h1, h2, h3⟩ := h
  exact ⟨vs, h1, ownsRow_same h2 (fun i hi => hb.block i (h2.lt i hi).2), fun j x hx => ownsRow_same (h3 j x hx) (fun i hi => hb.block i ((h3 j x hx).lt i hi).2)⟩
theorem BefAt.app {w w' : World} {B : Nat} {v v' x : Value} {xs : List (Wn × Option Addr)} {M : Nat → Nat → Int} {k : Nat} {vs : List Value} (hl : vs.length = k)
    (h2 : w.ownsRow B 22 1 v k vs) (h3 : ∀ j x, vs[j]? = some x → w.ownsRow B 5 1 x (xs.getD j W0).1.n (((xs.getD j W0).1.row M).map (Value.int .u8)))
    (hx : w.ownsRow B 5 1 x (xs.getD k W0).1.n (((xs.getD k W0).1.row M).map (Value.int .u8)))
    (hown : w'.ownsRow B 22 1 v' (k + 1) (vs ++ [x])) (hg : w.grownBy w' v.ownBlock) : BefAt w' B v' xs M (k + 1) := by
  have keep : ∀ {x : Value} {n : Nat} {zs : List Value}, w.ownsRow B 5 1 x n zs → w'.ownsRow B 5 1 x n zs := fun {x n zs} hr =>
    ownsRow_same hr (fun i hi => hg.block i (hr.lt i hi).2 (fun e => by
      obtain ⟨c1, hc1⟩ := row_block hr hi
      obtain ⟨c2, hc2⟩ := row_block h2 e.symm
      rw [hc1] at hc2
      simp only [Option.some.injEq, Obj.cells.injEq] at hc2
      exact absurd hc2.2.1 (by decide)))
  refine ⟨vs ++ [x], by simp [hl], hown, fun j y hy => ?_⟩
  by_cases hj : j < vs.length
  · rw [List.getElem?_append_left hj] at hy
    exact keep (h3 j y hy)
  · rw [List.getElem?_append_right (by omega)] at hy
    have e : j - vs.length = 0 := by
      rcases Nat.eq_zero_or_pos (j - vs.length) with e | e
      · exact e
      · rw [List.getElem?_eq_none (by simp; omega)] at hy; cases hy
    rw [e] at hy
    simp only [List.getElem?_cons_zero, Option.some.injEq] at hy
    subst hy
    have e2 : j = k := by omega
    subst e2
    exact keep hx
/-- One of them. -/
theorem BefAt.get {w : World} {B : Nat} {v : Value} {xs : List (Wn × Option Addr)} {M : Nat → Nat → Int} {k : Nat} (h : BefAt w B v xs M k) {j : Nat} (hj : j < k) (hn : (xs.getD j W0).1.n ≤ 1000) :
    ∃ a c x, v = .slice a k c ∧ ∃ g, a = some ⟨g, 0, none⟩ ∧ w.cell? ⟨g, j, none⟩ = some x ∧ Reads w .u8 x ((xs.getD j W0).1.row M) := by
  obtain ⟨vs, h1, h2, h3⟩ := h
  obtain ⟨a, c, rfl⟩ := wrow_sh h2
  obtain ⟨x, hx⟩ : ∃ x, vs[j]? = some x := ⟨_, List.getElem?_eq_getElem (by omega)⟩
  obtain ⟨g, rfl, hc, _⟩ := wrow_cell h2 hx
  have hr := h3 j x hx
  have hl : ((xs.getD j W0).1.row M).length = (xs.getD j W0).1.n := by simp [Wn.row]
  rw [← hl] at hr
  exact ⟨_, c, x, rfl, g, rfl, hc, Reads.own hr (by omega)⟩

/-- What stands behind each round. -/
structure WsAt (W3 wr : World) (H : Nat) (xs : List (Wn × Option Addr)) (gOf : Nat → Nat) (gl : List Int) (wv : Value) (ps : List (Nat × Nat)) (tv : Value) (fs : List Nat) (s : CovS) : Prop where
  sz : H = W3.heap.size ∧ H + 2 ≤ wr.heap.size
  be : Below H W3 wr
  want : wr.ownsRow (H + 2) 57 2 wv ps.length (spCells ps)
  tight : wr.ownsRow (H + 2) 3 1 tv fs.length (natCells fs)
  grp : intRow wr H gl
  cells : CellsIn wr (H + 1) xs gOf s
variable {W3 wr w' : World} {H : Nat} {xs : List (Wn × Option Addr)} {gOf : Nat → Nat} {gl : List Int} {wv tv : Value} {ps : List (Nat × Nat)} {fs : List Nat} {s : CovS}
theorem WsAt.keep (h : WsAt W3 wr H xs gOf gl wv ps tv fs s) (hb : Below wr.heap.size wr w') : WsAt W3 w' H xs gOf gl wv ps tv fs s := by
  obtain ⟨h1, h2, h3, h4, h5, h6⟩ := h
  have hs := hb.size
  exact ⟨⟨h1.1, by omega⟩, h2.trans (hb.mono (by omega)), ownsRow_same h3 (fun i hi => hb.block i (h3.lt i hi).2), ownsRow_same h4 (fun i hi => hb.block i (h4.lt i hi).2), (hb.block H (by omega)).trans h5, h6.same (hb.block (H + 1) (by omega))⟩
theorem WsAt.setG (h : WsAt W3 wr H xs gOf gl wv ps tv fs s) (j : Nat) (z : Int) : WsAt W3 (wr.setCell ⟨H, j, none⟩ (.int .i64 z)) H xs gOf (gl.set j z) wv ps tv fs s := by
  obtain ⟨h1, h2, h3, h4, h5, h6⟩ := h
  have off : ∀ k, k ≠ H → (wr.setCell ⟨H, j, none⟩ (.int .i64 z)).heap[k]? = wr.heap[k]? := fun k hk => Below.heap_setCell _ _ _ _ hk
  refine ⟨⟨h1.1, by simpa [World.setCell] using h1.2⟩, h2.setCell (p := ⟨H, j, none⟩) (Nat.le_refl _) _, ownsRow_same h3 (fun i hi => off i (by have := (h3.lt i hi).1; omega)), ownsRow_same h4 (fun i hi => off i (by have := (h4.lt i hi).1; omega)), ?_, h6.same (off _ (by omega))⟩
  unfold intRow
  rw [block_setCell h5]
  simp [List.map_set]
theorem WsAt.wantApp (h : WsAt W3 wr H xs gOf gl wv ps tv fs s) {v' : Value} {p : Nat × Nat} (ho : w'.ownsRow (H + 2) 57 2 v' (ps.length + 1) (spCells ps ++ [.int .i64 (p.1 : Int), .int .i64 (p.2 : Int)])) (hg : wr.grownBy w' wv.ownBlock) :
    WsAt W3 w' H xs gOf gl v' (ps ++ [p]) tv fs s ∧ ∀ (k : Nat) cs t, wr.heap[k]? = some (.cells cs t (0, 0)) → t ≠ 57 → w'.heap[k]? = some (.cells cs t (0, 0)) := by
  obtain ⟨h1, h2, h3, h4, h5, h6⟩ := h
  have hs := hg.size
  have ge : ∀ k, wv.ownBlock = some k → H + 2 ≤ k := fun k hk => (h3.lt k hk).1
  have ty : ∀ (k : Nat) cs t, wr.heap[k]? = some (.cells cs t (0, 0)) → t ≠ 57 → w'.heap[k]? = some (.cells cs t (0, 0)) := fun k cs t hk ht => by
    refine (hg.block k (lt_of hk) (fun e => ?_)).trans hk
    obtain ⟨c, hc⟩ := row_block h3 e.symm
    rw [hk] at hc
    simp only [Option.some.injEq, Obj.cells.injEq] at hc
    exact ht hc.2.1
  refine ⟨⟨⟨h1.1, by omega⟩, h2.grown hg (by omega) (fun k hk => by have := ge k hk; omega), ?_, ownsRow_same h4 (fun i hi => ?_), ty _ _ _ h5 (by decide), h6.same (hg.block _ (by omega) (fun e => by have := ge _ e.symm; omega))⟩, ty⟩
  · have e1 : spCells (ps ++ [p]) = spCells ps ++ [.int .i64 (p.1 : Int), .int .i64 (p.2 : Int)] := by rw [spCells_app]; rfl
    rw [e1, List.length_append]
    exact ho
  · obtain ⟨c, hc⟩ := row_block h4 hi
    rw [ty _ _ _ hc (by decide), hc]
theorem WsAt.tightApp (h : WsAt W3 wr H xs gOf gl wv ps tv fs s) {v' : Value} {j : Nat} (ho : w'.ownsRow (H + 2) 3 1 v' (fs.length + 1) (natCells fs ++ [.int .i64 (j : Int)])) (hg : wr.grownBy w' tv.ownBlock) :
    WsAt W3 w' H xs gOf gl wv ps v' (fs ++ [j]) s ∧ ∀ (k : Nat) cs t, wr.heap[k]? = some (.cells cs t (0, 0)) → t ≠ 3 → w'.heap[k]? = some (.cells cs t (0, 0)) := by
  obtain ⟨h1, h2, h3, h4, h5, h6⟩ := h
  have hs := hg.size
  have ge : ∀ k, tv.ownBlock = some k → H + 2 ≤ k := fun k hk => (h4.lt k hk).1
  have ty : ∀ (k : Nat) cs t, wr.heap[k]? = some (.cells cs t (0, 0)) → t ≠ 3 → w'.heap[k]? = some (.cells cs t (0, 0)) := fun k cs t hk ht => by
    refine (hg.block k (lt_of hk) (fun e => ?_)).trans hk
    obtain ⟨c, hc⟩ := row_block h4 e.symm
    rw [hk] at hc
    simp only [Option.some.injEq, Obj.cells.injEq] at hc
    exact ht hc.2.1
  refine ⟨⟨⟨h1.1, by omega⟩, h2.grown hg (by omega) (fun k hk => by have := ge k hk; omega), ownsRow_same h3 (fun i hi => ?_), ?_, ?_, h6.same (hg.block _ (by omega) (fun e => by have := ge _ e.symm; omega))⟩, ty⟩
  · obtain ⟨c, hc⟩ := row_block h3 hi
    rw [ty _ _ _ hc (by decide), hc]
  · have e1 : natCells (fs ++ [j]) = natCells fs ++ [.int .i64 (j : Int)] := by simp [natCells]
    rw [e1, List.length_append]
    exact ho
  · refine (hg.block H (by omega) (fun e => ?_)).trans h5
    have := ge _ e.symm
    omega
theorem WsAt.cellPut (h : WsAt W3 wr H xs gOf gl wv ps tv fs s) {s' : CovS} (hc : CellsIn w' (H + 1) xs gOf s') (hg : wr.grownBy w' (some (H + 1))) :
    WsAt W3 w' H xs gOf gl wv ps tv fs s' ∧ ∀ k, k < wr.heap.size → k ≠ H + 1 → w'.heap[k]? = wr.heap[k]? := by
  obtain ⟨h1, h2, h3, h4, h5, h6⟩ := h
  have hs := hg.size
  have off : ∀ k, k < wr.heap.size → k ≠ H + 1 → w'.heap[k]? = wr.heap[k]? := fun k hk hne => hg.block k hk (fun e => hne (Option.some.inj e))
  exact ⟨⟨⟨h1.1, by omega⟩, h2.grown hg (by omega) (fun k hk => by cases hk; omega), ownsRow_same h3 (fun i hi => off i (h3.lt i hi).2 (by have := (h3.lt i hi).1; omega)), ownsRow_same h4 (fun i hi => off i (h4.lt i hi).2 (by have := (h4.lt i hi).1; omega)), (off H (by omega) (by omega)).trans h5, hc⟩, off⟩

/-- What stands in the midst of a round. -/
def DL (W3 : World) (H : Nat) (xs : List (Wn × Option Addr)) (gOf : Nat → Nat) (gl : List Int) (wv : Value) (ps : List (Nat × Nat)) (tv : Value) (fs : List Nat) (s : CovS) (bc : Nat) (oc : Obj) (bd : Nat) (od : Obj) (W : World) : Prop :=
  WsAt W3 W H xs gOf gl wv ps tv fs s ∧ W.heap[bc]? = some oc ∧ W.heap[bd]? = some od
theorem DL.keep {bc bd : Nat} {oc od : Obj} (h : DL W3 H xs gOf gl wv ps tv fs s bc oc bd od wr) (hb : Below wr.heap.size wr w') : DL W3 H xs gOf gl wv ps tv fs s bc oc bd od w' :=
  ⟨h.1.keep hb, (hb.block bc (Array.getElem?_eq_some_iff.1 h.2.1).1).trans h.2.1, (hb.block bd (Array.getElem?_eq_some_iff.1 h.2.2).1).trans h.2.2⟩
theorem pairsI_zero (f : Nat → Nat → Bool) (i : Nat) : pairsI f i 0 = [] := rfl
theorem pairsI_next (f : Nat → Nat → Bool) (i k : Nat) : pairsI f i (k + 1) = pairsI f i k ++ if i < k ∧ f i k = true then [(i, k)] else [] := by
  unfold pairsI
  rw [List.range_succ, List.filter_append, List.map_append]
  congr 1
  by_cases h : i < k <;> cases hf : f i k <;> simp [hf, h]
theorem errXY_zero {x y : Wn} (hx : x.n ≤ 2000) (hy : y.n ≤ 2000) : errXY x y = 0 := by unfold errXY; rw [if_neg (by omega)]

theorem cuCells_get (cs : List Cu) (k : Nat) (c : Cu) (h : cs[k]? = some c) : (cs.flatMap Cu.cells)[k * 3]? = some (.int .i64 (c.m : Int)) ∧ (cs.flatMap Cu.cells)[k * 3 + 1]? = some (.int .i64 (c.f : Int)) ∧ (cs.flatMap Cu.cells)[k * 3 + 2]? = some (.int .i64 (c.t : Int)) := by
  induction cs generalizing k with
  | nil => simp at h
  | cons q cs ih =>
    have e : (q :: cs).flatMap Cu.cells = .int .i64 (q.m : Int) :: .int .i64 (q.f : Int) :: .int .i64 (q.t : Int) :: cs.flatMap Cu.cells := by simp [Cu.cells]
    rw [e]
    cases k with
    | zero => simp at h; subst h; exact ⟨rfl, rfl, rfl⟩
    | succ k =>
      have := ih k (by simpa using h)
      rw [Nat.succ_mul]
      exact ⟨by simpa using this.1, by simpa [Nat.add_assoc] using this.2.1, by simpa [Nat.add_assoc] using this.2.2⟩

end Go.Proofs.Ytclpkmplifcfjaa
