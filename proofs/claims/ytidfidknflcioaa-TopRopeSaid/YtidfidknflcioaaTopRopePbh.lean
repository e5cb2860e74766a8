/-
  remove of a rope: the loop over its leaves. Conditions: numbers in their bounds.
-/
import Derived.Test.YtidfidknflcioaaTopRopePbg
namespace Go.Proofs.Ytidfidknflcioaa
open Go.RowKit
set_option linter.unusedVariables false

theorem delA_snoc (f t : Nat) (l : List Lc) (k : Nat) (x : Lc) (h : l[k]? = some x) : delA f t (l.take (k + 1)) = delF f t (delA f t (l.take k)) x := by
  unfold delA
  rw [List.take_add_one, h, List.foldl_append]
  rfl
/-- What a rope is asked for: its numbers in their bounds. -/
structure RopeOk (w : World) (F : Nat → Prop) (I : RopI) (L : List Lm) (lv : Value) : Prop where
  rm : RopeMem w F I L lv
  pok : POk I.p
  fl : ∀ k, F k → k < w.heap.size
  len : L.length ≤ 50000
  oct : (totS (L.map Lm.sz)).1 ≤ 50000
  each : ∀ x ∈ L, 1 ≤ x.n ∧ x.n ≤ I.p.leaf
theorem RB.ok {w : World} {I : RopI} {L : List Lm} {lv : Value} {bst : BookSt} {F G : Nat → Prop} (h : RB w I L lv bst F G) : RopeOk w F I L lv := ⟨h.rm, h.pok, h.fl, h.len, h.oct, h.each⟩
theorem RopeOk.szok {w : World} {F : Nat → Prop} {I : RopI} {L : List Lm} {lv : Value} (h : RopeOk w F I L lv) : SzOk (L.map Lm.sz) := by
  refine ⟨by rw [List.length_map]; have := h.len; omega, fun p hp => ?_⟩
  obtain ⟨x, hx, rfl⟩ := List.mem_map.1 hp
  have ok := (h.rm.mem x hx).2.1
  exact ⟨by have := ok.1; have := ok.2.1; show x.n ≤ 100000; omega, ok.2.1⟩

/-- What stands while the leaves are passed. -/
structure DelAt (w wr : World) (F : Nat → Prop) (I : RopI) (L : List Lm) (lv : Value) (b4 b5 f t k : Nat) (kv : Value) (K : List Lm) : Prop where
  row : wr.ownsRow w.heap.size 32 1 kv K.length (K.map Lm.val)
  mem : ∀ y ∈ K, byteRow wr y.g y.cs ∧ y.ok ∧ F y.g ∧ 1 ≤ y.n ∧ y.n ≤ I.p.leaf
  rest : ∀ x ∈ L.drop k, byteRow wr x.g x.cs
  sub : (K.map Lm.g).Sublist ((L.take k).map Lm.g)
  self : wr.heap[I.r]? = w.heap[I.r]?
  lrow : wr.ownsRow 0 32 1 lv L.length (L.map Lm.val)
  tou : Touch F w wr
  x4 : wr.heap[b4]? = some (.cells #[.int .i64 (f : Int)] 3 (0, 0))
  x5 : wr.heap[b5]? = some (.cells #[.int .i64 (t : Int)] 3 (0, 0))
  lk : K.length ≤ k
theorem DelAt.below {w wr w' : World} {F : Nat → Prop} {I : RopI} {L : List Lm} {lv : Value} {b4 b5 f t k : Nat} {kv : Value} {K : List Lm} (h : DelAt w wr F I L lv b4 b5 f t k kv K) (hb : Below wr.heap.size wr w') (hr : I.r < wr.heap.size) : DelAt w w' F I L lv b4 b5 f t k kv K := by
  obtain ⟨h1, h2, h3, h4, h5, h6, h7, h8, h9, h10⟩ := h
  exact ⟨row_kept h1 hb, fun y hy => ⟨(hb.block _ (lt_of (h2 y hy).1)).trans (h2 y hy).1, (h2 y hy).2⟩, fun x hx => (hb.block _ (lt_of (h3 x hx))).trans (h3 x hx), h4, (hb.block _ hr).trans h5, row_kept h6 hb, h7.then (Touch.of_below hb), (hb.block _ (lt_of h8)).trans h8, (hb.block _ (lt_of h9)).trans h9, h10⟩
/-- A leaf in hand is written. -/
theorem DelAt.touch {w wr w' : World} {F : Nat → Prop} {I : RopI} {L : List Lm} {lv : Value} {b4 b5 f t k : Nat} {kv : Value} {K : List Lm} (h : DelAt w wr F I L lv b4 b5 f t k kv K) {x : Lm} (hx : L[k]? = some x) (hin : (L.map Lm.g).Nodup) (hF : F x.g) (hrs : ∃ cs, w.heap[I.r]? = some (.cells cs 69 (0, 0))) (ht : Touch (fun k => k = x.g) wr w') (hxr : byteRow wr x.g x.cs) :
    DelAt w w' F I L lv b4 b5 f t (k + 1) kv K := by
  obtain ⟨h1, h2, h3, h4, h5, h6, h7, h8, h9, h10⟩ := h
  have hk := (List.getElem?_eq_some_iff.1 hx).1
  have hxr' : wr.heap[x.g]? = some _ := hxr
  have ty : ∀ (i : Nat) cs tt, wr.heap[i]? = some (.cells cs tt (0, 0)) → tt ≠ 5 → w'.heap[i]? = some (.cells cs tt (0, 0)) := fun i cs tt hi hne =>
    (ht.block i (lt_of hi) (fun e => by
      rw [e, hxr'] at hi
      simp only [Option.some.injEq, Obj.cells.injEq] at hi
      exact hne hi.2.1.symm)).trans hi
  have split : L.map Lm.g = (L.take k).map Lm.g ++ x.g :: (L.drop (k + 1)).map Lm.g := by
    conv => lhs; rw [← List.take_append_drop k L]
    rw [List.map_append, List.drop_eq_getElem_cons hk]
    have := (List.getElem?_eq_some_iff.1 hx).2
    rw [this, List.map_cons]
  rw [split, List.nodup_append] at hin
  obtain ⟨n1, n2, n3⟩ := hin
  have other : ∀ (g : Nat) cs, byteRow wr g cs → g ≠ x.g → byteRow w' g cs := fun g cs hr hne => (ht.block g (lt_of hr) hne).trans hr
  refine ⟨ownsRow_same h1 (fun i hi => ?_), fun y hy => ⟨other _ _ (h2 y hy).1 ?_, (h2 y hy).2⟩, fun y hy => other _ _ (h3 y ?_) ?_, ?_, ?_, ownsRow_same h6 (fun i hi => ?_), h7.trans ht (fun i hi => Or.inl (hi ▸ hF)), ty _ _ _ h8 (by decide), ty _ _ _ h9 (by decide), by omega⟩
  · obtain ⟨c, hc⟩ := row_block h1 hi
    rw [ty _ _ _ hc (by decide), hc]
  · exact n3 _ (h4.subset (List.mem_map_of_mem hy)) _ (by simp)
  · rw [List.drop_eq_getElem_cons hk]
    exact List.mem_cons_of_mem _ hy
  · intro e
    have := (List.nodup_cons.1 n2).1
    exact this (e ▸ List.mem_map_of_mem hy)
  · rw [List.take_add_one, hx]
    simp only [Option.toList_some, List.map_append, List.map_cons, List.map_nil]
    exact h4.trans (List.sublist_append_left _ _)
  · obtain ⟨cs, hcs⟩ := hrs
    rw [← h5] at hcs
    rw [ty _ _ _ hcs (by decide), ← hcs, h5]
  · obtain ⟨c, hc⟩ := row_block h6 hi
    rw [ty _ _ _ hc (by decide), hc]
/-- A leaf is kept. -/
theorem DelAt.app {w wr w' : World} {F : Nat → Prop} {I : RopI} {L : List Lm} {lv v' : Value} {b4 b5 f t k : Nat} {kv : Value} {K : List Lm} (h : DelAt w wr F I L lv b4 b5 f t (k + 1) kv K) {x y : Lm} (hx : L[k]? = some x) (hy : byteRow wr y.g y.cs) (hg : y.g = x.g) (hok : y.ok) (hn : 1 ≤ y.n ∧ y.n ≤ I.p.leaf) (hF : F x.g)
    (hsub : (K.map Lm.g).Sublist ((L.take k).map Lm.g)) (hlk : K.length ≤ k) (hrs : ∃ cs, w.heap[I.r]? = some (.cells cs 69 (0, 0))) (hlv : ∀ i, lv.ownBlock = some i → i < w.heap.size)
    (hown : w'.ownsRow w.heap.size 32 1 v' (K.length + 1) (K.map Lm.val ++ [y.val])) (hgr : wr.grownBy w' kv.ownBlock) :
    DelAt w w' F I L lv b4 b5 f t (k + 1) v' (K ++ [y]) := by
  obtain ⟨h1, h2, h3, h4, h5, h6, h7, h8, h9, h10⟩ := h
  have hlt := (List.getElem?_eq_some_iff.1 hx).1
  have ty : ∀ (i : Nat) cs tt, wr.heap[i]? = some (.cells cs tt (0, 0)) → tt ≠ 32 → w'.heap[i]? = some (.cells cs tt (0, 0)) := fun i cs tt hi hne =>
    (hgr.block i (lt_of hi) (fun e => by
      obtain ⟨c, hc⟩ := row_block h1 e.symm
      rw [hi] at hc
      simp only [Option.some.injEq, Obj.cells.injEq] at hc
      exact hne hc.2.1)).trans hi
  refine ⟨by rw [List.length_append, List.map_append]; exact hown, fun z hz => ?_, fun z hz => ty _ _ _ (h3 z hz) (by decide), ?_, ?_, ownsRow_same h6 (fun i hi => ?_), h7.grown hgr (fun i hi => Or.inr (h1.lt i hi).1), ty _ _ _ h8 (by decide), ty _ _ _ h9 (by decide), by rw [List.length_append]; simp; omega⟩
  · rcases List.mem_append.1 hz with hz | hz
    · exact ⟨ty _ _ _ (h2 z hz).1 (by decide), (h2 z hz).2⟩
    · obtain rfl : z = y := by simpa using hz
      exact ⟨ty _ _ _ hy (by decide), hok, hg ▸ hF, hn⟩
  · rw [List.take_add_one, hx]
    simp only [Option.toList_some, List.map_append, List.map_cons, List.map_nil]
    rw [hg]
    exact hsub.append (List.Sublist.refl _)
  · obtain ⟨cs, hcs⟩ := hrs
    rw [← h5] at hcs
    rw [ty _ _ _ hcs (by decide), ← hcs, h5]
  · have h11 := hlv i hi
    exact hgr.block i (h6.lt i hi).2 (fun e => by have := (h1.lt i e.symm).1; omega)

end Go.Proofs.Ytidfidknflcioaa
