/-
  TopArena: what holds of arena, book and the law's own things between two steps. No conditions.
-/
import Derived.Test.YtfolidedcejafaaArenP
import Derived.Test.YtfolidedcejafaaArenN
namespace Go.Proofs.Ytfolidedcejafaa
open Go.RowKit
set_option linter.unusedVariables false

theorem AB.marked {w w' : World} {I : ArId} {st : ArSt} {bst : BookSt} {F G : Nat → Prop} (h : AB w I st bst F G) (ha : ArAt w' (fun k => F k ∨ w.heap.size ≤ k) I (markSt st)) (hT : Touch F w w') : AB w' I (markSt st) bst (fun k => (F k ∨ w.heap.size ≤ k) ∧ k < w'.heap.size) G := by
  obtain ⟨cv, rv, mv, hm⟩ := ha
  have hs := hT.size
  refine ⟨⟨cv, rv, mv, hm.narrow⟩, h.bk.same (hT.same (fun k hk _ e => h.dis k e hk)), ?_, fun k hk => hk.2, fun k hk => by have := h.gl k hk; omega, h.own, h.pol, h.sz, h.acc, h.bud, h.tot, h.ent, h.rok, h.cok, h.fit, h.room⟩
  rintro k ⟨hk | hk, _⟩ hG
  · exact h.dis k hk hG
  · have := h.gl k hG; omega
theorem AB.released {w w' : World} {I : ArId} {st : ArSt} {bst : BookSt} {F G : Nat → Prop} (h : AB w I st bst F G) (k m : Nat) (ha : ArAt w' F I (relSt st k)) (hT : Touch F w w') (hr : (relSt st k).regs = st.regs.take m) : AB w' I (relSt st k) bst F G := by
  have hs := hT.size
  refine ⟨ha, h.bk.same (hT.same (fun k hk _ e => h.dis k e hk)), h.dis, fun k hk => by have := h.fl k hk; omega, fun k hk => by have := h.gl k hk; omega, h.own, h.pol, h.sz, h.acc, h.bud, h.tot, h.ent, ?_, h.cok, ?_, h.room⟩
  · rw [hr]
    have := h.rok.1
    exact ⟨by rw [List.length_take]; omega, fun x hx => h.rok.2 x (List.mem_of_mem_take hx)⟩
  · intro x hx
    rw [hr] at hx
    exact h.fit x (List.mem_of_mem_take hx)

/-- The law's own things: the map of contents, the stack, its lists. -/
structure Loc (w0 w : World) (F G : Nat → Prop) (mb : Nat) (lr : Int) (n : Nat) (v : Value) (stk : List Sk) : Prop where
  con : Content w mb lr n
  cF : ¬ F mb ∧ ¬ G mb
  cB : w0.heap.size ≤ mb
  row : w.ownsRow w0.heap.size 44 4 v stk.length (stk.flatMap Sk.cells)
  rF : ∀ b, v.ownBlock = some b → ¬ F b ∧ ¬ G b
  lists : ∀ e ∈ stk, w.ownsRow w0.heap.size 3 1 e.rv e.nos.length (e.nos.map (Value.int .i64)) ∧ ∀ b, e.rv.ownBlock = some b → ¬ F b ∧ ¬ G b

theorem Loc.touch {w0 w w' : World} {F G F' G' : Nat → Prop} {mb n : Nat} {lr : Int} {v : Value} {stk : List Sk} (h : Loc w0 w F G mb lr n v stk) (hT : Touch (fun k => F k ∨ G k) w w') (h1 : ∀ k, F' k → F k ∨ w.heap.size ≤ k) (h2 : ∀ k, G' k → G k ∨ w.heap.size ≤ k) : Loc w0 w' F' G' mb lr n v stk := by
  have far : ∀ b, b < w.heap.size → (¬ F b ∧ ¬ G b) → (¬ F' b ∧ ¬ G' b) := fun b hb hn => ⟨fun x => (h1 b x).elim hn.1 (fun y => by omega), fun x => (h2 b x).elim hn.2 (fun y => by omega)⟩
  have keep : ∀ b, b < w.heap.size → (¬ F b ∧ ¬ G b) → w'.heap[b]? = w.heap[b]? := fun b hb hn => hT.block b hb (fun x => x.elim hn.1 hn.2)
  refine ⟨h.con.same (keep mb h.con.lt h.cF), far mb h.con.lt h.cF, h.cB, ownsRow_same h.row (fun k hk => keep k (h.row.lt k hk).2 (h.rF k hk)), fun b hb => far b (h.row.lt b hb).2 (h.rF b hb), fun e he => ?_⟩
  obtain ⟨h3, h4⟩ := h.lists e he
  exact ⟨ownsRow_same h3 (fun k hk => keep k (h3.lt k hk).2 (h4 k hk)), fun b hb => far b (h3.lt b hb).2 (h4 b hb)⟩

/-- All that holds, but for the marks. -/
structure Al0 (w0 w : World) (I : ArId) (mb i : Nat) (v : Value) (st : ArSt) (bst : BookSt) (F G : Nat → Prop) (n : Nat) (stk : List Sk) : Prop where
  ab : AB w I st bst F G
  pl : Pl st
  loc : Loc w0 w F G mb st.lr n v stk
  far : ∀ k, F k ∨ G k → w0.heap.size ≤ k
  lr : 0 ≤ st.lr ∧ st.lr ≤ i
  lm : 0 ≤ st.lm ∧ st.lm ≤ i
  nn : n ≤ i
  bel : Below w0.heap.size w0 w
  rfar : w0.heap.size ≤ I.r

theorem Al0.below {w0 w w' : World} {I : ArId} {mb i : Nat} {v : Value} {st : ArSt} {bst : BookSt} {F G : Nat → Prop} {n : Nat} {stk : List Sk} (h : Al0 w0 w I mb i v st bst F G n stk) (hb : Below w.heap.size w w') : Al0 w0 w' I mb i v st bst F G n stk :=
  ⟨h.ab.below hb, h.pl, h.loc.touch (Touch.of_below hb) (fun k hk => Or.inl hk) (fun k hk => Or.inl hk), h.far, h.lr, h.lm, h.nn, h.bel.trans (hb.mono h.bel.size), h.rfar⟩
theorem Al0.next {w0 w : World} {I : ArId} {mb i : Nat} {v : Value} {st : ArSt} {bst : BookSt} {F G : Nat → Prop} {n : Nat} {stk : List Sk} (h : Al0 w0 w I mb i v st bst F G n stk) : Al0 w0 w I mb (i + 1) v st bst F G n stk :=
  ⟨h.ab, h.pl, h.loc, h.far, ⟨h.lr.1, by have := h.lr.2; omega⟩, ⟨h.lm.1, by have := h.lm.2; omega⟩, by have := h.nn; omega, h.bel, h.rfar⟩
/-- All that holds. -/
structure Al (w0 w : World) (I : ArId) (mb i : Nat) (v : Value) (st : ArSt) (bst : BookSt) (F G : Nat → Prop) (n : Nat) (stk : List Sk) : Prop where
  base : Al0 w0 w I mb i v st bst F G n stk
  rel : MkRel st stk
  ml : st.marks.length ≤ 100
theorem Al.below {w0 w w' : World} {I : ArId} {mb i : Nat} {v : Value} {st : ArSt} {bst : BookSt} {F G : Nat → Prop} {n : Nat} {stk : List Sk} (h : Al w0 w I mb i v st bst F G n stk) (hb : Below w.heap.size w w') : Al w0 w' I mb i v st bst F G n stk := ⟨h.base.below hb, h.rel, h.ml⟩
theorem Al.next {w0 w : World} {I : ArId} {mb i : Nat} {v : Value} {st : ArSt} {bst : BookSt} {F G : Nat → Prop} {n : Nat} {stk : List Sk} (h : Al w0 w I mb i v st bst F G n stk) : Al w0 w I mb (i + 1) v st bst F G n stk := ⟨h.base.next, h.rel, h.ml⟩

/-- A round's own box: the element of takes. -/
def BoxT (w0 w : World) (F G : Nat → Prop) (T : Nat) (a b : Int) : Prop := w.heap[T]? = some (.cells #[.int .i64 a, .int .i64 b] 37 (0, 0)) ∧ ¬ F T ∧ ¬ G T ∧ w0.heap.size ≤ T
theorem BoxT.touch {w0 w w' : World} {F G F' G' : Nat → Prop} {T : Nat} {a b : Int} (h : BoxT w0 w F G T a b) (hT : Touch (fun k => F k ∨ G k) w w') (h1 : ∀ k, F' k → F k ∨ w.heap.size ≤ k) (h2 : ∀ k, G' k → G k ∨ w.heap.size ≤ k) : BoxT w0 w' F' G' T a b := by
  obtain ⟨h3, h4, h5, h6⟩ := h
  have hlt := lt_of h3
  exact ⟨(hT.block T hlt (fun x => x.elim h4 h5)).trans h3, fun x => (h1 T x).elim h4 (fun y => by omega), fun x => (h2 T x).elim h5 (fun y => by omega), h6⟩
theorem BoxT.below {w0 w w' : World} {F G : Nat → Prop} {T : Nat} {a b : Int} (h : BoxT w0 w F G T a b) (hb : Below w.heap.size w w') : BoxT w0 w' F G T a b := h.touch (Touch.of_below hb) (fun k hk => Or.inl hk) (fun k hk => Or.inl hk)

/-- Other blocks are turned. -/
theorem AB.other {w w' : World} {I : ArId} {st : ArSt} {bst : BookSt} {F G X : Nat → Prop} (h : AB w I st bst F G) (hT : Touch X w w') (hX : ∀ k, X k → ¬ F k ∧ ¬ G k) : AB w' I st bst F G := by
  obtain ⟨cv, rv, mv, hm⟩ := h.ar
  have hs := hT.size
  exact ⟨⟨cv, rv, mv, hm.same (hT.same (fun k hk _ x => (hX k x).1 hk))⟩, h.bk.same (hT.same (fun k hk _ x => (hX k x).2 hk)), h.dis, fun k hk => by have := h.fl k hk; omega, fun k hk => by have := h.gl k hk; omega, h.own, h.pol, h.sz, h.acc, h.bud, h.tot, h.ent, h.rok, h.cok, h.fit, h.room⟩
theorem BoxT.other {w0 w w' : World} {F G X : Nat → Prop} {T : Nat} {a b : Int} (h : BoxT w0 w F G T a b) (hT : Touch X w w') (hX : ¬ X T) : BoxT w0 w' F G T a b := by
  obtain ⟨h3, h4, h5, h6⟩ := h
  exact ⟨(hT.block T (lt_of h3) hX).trans h3, h4, h5, h6⟩

theorem map_ne {w : World} {B e size n : Nat} {v : Value} {xs : List Value} {mb m : Nat} {lr : Int} (h : w.ownsRow B e size v n xs) (hc : Content w mb lr m) : v.ownBlock ≠ some mb := fun he => by
  obtain ⟨cur, hcur⟩ := row_block h he
  obtain ⟨D, ⟨es, clock, hb, _⟩, _⟩ := hc
  rw [hb] at hcur
  simp at hcur

/-- A mark's entry is put onto the stack. -/
theorem Al0.push {w0 w w' : World} {I : ArId} {mb i : Nat} {v : Value} {st : ArSt} {bst : BookSt} {F G : Nat → Prop} {n : Nat} {stk : List Sk} (h : Al0 w0 w I mb i v st bst F G n stk) (e : Sk) (g cap : Nat)
    (he : w.ownsRow w0.heap.size 3 1 e.rv e.nos.length (e.nos.map (Value.int .i64)) ∧ ∀ b, e.rv.ownBlock = some b → ¬ F b ∧ ¬ G b)
    (hrow : w'.ownsRow w0.heap.size 44 4 (.slice (some ⟨g, 0, none⟩) (stk.length + 1) cap) (stk.length + 1) (stk.flatMap Sk.cells ++ e.cells)) (hgr : w.grownBy w' v.ownBlock) (hpl : v.ownBlock = some g ∨ w.heap.size ≤ g) :
    Al0 w0 w' I mb i (.slice (some ⟨g, 0, none⟩) (stk.length + 1) cap) st bst F G n (stk ++ [e]) ∧ Touch (fun k => v.ownBlock = some k) w w' := by
  have hT : Touch (fun k => v.ownBlock = some k) w w' := (Touch.refl _ w).grown hgr (fun k hk => Or.inl hk)
  have hX : ∀ k, v.ownBlock = some k → ¬ F k ∧ ¬ G k := h.loc.rF
  have keepL : ∀ {rv : Value} {nos : List Int}, w.ownsRow w0.heap.size 3 1 rv nos.length (nos.map (Value.int .i64)) → w'.ownsRow w0.heap.size 3 1 rv nos.length (nos.map (Value.int .i64)) := fun hr =>
    ownsRow_same hr (fun k hk => hT.block k (hr.lt k hk).2 (rows_ne hr h.loc.row (by decide) k hk))
  refine ⟨⟨h.ab.other hT hX, h.pl, ⟨h.loc.con.same (hT.block mb h.loc.con.lt (map_ne h.loc.row h.loc.con)), h.loc.cF, h.loc.cB, ?_, ?_, ?_⟩, h.far, h.lr, h.lm, h.nn, h.bel.trans (hT.below h.bel.size (fun k hk => (h.loc.row.lt k hk).1)), h.rfar⟩, hT⟩
  · rw [List.length_append, List.flatMap_append]
    simpa using hrow
  · intro b hb
    simp only [Value.ownBlock, Option.some.injEq] at hb
    subst hb
    rcases hpl with hp | hp
    · exact hX _ hp
    · exact ⟨fun x => by have := h.ab.fl _ x; omega, fun x => by have := h.ab.gl _ x; omega⟩
  · intro y hy
    rcases List.mem_append.1 hy with hy | hy
    · exact ⟨keepL (h.loc.lists y hy).1, (h.loc.lists y hy).2⟩
    · obtain rfl : y = e := by simpa using hy
      exact ⟨keepL he.1, he.2⟩

/-- Behind Mark. -/
theorem Al0.marked {w0 w w' : World} {I : ArId} {mb i : Nat} {v : Value} {st : ArSt} {bst : BookSt} {F G : Nat → Prop} {n : Nat} {stk : List Sk} (h : Al0 w0 w I mb i v st bst F G n stk) {T : Nat} {a b : Int} (hb : BoxT w0 w F G T a b) (ha : ArAt w' (fun k => F k ∨ w.heap.size ≤ k) I (markSt st)) (hT : Touch F w w') :
    ∃ F', Al0 w0 w' I mb (i + 1) v (markSt st) bst F' G n stk ∧ BoxT w0 w' F' G T a b := by
  have hT2 : Touch (fun k => F k ∨ G k) w w' := hT.mono (fun k hk => Or.inl hk)
  have hs := h.bel.size
  refine ⟨_, ⟨h.ab.marked ha hT, ⟨h.pl.ord, h.pl.nos, h.pl.rng, h.pl.con⟩, h.loc.touch hT2 (fun k hk => hk.1) (fun k hk => Or.inl hk), fun k hk => hk.elim (fun hk => hk.1.elim (fun x => h.far k (Or.inl x)) (fun x => by omega)) (fun x => h.far k (Or.inr x)), ⟨h.lr.1, by have := h.lr.2; show st.lr ≤ _; omega⟩, ⟨by have := h.lm.1; show 0 ≤ st.lm + 1; omega, by have := h.lm.2; show st.lm + 1 ≤ _; omega⟩, by have := h.nn; omega, h.bel.trans (hT.below hs (fun k hk => h.far k (Or.inl hk))), h.rfar⟩, hb.touch hT2 (fun k hk => hk.1) (fun k hk => Or.inl hk)⟩

theorem Al.failed {w0 w w' : World} {I : ArId} {mb i : Nat} {v : Value} {st : ArSt} {bst : BookSt} {F G : Nat → Prop} {n : Nat} {stk : List Sk} (h : Al w0 w I mb i v st bst F G n stk) {T : Nat} {a b : Int} (hb : BoxT w0 w F G T a b) (hp : ABPost w w' I st F G) :
    ∃ bst' F' G', Al w0 w' I mb i v st bst' F' G' n stk ∧ BoxT w0 w' F' G' T a b := by
  obtain ⟨bst', F', G', hab, h1, h2, hT⟩ := hp
  have hs := h.base.bel.size
  refine ⟨bst', F', G', ⟨⟨hab, h.base.pl, h.base.loc.touch hT h1 h2, fun k hk => ?_, h.base.lr, h.base.lm, h.base.nn, h.base.bel.trans (hT.below hs h.base.far), h.base.rfar⟩, h.rel, h.ml⟩, hb.touch hT h1 h2⟩
  rcases hk with hk | hk
  · exact (h1 k hk).elim (fun x => h.base.far k (Or.inl x)) (fun x => by omega)
  · exact (h2 k hk).elim (fun x => h.base.far k (Or.inr x)) (fun x => by omega)

/-- Between Take and what is written. -/
structure Md (w0 w : World) (I : ArId) (mb : Nat) (v : Value) (st : ArSt) (bst : BookSt) (F G : Nat → Prop) (lr : Int) (n : Nat) (stk : List Sk) (T : Nat) (a b : Int) : Prop where
  ab : AB w I st bst F G
  loc : Loc w0 w F G mb lr n v stk
  box : BoxT w0 w F G T a b
  far : ∀ k, F k ∨ G k → w0.heap.size ≤ k
  bel : Below w0.heap.size w0 w
theorem Md.below {w0 w w' : World} {I : ArId} {mb : Nat} {v : Value} {st : ArSt} {bst : BookSt} {F G : Nat → Prop} {lr : Int} {n : Nat} {stk : List Sk} {T : Nat} {a b : Int} (h : Md w0 w I mb v st bst F G lr n stk T a b) (hb : Below w.heap.size w w') : Md w0 w' I mb v st bst F G lr n stk T a b :=
  ⟨h.ab.below hb, h.loc.touch (Touch.of_below hb) (fun k hk => Or.inl hk) (fun k hk => Or.inl hk), h.box.below hb, h.far, h.bel.trans (hb.mono h.bel.size)⟩
theorem Al.took {w0 w w' : World} {I : ArId} {mb i : Nat} {v : Value} {st st' : ArSt} {bst : BookSt} {F G : Nat → Prop} {n : Nat} {stk : List Sk} (h : Al w0 w I mb i v st bst F G n stk) {T : Nat} {a b : Int} (hb : BoxT w0 w F G T a b) (hp : ABPost w w' I st' F G) :
    ∃ bst' F' G', Md w0 w' I mb v st' bst' F' G' st.lr n stk T a b := by
  obtain ⟨bst', F', G', hab, h1, h2, hT⟩ := hp
  have hs := h.base.bel.size
  refine ⟨bst', F', G', hab, h.base.loc.touch hT h1 h2, hb.touch hT h1 h2, fun k hk => ?_, h.base.bel.trans (hT.below hs h.base.far)⟩
  rcases hk with hk | hk
  · exact (h1 k hk).elim (fun x => h.base.far k (Or.inl x)) (fun x => by omega)
  · exact (h2 k hk).elim (fun x => h.base.far k (Or.inr x)) (fun x => by omega)

/-- The map of contents has one more. -/
theorem Md.put {w0 w w' : World} {I : ArId} {mb : Nat} {v : Value} {st : ArSt} {bst : BookSt} {F G : Nat → Prop} {lr : Int} {n : Nat} {stk : List Sk} {T : Nat} {a b : Int} (h : Md w0 w I mb v st bst F G lr n stk T a b) (D : DataW Unit) (hD : ∀ o : Int, 1 ≤ o → o ≤ lr → D.atKey (.int .i64 o) (.lit (.int .u8 0)) = .lit (.int .u8 (o % 256))) (hm : Maps.IsMap D)
    (hown : w'.ownsMap Try.prog 3 (plainElem Try.prog 5) mb (n + 1) (D.put (.int .i64 (lr + 1)) (.lit (.int .u8 ((lr + 1) % 256))))) (hg : w.grownBy w' (some mb)) :
    Md w0 w' I mb v st bst F G (lr + 1) (n + 1) stk T a b := by
  have hT : Touch (fun k => k = mb) w w' := (Touch.refl (fun k => k = mb) w).grown hg (fun k hk => Or.inl (by simpa using hk.symm))
  have hX : ∀ k, k = mb → ¬ F k ∧ ¬ G k := fun k hk => hk ▸ h.loc.cF
  have keep : ∀ {e sz m : Nat} {u : Value} {xs : List Value}, w.ownsRow w0.heap.size e sz u m xs → w'.ownsRow w0.heap.size e sz u m xs := fun hr =>
    ownsRow_same hr (fun k hk => hT.block k (hr.lt k hk).2 (fun x => map_ne hr h.loc.con (x ▸ hk)))
  refine ⟨h.ab.other hT hX, ⟨⟨_, hown, fun o h1 h2 => ?_⟩, h.loc.cF, h.loc.cB, keep h.loc.row, h.loc.rF, fun e he => ⟨keep (h.loc.lists e he).1, (h.loc.lists e he).2⟩⟩, ?_, h.far, h.bel.trans (hT.below h.bel.size (fun k hk => by have := h.loc.cB; omega))⟩
  · by_cases ho : o = lr + 1
    · subst ho
      rw [Maps.atKey_put_same hm (by simp [WideAt.IsKeyLit])]
    · rw [Maps.atKey_put_other (lit_ne ho)]
      exact hD o h1 (by omega)
  · refine h.box.other hT (fun x => ?_)
    obtain ⟨D', ⟨es, clock, hb, _⟩, _⟩ := h.loc.con
    have := h.box.1
    rw [x, hb] at this
    simp at this

/-- The region's octets are written. -/
theorem Md.wrote {w0 w w' : World} {I : ArId} {mb : Nat} {v : Value} {st : ArSt} {bst : BookSt} {F G : Nat → Prop} {lr : Int} {n : Nat} {stk : List Sk} {T : Nat} {a b : Int} (h : Md w0 w I mb v st bst F G lr n stk T a b) (ch : Nat) (os : List Int) (hc : ch < st.chunks.length) (hl : os.length = (st.chunks.getD ch Chk.zero).os.length)
    (hr : byteRow w' (st.chunks.getD ch Chk.zero).b os) (hT : Touch (fun k => k = (st.chunks.getD ch Chk.zero).b) w w') : Md w0 w' I mb v { st with chunks := setChunk st.chunks ch os } bst F G lr n stk T a b := by
  obtain ⟨cv, rv, mv, hm⟩ := h.ab.ar
  have hF := (hm.mem _ (getD_in Chk.zero hc)).2
  have hT2 : Touch (fun k => F k ∨ G k) w w' := hT.mono (fun k hk => Or.inl (hk ▸ hF))
  exact ⟨h.ab.written ch os hc hl hr hT, h.loc.touch hT2 (fun k hk => Or.inl hk) (fun k hk => Or.inl hk), h.box.touch hT2 (fun k hk => Or.inl hk) (fun k hk => Or.inl hk), h.far, h.bel.trans (hT2.below h.bel.size h.far)⟩

theorem fill_snoc (z : Int) : ∀ (n : Nat) (cs : List Int) (o : Nat), (fill z cs o n).set (o + n) z = fill z cs o (n + 1)
  | 0, cs, o => by simp [fill]
  | n + 1, cs, o => by
    have := fill_snoc z n (cs.set o z) (o + 1)
    rw [fill, show o + (n + 1) = o + 1 + n by omega, this]
    rfl
theorem set_byte {w : World} {g : Nat} {cs : List Int} (h : byteRow w g cs) (j : Nat) (x : Int) : byteRow (w.setCell ⟨g, j, none⟩ (.int .u8 x)) g (cs.set j x) := by
  unfold byteRow at *
  rw [block_setCell h]
  simp [List.map_set]

theorem Loc.pop {w0 w : World} {F G : Nat → Prop} {mb n q : Nat} {lr : Int} {g cap : Nat} {stk : List Sk} (h : Loc w0 w F G mb lr n (.slice (some ⟨g, 0, none⟩) (q + 1) cap) stk) (hq : stk.length = q + 1) : Loc w0 w F G mb lr n (.slice (some ⟨g, 0, none⟩) q cap) (stk.take q) := by
  refine ⟨h.con, h.cF, h.cB, ?_, h.rF, fun e he => h.lists e (List.mem_of_mem_take he)⟩
  have h1 := h.row
  rw [hq] at h1
  have h2 := row_cut h1 q (by omega)
  rw [flat_take Sk.cells 4 (fun _ => rfl)] at h2
  rw [List.length_take, hq, show min q (q + 1) = q by omega]
  exact h2
theorem then_cells {w : World} {B g cap : Nat} {L : List Sk} {e : Nat} (h : w.ownsRow B e 4 (.slice (some ⟨g, 0, none⟩) L.length cap) L.length (L.flatMap Sk.cells)) (k : Nat) (hk : k < L.length) :
    w.cell? ⟨g, k * 4, none⟩ = some (.int .i64 (L.getD k Sk.zero).mark) ∧ w.cell? ⟨g, k * 4 + 1, none⟩ = some (.int .i64 (L.getD k Sk.zero).len) ∧ w.cell? ⟨g, k * 4 + 2, none⟩ = some (.int .i64 (L.getD k Sk.zero).lost) ∧ w.cell? ⟨g, k * 4 + 3, none⟩ = some (L.getD k Sk.zero).rv := by
  have f : ∀ j u, j < 4 → (L.getD k Sk.zero).cells[j]? = some u → w.cell? ⟨g, k * 4 + j, none⟩ = some u := fun j u hj hu => by
    have hx := flat_at Sk.cells 4 (fun _ => rfl) Sk.zero L k j hk hj
    rw [hu] at hx
    have := h.cells (g := g) rfl (k * 4 + j) _ hx
    rw [add_spot, Nat.zero_add] at this
    exact this
  exact ⟨f 0 _ (by omega) rfl, f 1 _ (by omega) rfl, f 2 _ (by omega) rfl, f 3 _ (by omega) rfl⟩

/-- Behind Release of the last mark. -/
theorem Al.released {w0 w w' : World} {I : ArId} {mb i g cap q : Nat} {st : ArSt} {bst : BookSt} {F G : Nat → Prop} {n : Nat} {stk : List Sk} (h : Al w0 w I mb i (.slice (some ⟨g, 0, none⟩) (q + 1) cap) st bst F G n stk) (hq : stk.length = q + 1)
    (ha : ArAt w' F I (relSt st q)) (hT : Touch F w w') : Al w0 w' I mb i (.slice (some ⟨g, 0, none⟩) q cap) (relSt st q) bst F G n (stk.take q) := by
  obtain ⟨r1, r2, r3, _, _, _⟩ := rel_plain h.base.pl h.rel q hq.symm
  have hT2 : Touch (fun k => F k ∨ G k) w w' := hT.mono (fun k hk => Or.inl hk)
  refine ⟨⟨h.base.ab.released q _ ha hT r1, r2, (h.base.loc.pop hq).touch hT2 (fun k hk => Or.inl hk) (fun k hk => Or.inl hk), h.base.far, h.base.lr, h.base.lm, h.base.nn, h.base.bel.trans (hT.below h.base.bel.size (fun k hk => h.base.far k (Or.inl hk))), h.base.rfar⟩, r3, ?_⟩
  show (st.marks.take q).length ≤ 100
  have := h.ml
  rw [List.length_take]; omega

/-- Between two rounds. -/
def AlAt (w0 w : World) (I : ArId) (mb i : Nat) (v : Value) : Prop := ∃ st bst F G n stk, Al w0 w I mb i v st bst F G n stk
/-- Within a round. -/
def AlIn (w0 w : World) (I : ArId) (mb i : Nat) (v : Value) (T : Nat) (a b : Int) : Prop := ∃ st bst F G n stk, Al w0 w I mb i v st bst F G n stk ∧ BoxT w0 w F G T a b

set_option maxRecDepth 100000 in
theorem arMark_full (I : ArId) (F : Nat → Prop) (st : ArSt) (cv rv mv : Value) (w : World) (h : ArMem w F I st cv rv mv) (hl : st.marks.length = 100) :
    Calls Try.prog 10 #[.pointer (some ⟨I.r, 0, none⟩)] w (fun e w' => e = .returned (.tuple #[.int .i64 0, .int .i64 4]) ∧ w = w') := by
  obtain ⟨ma, mc, hmv, hm1, hm2, hmc⟩ := h.mks
  have c6 : w.cell? ⟨I.r, 6, none⟩ = some (.bool false) := by rw [cell_of h.self]; rfl
  have c9 : w.cell? ⟨I.r, 9, none⟩ = some (.slice ma 100 mc) := by rw [cell_of h.self, ← hl, ← hmv]; rfl
  clear h hmv hmc
  go_enter Try.func10, Try.ntmps10
  go_wp2_with fail
  go_ret2
  exact ⟨rfl, rfl⟩

end Go.Proofs.Ytfolidedcejafaa
