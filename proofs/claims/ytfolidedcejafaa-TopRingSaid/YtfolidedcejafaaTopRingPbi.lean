/-
  The rounds of Push: what they find and what they leave. Conditions: numbers in their bounds.
-/
import Derived.Test.YtfolidedcejafaaTopRingPbf
import Derived.Test.YtfolidedcejafaaTopRingPbh
namespace Go.Proofs.Ytfolidedcejafaa
open Go.RowKit Go.Shelf
set_option linter.unusedVariables false

def partZ (zs : List Int) (size j : Nat) : List Int := (zs.drop (j * size)).take size
theorem partZ_len (zs : List Int) (size j : Nat) : (partZ zs size j).length = min size (zs.length - j * size) := by unfold partZ; rw [List.length_take, List.length_drop]
theorem partZ_flat (zs : List Int) (size : Nat) : ∀ k, (List.range k).flatMap (partZ zs size) = zs.take (k * size)
  | 0 => by simp
  | k + 1 => by
    rw [List.range_succ, List.flatMap_append, partZ_flat zs size k]
    simp only [List.flatMap_cons, List.flatMap_nil, List.append_nil, partZ]
    rw [Nat.succ_mul, List.take_add]

/-- The parts of what is left of a row. -/
theorem chunk_seq {w : World} {B N sp gn M : Nat} {la : Option Addr} {lc : Nat} {zs : List Int} (hrow : w.ownsRow B 5 1 (.slice la N lc) N (zs.map (Value.int .u8))) (hz : zs.length = N) (hN : N ≤ 1000) (hsp : sp ≤ N) (hg1 : 1 ≤ gn) (hg2 : gn ≤ 100000) (hM : Parts' (N - sp) gn M)
    {Bs Bn : Nat} (hBs : w.heap[Bs]? = some (.cells #[.slice (if lc = sp then la else Option.map (fun x => x.add sp) la) (N - sp) (lc - sp)] 46 (0, 0))) (hBn : w.heap[Bn]? = some (.cells #[.int .i64 gn] 3 (0, 0))) :
    ∃ b off, SeqStopsK Fence.wide 8 Try.prog 76 #[.pointer (some ⟨Bs, 0, none⟩), .pointer (some ⟨Bn, 0, none⟩)] (fun j : Nat => #[chunkPart b off (N - sp) gn j]) (KpC Bs Bn) (fun ys => ys = List.range M) (fun pre => ∃ k, k ≤ M ∧ pre = List.range k) M w ∧
      ∀ W j, W.ownsRow B 5 1 (.slice la N lc) N (zs.map (Value.int .u8)) → Reads W .u8 (chunkPart b off (N - sp) gn j) (partZ (zs.drop sp) gn j) := by
  by_cases h0 : N - sp = 0
  · have hM0 : M = 0 := by
      rcases Nat.eq_zero_or_pos M with h | h
      · exact h
      · have := hM.2 0 h; omega
    subst hM0
    rw [h0] at hBs ⊢
    refine ⟨0, 0, chunk_stops0 8 Bs Bn 0 0 _ gn _ hg1 w hBs, fun W j _ => ?_⟩
    have e : partZ (zs.drop sp) gn j = [] := by
      apply List.eq_nil_of_length_eq_zero
      rw [partZ_len, List.length_drop]; omega
    rw [e]
    exact ⟨_, _, by unfold chunkPart; rw [Nat.zero_sub, Nat.min_zero]; rfl, by simp, fun h => absurd rfl h⟩
  · obtain ⟨g, rfl, hcap, hcm⟩ : ∃ g, la = some ⟨g, 0, none⟩ ∧ N ≤ lc ∧ lc ≤ 9223372036854775807 := by
      rcases hrow.2 with ⟨hh, _⟩ | ⟨g, cap, cur, hh, _, _, h2, h3, _⟩
      · simp only [Value.slice.injEq] at hh; omega
      · simp only [Value.slice.injEq, true_and] at hh
        obtain ⟨rfl, rfl⟩ := hh
        exact ⟨g, rfl, h2, by unfold maxLen at h3; omega⟩
    have e1 : (if lc = sp then some (⟨g, 0, none⟩ : Addr) else Option.map (fun x : Addr => x.add sp) (some (⟨g, 0, none⟩ : Addr))) = some ⟨g, sp, none⟩ := by
      rw [if_neg (by omega)]
      show some (Addr.add _ _) = _
      rw [qadd_spot, Nat.zero_add]
    rw [e1] at hBs
    refine ⟨g, sp, chunk_stops 8 (by omega) Bs Bn g sp (N - sp) (lc - sp) gn M hg1 hg2 (by omega) (by omega) (by omega) hM w hBs hBn, fun W j hW => ?_⟩
    have hR := Reads.own (k := .u8) (by rw [hz]; exact hW) (by omega)
    obtain ⟨a', c', he, _, hne⟩ := hR
    simp only [Value.slice.injEq] at he
    obtain ⟨rfl, _, _⟩ := he
    have hl : (partZ (zs.drop sp) gn j).length = min gn (N - sp - j * gn) := by rw [partZ_len, List.length_drop, hz]
    refine ⟨some ⟨g, sp + j * gn, none⟩, min gn (N - sp - j * gn), by unfold chunkPart; rw [hl], by rw [hl]; have := Nat.min_le_left gn (N - sp - j * gn); omega, fun hx => ⟨g, sp + j * gn, rfl, fun i hi => ?_⟩⟩
    rw [hl] at hi
    obtain ⟨b', o', hb, hh⟩ := hne (by intro e; rw [e] at hz; simp at hz; omega)
    simp only [Option.some.injEq, Addr.mk.injEq, and_true] at hb
    obtain ⟨rfl, rfl⟩ := hb
    have h1 := Nat.lt_min.1 hi
    have := hh (sp + j * gn + i) (by rw [hz]; omega)
    rw [Nat.zero_add] at this
    rw [this]
    unfold partZ
    rw [List.getD_eq_getElem?_getD, List.getD_eq_getElem?_getD, List.getElem?_take, if_pos h1.1, List.getElem?_drop, List.getElem?_drop, Nat.add_assoc]

/-- Between two rounds of Push. -/
def PushI (w9 : World) (I : QuId) (L2 : List QCh) (R gn M : Nat) (bst : BookSt) (F G : Nat → Prop) (zs : List Int) (pre : List Nat) (W : World) : Prop :=
  ∃ (Lx : List QCh) (Rx : Nat) (F' : Nat → Prop), Lx.length = L2.length + pre.length ∧ qCont Lx = qCont L2 ++ pre.flatMap (partZ zs gn) ∧ qsum QCh.room Lx = qsum QCh.room L2 + pre.length * gn ∧ Rx + pre.length * gn = R + M * gn ∧
    QB W I Lx Rx bst F' G ∧ (∀ k, F' k → F k ∨ (w9.heap.size ≤ k ∧ ∃ o : Obj, W.heap[k]? = some o ∧ o.isCells = true)) ∧ Touch F w9 W

theorem QB.grown {w w' : World} {I : QuId} {L : List QCh} {R : Nat} {bst : BookSt} {F G : Nat → Prop} {row : Option Nat} (h : QB w I L R bst F G) (hg : w.grownBy w' row) (hF : ∀ k, F k → row ≠ some k) (hG : ∀ k, G k → row ≠ some k) : QB w' I L R bst F G := by
  obtain ⟨cv, hm⟩ := h.qu
  have hs := hg.size
  exact ⟨⟨cv, hm.same (fun k hk hl => hg.block k hl (fun e => hF k hk e.symm))⟩, h.bk.same (fun k hk hl => hg.block k hl (fun e => hG k hk e.symm)), h.dis, fun k hk => by have := h.fl k hk; omega, fun k hk => by have := h.gl k hk; omega, h.own, h.pol, h.sz, h.acc, h.bud, h.tot, h.ent, h.ok, h.room⟩

theorem PushI.own {w9 : World} {I : QuId} {L2 : List QCh} {R gn M : Nat} {bst : BookSt} {F G : Nat → Prop} {zs : List Int} (hF : ∀ k, F k → k < w9.heap.size) (hG : ∀ k, G k → k < w9.heap.size) : OwnFrom w9.heap.size (PushI w9 I L2 R gn M bst F G zs) := by
  rintro pre W W' row ⟨Lx, Rx, F', h1, h2, h3, h4, qb, hF', ht⟩ hg hr
  have hne : ∀ k, (F k ∨ (w9.heap.size ≤ k ∧ ∃ o : Obj, W.heap[k]? = some o ∧ o.isCells = true)) → row ≠ some k := fun k hk e => by
    obtain ⟨r1, o, r2, r3⟩ := hr k e
    rcases hk with hk | ⟨_, o', r4, r5⟩
    · have := hF k hk; omega
    · rw [r2] at r4
      cases r4
      rw [r3] at r5
      cases r5
  refine ⟨Lx, Rx, F', h1, h2, h3, h4, qb.grown hg (fun k hk => hne k (hF' k hk)) (fun k hk e => by have := hG k hk; have := (hr k e).1; omega), fun k hk => (hF' k hk).imp id (fun ⟨x1, o, x2, x3⟩ => ⟨x1, o, ?_, x3⟩), ht.grown hg (fun k e => Or.inr (hr k e).1)⟩
  rw [← x2]
  exact hg.block k (Array.getElem?_eq_some_iff.1 x2).1 (fun e => hne k (hF' k hk) e.symm)

/-- The blocks that a queue really is. -/
def onlyQ (I : QuId) (L : List QCh) (cv : Value) (k : Nat) : Prop := k = I.r ∨ cv.ownBlock = some k ∨ ∃ c ∈ L, k = c.b
theorem QuMem.only {w : World} {F : Nat → Prop} {I : QuId} {L : List QCh} {cv : Value} (h : QuMem w F I L cv) : QuMem w (onlyQ I L cv) I L cv where
  self := h.self
  fr := Or.inl rfl
  crow := h.crow
  fc := fun k hk => Or.inr (Or.inl hk)
  mem := fun c hc => ⟨(h.mem c hc).1, Or.inr (Or.inr ⟨c, hc, rfl⟩)⟩
  inj := h.inj
theorem QuMem.ofOnly {w : World} {F : Nat → Prop} {I : QuId} {L : List QCh} {cv : Value} (h : QuMem w F I L cv) {k : Nat} (hk : onlyQ I L cv k) : F k := by
  rcases hk with rfl | hk | ⟨c, hc, rfl⟩
  · exact h.fr
  · exact h.fc k hk
  · exact (h.mem c hc).2
theorem QuMem.onlyCells {w : World} {F : Nat → Prop} {I : QuId} {L : List QCh} {cv : Value} (h : QuMem w F I L cv) {k : Nat} (hk : onlyQ I L cv k) : ∃ o : Obj, w.heap[k]? = some o ∧ o.isCells = true := by
  rcases hk with rfl | hk | ⟨c, hc, rfl⟩
  · exact ⟨_, h.self, rfl⟩
  · obtain ⟨cur, hcur⟩ := row_block h.crow hk
    exact ⟨_, hcur, rfl⟩
  · exact ⟨_, (h.mem c hc).1, rfl⟩

/-- A round: a chunk more. -/
theorem PushI.round {w9 W W2 w' : World} {I : QuId} {L2 : List QCh} {R gn M : Nat} {bst : BookSt} {F G : Nat → Prop} {zs ys : List Int} {pre : List Nat} {x : Nat} (hlt : pre.length < M) (hLM : L2.length + M ≤ 500) (hg2 : gn ≤ 100000) (hF9 : ∀ k, F k → k < w9.heap.size) (hIF : F I.r)
    {Lx : List QCh} {Rx : Nat} {F' : Nat → Prop} (h1 : Lx.length = L2.length + pre.length) (h2 : qCont Lx = qCont L2 ++ pre.flatMap (partZ zs gn)) (h3 : qsum QCh.room Lx = qsum QCh.room L2 + pre.length * gn) (h4 : Rx + pre.length * gn = R + M * gn)
    (qb : QB W I Lx Rx bst F' G) (hF' : ∀ k, F' k → F k ∨ (w9.heap.size ≤ k ∧ ∃ o : Obj, W.heap[k]? = some o ∧ o.isCells = true)) (ht : Touch F w9 W) {cv : Value} (hm : QuMem W F' I Lx cv)
    (hys : ys = partZ zs gn x) (hl : ys.length ≤ gn) (hrow : byteRow W2 W.heap.size (splice (zeros gn) 0 ys)) (hT : Touch (fun k => k = W.heap.size) W W2) {g cap : Nat}
    (hown : w'.ownsRow 0 117 3 (.slice (some ⟨g, 0, none⟩) (Lx.length + 1) cap) (Lx.length + 1) (Lx.flatMap QCh.cells ++ QCh.cells ⟨W.heap.size, splice (zeros gn) 0 ys, 0, ys.length⟩)) (hgr : W2.grownBy w' cv.ownBlock) (hgn : cv.ownBlock = some g ∨ W2.heap.size ≤ g)
    {Bs Bn : Nat} (hBs : Bs < w9.heap.size ∧ ¬ F Bs) (hBn : Bn < w9.heap.size ∧ ¬ F Bn) :
    KeepsOthers W (w'.setCell ⟨I.r, 7, none⟩ (.slice (some ⟨g, 0, none⟩) (Lx.length + 1) cap)) ∧ KpC Bs Bn W (w'.setCell ⟨I.r, 7, none⟩ (.slice (some ⟨g, 0, none⟩) (Lx.length + 1) cap)) ∧
      PushI w9 I L2 R gn M bst F G zs (pre ++ [x]) (w'.setCell ⟨I.r, 7, none⟩ (.slice (some ⟨g, 0, none⟩) (Lx.length + 1) cap)) := by
  have hsl : (splice (zeros gn) 0 ys).length = gn := by rw [splice_len _ _ _ (by simp [zeros]; omega)]; simp [zeros]
  have hTT : Touch (fun k => ¬ F' k) W W2 := hT.mono (fun k e x => by have := qb.fl k x; omega)
  obtain ⟨M2, T2⟩ := hm.add ⟨W.heap.size, splice (zeros gn) 0 ys, 0, ys.length⟩ hTT (Nat.le_refl _) hrow hown hgr (fun k hk => by
    simp only [Value.ownBlock, Option.some.injEq] at hk
    subst hk
    exact hgn)
  have hkv : (Value.slice (some ⟨g, 0, none⟩) (Lx.length + 1) cap).ownBlock = some g := rfl
  rw [hkv] at M2
  have s1 := hT.size
  have s2 := T2.size
  have hs9 := ht.size
  have hrb : W2.heap[I.r]? = W.heap[I.r]? := hT.block I.r (lt_of hm.self) (by have := lt_of hm.self; omega)
  have hcvc : ∀ (j : Nat) (o : Obj), cv.ownBlock = some j → W2.heap[j]? = some o → o.isCells = true := fun j o e ho => by
    obtain ⟨cur, hcur⟩ := row_block hm.crow e
    have h1 : W2.heap[j]? = W.heap[j]? := hT.block j (lt_of hcur) (by have := lt_of hcur; omega)
    rw [h1, hcur] at ho
    cases ho
    rfl
  have K1 : KeepsOthers W W2 := ⟨s1, fun k o ho _ => (hT.block k (Array.getElem?_eq_some_iff.1 ho).1 (by have := (Array.getElem?_eq_some_iff.1 ho).1; omega)).trans ho⟩
  have hcell : ∀ k, (F' k ∨ some g = some k ∨ k = W.heap.size) → F k ∨ w9.heap.size ≤ k := fun k hk => by
    rcases hk with hk | hk | hk
    · exact (hF' k hk).imp id (fun x => x.1)
    · cases hk
      rcases hgn with e | e
      · exact (hF' _ (hm.fc _ e)).imp id (fun x => x.1)
      · exact Or.inr (by omega)
    · exact Or.inr (by omega)
  have T9 : Touch F w9 (w'.setCell ⟨I.r, 7, none⟩ (.slice (some ⟨g, 0, none⟩) (Lx.length + 1) cap)) := (ht.trans hT (fun k e => Or.inr (by omega))).trans T2 (fun k hk => hcell k (Or.inl hk))
  have hKp : ∀ k, k < w9.heap.size → ¬ F k → (w'.setCell ⟨I.r, 7, none⟩ (.slice (some ⟨g, 0, none⟩) (Lx.length + 1) cap)).heap[k]? = W.heap[k]? := fun k h1 h2 =>
    (T2.block k (by omega) (fun x => (hcell k (Or.inl x)).elim h2 (fun y => by omega))).trans (hT.block k (by omega) (by omega))
  have M3 := M2.only
  have e0 : qsum QCh.room (Lx ++ [⟨W.heap.size, splice (zeros gn) 0 ys, 0, ys.length⟩]) = qsum QCh.room Lx + gn := by
    rw [qsum_app]
    simp only [qsum, QCh.room, List.map_cons, List.map_nil, hsl, List.sum_cons, List.sum_nil, Nat.add_zero]
  have hle : (pre.length + 1) * gn ≤ M * gn := Nat.mul_le_mul_right _ hlt
  rw [Nat.succ_mul] at hle
  have hac : (Rx - gn) + qsum QCh.room (Lx ++ [⟨W.heap.size, splice (zeros gn) 0 ys, 0, ys.length⟩]) = Rx + qsum QCh.room Lx := by rw [e0]; omega
  refine ⟨K1.trans ((KeepsOthers.of_grownBy hgr hcvc).trans (KeepsOthers.setCell _ _ _)), ⟨hKp _ hBs.1 hBs.2, hKp _ hBn.1 hBn.2⟩, _, Rx - gn, _, ?_, ?_, ?_, ?_,
    ⟨⟨_, M3⟩, qb.bk.same (fun k hk hl => (T2.block k (by omega) (fun x => qb.dis k x hk)).trans (hT.block k hl (by omega))), ?_, ?_, fun k hk => by have := qb.gl k hk; omega, qb.own, qb.pol, qb.sz, by rw [hac]; exact qb.acc, qb.bud, by rw [hac]; exact qb.tot, qb.ent, ⟨?_, ?_⟩, by rw [hac]; exact qb.room⟩, ?_, T9⟩
  · simp; omega
  · rw [qCont_app, h2, List.flatMap_append, List.append_assoc]
    congr 2
    rw [hys] at hl ⊢
    simp only [qCont, List.flatMap_cons, List.flatMap_nil, List.append_nil, QCh.cont, QCh.len, splice, List.take_zero, List.nil_append, List.drop_zero, Nat.sub_zero]
    rw [List.take_append_of_le_length (Nat.le_refl _), List.take_length]
  · rw [e0, h3, List.length_append, List.length_singleton, Nat.succ_mul]; omega
  · rw [List.length_append, List.length_singleton, Nat.succ_mul]; omega
  · intro k hk hGk
    rcases M2.ofOnly hk with x | x | x
    · exact qb.dis k x hGk
    · cases x
      rcases hgn with e | e
      · exact qb.dis _ (hm.fc _ e) hGk
      · have := qb.gl _ hGk; omega
    · have := qb.gl _ hGk
      have x : k = W.heap.size := x
      omega
  · intro k hk
    obtain ⟨o, ho, _⟩ := M2.onlyCells hk
    exact (Array.getElem?_eq_some_iff.1 ho).1
  · simp; omega
  · intro c hc
    rcases List.mem_append.1 hc with hc | hc
    · exact qb.ok.2 c hc
    · obtain rfl := List.mem_singleton.1 hc
      exact ⟨Nat.zero_le _, by rw [hsl]; exact hl, by rw [hsl]; exact hg2⟩
  · intro k hk
    exact (hcell k (M2.ofOnly hk)).imp id (fun x => ⟨x, M2.onlyCells hk⟩)

end Go.Proofs.Ytfolidedcejafaa
