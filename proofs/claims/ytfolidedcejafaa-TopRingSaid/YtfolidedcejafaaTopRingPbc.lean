/-
  What a queue holds, behind Pull: plain laws. No conditions.
  The spare part of Push: the last chunk's octets and its end. Conditions: numbers in their bounds.
  A chunk more: what Push's rounds write. Conditions: numbers in their bounds.
-/
import Derived.Test.YtfolidedcejafaaTopRingPbb

namespace Go.Proofs.Ytfolidedcejafaa
section
set_option linter.unusedVariables false

theorem qCont_cons (c : QCh) (l : List QCh) : qCont (c :: l) = c.cont ++ qCont l := by simp [qCont]
theorem qCont_app (L M : List QCh) : qCont (L ++ M) = qCont L ++ qCont M := by simp [qCont]
theorem qCont_dropQ (n : Nat) : ∀ (L : List QCh) (j : Nat), qCont (dropQ n j L) = qCont L
  | [], j => rfl
  | c :: l, j => by
    have h := qCont_dropQ n l (j + 1)
    rw [dropQ]
    split
    · rename_i hg
      have h0 : c.cont = [] := by unfold QCh.cont QCh.len; have := hg.1; rw [show c.to - c.fr = 0 by omega, List.take_zero]
      rw [qCont_cons, h0, h]; rfl
    · rw [qCont_cons, qCont_cons, h]
theorem pull_law (L : List QCh) (n m : Nat) (h : ∀ c ∈ L, ChOk c) : qCont (dropQ m 0 (pullL n L)) = (qCont L).drop n := by
  rw [qCont_dropQ, pullL_cont L n h]
/-- A chunk whose end moves on by octets that are written there. -/
theorem cont_more {c : QCh} (h : ChOk c) (zs : List Int) (hz : c.to + zs.length ≤ c.os.length) :
    ({ c with os := splice c.os c.to zs, to := c.to + zs.length } : QCh).cont = c.cont ++ zs := by
  obtain ⟨h1, h2, h3⟩ := h
  unfold QCh.cont QCh.len splice
  dsimp only
  have e1 : (c.os.take c.to).length = c.to := by rw [List.length_take]; omega
  rw [List.drop_append_of_le_length (by omega), List.drop_take]
  have e2 : ((c.os.drop c.fr).take (c.to - c.fr)).length = c.to - c.fr := by rw [List.length_take, List.length_drop]; omega
  rw [List.take_append, e2, List.take_of_length_le (by omega), show c.to + zs.length - c.fr - (c.to - c.fr) = zs.length by omega, List.take_append_of_le_length (Nat.le_refl _), List.take_length]

end
end Go.Proofs.Ytfolidedcejafaa

namespace Go.Proofs.Ytfolidedcejafaa
section
open Go.RowKit
set_option linter.unusedVariables false

def QCh.more (c : QCh) (zs : List Int) : QCh := ⟨c.b, splice c.os c.to zs, c.fr, c.to + zs.length⟩
theorem qcells_set2 (L : List QCh) (k : Nat) (c : QCh) (hb : c.b = (L.getD k QCh.zero).b) (ho : c.os.length = (L.getD k QCh.zero).os.length) (hf : c.fr = (L.getD k QCh.zero).fr) (hk : k < L.length) :
    (L.flatMap QCh.cells).set (k * 3 + 2) (.int .i64 c.to) = (L.set k c).flatMap QCh.cells := by
  induction L generalizing k with
  | nil => simp at hk
  | cons x l ih =>
    cases k with
    | zero =>
      simp only [List.getD_cons_zero] at hb ho hf
      simp [QCh.cells, hb, ho, hf]
    | succ k =>
      simp only [List.getD_cons_succ] at hb ho hf
      rw [List.flatMap_cons, List.set_append_right _ _ (by show 3 ≤ (k + 1) * 3 + 2; omega), List.set_cons_succ, List.flatMap_cons, ← ih k hb ho hf (by simpa using hk)]
      congr 2
      show (k + 1) * 3 + 2 - 3 = k * 3 + 2
      omega
theorem qmap_set (L : List QCh) (k : Nat) (c : QCh) (hk : k < L.length) (hb : c.b = (L.getD k QCh.zero).b) : (L.set k c).map QCh.b = L.map QCh.b := by
  rw [List.map_set]
  apply List.ext_getElem?
  intro j
  rw [List.getElem?_set]
  split
  · rename_i hj
    subst hj
    simp [hk, hb, List.getD_eq_getElem?_getD]
  · rfl

theorem QuMem.more {w w2 : World} {F : Nat → Prop} {I : QuId} {L : List QCh} {g cap : Nat} (h : QuMem w F I L (.slice (some ⟨g, 0, none⟩) L.length cap)) (k : Nat) (zs : List Int) (hk : k < L.length) (hz : (L.getD k QCh.zero).to + zs.length ≤ (L.getD k QCh.zero).os.length)
    (hrow : byteRow w2 (L.getD k QCh.zero).b (splice (L.getD k QCh.zero).os (L.getD k QCh.zero).to zs)) (hT : Touch (fun j => j = (L.getD k QCh.zero).b) w w2) :
    QuMem (w2.setCell ⟨g, k * 3 + 2, none⟩ (.int .i64 ((L.getD k QCh.zero).to + zs.length : Nat))) F I (L.set k ((L.getD k QCh.zero).more zs)) (.slice (some ⟨g, 0, none⟩) L.length cap) := by
  have hc0 := h.mem _ (qgetD_in hk)
  have neB : ∀ (j : Nat) (cs : Array Value) (ty : Nat), w.heap[j]? = some (Obj.cells cs ty (0, 0)) → ty ≠ 5 → j ≠ (L.getD k QCh.zero).b := fun j cs ty h1 h2 e => by
    rw [e] at h1
    have := hc0.1
    unfold byteRow at this
    rw [this] at h1
    simp only [Option.some.injEq, Obj.cells.injEq] at h1
    exact h2 h1.2.1.symm
  have hne : ∀ (k' : Nat) (cs : Array Value) (ty : Nat), w2.heap[k']? = some (Obj.cells cs ty (0, 0)) → ty ≠ 117 → (w2.setCell ⟨g, k * 3 + 2, none⟩ (.int .i64 ((L.getD k QCh.zero).to + zs.length : Nat))).heap[k']? = w2.heap[k']? := fun k' cs ty h1 h2 => by
    refine Below.heap_setCell _ _ _ k' (fun e => ?_)
    obtain ⟨cur, hcur⟩ := row_block h.crow rfl
    have hg : w2.heap[g]? = w.heap[g]? := hT.block g (lt_of hcur) (neB g _ _ hcur (by decide))
    rw [show k' = g from e, hg, hcur] at h1
    simp only [Option.some.injEq, Obj.cells.injEq] at h1
    exact h2 h1.2.1.symm
  obtain ⟨cur, hcur⟩ := row_block h.crow rfl
  have hg : w2.heap[g]? = w.heap[g]? := hT.block g (lt_of hcur) (neB g _ _ hcur (by decide))
  have hs2 := (hT.block I.r (lt_of h.self) (neB _ _ _ h.self (by decide))).trans h.self
  have hsl : (splice (L.getD k QCh.zero).os (L.getD k QCh.zero).to zs).length = (L.getD k QCh.zero).os.length := splice_len _ _ _ hz
  refine ⟨(hne _ _ _ hs2 (by decide)).trans hs2, h.fr, ?_, h.fc, ?_, ?_⟩
  · have c2 := ownsRow_same h.crow (w' := w2) (fun j hj => by
      have : j = g := by simpa [Value.ownBlock] using hj.symm
      subst this
      exact hg)
    have := qrow_set c2 (k * 3 + 2) (.int .i64 ((L.getD k QCh.zero).to + zs.length : Nat))
    have e := qcells_set2 L k ((L.getD k QCh.zero).more zs) rfl hsl rfl hk
    rw [List.length_set]
    rw [show ((L.getD k QCh.zero).more zs).to = (L.getD k QCh.zero).to + zs.length from rfl] at e
    rwa [e] at this
  · intro c hc
    obtain ⟨j, hj, rfl⟩ := List.mem_iff_getElem.1 hc
    rw [List.length_set] at hj
    by_cases hkj : k = j
    · subst hkj
      rw [List.getElem_set_self]
      exact ⟨(hne _ _ _ hrow (by decide)).trans hrow, hc0.2⟩
    · rw [List.getElem_set_ne hkj]
      have hm := h.mem _ (List.getElem_mem hj)
      have hnb : (L[j]).b ≠ (L.getD k QCh.zero).b := fun e => by
        have e2 : (L.map QCh.b)[j]'(by simpa using hj) = (L.map QCh.b)[k]'(by simpa using hk) := by
          rw [List.getElem_map, List.getElem_map, e, List.getD_eq_getElem?_getD, List.getElem?_eq_getElem hk]; rfl
        exact (List.pairwise_iff_getElem.1 h.inj |> fun P => (Nat.lt_or_gt_of_ne hkj).elim (fun x => P k j (by simpa using hk) (by simpa using hj) x e2.symm) (fun x => P j k (by simpa using hj) (by simpa using hk) x e2))
      have h2 := (hT.block _ (lt_of hm.1) hnb).trans hm.1
      exact ⟨(hne _ _ _ h2 (by decide)).trans h2, hm.2⟩
  · rw [qmap_set L k ((L.getD k QCh.zero).more zs) hk rfl]; exact h.inj

end
end Go.Proofs.Ytfolidedcejafaa

namespace Go.Proofs.Ytfolidedcejafaa
section
open Go.RowKit
set_option linter.unusedVariables false

theorem QuMem.add {w w2 w' : World} {F : Nat → Prop} {I : QuId} {L : List QCh} {cv kv : Value} (h : QuMem w F I L cv) (c : QCh) (hT : Touch (fun k => ¬ F k) w w2) (hnew : w.heap.size ≤ c.b) (hbr : byteRow w2 c.b c.os)
    (hrow : w'.ownsRow 0 117 3 kv (L.length + 1) (L.flatMap QCh.cells ++ c.cells)) (hgr : w2.grownBy w' cv.ownBlock) (hpl : ∀ g, kv.ownBlock = some g → cv.ownBlock = some g ∨ w2.heap.size ≤ g) :
    QuMem (w'.setCell ⟨I.r, 7, none⟩ kv) (fun k => F k ∨ kv.ownBlock = some k ∨ k = c.b) I (L ++ [c]) kv ∧ Touch F w2 (w'.setCell ⟨I.r, 7, none⟩ kv) := by
  have h2 : QuMem w2 F I L cv := h.same (hT.same (fun k hk _ x => x hk))
  have hg0l := lt_of hbr
  have hcr : cv.ownBlock ≠ some I.r := qrow_ne h2.crow h2.self (by decide)
  have hr2 := lt_of h2.self
  have hkr : kv.ownBlock ≠ some I.r := fun e => (hpl _ e).elim hcr (fun x => by omega)
  have hr0 := lt_of h.self
  have keep : ∀ k, k < w2.heap.size → k ≠ I.r → cv.ownBlock ≠ some k → (w'.setCell ⟨I.r, 7, none⟩ kv).heap[k]? = w2.heap[k]? := fun k hk h1 h2 =>
    (Below.heap_setCell _ _ _ k h1).trans (hgr.block k hk (fun e => h2 e.symm))
  have hself' := (hgr.block I.r hr2 (fun e => hcr e.symm)).trans h2.self
  have hg0c : cv.ownBlock ≠ some c.b := fun e => by have := (h.crow.lt _ e).2; omega
  refine ⟨⟨?_, Or.inl h.fr, ?_, fun k hk => Or.inr (Or.inl hk), ?_, ?_⟩, ?_⟩
  · rw [block_setCell hself']; rfl
  · have := ownsRow_setCell_other hrow (a := ⟨I.r, 7, none⟩) hkr kv
    rw [List.length_append, List.flatMap_append]
    simpa using this
  · intro x hx
    rcases List.mem_append.1 hx with hx | hx
    · obtain ⟨h1, h3⟩ := h2.mem x hx
      refine ⟨(keep _ (lt_of h1) ?_ (qrow_ne h2.crow h1 (by decide))).trans h1, Or.inl h3⟩
      intro e
      have := h2.self
      rw [← e, h1] at this
      simp at this
    · obtain rfl : x = c := by simpa using hx
      exact ⟨(keep _ hg0l (by omega) hg0c).trans hbr, Or.inr (Or.inr rfl)⟩
  · rw [List.map_append, List.nodup_append]
    refine ⟨h.inj, by simp, fun a ha b hb => ?_⟩
    obtain ⟨x, hx, rfl⟩ := List.mem_map.1 ha
    have := lt_of (h.mem x hx).1
    simp at hb
    omega
  · refine Touch.setCell ?_ (Or.inl h.fr) _
    exact (Touch.refl F w2).grown hgr (fun k hk => Or.inl (h.fc k hk))

end
end Go.Proofs.Ytfolidedcejafaa
