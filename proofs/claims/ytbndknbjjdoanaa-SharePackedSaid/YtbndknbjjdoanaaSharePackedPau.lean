/-
  added: a string more. Conditions: numbers in their bounds.
  Two copies, one behind the other, in plain Lean; what a replacing leaves. No program.
-/
import Derived.Test.YtbndknbjjdoanaaSharePackedPar
import Derived.Test.YtbndknbjjdoanaaSharePackedPat
import Derived.Test.YtbndknbjjdoanaaSharePackedPao

namespace Go.Proofs.Ytbndknbjjdoanaa
section
open Go.RowKit
set_option linter.unusedVariables false

theorem lookN_snoc {α : Type} : ∀ (l : List (Nat × α)) (n : Nat) (x : α) (k : Int), (∀ p ∈ l, p.1 ≠ n) → lookN (l ++ [(n, x)]) k = if (n : Int) = k then some x else lookN l k
  | [], n, x, k, _ => by
    by_cases h : (n : Int) = k
    · simp [lookN, h]
    · simp [lookN, h]
  | p :: l, n, x, k, hp => by
    have ih := lookN_snoc l n x k (fun q hq => hp q (by simp [hq]))
    have hne := hp p (by simp)
    unfold lookN at *
    rw [List.cons_append, List.find?_cons, List.find?_cons]
    by_cases h : (p.1 : Int) = k
    · have h2 : ¬ (n : Int) = k := by omega
      simp [h, h2]
    · simp only [h, decide_false]
      exact ih
theorem lookN_none {α : Type} {l : List (Nat × α)} {n : Nat} (h : ∀ p ∈ l, p.1 ≠ n) : lookN l (n : Int) = none := by
  unfold lookN
  rw [Option.map_eq_none_iff, List.find?_eq_none]
  intro p hp
  have := h p hp
  simp
  omega

theorem step_update_here {P : Program} {ops : Array Oper} {o : Oper} {a : Act} {w w' : World} {K : Act → World → Prop} {Q : Exit → Act → World → Prop} {E : Prop} (hg : o.guard = none) (m x v : Operand) (t : TypeId)
    (hop : o.op = Op.mapUpdate t m x v) (v1 v2 v3 : Value) (hm : a.eval m = v1) (hx : a.eval x = v2) (hv : a.eval v = v3) (hr : (Instr.mapUpdate t v1 v2 v3).run P w = .ok () w') (h : K (a.put o.dst undef) w') :
    if Region.wanted o (yielded ops a.tmps) = true then Oper.wp P o a w K Q else E := by
  have hw : Region.wanted o (yielded ops a.tmps) = true := by simp [Region.wanted, hg]
  rw [if_pos hw]
  unfold Oper.wp
  simp [execOp, hop, hm, hx, hv, hr, Result.andThen]
  exact h

/-- What lies outside the pool's own cells and the two maps. -/
theorem PoolMem.rest {w w' : World} {F : Nat → Prop} {h bp : Nat} {P : PoolSt} {mb ms N1 N2 : Nat} {D1 D2 : DataW Unit} (m : PoolMem w F h bp P mb ms N1 N2 D1 D2) (hs : ∀ k, k < w.heap.size → k ≠ h → k ≠ mb → k ≠ ms → w'.heap[k]? = w.heap[k]?) :
    (∀ p ∈ P.bl, w'.heap[p.2.a]? = some (.cells #[.slice (some ⟨p.2.g, 0, none⟩) P.size P.size, .int .i64 (p.2.used : Int), .bool p.2.pin] 83 (0, 0)) ∧ byteRow w' p.2.g p.2.cs ∧ p.2.cs.length = P.size ∧ bytes p.2.cs ∧ F p.2.a ∧ F p.2.g ∧ p.2.used ≤ P.size) ∧
    (∀ p ∈ P.st, w'.ownsRow 0 75 3 (rowOf p.2.1) p.2.2.length (ptCells p.2.2) ∧ ∀ k, (rowOf p.2.1).ownBlock = some k → F k) := by
  have mapB : ∀ b N D (R : Value → Option (DataW Unit × List MemPlace)), w.ownsMap Try.prog 3 R b N D → ∀ (k : Nat) (cs : Array Value) (t : TypeId), w.heap[k]? = some (Obj.cells cs t (0, 0)) → k ≠ b := fun b N D R hm k cs t hk e => by
    obtain ⟨es, clock, hb, _⟩ := hm
    rw [e, hb] at hk
    simp at hk
  have cell : ∀ (k : Nat) (cs : Array Value) (t : TypeId), w.heap[k]? = some (Obj.cells cs t (0, 0)) → t ≠ 63 → w'.heap[k]? = some (Obj.cells cs t (0, 0)) := fun k cs t hk ht => by
    refine (hs k (lt_of hk) (fun e => ?_) (mapB _ _ _ _ m.m1 k cs t hk) (mapB _ _ _ _ m.m2 k cs t hk)).trans hk
    rw [e, m.self] at hk
    simp only [Option.some.injEq, Obj.cells.injEq] at hk
    exact ht hk.2.1.symm
  refine ⟨fun p hp => ?_, fun p hp => ?_⟩
  · obtain ⟨a1, a2, a3, a4, a5, a6, a7⟩ := m.bk p hp
    exact ⟨cell _ _ _ a1 (by decide), cell _ _ _ a2 (by decide), a3, a4, a5, a6, a7⟩
  · obtain ⟨a1, a2⟩ := m.st p hp
    refine ⟨ownsRow_same a1 (fun k hk => ?_), a2⟩
    obtain ⟨cur, hc⟩ := row_block a1 hk
    rw [cell _ _ _ hc (by decide), hc]

def PoolSt.add (P : PoolSt) (o : Option (Nat × Nat × Nat)) (l : List Pt) : PoolSt := { P with lastS := P.lastS + 1, st := P.st ++ [(P.lastS + 1, o, l)] }

theorem PoolMem.add {w w1 w3 : World} {F : Nat → Prop} {h bp : Nat} {P : PoolSt} {mb ms N1 N2 : Nat} {D1 D2 : DataW Unit} (m : PoolMem w F h bp P mb ms N1 N2 D1 D2) {o : Option (Nat × Nat × Nat)} {l : List Pt}
    (hw1 : w1 = w.setCell ⟨h, 5, none⟩ (.int .i64 ((P.lastS : Int) + 1))) (hm : w3.ownsMap Try.prog 3 rowElem ms (N2 + 1) (D2.put (.int .i64 ((P.lastS + 1 : Nat) : Int)) (rowD o))) (hg : w1.drew.grownBy w3 (some ms))
    (hr : w.ownsRow 0 75 3 (rowOf o) l.length (ptCells l)) (hpt : ∀ x ∈ l, ∃ y, lookN P.bl x.b = some y ∧ x.f ≤ x.t ∧ x.t ≤ y.used) (hl : l.length ≤ 500 ∧ lenP l ≤ 100000) (hfew : P.st.length < 200) (hS : P.lastS < 1000000000) :
    PoolMem w3 (fun k => F k ∨ (rowOf o).ownBlock = some k) h bp (P.add o l) mb ms N1 (N2 + 1) D1 (D2.put (.int .i64 ((P.lastS + 1 : Nat) : Int)) (rowD o)) ∧ Touch F w w3 := by
  have off : ∀ k, k ≠ h → w1.heap[k]? = w.heap[k]? := fun k hk => by rw [hw1]; exact Below.heap_setCell _ _ _ _ hk
  have sz1 : w1.heap.size = w.heap.size := by rw [hw1]; simp [World.setCell]
  have hmapne : ∀ b N D (R : Value → Option (DataW Unit × List MemPlace)), w.ownsMap Try.prog 3 R b N D → h ≠ b := fun b N D R hm e => by
    obtain ⟨es, clock, hb, _⟩ := hm
    have h1 := m.self
    rw [e, hb] at h1
    simp at h1
  have hms := hmapne _ _ _ _ m.m2
  have hmb := hmapne _ _ _ _ m.m1
  have s1 := block_setCell m.self 5 (.int .i64 ((P.lastS : Int) + 1))
  rw [← hw1] at s1
  have T : Touch F w w3 := by
    have T1 : Touch F w w1 := by rw [hw1]; exact (Touch.refl F w).setCell (p := ⟨h, 5, none⟩) (Or.inl m.fh) _
    exact T1.drew.grown hg (fun k hk => by cases hk; exact Or.inl m.f2)
  have hs : ∀ k, k < w.heap.size → k ≠ h → k ≠ mb → k ≠ ms → w3.heap[k]? = w.heap[k]? := fun k hk h1 h2 h3 => by
    refine (hg.block k (by show k < w1.heap.size; omega) (fun e => h3 (by cases e; rfl))).trans (off k h1)
  obtain ⟨r1, r2⟩ := m.rest hs
  have keys : ∀ p ∈ P.st, p.1 ≠ P.lastS + 1 := fun p hp => by have := (m.ns p hp).2; omega
  have tidy := m.m2.tidy (Maps.int_keyed Try.underlying3)
  have ismap := m.m2.isMap
  have hno : Maps.has D2 (.int .i64 ((P.lastS + 1 : Nat) : Int)) = false := Maps.has_false_of_atKey (fun z => by rw [m.l2, lookN_none keys]; rfl)
  refine ⟨⟨?_, Or.inl m.fh, ownsMap_same m.m1 ((hg.block mb (by show mb < w1.heap.size; have := m.m1.lt; omega) (fun e => m.mne (by cases e; rfl))).trans (off mb hmb.symm)), Or.inl m.f1, hm, Or.inl m.f2, m.l1, m.z1, fun k z => ?_, ?_, fun p hp => ?_, m.ia, m.ig, m.kb, m.nb, ?_, fun p hp => ?_, fun p hp => ?_, fun p hp => ?_, m.sz, m.mne, ?_⟩, T⟩
  · refine (hg.block h (by show h < w1.heap.size; have := lt_of m.self; omega) (fun e => hms (by cases e; rfl))).trans (s1.trans ?_)
    show some (Obj.cells _ _ _) = some (Obj.cells _ _ _)
    rfl
  · show _ = rowZ ((lookN (P.st ++ [(P.lastS + 1, o, l)]) k).map Prod.fst) z
    rw [lookN_snoc _ _ _ _ keys]
    by_cases hk : ((P.lastS + 1 : Nat) : Int) = k
    · subst hk
      rw [if_pos rfl, Maps.atKey_put_same ismap (by simp [WideAt.IsKeyLit])]
      rfl
    · rw [if_neg hk, Maps.atKey_put_other (by simp; omega), m.l2]
  · rw [Maps.size_put tidy, hno, m.z2]
    show _ = (P.st ++ [(P.lastS + 1, o, l)]).length
    simp
  · obtain ⟨a1, a2, a3, a4, a5, a6, a7⟩ := r1 p hp
    exact ⟨a1, a2, a3, a4, Or.inl a5, Or.inl a6, a7⟩
  · show ((P.st ++ [(P.lastS + 1, o, l)]).map Prod.fst).Nodup
    rw [List.map_append, List.nodup_append]
    refine ⟨m.ks, by simp, fun a ha b hb => ?_⟩
    obtain ⟨p, hp, rfl⟩ := List.mem_map.1 ha
    simp at hb
    rw [hb]
    exact keys p hp
  · rcases List.mem_append.1 hp with hp | hp
    · have := m.ns p hp
      exact ⟨this.1, Nat.le_succ_of_le this.2⟩
    · have e : p = (P.lastS + 1, o, l) := by simpa using hp
      rw [e]
      exact ⟨by simp, Nat.le_refl _⟩
  · rcases List.mem_append.1 hp with hp | hp
    · obtain ⟨a1, a2⟩ := r2 p hp
      exact ⟨a1, fun k hk => Or.inl (a2 k hk)⟩
    · have e : p = (P.lastS + 1, o, l) := by simpa using hp
      rw [e]
      refine ⟨ownsRow_same hr (fun k hk => ?_), fun k hk => Or.inr hk⟩
      obtain ⟨cur, hc⟩ := row_block hr hk
      refine hs k (lt_of hc) (fun e => ?_) (fun e => ?_) (fun e => ?_)
      · rw [e, m.self] at hc; simp at hc
      · obtain ⟨es, clock, hb, _⟩ := m.m1
        rw [e, hb] at hc; simp at hc
      · obtain ⟨es, clock, hb, _⟩ := m.m2
        rw [e, hb] at hc; simp at hc
  · rcases List.mem_append.1 hp with hp | hp
    · exact m.pt p hp
    · have e : p = (P.lastS + 1, o, l) := by simpa using hp
      rw [e]
      exact hpt
  · obtain ⟨a1, a2, a3, a4, a5⟩ := m.few
    refine ⟨?_, a2, fun p hp => ?_, a4, ?_⟩
    · show (P.st ++ [(P.lastS + 1, o, l)]).length ≤ 200
      simp; omega
    · rcases List.mem_append.1 hp with hp | hp
      · exact a3 p hp
      · have e : p = (P.lastS + 1, o, l) := by simpa using hp
        rw [e]
        exact hl
    · show P.lastS + 1 ≤ 1000000000
      omega

end
end Go.Proofs.Ytbndknbjjdoanaa

namespace Go.Proofs.Ytbndknbjjdoanaa
section

theorem splice_len {α : Type} (ds T : List α) (f : Nat) (h : f + T.length ≤ ds.length) : (splice ds f T).length = ds.length := by
  simp [splice]; omega

theorem splice2 (ds zs T : List Int) (f : Nat) (h : f + zs.length + T.length ≤ ds.length) :
    (splice (splice ds (f + zs.length) T) f zs).take (f + zs.length + T.length) = ds.take f ++ zs ++ T := by
  apply List.ext_getElem?
  intro i
  simp only [splice, List.getElem?_take, List.getElem?_append, List.getElem?_drop, List.length_take, List.length_append, List.length_drop]
  grind

end
end Go.Proofs.Ytbndknbjjdoanaa
