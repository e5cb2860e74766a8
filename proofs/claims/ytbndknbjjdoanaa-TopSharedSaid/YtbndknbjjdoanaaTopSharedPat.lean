/-
  What sweep leaves: the memory law. No conditions.
-/
import Derived.Test.YtbndknbjjdoanaaTopSharedPas
namespace Go.Proofs.Ytbndknbjjdoanaa
open Go.RowKit
set_option linter.unusedVariables false

theorem keeps_of {P : PoolSt} {p : Nat × Option (Nat × Nat × Nat) × List Pt} (hp : p ∈ P.st) {x : Pt} (hx : x ∈ p.2.2) : P.keeps (x.b : Int) = true :=
  List.any_eq_true.2 ⟨p, hp, List.any_eq_true.2 ⟨x, hx, by simp⟩⟩
theorem swept_look {P : PoolSt} {k : Int} {y : Bk} (h : lookN P.bl k = some y) (hk : P.keeps k = true) : lookN P.swept.bl k = some y := by
  show lookN (P.bl.filter fun p => P.keeps (p.1 : Int)) k = some y
  rw [lookN_filter (fun k => P.keeps k), hk, if_pos rfl, h]
theorem sublist_map {α β : Type} (f : α → β) {l l' : List α} (h : l'.Sublist l) : (l'.map f).Sublist (l.map f) := h.map f
theorem PoolMem.sweep {w w3 : World} {F : Nat → Prop} {h bp : Nat} {P : PoolSt} {mb ms N1 N2 : Nat} {D1 D2 D1' : DataW Unit} (m : PoolMem w F h bp P mb ms N1 N2 D1 D2) (hm : w3.ownsMap Try.prog 3 ptrElem mb N1 D1')
    (keep : ∀ k, k < w.heap.size → k ≠ mb → w3.heap[k]? = w.heap[k]?) (l1 : ∀ k z, D1'.atKey (.int .i64 k) z = ptrZ ((lookN P.swept.bl k).map Bk.a) z) (z1 : Maps.size D1' = P.swept.bl.length) : PoolMem w3 F h bp P.swept mb ms N1 N2 D1' D2 := by
  have hmbh : h ≠ mb := fun e => by
    obtain ⟨es, clock, hb, _⟩ := m.m1
    have h1 := m.self
    rw [e, hb] at h1
    simp at h1
  obtain ⟨r1, r2⟩ := m.rest (w' := w3) (fun k hk _ h2 _ => keep k hk h2)
  have sub : (P.bl.filter fun p => P.keeps (p.1 : Int)).Sublist P.bl := List.filter_sublist
  refine ⟨(keep h (lt_of m.self) hmbh).trans m.self, m.fh, hm, m.f1, ownsMap_same m.m2 (keep ms m.m2.lt (fun e => m.mne e.symm)), m.f2, l1, z1, m.l2, m.z2, fun p hp => r1 p (sub.subset hp), m.ia.sublist (sub.map _), m.ig.sublist (sub.map _), m.kb.sublist (sub.map _), fun p hp => m.nb p (sub.subset hp), m.ks, m.ns, r2, fun p hp x hx => ?_, m.sz, m.mne, ?_⟩
  · obtain ⟨y, hy, h1⟩ := m.pt p hp x hx
    exact ⟨y, swept_look hy (keeps_of hp hx), h1⟩
  · obtain ⟨a1, a2, a3, a4, a5⟩ := m.few
    have : P.swept.bl.length ≤ P.bl.length := sub.length_le
    exact ⟨a1, by omega, a3, a4, a5⟩

/-- How many entries are not gone while the map is gone through. -/
def Still (P : PoolSt) (left : Lit → Bool) (k : Int) : Bool := left (.int .i64 k) || P.keeps k
def stillN (P : PoolSt) (left : Lit → Bool) : Nat := (P.bl.filter fun p => Still P left (p.1 : Int)).length
theorem filter_all {α : Type} {l : List α} {q : α → Bool} (h : ∀ p ∈ l, q p = true) : l.filter q = l := List.filter_eq_self.2 h
theorem still_start {P : PoolSt} {left : Lit → Bool} (h : ∀ p ∈ P.bl, left (.int .i64 (p.1 : Int)) = true) : P.bl.filter (fun p => Still P left (p.1 : Int)) = P.bl := filter_all (fun p hp => by unfold Still; rw [h p hp]; rfl)
theorem still_end {P : PoolSt} {left : Lit → Bool} (h : ∀ kl, left kl = false) : P.bl.filter (fun p => Still P left (p.1 : Int)) = P.swept.bl := by
  show _ = P.bl.filter fun p => P.keeps (p.1 : Int)
  exact List.filter_congr (fun p _ => by unfold Still; rw [h]; rfl)
theorem still_kept {P : PoolSt} {left : Lit → Bool} {x : Int} (h : P.keeps x = true) : (fun p : Nat × Bk => Still P (fun z => left z && !z.sameKey (.int .i64 x)) (p.1 : Int)) = fun p => Still P left (p.1 : Int) := by
  funext p
  unfold Still
  by_cases e : (p.1 : Int) = x
  · rw [e, h]; simp
  · simp [Lit.sameKey, e]
theorem still_less {P : PoolSt} {left : Lit → Bool} {n : Nat} {y : Bk} (hn : (P.bl.map Prod.fst).Nodup) (hm : (n, y) ∈ P.bl) (hl : left (.int .i64 (n : Int)) = true) (h : P.keeps (n : Int) = false) : stillN P (fun z => left z && !z.sameKey (.int .i64 (n : Int))) + 1 = stillN P left := by
  unfold stillN
  refine filter_less (n := n) (q := Still P left) (q' := Still P (fun z => left z && !z.sameKey (.int .i64 (n : Int)))) ?_ ?_ (fun k hk => ?_) hn ⟨y, hm⟩
  · unfold Still; rw [hl]; rfl
  · unfold Still; rw [h]; simp [Lit.sameKey]
  · unfold Still
    simp [Lit.sameKey, hk]
/-- The map while entries are struck. -/
def StrkD (P : PoolSt) (left : Lit → Bool) (D : DataW Unit) : Prop := (∀ k z, D.atKey (.int .i64 k) z = ptrZ ((lookN (P.bl.filter fun p => Still P left (p.1 : Int)) k).map Bk.a) z) ∧ Maps.size D = stillN P left
theorem StrkD.keep {P : PoolSt} {left : Lit → Bool} {D : DataW Unit} {x : Int} (h : StrkD P left D) (hk : P.keeps x = true) : StrkD P (fun z => left z && !z.sameKey (.int .i64 x)) D := by
  unfold StrkD stillN
  rw [still_kept hk]
  exact h
theorem StrkD.strike {P : PoolSt} {left : Lit → Bool} {D : DataW Unit} {n : Nat} {y : Bk} (h : StrkD P left D) (tidy : Maps.Tidy D) (ismap : Maps.IsMap D) (hn : (P.bl.map Prod.fst).Nodup) (hm : (n, y) ∈ P.bl) (hl : left (.int .i64 (n : Int)) = true) (hk : P.keeps (n : Int) = false) :
    StrkD P (fun z => left z && !z.sameKey (.int .i64 (n : Int))) (D.del (.int .i64 (n : Int))) := by
  have hlook : lookN (P.bl.filter fun p => Still P left (p.1 : Int)) (n : Int) = some y := by
    rw [lookN_filter (fun k => Still P left k), show Still P left (n : Int) = true by unfold Still; rw [hl]; rfl, if_pos rfl, lookN_of_mem hn hm]
  have hhas : Maps.has D (.int .i64 (n : Int)) = true := Maps.has_true_of_atKey (y := .lit (.int .i64 (y.a : Int))) (fun z => by rw [h.1, hlook]; rfl)
  refine ⟨fun k z => ?_, ?_⟩
  · rw [lookN_filter (fun k => Still P (fun z => left z && !z.sameKey (.int .i64 (n : Int))) k)]
    by_cases e : k = (n : Int)
    · subst e
      rw [Maps.atKey_del_same, show Still P (fun z => left z && !z.sameKey (.int .i64 (n : Int))) (n : Int) = false by unfold Still; rw [hk]; simp [Lit.sameKey], if_neg (by simp)]
      rfl
    · rw [Maps.atKey_del_other (by simp; exact e), h.1, lookN_filter (fun k => Still P left k)]
      have e2 : Still P (fun z => left z && !z.sameKey (.int .i64 (n : Int))) k = Still P left k := by
        unfold Still
        simp [Lit.sameKey, e]
      rw [e2]
  · have h1 := Maps.size_del tidy (k := .int .i64 (n : Int))
    rw [hhas, if_pos rfl] at h1
    have h2 := still_less hn hm hl hk
    have h3 := h.2
    omega
theorem look_has {P : PoolSt} {D : DataW Unit} (h : ∀ k z, D.atKey (.int .i64 k) z = ptrZ ((lookN P.bl k).map Bk.a) z) {k : Int} {y : DataW Unit} (hat : ∀ z, D.atKey (.int .i64 k) z = y) : ∃ (n : Nat) (x : Bk), (n : Int) = k ∧ (n, x) ∈ P.bl := by
  cases hl : lookN P.bl k with
  | none =>
    have h1 := hat (.lit (.int .i64 0))
    have h2 := hat (.lit (.int .i64 1))
    rw [h, hl] at h1 h2
    rw [← h2] at h1
    simp [ptrZ] at h1
  | some x =>
    obtain ⟨n, hn, hm⟩ := lookN_mem hl
    exact ⟨n, x, hn, hm⟩
theorem look_hasS {P : PoolSt} {D : DataW Unit} (h : ∀ k z, D.atKey (.int .i64 k) z = rowZ ((lookN P.st k).map Prod.fst) z) {k : Int} {y : DataW Unit} (hat : ∀ z, D.atKey (.int .i64 k) z = y) : ∃ (n : Nat) (x : Option (Nat × Nat × Nat) × List Pt), (n : Int) = k ∧ (n, x) ∈ P.st ∧ y = rowD x.1 := by
  cases hl : lookN P.st k with
  | none =>
    have h1 := hat (.lit (.int .i64 0))
    have h2 := hat (.lit (.int .i64 1))
    rw [h, hl] at h1 h2
    rw [← h2] at h1
    simp [rowZ] at h1
  | some x =>
    obtain ⟨n, hn, hm⟩ := lookN_mem hl
    have h1 := hat .nil
    rw [h, hl] at h1
    exact ⟨n, x, hn, hm, h1.symm⟩
theorem has_start {P : PoolSt} {D : DataW Unit} (h : ∀ k z, D.atKey (.int .i64 k) z = ptrZ ((lookN P.bl k).map Bk.a) z) (hn : (P.bl.map Prod.fst).Nodup) : ∀ p ∈ P.bl, Maps.has D (.int .i64 (p.1 : Int)) = true := fun p hp =>
  Maps.has_true_of_atKey (y := .lit (.int .i64 (p.2.a : Int))) (fun z => by rw [h, lookN_of_mem hn (show (p.1, p.2) ∈ P.bl from hp)]; rfl)

end Go.Proofs.Ytbndknbjjdoanaa
