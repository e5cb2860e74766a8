/-
  The state of TopRing between its calls. No conditions.
-/
import Derived.Test.YtfolidedcejafaaTopRingPbp
import Derived.Test.YtfolidedcejafaaTopRingPbq
namespace Go.Proofs.Ytfolidedcejafaa
open Go.RowKit
set_option linter.unusedVariables false

/-- A ring and a queue, two rows of the law's own beside them, and other blocks X that they leave alone. -/
structure TS (w W : World) (r : Nat) (I : QuId) (a b : Value) (xa xb xs ys : List Int) (Fo X : Nat → Prop) : Prop where
  rq : RQAt W Fo r I xs ys
  wa : OwnW W w.heap.size a xa
  wb : OwnW W w.heap.size b xb
  ab : ∀ k, a.ownBlock = some k → b.ownBlock ≠ some k
  fa : ∀ k, a.ownBlock = some k → ¬ Fo k
  fb : ∀ k, b.ownBlock = some k → ¬ Fo k
  fo : ∀ k, Fo k → w.heap.size ≤ k
  x : ∀ k, X k → ¬ Fo k ∧ a.ownBlock ≠ some k ∧ b.ownBlock ≠ some k ∧ k < W.heap.size
  bel : Below w.heap.size w W

theorem TS.op {w W W' : World} {r : Nat} {I : QuId} {a b : Value} {xa xb xs ys xs' ys' : List Int} {Fo X : Nat → Prop} (h : TS w W r I a b xa xb xs ys Fo X) (hn : RQNext W W' Fo r I xs' ys') :
    ∃ Fo', TS w W' r I a b xa xb xs' ys' Fo' X ∧ Touch Fo W W' := by
  obtain ⟨Fo', h1, h2, h3⟩ := hn
  have hs := h3.size
  have hw := h.bel.size
  refine ⟨Fo', ⟨h1, h.wa.touch h3 h.fa, h.wb.touch h3 h.fb, h.ab, fun k hk x => ?_, fun k hk x => ?_, fun k hk => ?_, fun k hk => ?_, ?_⟩, h3⟩
  · have := (h.wa.block hk).2
    exact (h2 k x).elim (h.fa k hk) (fun y => by omega)
  · have := (h.wb.block hk).2
    exact (h2 k x).elim (h.fb k hk) (fun y => by omega)
  · exact (h2 k hk).elim (h.fo k) (fun y => by omega)
  · obtain ⟨x1, x2, x3, x4⟩ := h.x k hk
    exact ⟨fun x => (h2 k x).elim x1 (fun y => by omega), x2, x3, by omega⟩
  · exact h.bel.trans (h3.below hw h.fo)
theorem TS.same {w W W' : World} {r : Nat} {I : QuId} {a b : Value} {xa xb xs ys xs' ys' : List Int} {Fo X : Nat → Prop} (h : TS w W r I a b xa xb xs ys Fo X) (h1 : RQAt W' Fo r I xs' ys') (h3 : Touch Fo W W') : TS w W' r I a b xa xb xs' ys' Fo X := by
  have hs := h3.size
  have hw := h.bel.size
  exact ⟨h1, h.wa.touch h3 h.fa, h.wb.touch h3 h.fb, h.ab, h.fa, h.fb, h.fo, fun k hk => by obtain ⟨x1, x2, x3, x4⟩ := h.x k hk; exact ⟨x1, x2, x3, by omega⟩, h.bel.trans (h3.below hw h.fo)⟩
theorem cut_block {p : Option Addr} {c n n' k : Nat} {j : Nat} (h : (Value.slice (if c = k then p else Option.map (fun x : Addr => x.add k) p) n' (c - k)).ownBlock = some j) : (Value.slice p n c).ownBlock = some j := by
  cases p with
  | none => split at h <;> cases h
  | some a =>
    split at h
    · exact h
    · have e : (a.add k).block = a.block := by unfold Addr.add; split <;> rfl
      simp only [Option.map_some, Value.ownBlock, e] at h
      exact h
theorem TS.appA {w W W' : World} {r : Nat} {I : QuId} {a a' b : Value} {xa xa' xb xs ys : List Int} {Fo X : Nat → Prop} (h : TS w W r I a b xa xb xs ys Fo X) (h1 : OwnW W' w.heap.size a' xa') (h2 : Touch (fun k => a.ownBlock = some k) W W') (h3 : ∀ k, a'.ownBlock = some k → a.ownBlock = some k ∨ W.heap.size ≤ k) :
    TS w W' r I a' b xa' xb xs ys Fo X := by
  have hlt := h.rq.lt
  have hs := h2.size
  have hw := h.bel.size
  refine ⟨h.rq.same (fun k hk => h2.block k (hlt k hk) (fun e => h.fa k e hk)) hs, h1, h.wb.touch h2 (fun k hk e => h.ab k e hk), fun k hk hk2 => ?_, fun k hk x => ?_, h.fb, h.fo, fun k hk => ?_, ?_⟩
  · have := (h.wb.block hk2).2
    exact (h3 k hk).elim (fun e => h.ab k e hk2) (fun y => by omega)
  · have := hlt k x
    exact (h3 k hk).elim (fun e => h.fa k e x) (fun y => by omega)
  · obtain ⟨x1, x2, x3, x4⟩ := h.x k hk
    exact ⟨x1, fun e => (h3 k e).elim x2 (fun y => by omega), x3, by omega⟩
  · exact h.bel.trans (h2.below hw (fun k hk => (h.wa.block hk).1))
theorem TS.appB {w W W' : World} {r : Nat} {I : QuId} {a b b' : Value} {xa xb xb' xs ys : List Int} {Fo X : Nat → Prop} (h : TS w W r I a b xa xb xs ys Fo X) (h1 : OwnW W' w.heap.size b' xb') (h2 : Touch (fun k => b.ownBlock = some k) W W') (h3 : ∀ k, b'.ownBlock = some k → b.ownBlock = some k ∨ W.heap.size ≤ k) :
    TS w W' r I a b' xa xb' xs ys Fo X := by
  have hlt := h.rq.lt
  have hs := h2.size
  have hw := h.bel.size
  refine ⟨h.rq.same (fun k hk => h2.block k (hlt k hk) (fun e => h.fb k e hk)) hs, h.wa.touch h2 (fun k hk e => h.ab k hk e), h1, fun k hk hk2 => ?_, h.fa, fun k hk x => ?_, h.fo, fun k hk => ?_, ?_⟩
  · have := (h.wa.block hk).2
    exact (h3 k hk2).elim (fun e => h.ab k hk e) (fun y => by omega)
  · have := hlt k x
    exact (h3 k hk).elim (fun e => h.fb k e x) (fun y => by omega)
  · obtain ⟨x1, x2, x3, x4⟩ := h.x k hk
    exact ⟨x1, x2, fun e => (h3 k e).elim x3 (fun y => by omega), by omega⟩
  · exact h.bel.trans (h2.below hw (fun k hk => (h.wb.block hk).1))
theorem TS.below {w W W' : World} {r : Nat} {I : QuId} {a b : Value} {xa xb xs ys : List Int} {Fo X : Nat → Prop} (h : TS w W r I a b xa xb xs ys Fo X) (hb : Below W.heap.size W W') : TS w W' r I a b xa xb xs ys Fo X := by
  have hlt := h.rq.lt
  have hs := hb.size
  have hw := h.bel.size
  exact ⟨h.rq.same (fun k hk => hb.block k (hlt k hk)) hs, h.wa.same (fun k hk => hb.block k (h.wa.block hk).2), h.wb.same (fun k hk => hb.block k (h.wb.block hk).2), h.ab, h.fa, h.fb, h.fo, fun k hk => by obtain ⟨x1, x2, x3, x4⟩ := h.x k hk; exact ⟨x1, x2, x3, by omega⟩, h.bel.trans (hb.mono hw)⟩
theorem TS.cut {w W : World} {r : Nat} {I : QuId} {a b a' b' : Value} {xa xb xa' xb' xs ys : List Int} {Fo X : Nat → Prop} (h : TS w W r I a b xa xb xs ys Fo X) (h1 : OwnW W w.heap.size a' xa') (h2 : OwnW W w.heap.size b' xb') (e1 : ∀ k, a'.ownBlock = some k → a.ownBlock = some k) (e2 : ∀ k, b'.ownBlock = some k → b.ownBlock = some k) : TS w W r I a' b' xa' xb' xs ys Fo X :=
  ⟨h.rq, h1, h2, fun k hk hk2 => h.ab k (e1 k hk) (e2 k hk2), fun k hk => h.fa k (e1 k hk), fun k hk => h.fb k (e2 k hk), h.fo, fun k hk => by obtain ⟨x1, x2, x3, x4⟩ := h.x k hk; exact ⟨x1, fun e => x2 (e1 k e), fun e => x3 (e2 k e), x4⟩, h.bel⟩
theorem TS.other {w W : World} {r : Nat} {I : QuId} {a b : Value} {xa xb xs ys : List Int} {Fo X X' : Nat → Prop} (h : TS w W r I a b xa xb xs ys Fo X) (hx : ∀ k, X' k → ¬ Fo k ∧ a.ownBlock ≠ some k ∧ b.ownBlock ≠ some k ∧ k < W.heap.size) : TS w W r I a b xa xb xs ys Fo X' :=
  ⟨h.rq, h.wa, h.wb, h.ab, h.fa, h.fb, h.fo, hx, h.bel⟩

end Go.Proofs.Ytfolidedcejafaa
