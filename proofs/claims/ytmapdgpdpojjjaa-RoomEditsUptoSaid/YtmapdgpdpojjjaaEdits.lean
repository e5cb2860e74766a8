/-
  A slice of arrays of three integers that came in. No conditions.
-/
import Derived.Test.YtmapdgpdpojjjaaFrame
import Derived.Test.YtmapdgpdpojjjaaUpto
import Derived.Test.YtmapdgpdpojjjaaFair
import Derived.Deep.Slices
import Derived.Laws.IdiomArrays
namespace Go.Proofs.Ytmapdgpdpojjjaa
open Go.ChangeShapes Go.WideShapes Go.ChangeAt Go.RowKit Go.Deep

variable {H : Type} {enc : TypeId × Value → H} {P : Program} {W : World}

def i64in (z : Int) : Prop := -9223372036854775808 ≤ z ∧ z ≤ 9223372036854775807

/-- The edits: element k's three cells. -/
structure Edits (W : World) (v : Value) (n : Nat) (es : Nat → Int × Int × Int) : Prop where
  shape : ∃ a cap, v = .slice a n cap ∧ n ≤ cap ∧ cap ≤ maxLen ∧ (0 < n → ∃ b o, a = some ⟨b, o, none⟩ ∧ ∀ k, k < n →
    W.cell? ⟨b, o + k * 3, none⟩ = some (.int .i64 (es k).1) ∧ W.cell? ⟨b, o + k * 3 + 1, none⟩ = some (.int .i64 (es k).2.1) ∧ W.cell? ⟨b, o + k * 3 + 2, none⟩ = some (.int .i64 (es k).2.2))
  wf : ∀ k, k < n → i64in (es k).1 ∧ i64in (es k).2.1 ∧ i64in (es k).2.2

theorem openEdits {t e q : TypeId} {base : Nat} {v : Value} {d : DataW H} {p : List MemPlace} (ht : P.underlying t = some (.slice e)) (he : P.underlying e = some (.array 3 q)) (hq : P.underlying q = some (.int .i64)) (ce : P.cellsOf e = 3) (cq : P.cellsOf q = 1)
    (hv : Value.okWide P W .any base t v) (h : DataW.Trod enc P W 0 (fun _ => true) true t v d p) : ∃ n es, Edits W v n es ∧ n ≤ Rows.uptoBulk d := by
  obtain ⟨a, len, cap, rfl⟩ := okWide_slice ht hv
  obtain ⟨fuel, hf⟩ := h
  rcases open_slice ht hf with ⟨hcs, hx⟩ | ⟨x, l, c, m, n, D, Pl, hcs, hb, hl, hm, hmm, hx, hel⟩
  · simp [Value.cells] at hcs
    obtain ⟨rfl, rfl, rfl⟩ := hcs
    exact ⟨0, fun _ => (0, 0, 0), ⟨⟨none, 0, rfl, Nat.le_refl _, Nat.zero_le _, fun h => by omega⟩, fun k hk => by omega⟩, Nat.zero_le _⟩
  · simp [Value.cells] at hcs
    obtain ⟨rfl, rfl, rfl⟩ := hcs
    simp only [if_true] at hmm
    subst hmm
    have each : ∀ i, i < m → ∃ y : Int × Int × Int, (W.cell? (x.add (i * 3)) = some (.int .i64 y.1) ∧ W.cell? (x.add (i * 3 + 1)) = some (.int .i64 y.2.1) ∧ W.cell? (x.add (i * 3 + 2)) = some (.int .i64 y.2.2)) ∧ i64in y.1 ∧ i64in y.2.1 ∧ i64in y.2.2 := by
      intro i hi
      obtain ⟨cs', h1, h2⟩ := hel i hi
      rw [ce] at h1
      obtain ⟨_, hlen, hat⟩ := World.cells?_some h1
      match cs', hlen with
      | [c0, c1, c2], _ =>
        obtain ⟨y0, y1, y2, n', _, t0, t1, t2⟩ := trod_array3 he cq h2
        obtain ⟨a0, e0, _, w0⟩ := DataW.trod_int hq t0
        obtain ⟨a1, e1, _, w1⟩ := DataW.trod_int hq t1
        obtain ⟨a2, e2, _, w2⟩ := DataW.trod_int hq t2
        simp only [List.cons.injEq, and_true] at e0 e1 e2
        subst e0 e1 e2
        have k0 := hat 0 (by omega)
        have k1 := hat 1 (by omega)
        have k2 := hat 2 (by omega)
        rw [add_add] at k0 k1 k2
        exact ⟨(a0, a1, a2), ⟨by simpa using k0, by simpa using k1, by simpa using k2⟩, range_i64 w0, range_i64 w1, range_i64 w2⟩
    obtain ⟨es, hes⟩ := choose_lt (α := Int × Int × Int) (p := fun i y => (W.cell? (x.add (i * 3)) = some (.int .i64 y.1) ∧ W.cell? (x.add (i * 3 + 1)) = some (.int .i64 y.2.1) ∧ W.cell? (x.add (i * 3 + 2)) = some (.int .i64 y.2.2)) ∧ i64in y.1 ∧ i64in y.2.1 ∧ i64in y.2.2) each
    refine ⟨len, es, ⟨⟨some x, m, rfl, hl, hm, fun h0 => ?_⟩, fun k hk => (hes k (by omega)).2⟩, ?_⟩
    · obtain ⟨b, off, spot⟩ := x
      have hspot : spot = none := by simpa [Addr.add] using World.cell?_spot (hes 0 (by omega)).1.1
      subst hspot
      have e1 : ∀ j, (⟨b, off, none⟩ : Addr).add j = ⟨b, off + j, none⟩ := fun j => by unfold Addr.add; split <;> simp_all
      refine ⟨b, off, rfl, fun k hk => ?_⟩
      have := (hes k (by omega)).1
      rw [e1, e1, e1] at this
      exact this
    · have hd := congrArg Prod.fst hx
      simp only at hd
      rw [hd]
      have h1 := length_le ((List.range len).map D)
      simp only [List.length_map, List.length_range] at h1
      simp only [Rows.uptoBulk]
      omega

theorem Edits.below {w w' : World} {v : Value} {n : Nat} {es : Nat → Int × Int × Int} (h : Edits w v n es) (hb : Below w.heap.size w w') : Edits w' v n es := by
  obtain ⟨⟨a, cap, rfl, h1, h2, h3⟩, hw⟩ := h
  refine ⟨⟨a, cap, rfl, h1, h2, fun h0 => ?_⟩, hw⟩
  obtain ⟨b, o, rfl, h4⟩ := h3 h0
  exact ⟨b, o, rfl, fun k hk => ⟨old_cell hb (h4 k hk).1, old_cell hb (h4 k hk).2.1, old_cell hb (h4 k hk).2.2⟩⟩

end Go.Proofs.Ytmapdgpdpojjjaa
