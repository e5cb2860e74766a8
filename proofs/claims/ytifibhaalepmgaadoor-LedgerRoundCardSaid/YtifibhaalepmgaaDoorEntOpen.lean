/-
  Entries that came in. No conditions.
-/
import Derived.Test.YtifibhaalepmgaaDoorEntMem
import Derived.Test.YtifibhaalepmgaaDoorFrame
import Derived.Deep.Slices
namespace Go.Proofs.YtifibhaalepmgaaDoor
open Go.ChangeShapes Go.WideShapes Go.ChangeAt Go.RowKit Go.Deep
set_option linter.unusedVariables false
variable {H : Type} {enc : TypeId × Value → H} {P : Program} {W : World}

theorem choose_to {α : Type} {n : Nat} {p : Nat → α → Prop} (d : α) (h : ∀ i, i < n → ∃ y, p i y) : ∃ f : Nat → α, ∀ i, i < n → p i (f i) :=
  ⟨fun i => if hi : i < n then (h i hi).choose else d, fun i hi => by simp only; rw [dif_pos hi]; exact (h i hi).choose_spec⟩

theorem openEns {t e q : TypeId} {fs : Array Field} {base : Nat} {v : Value} {d : DataW H} {p : List MemPlace} (ht : P.underlying t = some (.slice e)) (he : P.underlying e = some (.struct fs)) (hf : ∀ i, i < 6 → ∃ f, fs[i]? = some f ∧ f.type = q ∧ f.offset = i) (h6 : fs.size = 6)
    (hq : P.underlying q = some (.int .i64)) (ce : P.cellsOf e = 6) (cq : P.cellsOf q = 1)
    (hv : Value.okWide P W .any base t v) (h : DataW.Trod enc P W 0 (fun _ => true) true t v d p) : ∃ L, EnsIn W v L := by
  obtain ⟨a, len, cap, rfl⟩ := okWide_slice ht hv
  obtain ⟨fuel, hfu⟩ := h
  rcases open_slice ht hfu with ⟨hcs, hx⟩ | ⟨x, l, c, m, n, D, Pl, hcs, hb, hl, hm, hmm, hx, hel⟩
  · simp [Value.cells] at hcs
    obtain ⟨rfl, rfl, rfl⟩ := hcs
    exact ⟨[], EnsIn.nil W⟩
  · simp [Value.cells] at hcs
    obtain ⟨rfl, rfl, rfl⟩ := hcs
    simp only [if_true] at hmm
    subst hmm
    have each : ∀ i, i < m → ∃ y : En, W.cell? (x.add (i * 6)) = some (.int .i64 y.k) ∧ W.cell? (x.add (i * 6 + 1)) = some (.int .i64 y.o) ∧ W.cell? (x.add (i * 6 + 2)) = some (.int .i64 y.p) ∧ W.cell? (x.add (i * 6 + 3)) = some (.int .i64 y.a) ∧ W.cell? (x.add (i * 6 + 4)) = some (.int .i64 y.l) ∧ W.cell? (x.add (i * 6 + 5)) = some (.int .i64 y.u) := by
      intro i hi
      obtain ⟨cs', h1, h2⟩ := hel i hi
      rw [ce] at h1
      obtain ⟨_, hlen, hat⟩ := World.cells?_some h1
      obtain ⟨xs, n', _, _, _, hxl, hfld⟩ := DataW.trod_struct he h2
      have tr : ∀ j, j < 6 → ∃ a : Int, cs'[j]? = some (.int .i64 a) := by
        intro j hj
        obtain ⟨f, f1, f2, f3⟩ := hf j hj
        have g := hfld j f f1
        rw [f2, f3, cq] at g
        have hy : xs[j]? = some (xs[j]'(by omega)) := List.getElem?_eq_getElem (by omega)
        rw [hy] at g
        obtain ⟨a, e0, _, _⟩ := DataW.trod_int hq g
        refine ⟨a, ?_⟩
        have := congrArg (·[0]?) e0
        simpa using this
      obtain ⟨a0, e0⟩ := tr 0 (by omega)
      obtain ⟨a1, e1⟩ := tr 1 (by omega)
      obtain ⟨a2, e2⟩ := tr 2 (by omega)
      obtain ⟨a3, e3⟩ := tr 3 (by omega)
      obtain ⟨a4, e4⟩ := tr 4 (by omega)
      obtain ⟨a5, e5⟩ := tr 5 (by omega)
      have k0 := hat 0 (by omega)
      have k1 := hat 1 (by omega)
      have k2 := hat 2 (by omega)
      have k3 := hat 3 (by omega)
      have k4 := hat 4 (by omega)
      have k5 := hat 5 (by omega)
      rw [add_add] at k0 k1 k2 k3 k4 k5
      rw [e0] at k0
      rw [e1] at k1
      rw [e2] at k2
      rw [e3] at k3
      rw [e4] at k4
      rw [e5] at k5
      exact ⟨⟨a0, a1, a2, a3, a4, a5⟩, k0, k1, k2, k3, k4, k5⟩
    obtain ⟨es, hes⟩ := choose_to En.zero each
    refine ⟨(List.range len).map es, some x, m, by simp, by simp; unfold maxLen at hm; omega, fun k hk => ?_⟩
    have hk' : k < len := by simpa using hk
    obtain ⟨b, off, spot⟩ := x
    have hspot : spot = none := by simpa [Addr.add] using World.cell?_spot (hes 0 (by omega)).1
    subst hspot
    have e1 : ∀ j, (⟨b, off, none⟩ : Addr).add j = ⟨b, off + j, none⟩ := fun j => by unfold Addr.add; split <;> simp_all
    have hgd : ((List.range len).map es).getD k En.zero = es k := by
      rw [List.getD_eq_getElem?_getD]
      simp [hk']
    rw [hgd]
    have := hes k (by omega)
    simp only [e1] at this
    exact ⟨b, off, rfl, this⟩

end Go.Proofs.YtifibhaalepmgaaDoor
