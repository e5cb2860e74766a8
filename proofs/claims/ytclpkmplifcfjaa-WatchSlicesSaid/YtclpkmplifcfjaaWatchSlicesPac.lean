/-
  Stretches that came in. No conditions.
-/
import Derived.Test.YtclpkmplifcfjaaWatchSlicesPab
import Derived.Deep.Slices
namespace Go.Proofs.Ytclpkmplifcfjaa
open Go.ChangeShapes Go.WideShapes Go.ChangeAt Go.RowKit Go.Deep
set_option linter.unusedVariables false

/-- The stretches as they came in. -/
structure Ct where
  a : Int
  b : Int
  c : Int
def CutsIn (w : World) (v : Value) (L : List Ct) : Prop :=
  ∃ a cap, v = .slice a L.length cap ∧ L.length ≤ cap ∧ cap ≤ maxLen ∧ ∀ k x, L[k]? = some x → ∃ b o, a = some ⟨b, o, none⟩ ∧ w.cell? ⟨b, o + k * 3, none⟩ = some (.int .i64 x.a) ∧ w.cell? ⟨b, o + k * 3 + 1, none⟩ = some (.int .i64 x.b) ∧ w.cell? ⟨b, o + k * 3 + 2, none⟩ = some (.int .i64 x.c)

section
variable {H : Type} {enc : TypeId × Value → H} {P : Program} {W : World}
theorem choose_cut {α : Type} {n : Nat} {p : Nat → α → Prop} (d : α) (h : ∀ i, i < n → ∃ y, p i y) : ∃ f : Nat → α, ∀ i, i < n → p i (f i) :=
  ⟨fun i => if hi : i < n then (h i hi).choose else d, fun i hi => by simp only; rw [dif_pos hi]; exact (h i hi).choose_spec⟩

theorem openCuts {t e q : TypeId} {fs : Array Field} {base : Nat} {v : Value} {d : DataW H} {p : List MemPlace} (ht : P.underlying t = some (.slice e)) (he : P.underlying e = some (.struct fs)) (hf : ∀ i, i < 3 → ∃ f, fs[i]? = some f ∧ f.type = q ∧ f.offset = i) (h3 : fs.size = 3)
    (hq : P.underlying q = some (.int .i64)) (ce : P.cellsOf e = 3) (cq : P.cellsOf q = 1)
    (hv : Value.okWide P W .any base t v) (h : DataW.Trod enc P W 0 (fun _ => true) true t v d p) : ∃ L, CutsIn W v L := by
  obtain ⟨a, len, cap, rfl⟩ := okWide_slice ht hv
  obtain ⟨fuel, hfu⟩ := h
  rcases open_slice ht hfu with ⟨hcs, hx⟩ | ⟨x, l, c, m, n, D, Pl, hcs, hb, hl, hm, hmm, hx, hel⟩
  · simp [Value.cells] at hcs
    obtain ⟨rfl, rfl, rfl⟩ := hcs
    exact ⟨[], none, 0, rfl, by simp, by unfold maxLen; omega, fun k x hk => by simp at hk⟩
  · simp [Value.cells] at hcs
    obtain ⟨rfl, rfl, rfl⟩ := hcs
    simp only [if_true] at hmm
    subst hmm
    have each : ∀ i, i < m → ∃ y : Ct, W.cell? (x.add (i * 3)) = some (.int .i64 y.a) ∧ W.cell? (x.add (i * 3 + 1)) = some (.int .i64 y.b) ∧ W.cell? (x.add (i * 3 + 2)) = some (.int .i64 y.c) := by
      intro i hi
      obtain ⟨cs', h1, h2⟩ := hel i hi
      rw [ce] at h1
      obtain ⟨_, hlen, hat⟩ := World.cells?_some h1
      obtain ⟨xs, n', _, _, _, hxl, hfld⟩ := DataW.trod_struct he h2
      have tr : ∀ j, j < 3 → ∃ a : Int, cs'[j]? = some (.int .i64 a) := by
        intro j hj
        obtain ⟨f, f1, f2, f3⟩ := hf j hj
        have g := hfld j f f1
        rw [f2, f3, cq] at g
        have hy : xs[j]? = some (xs[j]'(by omega)) := List.getElem?_eq_getElem (by omega)
        rw [hy] at g
        obtain ⟨a, e0, _, _⟩ := DataW.trod_int hq g
        refine ⟨a, ?_⟩
        have := congrArg (·[0]?) e0
        simpa using this
      obtain ⟨a0, e0⟩ := tr 0 (by omega)
      obtain ⟨a1, e1⟩ := tr 1 (by omega)
      obtain ⟨a2, e2⟩ := tr 2 (by omega)
      have k0 := hat 0 (by omega)
      have k1 := hat 1 (by omega)
      have k2 := hat 2 (by omega)
      rw [add_add] at k0 k1 k2
      rw [e0] at k0
      rw [e1] at k1
      rw [e2] at k2
      exact ⟨⟨a0, a1, a2⟩, k0, k1, k2⟩
    obtain ⟨es, hes⟩ := choose_cut (⟨0, 0, 0⟩ : Ct) each
    refine ⟨(List.range len).map es, some x, m, by simp, by simp; omega, by omega, fun k y hk => ?_⟩
    have hk' : k < len := by have := (List.getElem?_eq_some_iff.1 hk).1; simpa using this
    obtain ⟨b, off, spot⟩ := x
    have hspot : spot = none := by simpa [Addr.add] using World.cell?_spot (hes 0 (by omega)).1
    subst hspot
    have e1 : ∀ j, (⟨b, off, none⟩ : Addr).add j = ⟨b, off + j, none⟩ := fun j => by unfold Addr.add; split <;> simp_all
    have hgd : y = es k := by
      rw [List.getElem?_map, List.getElem?_range hk'] at hk
      simpa using hk.symm
    subst hgd
    have := hes k (by omega)
    simp only [e1] at this
    exact ⟨b, off, rfl, this⟩
end

end Go.Proofs.Ytclpkmplifcfjaa
