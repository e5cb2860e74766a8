/-
  Two rows more that show the same. No conditions.
-/
import Derived.Test.YteeiohhoccgafaaTwice
namespace Go.Proofs.Yteeiohhoccgafaa
open Go.RowKit

def noR : Rel := fun _ _ _ _ => False
def addR (R : Rel) (g g' n : Nat) : Rel := fun b o c p => R b o c p ∨ (b = g ∧ c = g' ∧ o = p ∧ o < n)

theorem Twins.none (w : World) (B : Nat) : Twins w B noR :=
  ⟨fun _ _ _ _ h => h.elim, fun _ _ _ _ h => h.elim, fun _ _ _ _ _ _ h => h.elim, fun _ _ _ _ _ _ h => h.elim, fun _ _ _ _ _ _ _ _ h => h.elim⟩

theorem CellsAt.new (w : World) {B : Nat} (hB : B ≤ w.heap.size) : CellsAt (w.alloc (.cells #[.slice none 0 0, .slice none 0 0] 31)) B w.heap.size [] :=
  ⟨hB, _, _, heap_alloc_new w _, World.ownsRow_nil _ _ _ _, World.ownsRow_nil _ _ _ _, fun k hk => by simp [Value.ownBlock] at hk, by simp⟩

theorem Pr.mono {R R' : Rel} {xy : Value × Value} (h : Pr R xy) (hR : ∀ b o c p, R b o c p → R' b o c p) : Pr R' xy := by
  obtain ⟨p, q, len, cap, e, h1, h2, h3⟩ := h
  refine ⟨p, q, len, cap, e, h1, h2, fun h0 => ?_⟩
  obtain ⟨b, o, c, r, e1, e2, h4⟩ := h3 h0
  exact ⟨b, o, c, r, e1, e2, fun j hj => hR _ _ _ _ (h4 j hj)⟩
theorem Pr.nil (R : Rel) : Pr R (.slice none 0 0, .slice none 0 0) := ⟨none, none, 0, 0, rfl, Nat.le_refl _, by omega, fun h => absurd h (by omega)⟩
theorem Pr.new (R : Rel) (g g' len n : Nat) (h1 : len ≤ n) (h2 : n ≤ 140737488355200) : Pr (addR R g g' n) (.slice (some ⟨g, 0, none⟩) len n, .slice (some ⟨g', 0, none⟩) len n) :=
  ⟨_, _, len, n, rfl, h1, h2, fun _ => ⟨g, 0, g', 0, rfl, rfl, fun j hj => Or.inr ⟨rfl, rfl, rfl, by omega⟩⟩⟩

theorem Twins.lt {w : World} {B : Nat} {R : Rel} (h : Twins w B R) {b o c p : Nat} (hr : R b o c p) : b < w.heap.size ∧ c < w.heap.size := by
  obtain ⟨_, _, ⟨cs, h1⟩, ⟨ds, h2⟩⟩ := h.row _ _ _ _ hr
  exact ⟨lt_of h1, lt_of h2⟩

theorem Twins.add {w : World} {B : Nat} {R : Rel} (h : Twins w B R) {g g' : Nat} {cs : List Int} (hne : g ≠ g') (r1 : byteRow w g cs) (r2 : byteRow w g' cs) (hb : bytes cs) (b1 : B ≤ g) (b2 : B ≤ g')
    (hn : ∀ b o c p, R b o c p → b ≠ g ∧ b ≠ g' ∧ c ≠ g ∧ c ≠ g') : Twins w B (addR R g g' cs.length) := by
  refine ⟨?_, ?_, ?_, ?_, ?_⟩
  · rintro b o c p (hr | ⟨rfl, rfl, rfl, ho⟩)
    · exact h.val _ _ _ _ hr
    · have hz := hb (cs.getD o 0) (by rw [List.getD_eq_getElem?_getD, List.getElem?_eq_getElem ho]; simp)
      exact ⟨cs.getD o 0, hz.1, hz.2, r1.cell o ho, r2.cell o ho⟩
  · rintro b o c p (hr | ⟨rfl, rfl, rfl, ho⟩)
    · exact h.row _ _ _ _ hr
    · exact ⟨b1, b2, ⟨_, r1⟩, ⟨_, r2⟩⟩
  · rintro b o c p c' p' (hr | ⟨rfl, rfl, rfl, ho⟩) (hr' | ⟨e, rfl, rfl, ho'⟩)
    · exact h.one _ _ _ _ _ _ hr hr'
    · exact absurd e (hn _ _ _ _ hr).1
    · exact absurd rfl (hn _ _ _ _ hr').1
    · exact ⟨rfl, rfl⟩
  · rintro b o c p b' o' (hr | ⟨rfl, rfl, rfl, ho⟩) (hr' | ⟨rfl, e, rfl, ho'⟩)
    · exact h.inj _ _ _ _ _ _ hr hr'
    · exact absurd e (hn _ _ _ _ hr).2.2.2
    · exact absurd rfl (hn _ _ _ _ hr').2.2.2
    · exact ⟨rfl, rfl⟩
  · rintro b o c p b' o' c' p' (hr | ⟨rfl, rfl, rfl, ho⟩) (hr' | ⟨e1, e2, rfl, ho'⟩) ⟨e3, e4⟩
    · exact h.apart _ _ _ _ _ _ _ _ hr hr' ⟨e3, e4⟩
    · exact (hn _ _ _ _ hr).2.1 (e3.trans e2)
    · exact (hn _ _ _ _ hr').2.2.1 e3.symm
    · exact hne (e3.trans e2)

end Go.Proofs.Yteeiohhoccgafaa
