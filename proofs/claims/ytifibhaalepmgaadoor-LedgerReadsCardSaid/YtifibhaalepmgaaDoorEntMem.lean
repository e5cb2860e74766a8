/-
  Entries in memory. No conditions.
-/
import Derived.Test.YtifibhaalepmgaaDoorEnts
import Derived.Test.YtifibhaalepmgaaDoorTouch
import Derived.Test.YtifibhaalepmgaaDoorFrame
namespace Go.Proofs.YtifibhaalepmgaaDoor
open Go.RowKit
set_option linter.unusedVariables false

/-- An entry's six cells. -/
def cells6 (w : World) (b x : Nat) (e : En) : Prop :=
  w.cell? ⟨b, x, none⟩ = some (.int .i64 e.k) ∧ w.cell? ⟨b, x + 1, none⟩ = some (.int .i64 e.o) ∧ w.cell? ⟨b, x + 2, none⟩ = some (.int .i64 e.p) ∧ w.cell? ⟨b, x + 3, none⟩ = some (.int .i64 e.a) ∧ w.cell? ⟨b, x + 4, none⟩ = some (.int .i64 e.l) ∧ w.cell? ⟨b, x + 5, none⟩ = some (.int .i64 e.u)
/-- A slice of entries. -/
def EnsIn (w : World) (v : Value) (L : List En) : Prop :=
  ∃ a cap, v = .slice a L.length cap ∧ L.length ≤ 9223372036854775807 ∧ ∀ k, k < L.length → ∃ b o, a = some ⟨b, o, none⟩ ∧ cells6 w b (o + k * 6) (L.getD k En.zero)

theorem EnsIn.nil (w : World) : EnsIn w (.slice none 0 0) [] := ⟨none, 0, rfl, by simp, fun k h => by simp at h⟩
theorem cells6.below {w w' : World} {b x : Nat} {e : En} (h : cells6 w b x e) (hb : Below w.heap.size w w') : cells6 w' b x e := by
  obtain ⟨h0, h1, h2, h3, h4, h5⟩ := h
  have hlt := World.block_lt_of_cell? w _ h0
  have f : ∀ j, w'.cell? ⟨b, j, none⟩ = w.cell? ⟨b, j, none⟩ := fun j => hb.cell (p := ⟨b, j, none⟩) hlt
  exact ⟨(f _).trans h0, (f _).trans h1, (f _).trans h2, (f _).trans h3, (f _).trans h4, (f _).trans h5⟩
theorem EnsIn.below {w w' : World} {v : Value} {L : List En} (h : EnsIn w v L) (hb : Below w.heap.size w w') : EnsIn w' v L := by
  obtain ⟨a, cap, rfl, hl, hc⟩ := h
  refine ⟨a, cap, rfl, hl, fun k hk => ?_⟩
  obtain ⟨b, o, ha, hcell⟩ := hc k hk
  exact ⟨b, o, ha, hcell.below hb⟩

def ensCells (L : List En) : List Value := L.flatMap En.cells
theorem ensCells_len : ∀ L : List En, (ensCells L).length = L.length * 6
  | [] => rfl
  | e :: r => by
    have := ensCells_len r
    simp only [ensCells, List.flatMap_cons, List.length_append, List.length_cons] at this ⊢
    rw [this]
    have : e.cells.length = 6 := rfl
    omega
theorem ensCells_at : ∀ (L : List En) (k j : Nat), k < L.length → j < 6 → (ensCells L)[k * 6 + j]? = some ((L.getD k En.zero).cells.getD j (.int .i64 0))
  | [], k, _, h, _ => by simp at h
  | e :: r, 0, j, _, hj => by
    have e6 : e.cells.length = 6 := rfl
    simp only [ensCells, List.flatMap_cons, Nat.zero_mul, Nat.zero_add]
    rw [List.getElem?_append_left (by omega)]
    rcases (show j = 0 ∨ j = 1 ∨ j = 2 ∨ j = 3 ∨ j = 4 ∨ j = 5 by omega) with rfl | rfl | rfl | rfl | rfl | rfl <;> rfl
  | e :: r, k + 1, j, hk, hj => by
    have e6 : e.cells.length = 6 := rfl
    simp only [ensCells, List.flatMap_cons]
    rw [List.getElem?_append_right (by omega), show (k + 1) * 6 + j - e.cells.length = k * 6 + j by omega]
    have := ensCells_at r k j (by simpa using hk) hj
    simpa [ensCells] using this

theorem EnsIn.own {w : World} {base : Nat} {e : TypeId} {v : Value} {L : List En} (h : w.ownsRow base e 6 v L.length (ensCells L)) (hl : L.length ≤ 9223372036854775807) : EnsIn w v L := by
  rcases h.2 with ⟨rfl, h0⟩ | ⟨g, cap, cur, rfl, hb, hg, hn, hc, hs, ht⟩
  · have : L = [] := by cases L with | nil => rfl | cons x l => simp at h0
    subst this
    exact EnsIn.nil w
  · refine ⟨some ⟨g, 0, none⟩, cap, rfl, hl, fun k hk => ⟨g, 0, rfl, ?_⟩⟩
    have f : ∀ j, j < 6 → w.cell? ⟨g, 0 + k * 6 + j, none⟩ = some ((L.getD k En.zero).cells.getD j (.int .i64 0)) := fun j hj => by
      have hx := ensCells_at L k j hk hj
      have := h.cells (g := g) rfl (k * 6 + j) _ hx
      have ea : (⟨g, 0, none⟩ : Addr).add (k * 6 + j) = ⟨g, 0 + k * 6 + j, none⟩ := by unfold Addr.add; split <;> simp_all
      rwa [ea] at this
    exact ⟨f 0 (by omega), f 1 (by omega), f 2 (by omega), f 3 (by omega), f 4 (by omega), f 5 (by omega)⟩

/-- Two blocks made one after the other. -/
theorem tower2 (w : World) (o1 o2 : Obj) : ((w.alloc o1).alloc o2).heap[w.heap.size]? = some o1 ∧ ((w.alloc o1).alloc o2).heap[w.heap.size + 1]? = some o2 ∧ (∀ k, k < w.heap.size → ((w.alloc o1).alloc o2).heap[k]? = w.heap[k]?) ∧
    w.heap.size + 2 ≤ ((w.alloc o1).alloc o2).heap.size ∧ (∀ {b : Nat} {w0 : World}, Below b w0 w → b ≤ w.heap.size → Below b w0 ((w.alloc o1).alloc o2)) := by
  have h1 := heap_alloc_new w o1
  have h2 := heap_alloc_new (w.alloc o1) o2
  rw [World.size_alloc] at h2
  exact ⟨(heap_alloc_old _ _ (by simp)).trans h1, h2, fun k hk => (heap_alloc_old _ _ (by simp; omega)).trans (heap_alloc_old _ _ hk), by simp, fun hb hle => (hb.alloc hle _).alloc (by simp; omega) _⟩

/- The errors, from a place on. -/
theorem ensErr_step (L : List En) (k : Nat) (h : k < L.length) : ensErr (L.drop k) = if enErr (L.getD k En.zero) = 0 then ensErr (L.drop (k + 1)) else enErr (L.getD k En.zero) := by
  rw [List.drop_eq_getElem_cons h, List.getD_eq_getElem?_getD, List.getElem?_eq_getElem h]
  rfl
theorem numsErr_step (l : List Int) (k : Nat) (h : k < l.length) : numsErr (l.drop k) = if inB (l.getD k 0) then numsErr (l.drop (k + 1)) else 2 := by
  rw [List.drop_eq_getElem_cons h, List.getD_eq_getElem?_getD, List.getElem?_eq_getElem h]
  rfl

end Go.Proofs.YtifibhaalepmgaaDoor
