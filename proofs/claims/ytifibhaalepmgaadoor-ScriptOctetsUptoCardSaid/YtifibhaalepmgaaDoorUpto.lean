/-
  What the bound of the second form gives of an argument. No conditions.
-/
import Derived.Test.YtifibhaalepmgaaDoorRows
import Derived.Test.YtifibhaalepmgaaDoorFrame
import Derived.Deep.CondSized
import Derived.JoinedCond
namespace Go.Proofs.YtifibhaalepmgaaDoor
open Go.ChangeShapes Go.WideShapes Go.ChangeAt Go.RowKit

theorem one_le {H : Type} (d : DataW H) : 1 ≤ Rows.uptoBulk d := by
  cases d with
  | lit l => cases l <;> simp [Rows.uptoBulk]
  | _ => simp [Rows.uptoBulk]
theorem part_le {H : Type} {d : DataW H} {l : List (DataW H)} (h : d ∈ l) : Rows.uptoBulk d ≤ Rows.uptoBulkAll l := by
  induction l with
  | nil => cases h
  | cons x r ih =>
    simp only [Rows.uptoBulkAll]
    cases List.mem_cons.1 h with
    | inl e => subst e; omega
    | inr e => have := ih e; omega
theorem length_le {H : Type} (l : List (DataW H)) : l.length ≤ Rows.uptoBulkAll l := by
  induction l with
  | nil => simp [Rows.uptoBulkAll]
  | cons x r ih => have := one_le x; simp only [Rows.uptoBulkAll, List.length_cons]; omega
theorem upto_bound {H : Type} {l : List (DataW H)} (hk : Rows.uptoSmall H l = true) : Rows.uptoBulkAll l ≤ 1048576 := of_decide_eq_true hk

theorem row_bulk {H : Type} {enc : TypeId × Value → H} {P : Program} {W : World} {t e : TypeId} {k : IntKind} {base : Nat} {v : Value} {d : DataW H} {p : List MemPlace} {zs : List Int} (ht : P.underlying t = some (.slice e)) (he : P.underlying e = some (.int k)) (hc : P.cellsOf e = 1)
    (_ : Value.okWide P W .any base t v) (h : DataW.Trod enc P W 0 (fun _ => true) true t v d p) (hr : Reads W k v zs) : zs.length ≤ Rows.uptoBulk d := by
  obtain ⟨a, cap, rfl, _, _⟩ := hr
  obtain ⟨fuel, hf⟩ := h
  rcases open_ints ht he hc hf with ⟨hcs, _⟩ | ⟨x, l, c, ys, hcs, _, hl, hm, hz, hx, _, _⟩
  · simp [Value.cells] at hcs
    rw [hcs.2.1]
    simp
  · simp [Value.cells] at hcs
    obtain ⟨rfl, rfl, rfl⟩ := hcs
    have hz' : ys.length = cap := by simpa using hz
    have hd : d = .slice (lits k (ys.take zs.length)) (lits k (ys.drop zs.length)) := by
      have := congrArg Prod.fst hx
      simpa using this
    rw [hd]
    have h1 := length_le (lits k (ys.take zs.length) : List (DataW H))
    have h2 : (lits k (ys.take zs.length) : List (DataW H)).length = zs.length := by simp [lits]; omega
    simp only [Rows.uptoBulk]
    omega

end Go.Proofs.YtifibhaalepmgaaDoor
