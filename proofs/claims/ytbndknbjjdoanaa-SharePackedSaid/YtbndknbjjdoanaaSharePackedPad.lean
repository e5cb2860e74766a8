/-
  Fair and FairOf: what they give, for all arguments. No conditions.
-/
import Derived.Test.YtbndknbjjdoanaaSharePackedPac
import Derived.Test.YtbndknbjjdoanaaSharePackedPab
import Derived.Test.YtbndknbjjdoanaaSharePackedPaa
namespace Go.Proofs.Ytbndknbjjdoanaa
open Go.RowKit

/-- The elements of a slice that came in, for a walk: the address is known where there is an element. -/
theorem Reads.open {w : World} {k : IntKind} {v : Value} {zs : List Int} (h : Reads w k v zs) : ∃ a cap, v = .slice a zs.length cap ∧ zs.length ≤ 9223372036854775807 ∧
    ∀ j, j < zs.length → ∃ b o, a = some ⟨b, o, none⟩ ∧ w.cell? ⟨b, o + j, none⟩ = some (.int k (zs.getD j 0)) := by
  obtain ⟨a, cap, rfl, hl, hc⟩ := h
  refine ⟨a, cap, rfl, hl, fun j hj => ?_⟩
  obtain ⟨b, o, ha, hcell⟩ := hc (by intro e; subst e; simp at hj)
  exact ⟨b, o, ha, hcell j hj⟩

def SumPost (r : Int) (w : World) : Ending → World → Prop := fun e w' => e = .returned (.int .i64 r) ∧ w = w'

/-- A list of integers that came in, as the round of a loop reads it. -/
theorem old_cell {w wr : World} {b o : Nat} {v : Value} (hb : Below w.heap.size w wr) (h : w.cell? ⟨b, o, none⟩ = some v) : wr.cell? ⟨b, o, none⟩ = some v :=
  (hb.cell (p := ⟨b, o, none⟩) (World.block_lt_of_cell? w ⟨b, o, none⟩ h)).trans h

/-- A call that gives back a new list of integers and an error. -/
def RetRowB (err : Int) (zs : List Int) (w : World) : Ending → World → Prop := fun e w' =>
  ∃ v, e = .returned (.tuple #[v, .int .i64 err]) ∧ w'.ownsRow w.heap.size 3 1 v zs.length (zs.map (Value.int .i64)) ∧ Below w.heap.size w w'

end Go.Proofs.Ytbndknbjjdoanaa
