/-
  RoomPieces: Pieces and PiecesOf give one list and one error, for all arguments. No conditions.
-/
import Derived.Test.YtifibhaalepmgaaDoorSmall
import Derived.Test.YtifibhaalepmgaaDoorFrame
namespace Go.Proofs.YtifibhaalepmgaaDoor
open Go.RowKit

/-- The sizes of the first k pieces, when n octets are divided into M. -/
def pcs (n M : Int) (k : Nat) : List Int := (List.range k).map fun (i : Nat) => n / M + if (i : Int) < n % M then 1 else 0

theorem pcs_len (n M : Int) (k : Nat) : (pcs n M k).length = k := by simp [pcs]
theorem pcs_succ_lt (n M : Int) (k : Nat) (h : (k : Int) < n % M) : pcs n M (k + 1) = pcs n M k ++ [n / M + 1] := by
  simp [pcs, List.range_succ, h]
theorem pcs_succ_ge (n M : Int) (k : Nat) (h : n % M ≤ (k : Int)) : pcs n M (k + 1) = pcs n M k ++ [n / M] := by
  have h' : ¬ (k : Int) < n % M := by omega
  simp [pcs, List.range_succ, h']

/-- A call that gives back a new list of integers and an error. -/
def RetRow (err : Int) (zs : List Int) (w : World) : Ending → World → Prop := fun e w' =>
  ∃ v, e = .returned (.tuple #[v, .int .i64 err]) ∧ w'.ownsRow w.heap.size 3 1 v zs.length (zs.map (Value.int .i64)) ∧ Below w.heap.size w w'

theorem div_bd (n M : Int) (h1 : 0 ≤ n) (h2 : n ≤ 100000) (h3 : 1 ≤ M) : 0 ≤ n / M ∧ n / M ≤ 100000 := by
  refine ⟨Int.ediv_nonneg h1 (by omega), ?_⟩
  have := Int.ediv_le_self M h1
  omega
theorem many_bd (n most : Int) (h1 : 0 ≤ n) (h2 : n ≤ 100000) (h3 : 1 ≤ most) (h4 : most ≤ 100000) : 0 ≤ (n + most - 1) / most ∧ (n + most - 1) / most ≤ 200000 := by
  refine ⟨Int.ediv_nonneg (by omega) (by omega), ?_⟩
  have := Int.ediv_le_self most (a := n + most - 1) (by omega)
  omega

end Go.Proofs.YtifibhaalepmgaaDoor
