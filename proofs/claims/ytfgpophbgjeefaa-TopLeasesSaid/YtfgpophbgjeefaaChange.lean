/-
  Change: what it gives. Conditions: numbers that are not too large.
-/
import Derived.Test.YtfgpophbgjeefaaHold
namespace Go.Proofs.Ytfgpophbgjeefaa
open Go.RowKit

theorem reads_two (w : World) (a b : Int) : Reads (w.alloc (.cells #[.int .i64 a, .int .i64 b] 3)) .i64 (.slice (some ⟨w.heap.size, 0, none⟩) 2 2) [a, b] := by
  have h := heap_alloc_new w (.cells #[.int .i64 a, .int .i64 b] 3)
  refine ⟨_, 2, rfl, by simp, fun _ => ⟨w.heap.size, 0, rfl, fun j hj => ?_⟩⟩
  rw [cell_of h]
  match j, hj with
  | 0, _ => rfl
  | 1, _ => rfl

def changeE (st : BookSt) (l h s fr to : Int) : Int := if h < fr then 5 else if min (l - (h + s)) (st.budget - st.total) < to - fr then 12 else 0
def changeSt (st : BookSt) (o l h s fr to : Int) : BookSt := if changeE st l h s fr to = 0 ∧ fr ≠ to then { heldSt st o l h s (to - fr) with entries := trimE (st.entries ++ [holdEnt o (to - fr)]) } else st
def ChangePost (F : Nat → Prop) (p : Nat) (st : BookSt) (o l h s fr to : Int) (N : Nat) (w : World) : Ending → World → Prop := fun e w' =>
  e = .returned (.int .i64 (changeE st l h s fr to)) ∧ BookAt w' (fun k => F k ∨ w.heap.size ≤ k) p (changeSt st o l h s fr to) N ∧ Touch F w w'

end Go.Proofs.Ytfgpophbgjeefaa
