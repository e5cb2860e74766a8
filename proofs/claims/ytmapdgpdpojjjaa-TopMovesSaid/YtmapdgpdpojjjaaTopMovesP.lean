/-
  The walk of TopMoves, its small parts. No conditions.
-/
import Derived.Test.YtmapdgpdpojjjaaRingParts
import Derived.Test.YtmapdgpdpojjjaaByteRows
namespace Go.Proofs.Ytmapdgpdpojjjaa
open Go.RowKit

set_option maxRecDepth 100000 in
theorem awakeTop_any (w : World) : Calls Try.prog 5 #[] w (LawPost w) := by
  go_enter Try.func5, Try.ntmps5
  go_wp2_with fail
  refine (newBook_bad (-1) _ (by omega)).mono ?_
  rintro e w1 ⟨rfl, rfl⟩
  go_wp2_with fail
  go_ret
  exact ⟨rfl, Below.refl _ _⟩

theorem octL_first (cs : List Int) (h : 0 < cs.length) : octL cs 0 1 = cs.take 1 := by
  unfold octL
  have e : min (0 + 1) cs.length - 0 = 1 := by omega
  rw [e]
  simp

theorem putL_first (cs : List Int) (z : Int) (h : 0 < cs.length) : putL cs 0 [z] = cs.set 0 z := by
  unfold putL putD
  have e : min (0 + [z].length) cs.length - 0 = 1 := by simp; omega
  rw [e]
  cases cs with
  | nil => simp at h
  | cons c cs => simp [splice]

end Go.Proofs.Ytmapdgpdpojjjaa
