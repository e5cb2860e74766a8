/-
  What the list of RoomReads' row gives the walks of the readers. No conditions.
-/
import Derived.Test.YtifibhaalepmgaaDoorLibOf
import Derived.Test.YtifibhaalepmgaaDoorReadOf
namespace Go.Proofs.YtifibhaalepmgaaDoor
open Go Go.RowKit Go.ChangeShapes Go.WideShapes Go.ChangeAt
set_option linter.unusedVariables false

theorem laid_reads {W : World} (h0 : laidMetH Tryd.prog Rows.roomReadsRow.laid W) : LibBut W ∧ WordsAt 0 polXs W := by
  have h : laidMet Tryd.prog Rows.roomReadsRow.laid W := by
    rw [← MakeChecks.laidMetH_plain _ _ _ (by kernel_rfl)]; exact h0
  exact ⟨⟨tabs_of h.tail.tail h.tail.tail.tail.tail.tail.tail.tail, sent (g := 6) h.tail.tail.tail.tail.tail (by kernel_rfl) (by kernel_rfl), sent (g := 7) h.tail.tail.tail.tail (by kernel_rfl) (by kernel_rfl)⟩,
    words_of (by kernel_rfl) (by decide) (by kernel_rfl) (by kernel_rfl) h.tail.tail.tail.tail.tail.tail.tail.tail⟩

end Go.Proofs.YtifibhaalepmgaaDoor
