/-
  What the list of LedgerRound's row gives the walks of the readers. No conditions.
-/
import Derived.Test.YtifibhaalepmgaaDoorLibOf
namespace Go.Proofs.YtifibhaalepmgaaDoor
open Go Go.RowKit Go.ChangeShapes Go.WideShapes Go.ChangeAt
set_option linter.unusedVariables false

theorem laid_ledger {W : World} (h0 : laidMetH Tryd.prog Rows.ledgerRoundRow.laid W) : LibBut W := by
  have h : laidMet Tryd.prog Rows.ledgerRoundRow.laid W := by
    rw [← MakeChecks.laidMetH_plain _ _ _ (by kernel_rfl)]; exact h0
  exact ⟨tabs_of h.tail.tail h.tail.tail.tail.tail.tail.tail.tail, sent (g := 6) h.tail.tail.tail.tail.tail (by kernel_rfl) (by kernel_rfl), sent (g := 7) h.tail.tail.tail.tail (by kernel_rfl) (by kernel_rfl)⟩

end Go.Proofs.YtifibhaalepmgaaDoor
