/-
  The witness's heap of LedgerRound's row: every listed variable laid. No conditions.
-/
import Derived.Test.YtifibhaalepmgaaDoorLaidOf
import Derived.Test.YtifibhaalepmgaaDoorTie
import Derived.Test.YtifibhaalepmgaaDoorCards
import Derived.Deep.DeepHandedRow
import Derived.LaidMore
import Derived.LaidHandle
import Derived.SevenTiedAt
import Derived.Lay
namespace Go.Proofs.YtifibhaalepmgaaDoor
open Go

noncomputable def ledgerWorld (os : Os) : World := World.laidAll Tryd.prog os Rows.ledgerRoundRow.laid

theorem ledgerWorld_os (os : Os) : (ledgerWorld os).os = os := World.laidAll_os _ _ _

theorem ledger_met (os : Os) (args : Array Value) : laidMetH Tryd.prog Rows.ledgerRoundRow.laid ((ledgerWorld os).forCall (fun _ _ => 0) ⟨#[], args, []⟩).memory :=
  laidMetH_of_parts3 (fuel := 8) (laidMet_laidAll args (by kernel_rfl) (by kernel_rfl)) (by kernel_rfl) (by kernel_rfl)

theorem ledger_shaped (os : Os) : ((ledgerWorld os).forCall (fun _ _ => 0) ⟨#[], #[.slice none 0 0], []⟩).Shaped Tryd.prog :=
  World.shaped_of_RefB (by kernel_rfl) (by kernel_rfl)

end Go.Proofs.YtifibhaalepmgaaDoor
