/-
  The witness's heap of LedgerReads' row: every listed variable laid. No conditions.
-/
import Derived.Test.YtifibhaalepmgaaDoorLaidOf
import Derived.Test.YtifibhaalepmgaaDoorTie
import Derived.Test.YtifibhaalepmgaaDoorCards
import Derived.Deep.DeepHandedRow
import Derived.LaidMore
import Derived.LaidHandle
import Derived.SevenTiedAt
import Derived.Lay
namespace Go.Proofs.YtifibhaalepmgaaDoor
open Go

noncomputable def lreadsWorld (os : Os) : World := World.laidAll Tryd.prog os Rows.ledgerReadsRow.laid

theorem lreadsWorld_os (os : Os) : (lreadsWorld os).os = os := World.laidAll_os _ _ _

theorem lreads_met (os : Os) (args : Array Value) : laidMetH Tryd.prog Rows.ledgerReadsRow.laid ((lreadsWorld os).forCall (fun _ _ => 0) ⟨#[], args, []⟩).memory :=
  laidMetH_of_parts3 (fuel := 8) (laidMet_laidAll args (by kernel_rfl) (by kernel_rfl)) (by kernel_rfl) (by kernel_rfl)

theorem lreads_shaped (os : Os) : ((lreadsWorld os).forCall (fun _ _ => 0) ⟨#[], #[.string ByteArray.empty], []⟩).Shaped Tryd.prog :=
  World.shaped_of_RefB (by kernel_rfl) (by kernel_rfl)

end Go.Proofs.YtifibhaalepmgaaDoor
