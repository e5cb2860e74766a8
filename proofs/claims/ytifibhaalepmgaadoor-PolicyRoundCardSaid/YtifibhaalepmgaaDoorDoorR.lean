/-
  The witness's heap of PolicyRound's row: every listed variable laid. No conditions.
-/
import Derived.Test.YtifibhaalepmgaaDoorLaidOf
import Derived.Test.YtifibhaalepmgaaDoorTie
import Derived.Test.YtifibhaalepmgaaDoorCards
import Derived.Deep.DeepHandedRow
import Derived.LaidMore
import Derived.LaidHandle
import Derived.SevenTiedAt
import Derived.Lay
namespace Go.Proofs.YtifibhaalepmgaaDoor
open Go

noncomputable def roundWorld (os : Os) : World := World.laidAll Tryd.prog os Rows.policyRoundRow.laid

theorem roundWorld_os (os : Os) : (roundWorld os).os = os := World.laidAll_os _ _ _

theorem round_met (os : Os) (args : Array Value) : laidMetH Tryd.prog Rows.policyRoundRow.laid ((roundWorld os).forCall (fun _ _ => 0) ⟨#[], args, []⟩).memory :=
  laidMetH_of_parts3 (fuel := 8) (laidMet_laidAll args (by kernel_rfl) (by kernel_rfl)) (by kernel_rfl) (by kernel_rfl)

theorem round_shaped (os : Os) : ((roundWorld os).forCall (fun _ _ => 0) ⟨#[], #[.agg #[.int .i64 0, .int .i64 0, .int .i64 0]], []⟩).Shaped Tryd.prog :=
  World.shaped_of_RefB (by kernel_rfl) (by kernel_rfl)

end Go.Proofs.YtifibhaalepmgaaDoor
