/-
  The heap that the program's own initialisers leave: the witness's. No conditions.
-/
import Derived.Test.YtifibhaalepmgaaDoorLaidOf
import Derived.Test.YtifibhaalepmgaaDoorTie
import Derived.Test.YtifibhaalepmgaaDoorCards
import Derived.Deep.DeepHandedRow
import Derived.LaidMore
import Derived.LaidHandle
import Derived.SevenTiedAt
namespace Go.Proofs.YtifibhaalepmgaaDoor
open Go

noncomputable def doorWorld (os : Os) : World := World.doorLaid Tryd.prog 106 os

end Go.Proofs.YtifibhaalepmgaaDoor
