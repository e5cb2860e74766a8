/-
  Contracts of the small tests: within, inRoom, inBudget. No conditions.
-/
import Derived.Test.YtclpkmplifcfjaaWatchSlicesPaa
namespace Go.Proofs.Ytclpkmplifcfjaa
open Go.RowKit

end Go.Proofs.Ytclpkmplifcfjaa
