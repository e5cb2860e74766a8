/-
  Contracts of the small tests: within, inRoom, inBudget. No conditions.
-/
import Derived.Test.YtclpkmplifcfjaaBase
namespace Go.Proofs.Ytclpkmplifcfjaa
open Go.RowKit

end Go.Proofs.Ytclpkmplifcfjaa
