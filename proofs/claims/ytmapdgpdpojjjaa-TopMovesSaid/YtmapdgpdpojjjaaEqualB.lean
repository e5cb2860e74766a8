/-
  slices.Equal at []byte. No conditions.
-/
import Derived.Test.YtmapdgpdpojjjaaFair
namespace Go.Proofs.Ytmapdgpdpojjjaa
open Go.RowKit

end Go.Proofs.Ytmapdgpdpojjjaa
