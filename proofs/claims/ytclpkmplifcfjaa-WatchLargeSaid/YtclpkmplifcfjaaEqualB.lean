/-
  slices.Equal at []byte. No conditions.
-/
import Derived.Test.YtclpkmplifcfjaaFair
namespace Go.Proofs.Ytclpkmplifcfjaa
open Go.RowKit

end Go.Proofs.Ytclpkmplifcfjaa
