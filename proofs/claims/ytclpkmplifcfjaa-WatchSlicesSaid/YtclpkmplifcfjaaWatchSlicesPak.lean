/-
  slices.Equal at []byte. No conditions.
-/
import Derived.Test.YtclpkmplifcfjaaWatchSlicesPah
namespace Go.Proofs.Ytclpkmplifcfjaa
open Go.RowKit

end Go.Proofs.Ytclpkmplifcfjaa
