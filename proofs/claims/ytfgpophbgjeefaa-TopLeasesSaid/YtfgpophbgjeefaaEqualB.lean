/-
  slices.Equal at []byte. No conditions.
-/
import Derived.Test.YtfgpophbgjeefaaFair
namespace Go.Proofs.Ytfgpophbgjeefaa
open Go.RowKit

end Go.Proofs.Ytfgpophbgjeefaa
