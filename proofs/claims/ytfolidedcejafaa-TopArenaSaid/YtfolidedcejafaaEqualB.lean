/-
  slices.Equal at []byte. No conditions.
-/
import Derived.Test.YtfolidedcejafaaFair
namespace Go.Proofs.Ytfolidedcejafaa
open Go.RowKit

end Go.Proofs.Ytfolidedcejafaa
