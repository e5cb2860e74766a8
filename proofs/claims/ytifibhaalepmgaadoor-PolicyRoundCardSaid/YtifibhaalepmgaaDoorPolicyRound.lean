/-
  PolicyRound: the row's own proof, over its walk. No conditions: every input.
-/
import Derived.Test.YtifibhaalepmgaaDoorPolicyRoundF
import Derived.Test.YtifibhaalepmgaaDoorPolicyRoundW
namespace Go.Proofs.YtifibhaalepmgaaDoor.policyRound

theorem proved : Rows.PolicyRoundCardSaid := provedOf policyRoundC
#print axioms proved
end Go.Proofs.YtifibhaalepmgaaDoor.policyRound
