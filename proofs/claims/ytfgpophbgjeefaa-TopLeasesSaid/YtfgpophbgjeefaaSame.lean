/-
  Same, Mod: what they give. No conditions.
-/
import Derived.Test.YtfgpophbgjeefaaTwins
import Derived.Deep.QuietTactic
import Derived.BigQuiet
namespace Go.Proofs.Ytfgpophbgjeefaa
open Go.RowKit

def SamePost (w : World) : Ending → World → Prop := fun e w' => e = .returned (.bool true) ∧ ∃ q, w' = w.drewN q

theorem quiet_at {P : Program} {f : FuncId} {args : Array Value} {w : World} {q n : Nat} {v : Value}
    (h : Calls P f args (w.drewN (q + n)) fun e w' => e = .returned v ∧ ∃ m, w' = (w.drewN (q + n)).drewN m) : Calls P f args (w.drewN (q + n)) fun e w'' => e = .returned v ∧ ∃ m, w'' = w.drewN (q + m) :=
  h.mono fun _ _ ⟨he, m, hm⟩ => ⟨he, n + m, by rw [hm, World.drewN_drewN, Nat.add_assoc]⟩

end Go.Proofs.Ytfgpophbgjeefaa
