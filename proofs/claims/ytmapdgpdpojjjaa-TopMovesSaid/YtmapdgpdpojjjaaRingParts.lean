/-
  Parts of a ring: what it gives. Conditions: numbers in their bounds.
-/
import Derived.Test.YtmapdgpdpojjjaaRingNew
namespace Go.Proofs.Ytmapdgpdpojjjaa
open Go.RowKit

def PartsPost (g : Option Nat) (st len R : Nat) (w : World) : Ending → World → Prop := fun e w' =>
  ∃ f1 f2, e = .returned (.tuple #[.slice f1 (min (st + len) R - st) (min (st + len) R - st), .slice f2 (len - (min (st + len) R - st)) (len - (min (st + len) R - st)), .int .i64 0]) ∧
    (∀ b, g = some b → (st < min (st + len) R → f1 = some ⟨b, st, none⟩) ∧ (0 < len - (min (st + len) R - st) → f2 = some ⟨b, 0, none⟩)) ∧ Below w.heap.size w w'

set_option maxHeartbeats 1000000 in
set_option maxRecDepth 100000 in
theorem parts_any (r bp : Nat) (o k s m : Int) (g : Option Nat) (R : Nat) (cs : List Int) (st len : Nat) (w : World) (h : ringAt w r bp o k s m (memOf g R) st len) (hm : memRow w g R cs) (hR : R ≤ 1000000) (hst : st ≤ R) (hl : len ≤ R) :
    Calls Try.prog 10 #[.pointer (some ⟨r, 0, none⟩)] w (PartsPost g st len R w) := by
  have c5 : w.cell? ⟨r, 5, none⟩ = some (.bool false) := by rw [cell_of h]; rfl
  have c7 : w.cell? ⟨r, 7, none⟩ = some (.int .i64 st) := by rw [cell_of h]; rfl
  have c8 : w.cell? ⟨r, 8, none⟩ = some (.int .i64 len) := by rw [cell_of h]; rfl
  have HC := Lib.hid (cells_any r bp o k s m g R st len st len w.drew h hR hm.nil hst hl)
  clear h hm
  go_enter Try.func10, Try.ntmps10
  go_wp2_with fail
  go_region_with ((go_at_call 28; refine HC.out.mono ?_; rintro e w1 ⟨f1, f2, rfl, hf, q, rfl⟩; have HFF := Lib.hid hf; clear hf))
  all_goals
    go_wp2_with fail
    go_ret3
    exact ⟨f1, f2, rfl, HFF.out, bdrewN (Below.refl _ _) _⟩

end Go.Proofs.Ytmapdgpdpojjjaa
