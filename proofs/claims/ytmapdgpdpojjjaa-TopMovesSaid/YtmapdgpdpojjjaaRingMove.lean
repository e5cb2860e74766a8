/-
  wants, move, Reserve of a ring: what they give. Conditions: numbers in their bounds.
-/
import Derived.Test.YtmapdgpdpojjjaaRingPut
import Derived.Deep.RegionWith
namespace Go.Proofs.Ytmapdgpdpojjjaa
open Go.RowKit

def wantsV (k s m : Int) (R : Nat) (len n : Int) : Int := if 100000 - len < n then 0 else growV k s m R (len + n)
def wantsE (k s m : Int) (R : Nat) (len n : Int) : Int := if 100000 - len < n then 4 else growE k s m R (len + n)

set_option maxHeartbeats 2000000 in
set_option maxRecDepth 100000 in
theorem wants_any (r bp : Nat) (o k s m : Int) (g : Option Nat) (R : Nat) (st len n : Int) (w : World) (h : ringAt w r bp o k s m (memOf g R) st len) (_ : R ≤ 1000000) (h1 : 0 ≤ len ∧ len ≤ 100000) (h2 : 0 ≤ n ∧ n ≤ 200000000000000) :
    Calls Try.prog 40 #[.pointer (some ⟨r, 0, none⟩), .int .i64 n] w (RetInt (wantsV k s m R len n) (wantsE k s m R len n) w) := by
  obtain ⟨a, ha, _, _⟩ := memOf_sh g R
  have c2 : w.cell? ⟨r, 2, none⟩ = some (.int .i64 k) := by rw [cell_of h]; rfl
  have c3 : w.cell? ⟨r, 3, none⟩ = some (.int .i64 s) := by rw [cell_of h]; rfl
  have c4 : w.cell? ⟨r, 4, none⟩ = some (.int .i64 m) := by rw [cell_of h]; rfl
  have c5 : w.cell? ⟨r, 5, none⟩ = some (.bool false) := by rw [cell_of h]; rfl
  have c6 : w.cell? ⟨r, 6, none⟩ = some (.slice a R R) := by rw [cell_of h]; rw [← ha]; rfl
  have c8 : w.cell? ⟨r, 8, none⟩ = some (.int .i64 len) := by rw [cell_of h]; rfl
  obtain ⟨h1a, h1b⟩ := h1
  obtain ⟨h2a, h2b⟩ := h2
  clear h ha
  by_cases e1 : 100000 - len < n
  · have E1 := Lib.hid (show wantsV k s m R len n = 0 by unfold wantsV; rw [if_pos e1])
    have E2 := Lib.hid (show wantsE k s m R len n = 4 by unfold wantsE; rw [if_pos e1])
    rw [E1.out, E2.out]
    go_enter Try.func40, Try.ntmps40
    go_wp2_with fail
    go_ret2
    exact ⟨rfl, Below.refl _ _⟩
  · have E1 := Lib.hid (show wantsV k s m R len n = growV k s m R (len + n) by unfold wantsV; rw [if_neg e1])
    have E2 := Lib.hid (show wantsE k s m R len n = growE k s m R (len + n) by unfold wantsE; rw [if_neg e1])
    rw [E1.out, E2.out]
    go_enter Try.func40, Try.ntmps40
    go_wp2_with fail
    have SUM : IntKind.i64.wrap (len + n) = len + n := by rw [IntKind.wrap_i64]; omega
    go_region_with ((go_at_call 20; refine (grow_any k s m R (len + n) _).mono ?_; rintro e w1 ⟨rfl, hb⟩; have HBG := Lib.hid hb; clear hb))
    all_goals
      go_wp2_with fail
      go_ret2
      exact ⟨rfl, (show Below w.heap.size w w.drew from (Below.refl _ _).drew).trans HBG.out⟩

end Go.Proofs.Ytmapdgpdpojjjaa
