/-
  form, again, the leases and the entries that a book tells. No conditions but those of the book's own state.
-/
import Derived.Test.YtfgpophbgjeefaaLedgO
namespace Go.Proofs.Ytfgpophbgjeefaa
open Go.RowKit
set_option linter.unusedVariables false

def FormPost (b : Bool) (w : World) : Ending → World → Prop := fun e w' => e = .returned (.bool b) ∧ Below w.heap.size w w'

set_option maxHeartbeats 4000000 in
set_option maxRecDepth 100000 in
theorem form_any (e : Ent) (w : World) (hk : 1 ≤ e.kind ∧ e.kind ≤ 11) :
    Calls Try.prog 37 #[.agg #[.int .i64 e.kind, .int .i64 e.owner, .int .i64 e.other, .int .i64 e.amount, .int .i64 e.lease, .int .i64 e.untl]] w (FormPost (formE e) w) := by
  obtain ⟨k, o, t, a, l, u⟩ := e
  have h : k = 1 ∨ k = 2 ∨ k = 3 ∨ k = 4 ∨ k = 5 ∨ k = 6 ∨ k = 7 ∨ k = 8 ∨ k = 9 ∨ k = 10 ∨ k = 11 := by simp at hk; omega
  clear hk
  rcases h with rfl | rfl | rfl | rfl | rfl | rfl | rfl | rfl | rfl | rfl | rfl
  all_goals
    go_enter Try.func37, Try.ntmps37
    go_wp2_with fail
    all_goals
      go_ret
      exact ⟨ret_bool (by simp_all [formE, useOwner, useOther, useAmount, useLease, useUntl]), (Below.refl _ _).alloc (Nat.le_refl _) _⟩

def DoPost (err : Int) (F : Nat → Prop) (p : Nat) (st : BookSt) (N : Nat) (w : World) : Ending → World → Prop := OpPost err F p st N w

end Go.Proofs.Ytfgpophbgjeefaa
