/-
  GrowOf beside Grow: both are the functions growV and growE. No conditions.
-/
import Derived.Test.YtidfidknflcioaaTopPolicyPaj
namespace Go.Proofs.Ytidfidknflcioaa
open Go.RowKit

/-- What a policy gives for arguments that are right. -/
def gV (k s m room need : Int) : Int := if need ≤ room then room else if m < need then 0 else min (wishI k s room need) m
def gE (m room need : Int) : Int := if need ≤ room then 0 else if m < need then 12 else 0
/-- What Grow gives. -/
def growV (k s m room need : Int) : Int := if polErr k s m = 0 ∧ (0 ≤ room ∧ room ≤ 100000) ∧ (0 ≤ need ∧ need ≤ 100000) then gV k s m room need else 0
def growE (k s m room need : Int) : Int := if polErr k s m = 0 then (if (0 ≤ room ∧ room ≤ 100000) ∧ (0 ≤ need ∧ need ≤ 100000) then gE m room need else 2) else polErr k s m

theorem gE_cases (k s m room need : Int) : gE m room need = 0 ∨ (gE m room need = 12 ∧ gV k s m room need = 0) := by
  unfold gE gV
  by_cases h3 : need ≤ room
  · rw [if_pos h3]; exact Or.inl rfl
  · rw [if_neg h3, if_neg h3]
    by_cases h4 : m < need
    · rw [if_pos h4, if_pos h4]; exact Or.inr ⟨rfl, rfl⟩
    · rw [if_neg h4]; exact Or.inl rfl

theorem grow_valid (k s m room need : Int) (w : World) (h : polErr k s m = 0) (h1 : 0 ≤ room ∧ room ≤ 100000) (h2 : 0 ≤ need ∧ need ≤ 100000) :
    Calls Try.prog 79 #[.agg #[.int .i64 k, .int .i64 s, .int .i64 m], .int .i64 room, .int .i64 need] w (RetInt (gV k s m room need) (gE m room need) w) := by
  unfold gV gE
  by_cases h3 : need ≤ room
  · rw [if_pos h3, if_pos h3]; exact grow_has k s m room need w h h1 h2 h3
  · rw [if_neg h3, if_neg h3]
    by_cases h4 : m < need
    · rw [if_pos h4, if_pos h4]; exact grow_full k s m room need w h h1 h2 (by omega) h4
    · rw [if_neg h4, if_neg h4]; exact grow_new k s m room need w h h1 h2 (by omega) (by omega)

theorem grow_any (k s m room need : Int) (w : World) :
    Calls Try.prog 79 #[.agg #[.int .i64 k, .int .i64 s, .int .i64 m], .int .i64 room, .int .i64 need] w (RetInt (growV k s m room need) (growE k s m room need) w) := by
  unfold growV growE
  by_cases h : polErr k s m = 0
  · by_cases hr : (0 ≤ room ∧ room ≤ 100000) ∧ (0 ≤ need ∧ need ≤ 100000)
    · rw [if_pos ⟨h, hr⟩, if_pos h, if_pos hr]; exact grow_valid k s m room need w h hr.1 hr.2
    · rw [if_neg (fun x => hr x.2), if_pos h, if_neg hr]; exact grow_range k s m room need w h hr
  · rw [if_neg (fun x => h x.1), if_neg h]; exact grow_pol k s m room need w h

end Go.Proofs.Ytidfidknflcioaa
