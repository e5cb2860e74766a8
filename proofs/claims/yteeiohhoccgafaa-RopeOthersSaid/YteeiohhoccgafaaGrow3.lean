/-
  GrowOf beside Grow: both are the functions growV and growE. No conditions.
-/
import Derived.Test.YteeiohhoccgafaaGrow2
namespace Go.Proofs.Yteeiohhoccgafaa
open Go.RowKit

/-- What a policy gives for arguments that are right. -/
def gV (k s m room need : Int) : Int := if need ≤ room then room else if m < need then 0 else min (wishI k s room need) m
def gE (m room need : Int) : Int := if need ≤ room then 0 else if m < need then 12 else 0
/-- What Grow gives. -/
def growV (k s m room need : Int) : Int := if polErr k s m = 0 ∧ (0 ≤ room ∧ room ≤ 100000) ∧ (0 ≤ need ∧ need ≤ 100000) then gV k s m room need else 0
def growE (k s m room need : Int) : Int := if polErr k s m = 0 then (if (0 ≤ room ∧ room ≤ 100000) ∧ (0 ≤ need ∧ need ≤ 100000) then gE m room need else 2) else polErr k s m

theorem gE_cases (k s m room need : Int) : gE m room need = 0 ∨ (gE m room need = 12 ∧ gV k s m room need = 0) := by
  unfold gE gV
  by_cases h3 : need ≤ room
  · rw [if_pos h3]; exact Or.inl rfl
  · rw [if_neg h3, if_neg h3]
    by_cases h4 : m < need
    · rw [if_pos h4, if_pos h4]; exact Or.inr ⟨rfl, rfl⟩
    · rw [if_neg h4]; exact Or.inl rfl

theorem grow_valid (k s m room need : Int) (w : World) (h : polErr k s m = 0) (h1 : 0 ≤ room ∧ room ≤ 100000) (h2 : 0 ≤ need ∧ need ≤ 100000) :
    Calls Try.prog 40 #[.agg #[.int .i64 k, .int .i64 s, .int .i64 m], .int .i64 room, .int .i64 need] w (RetInt (gV k s m room need) (gE m room need) w) := by
  unfold gV gE
  by_cases h3 : need ≤ room
  · rw [if_pos h3, if_pos h3]; exact grow_has k s m room need w h h1 h2 h3
  · rw [if_neg h3, if_neg h3]
    by_cases h4 : m < need
    · rw [if_pos h4, if_pos h4]; exact grow_full k s m room need w h h1 h2 (by omega) h4
    · rw [if_neg h4, if_neg h4]; exact grow_new k s m room need w h h1 h2 (by omega) (by omega)

theorem grown_valid (k s m room need : Int) (w : World) (h : polErr k s m = 0) (h1 : 0 ≤ room ∧ room ≤ 100000) (h2 : 0 ≤ need ∧ need ≤ 100000) :
    Calls Try.prog 71 #[.agg #[.int .i64 k, .int .i64 s, .int .i64 m], .int .i64 room, .int .i64 need] w (GPost (gV k s m room need) (gE m room need == 0) w) := by
  unfold gV gE
  obtain ⟨p1, p2, p3⟩ := polOk_of h
  by_cases h3 : need ≤ room
  · rw [if_pos h3, if_pos h3]; exact grown_has k s m room need w h3
  · rw [if_neg h3, if_neg h3]
    by_cases h4 : m < need
    · rw [if_pos h4, if_pos h4]; exact grown_full k s m room need w (by omega) h4
    · rw [if_neg h4, if_neg h4]; exact grown_new k s m room need w p1 p2 p3 h1 h2 (by omega) (by omega)

theorem grow_any (k s m room need : Int) (w : World) :
    Calls Try.prog 40 #[.agg #[.int .i64 k, .int .i64 s, .int .i64 m], .int .i64 room, .int .i64 need] w (RetInt (growV k s m room need) (growE k s m room need) w) := by
  unfold growV growE
  by_cases h : polErr k s m = 0
  · by_cases hr : (0 ≤ room ∧ room ≤ 100000) ∧ (0 ≤ need ∧ need ≤ 100000)
    · rw [if_pos ⟨h, hr⟩, if_pos h, if_pos hr]; exact grow_valid k s m room need w h hr.1 hr.2
    · rw [if_neg (fun x => hr x.2), if_pos h, if_neg hr]; exact grow_range k s m room need w h hr
  · rw [if_neg (fun x => h x.1), if_neg h]; exact grow_pol k s m room need w h

set_option maxHeartbeats 1000000 in
theorem growOf_pol (k s m room need : Int) (w : World) (h : polErr k s m ≠ 0) :
    Calls Try.prog 41 #[.agg #[.int .i64 k, .int .i64 s, .int .i64 m], .int .i64 room, .int .i64 need] w (RetInt 0 (polErr k s m) w) := by
  have hb : (polErr k s m != 0) = true := bne_iff_ne.2 h
  have C := policyFault_any k s m
  generalize polErr k s m = err at *
  go_enter Try.func41, Try.ntmps41
  go_wp2_with fail
  refine (C _).mono ?_
  rintro e w1 ⟨rfl, rfl, _⟩
  go_wp2_with fail
  go_ret2
  exact ⟨rfl, by go_grown⟩

set_option maxHeartbeats 1000000 in
theorem growOf_range (k s m room need : Int) (w : World) (h : polErr k s m = 0) (hr : ¬ ((0 ≤ room ∧ room ≤ 100000) ∧ (0 ≤ need ∧ need ≤ 100000))) :
    Calls Try.prog 41 #[.agg #[.int .i64 k, .int .i64 s, .int .i64 m], .int .i64 room, .int .i64 need] w (RetInt 0 2 w) := by
  have C := policyFault_any k s m
  rw [h] at C
  clear h
  by_cases h1 : 0 ≤ room ∧ room ≤ 100000
  · have h2 : ¬ (0 ≤ need ∧ need ≤ 100000) := fun h => hr ⟨h1, h⟩
    have H2 := Lib.hid h2
    obtain ⟨ha, hb⟩ := h1
    clear hr h2
    go_enter Try.func41, Try.ntmps41
    go_wp2_with fail
    refine (C _).mono ?_
    rintro e w1 ⟨rfl, rfl, _⟩
    go_wp2_with fail
    refine (inRoom_yes _ _ ha hb).mono ?_
    rintro e w1 ⟨rfl, rfl⟩
    go_wp2_with fail
    refine (inRoom_no _ _ H2.out).mono ?_
    rintro e w1 ⟨rfl, rfl⟩
    go_wp2_with fail
    go_ret2
    exact ⟨rfl, by go_grown⟩
  · have H1 := Lib.hid h1
    clear hr h1
    go_enter Try.func41, Try.ntmps41
    go_wp2_with fail
    refine (C _).mono ?_
    rintro e w1 ⟨rfl, rfl, _⟩
    go_wp2_with fail
    refine (inRoom_no _ _ H1.out).mono ?_
    rintro e w1 ⟨rfl, rfl⟩
    go_wp2_with fail
    go_ret2
    exact ⟨rfl, by go_grown⟩

set_option maxHeartbeats 1000000 in
theorem growOf_valid (k s m room need : Int) (w : World) (h : polErr k s m = 0) (h1 : 0 ≤ room ∧ room ≤ 100000) (h2 : 0 ≤ need ∧ need ≤ 100000) :
    Calls Try.prog 41 #[.agg #[.int .i64 k, .int .i64 s, .int .i64 m], .int .i64 room, .int .i64 need] w (RetInt (gV k s m room need) (gE m room need) w) := by
  have C := policyFault_any k s m
  have G0 := fun w => grown_valid k s m room need w h h1 h2
  rw [h] at C
  have G := Lib.hid G0
  clear h G0
  obtain ⟨ha, hb⟩ := h1
  obtain ⟨hc, hd⟩ := h2
  rcases (show (gE m room need = 0) ∨ (gE m room need = 12 ∧ gV k s m room need = 0) from gE_cases k s m room need) with he | ⟨he, hv⟩
  · rw [he] at G ⊢
    generalize gV k s m room need = g at *
    clear he
    go_enter Try.func41, Try.ntmps41
    go_wp2_with fail
    refine (C _).mono ?_
    rintro e w1 ⟨rfl, rfl, _⟩
    go_wp2_with fail
    refine (inRoom_yes _ _ ha hb).mono ?_
    rintro e w1 ⟨rfl, rfl⟩
    go_wp2_with fail
    refine (inRoom_yes _ _ hc hd).mono ?_
    rintro e w1 ⟨rfl, rfl⟩
    go_wp2_with fail
    refine (G.out _).mono ?_
    rintro e w2 ⟨rfl, hb1⟩
    go_wp2_with fail
    go_ret2
    refine ⟨rfl, Below.trans ?_ (hb1.mono (by simp; try omega))⟩
    go_grown
  · rw [he, hv] at G ⊢
    clear he hv
    go_enter Try.func41, Try.ntmps41
    go_wp2_with fail
    refine (C _).mono ?_
    rintro e w1 ⟨rfl, rfl, _⟩
    go_wp2_with fail
    refine (inRoom_yes _ _ ha hb).mono ?_
    rintro e w1 ⟨rfl, rfl⟩
    go_wp2_with fail
    refine (inRoom_yes _ _ hc hd).mono ?_
    rintro e w1 ⟨rfl, rfl⟩
    go_wp2_with fail
    refine (G.out _).mono ?_
    rintro e w2 ⟨rfl, hb1⟩
    go_wp2_with fail
    go_ret2
    refine ⟨rfl, Below.trans ?_ (hb1.mono (by simp; try omega))⟩
    go_grown

theorem growOf_any (k s m room need : Int) (w : World) :
    Calls Try.prog 41 #[.agg #[.int .i64 k, .int .i64 s, .int .i64 m], .int .i64 room, .int .i64 need] w (RetInt (growV k s m room need) (growE k s m room need) w) := by
  unfold growV growE
  by_cases h : polErr k s m = 0
  · by_cases hr : (0 ≤ room ∧ room ≤ 100000) ∧ (0 ≤ need ∧ need ≤ 100000)
    · rw [if_pos ⟨h, hr⟩, if_pos h, if_pos hr]; exact growOf_valid k s m room need w h hr.1 hr.2
    · rw [if_neg (fun x => hr x.2), if_pos h, if_neg hr]; exact growOf_range k s m room need w h hr
  · rw [if_neg (fun x => h x.1), if_neg h]; exact growOf_pol k s m room need w h

end Go.Proofs.Yteeiohhoccgafaa
