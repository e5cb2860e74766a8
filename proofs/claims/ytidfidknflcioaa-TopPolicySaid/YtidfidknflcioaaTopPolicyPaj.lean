/-
  Grow, GrowOf, Shrink, ShrinkOf: what they give, for all arguments. No conditions.
-/
import Derived.Test.YtidfidknflcioaaTopPolicyPai
import Derived.Deep.RegionWith
namespace Go.Proofs.Ytidfidknflcioaa
open Go.RowKit

/-- A policy that is right. -/
def polOk (k s m : Int) : Prop := (1 ≤ k ∧ k ≤ 5) ∧ (k = 2 → 1 ≤ s ∧ s ≤ 100000) ∧ (0 ≤ m ∧ m ≤ 100000)
theorem polOk_of {k s m : Int} (h : polErr k s m = 0) : polOk k s m := by
  unfold polErr at h
  by_cases h1 : 1 ≤ k ∧ k ≤ 5
  · rw [if_pos h1] at h
    by_cases h2 : (k = 2 → 1 ≤ s ∧ s ≤ 100000) ∧ (¬ k = 2 → s = 0) ∧ (0 ≤ m ∧ m ≤ 100000)
    · exact ⟨h1, h2.1, h2.2.2⟩
    · rw [if_neg h2] at h; omega
  · rw [if_neg h1] at h; omega
theorem polErr_vals (k s m : Int) : polErr k s m = 0 ∨ polErr k s m = 2 ∨ polErr k s m = 10 := by
  unfold polErr; split <;> (try split) <;> simp

set_option maxHeartbeats 1000000 in
theorem grow_pol (k s m room need : Int) (w : World) (h : polErr k s m ≠ 0) :
    Calls Try.prog 79 #[.agg #[.int .i64 k, .int .i64 s, .int .i64 m], .int .i64 room, .int .i64 need] w (RetInt 0 (polErr k s m) w) := by
  have hb : (polErr k s m != 0) = true := bne_iff_ne.2 h
  have C := checkPolicy_any k s m
  generalize polErr k s m = err at *
  go_enter Try.func79, Try.ntmps79
  go_wp2_with fail
  refine (C _).mono ?_
  rintro e w1 ⟨rfl, rfl, _⟩
  go_wp2_with fail
  go_ret2
  exact ⟨rfl, ((Below.refl _ _).alloc (Nat.le_refl _) _).alloc (by simp) _⟩

set_option maxHeartbeats 1000000 in
theorem grow_range (k s m room need : Int) (w : World) (h : polErr k s m = 0) (hr : ¬ ((0 ≤ room ∧ room ≤ 100000) ∧ (0 ≤ need ∧ need ≤ 100000))) :
    Calls Try.prog 79 #[.agg #[.int .i64 k, .int .i64 s, .int .i64 m], .int .i64 room, .int .i64 need] w (RetInt 0 2 w) := by
  have C := checkPolicy_any k s m
  rw [h] at C
  clear h
  by_cases h1 : 0 ≤ room ∧ room ≤ 100000
  · have h2 : ¬ (0 ≤ need ∧ need ≤ 100000) := fun h => hr ⟨h1, h⟩
    have H2 := Lib.hid h2
    obtain ⟨ha, hb⟩ := h1
    clear hr h2
    go_enter Try.func79, Try.ntmps79
    go_wp2_with fail
    refine (C _).mono ?_
    rintro e w1 ⟨rfl, rfl, _⟩
    go_wp2_with fail
    refine (within_room_yes _ _ _ _ ha hb).mono ?_
    rintro e w1 ⟨rfl, rfl⟩
    go_wp2_with fail
    refine (within_room_no _ _ _ _ H2.out).mono ?_
    rintro e w1 ⟨rfl, rfl⟩
    go_wp2_with fail
    go_ret2
    exact ⟨rfl, ((Below.refl _ _).alloc (Nat.le_refl _) _).alloc (by simp) _⟩
  · have H1 := Lib.hid h1
    clear hr h1
    go_enter Try.func79, Try.ntmps79
    go_wp2_with fail
    refine (C _).mono ?_
    rintro e w1 ⟨rfl, rfl, _⟩
    go_wp2_with fail
    refine (within_room_no _ _ _ _ H1.out).mono ?_
    rintro e w1 ⟨rfl, rfl⟩
    go_wp2_with fail
    go_ret2
    exact ⟨rfl, ((Below.refl _ _).alloc (Nat.le_refl _) _).alloc (by simp) _⟩

set_option maxHeartbeats 1000000 in
theorem grow_has (k s m room need : Int) (w : World) (h : polErr k s m = 0) (h1 : 0 ≤ room ∧ room ≤ 100000) (h2 : 0 ≤ need ∧ need ≤ 100000) (h3 : need ≤ room) :
    Calls Try.prog 79 #[.agg #[.int .i64 k, .int .i64 s, .int .i64 m], .int .i64 room, .int .i64 need] w (RetInt room 0 w) := by
  have C := checkPolicy_any k s m
  rw [h] at C
  clear h
  obtain ⟨ha, hb⟩ := h1
  obtain ⟨hc, hd⟩ := h2
  go_enter Try.func79, Try.ntmps79
  go_wp2_with fail
  refine (C _).mono ?_
  rintro e w1 ⟨rfl, rfl, _⟩
  go_wp2_with fail
  refine (within_room_yes _ _ _ _ ha hb).mono ?_
  rintro e w1 ⟨rfl, rfl⟩
  go_wp2_with fail
  refine (within_room_yes _ _ _ _ hc hd).mono ?_
  rintro e w1 ⟨rfl, rfl⟩
  go_wp2_with fail
  go_ret2
  exact ⟨rfl, ((Below.refl _ _).alloc (Nat.le_refl _) _).alloc (by simp) _⟩

set_option maxHeartbeats 1000000 in
theorem grow_full (k s m room need : Int) (w : World) (h : polErr k s m = 0) (h1 : 0 ≤ room ∧ room ≤ 100000) (h2 : 0 ≤ need ∧ need ≤ 100000) (h3 : room < need) (h4 : m < need) :
    Calls Try.prog 79 #[.agg #[.int .i64 k, .int .i64 s, .int .i64 m], .int .i64 room, .int .i64 need] w (RetInt 0 12 w) := by
  have C := checkPolicy_any k s m
  rw [h] at C
  clear h
  obtain ⟨ha, hb⟩ := h1
  obtain ⟨hc, hd⟩ := h2
  go_enter Try.func79, Try.ntmps79
  go_wp2_with fail
  refine (C _).mono ?_
  rintro e w1 ⟨rfl, rfl, _⟩
  go_wp2_with fail
  refine (within_room_yes _ _ _ _ ha hb).mono ?_
  rintro e w1 ⟨rfl, rfl⟩
  go_wp2_with fail
  refine (within_room_yes _ _ _ _ hc hd).mono ?_
  rintro e w1 ⟨rfl, rfl⟩
  go_wp2_with fail
  go_ret2
  exact ⟨rfl, ((Below.refl _ _).alloc (Nat.le_refl _) _).alloc (by simp) _⟩

set_option maxHeartbeats 2000000 in
theorem grow_new (k s m room need : Int) (w : World) (h : polErr k s m = 0) (h1 : 0 ≤ room ∧ room ≤ 100000) (h2 : 0 ≤ need ∧ need ≤ 100000) (h3 : room < need) (h4 : need ≤ m) :
    Calls Try.prog 79 #[.agg #[.int .i64 k, .int .i64 s, .int .i64 m], .int .i64 room, .int .i64 need] w (RetInt (min (wishI k s room need) m) 0 w) := by
  have C := checkPolicy_any k s m
  rw [h] at C
  obtain ⟨p1, p2, p3⟩ := polOk_of h
  clear h
  have P2 := Lib.hid p2
  clear p2
  have W := fun w => wish_any k s m room need w p1 P2.out h1 h2
  obtain ⟨ha, hb⟩ := h1
  obtain ⟨hc, hd⟩ := h2
  have CW := Lib.hid W
  clear W
  generalize wishI k s room need = r at *
  go_enter Try.func79, Try.ntmps79
  go_wp2_with fail
  refine (C _).mono ?_
  rintro e w1 ⟨rfl, rfl, _⟩
  go_wp2_with fail
  refine (within_room_yes _ _ _ _ ha hb).mono ?_
  rintro e w1 ⟨rfl, rfl⟩
  go_wp2_with fail
  refine (within_room_yes _ _ _ _ hc hd).mono ?_
  rintro e w1 ⟨rfl, rfl⟩
  go_wp2_with fail
  clear C
  go_region_with (go_at_call 89; refine (CW.out _).mono ?_; rintro e w' ⟨rfl, hb1⟩; obtain ⟨hc1, hf1⟩ := bcell hb1)
  all_goals
    go_wp2
    all_goals
      go_ret2
      refine ⟨ret2_int (by omega) rfl, Below.trans ?_ (hb1.mono (by simp; try omega))⟩
      go_grown

end Go.Proofs.Ytidfidknflcioaa
