/-
  ShrinkOf beside Shrink; the walks of RoomGrows and RoomTurns. No conditions.
  RoomTurns: its plain law and its walk. No conditions.
-/
import Derived.Test.YtidfidknflcioaaTopPolicyPax

namespace Go.Proofs.Ytidfidknflcioaa
section
open Go.RowKit

theorem shrink_any (k s m room used : Int) (w : World) :
    Calls Try.prog 53 #[.agg #[.int .i64 k, .int .i64 s, .int .i64 m], .int .i64 room, .int .i64 used] w (RetInt (shrinkV k s m room used) (shrinkE k s m room used) w) := by
  unfold shrinkV shrinkE
  by_cases h : polErr k s m = 0
  · by_cases hr : shrinkIn room used
    · rw [if_pos ⟨h, hr⟩, if_pos h, if_pos hr]
      exact shrink_core k s m room used _ _ w h hr.1.1 hr.1.2 hr.2.1 hr.2.2 (by rcases gE_cases k s m 0 used with x | x <;> omega) (fun w => grow_valid k s m 0 used w h (by omega) ⟨hr.2.1, by have := hr.1.2; have := hr.2.2; omega⟩)
    · rw [if_neg (fun x => hr x.2), if_pos h, if_neg hr]; exact shrink_range k s m room used w h hr
  · rw [if_neg (fun x => h x.1), if_neg h]; exact shrink_pol k s m room used w h

/-- A policy's box. -/
def BoxAt (w : World) (b : Nat) (k s m : Int) : Prop :=
  b < w.heap.size ∧ w.cell? ⟨b, 0, none⟩ = some (.int .i64 k) ∧ w.cell? ⟨b, 1, none⟩ = some (.int .i64 s) ∧ w.cell? ⟨b, 2, none⟩ = some (.int .i64 m)
theorem BoxAt.new (w : World) (k s m : Int) (t : TypeId) : BoxAt (w.alloc (.cells #[.int .i64 k, .int .i64 s, .int .i64 m] t)) w.heap.size k s m := by
  refine ⟨by simp, ?_, ?_, ?_⟩ <;> (rw [cell_of_row _ _ _ _ _ _ (heap_alloc_new w _)]; rfl)
theorem BoxAt.below {w w' : World} {b : Nat} {k s m : Int} (h : BoxAt w b k s m) (hb : Below w.heap.size w w') : BoxAt w' b k s m :=
  ⟨Nat.lt_of_lt_of_le h.1 hb.size, (hb.cell (p := ⟨b, 0, none⟩) h.1).trans h.2.1, (hb.cell (p := ⟨b, 1, none⟩) h.1).trans h.2.2.1, (hb.cell (p := ⟨b, 2, none⟩) h.1).trans h.2.2.2⟩

end
end Go.Proofs.Ytidfidknflcioaa

namespace Go.Proofs.Ytidfidknflcioaa
section
open Go.RowKit

theorem cfor_bd (n : Int) (h1 : 0 ≤ n) (h2 : n ≤ 100000) : n ≤ cfor n ∧ cfor n ≤ 100000 := by
  unfold cfor
  cases h : classes.find? (fun c => decide (n ≤ c)) with
  | none =>
    have := List.find?_eq_none.1 h 100000 (by unfold classes; simp)
    simp at this; omega
  | some c =>
    have h3 := List.find?_some h
    have h4 := List.mem_of_find?_eq_some h
    obtain ⟨i, hi, rfl⟩ := List.getElem_of_mem h4
    have h5 := classes_le i (by rw [classes_len] at hi; exact hi)
    rw [List.getD_eq_getElem?_getD, List.getElem?_eq_getElem hi] at h5
    simp at h3 h5 ⊢
    omega

theorem wish_ge (k s m room need : Int) (h : polErr k s m = 0) (_h1 : 0 ≤ room ∧ room ≤ 100000) (h2 : 0 ≤ need ∧ need ≤ 100000) : need ≤ wishI k s room need := by
  obtain ⟨p1, p2, p3⟩ := polOk_of h
  have hkk : k = 1 ∨ k = 2 ∨ k = 3 ∨ k = 4 ∨ k = 5 := by omega
  rcases hkk with rfl | rfl | rfl | rfl | rfl
  · simp [wishI]
  · have := mul_bd need s h2.1 h2.2 (p2 rfl).1 (p2 rfl).2
    simp [wishI]; omega
  · simp [wishI]; omega
  · simp [wishI]; omega
  · have := cfor_bd need h2.1 h2.2
    simp [wishI]; omega

theorem gV_facts (k s m room need : Int) (h : polErr k s m = 0) (h1 : 0 ≤ room ∧ room ≤ 100000) (h2 : 0 ≤ need ∧ need ≤ 100000) (he : gE m room need = 0) :
    need ≤ gV k s m room need ∧ room ≤ gV k s m room need ∧ gV k s m room need ≤ 100000 := by
  have hw := wish_ge k s m room need h h1 h2
  obtain ⟨p1, p2, p3⟩ := polOk_of h
  unfold gE at he
  unfold gV
  by_cases h3 : need ≤ room
  · rw [if_pos h3]; omega
  · rw [if_neg h3] at he ⊢
    by_cases h4 : m < need
    · rw [if_pos h4] at he; omega
    · rw [if_neg h4]; omega

theorem grow_facts (k s m room need : Int) : (growE k s m room need = 0 → need ≤ growV k s m room need ∧ room ≤ growV k s m room need) ∧ (growE k s m room need ≠ 0 → growV k s m room need = 0) := by
  unfold growE growV
  by_cases h : polErr k s m = 0
  · rw [if_pos h]
    by_cases hr : (0 ≤ room ∧ room ≤ 100000) ∧ (0 ≤ need ∧ need ≤ 100000)
    · rw [if_pos hr, if_pos ⟨h, hr⟩]
      refine ⟨fun he => ?_, fun he => ?_⟩
      · have := gV_facts k s m room need h hr.1 hr.2 he; exact ⟨this.1, this.2.1⟩
      · rcases gE_cases k s m room need with x | x
        · exact absurd x he
        · exact x.2
    · rw [if_neg hr, if_neg (fun x => hr x.2)]
      exact ⟨fun h => absurd h (by decide), fun _ => rfl⟩
  · rw [if_neg h, if_neg (fun x => h x.1)]
    exact ⟨fun x => absurd x h, fun _ => rfl⟩

theorem shrV_bd (k s m room used : Int) (h : polErr k s m = 0) (h1 : shrinkIn room used) : used ≤ shrV k room used (gV k s m 0 used) (gE m 0 used) ∧ shrV k room used (gV k s m 0 used) (gE m 0 used) ≤ room := by
  obtain ⟨a1, a2⟩ := h1
  unfold shrV
  split
  · next h3 =>
    have := gV_facts k s m 0 used h (by omega) (by omega) h3.1
    omega
  · omega

theorem shrink_facts (k s m room used : Int) : shrinkE k s m room used = 0 → used ≤ shrinkV k s m room used ∧ shrinkV k s m room used ≤ room := by
  unfold shrinkE shrinkV
  by_cases h : polErr k s m = 0
  · rw [if_pos h]
    by_cases hr : shrinkIn room used
    · rw [if_pos hr, if_pos ⟨h, hr⟩]
      exact fun _ => shrV_bd k s m room used h hr
    · rw [if_neg hr]; intro h; omega
  · rw [if_neg h]; intro x; exact absurd x h

theorem turns_facts (k s m need : Int) : growE k s m 0 need = 0 → shrinkE k s m (growV k s m 0 need) need = 0 ∧ shrinkV k s m (growV k s m 0 need) need = growV k s m 0 need := by
  intro he
  unfold growE at he
  by_cases h : polErr k s m = 0
  · rw [if_pos h] at he
    by_cases hr : (0 ≤ (0 : Int) ∧ (0 : Int) ≤ 100000) ∧ (0 ≤ need ∧ need ≤ 100000)
    · rw [if_pos hr] at he
      have hv : growV k s m 0 need = gV k s m 0 need := by unfold growV; rw [if_pos ⟨h, hr⟩]
      rw [hv]
      have hb := gV_facts k s m 0 need h hr.1 hr.2 he
      have hin : shrinkIn (gV k s m 0 need) need := ⟨by omega, by omega⟩
      unfold shrinkE shrinkV
      rw [if_pos h, if_pos hin, if_pos ⟨h, hin⟩, he]
      refine ⟨rfl, ?_⟩
      exact shrV_more (Int.le_refl _)
    · rw [if_neg hr] at he; omega
  · rw [if_neg h] at he; exact absurd he h

end
end Go.Proofs.Ytidfidknflcioaa
