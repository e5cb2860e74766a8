/-
  wish, grown, Grow, GrowOf, Shrink, ShrinkOf: what they give, for all arguments. No conditions.
  Grow, GrowOf, Shrink, ShrinkOf: what they give, for all arguments. No conditions.
  GrowOf beside Grow: both are the functions growV and growE. No conditions.
  Shrink and ShrinkOf: both are one function; the walks of RoomGrows and RoomTurns. No conditions.
  ShrinkOf beside Shrink; the walks of RoomGrows and RoomTurns. No conditions.
-/
import Derived.Test.YtjogaohnphafgaaTopCompactPag
import Derived.Test.YtjogaohnphafgaaTopCompactPah
import Derived.Deep.RegionWith

namespace Go.Proofs.Ytjogaohnphafgaa
section
open Go.RowKit

/-- The wish of a policy. -/
def wishI (k s room need : Int) : Int :=
  if k = 2 then (need + s - 1) / s * s else if k = 3 then max need (room + room / 2) else if k = 4 then max need (2 * room) else if k = 5 then cfor need else need

def WPost (r : Int) (w : World) : Ending → World → Prop := fun e w' => e = .returned (.int .i64 r) ∧ Below w.heap.size w w'

theorem mul_bd (need s : Int) (h1 : 0 ≤ need) (h2 : need ≤ 100000) (h3 : 1 ≤ s) (h4 : s ≤ 100000) : 0 ≤ (need + s - 1) / s ∧ (need + s - 1) / s ≤ 200000 ∧ need ≤ (need + s - 1) / s * s ∧ (need + s - 1) / s * s ≤ 200000 := by
  have e := Int.mul_ediv_add_emod (need + s - 1) s
  have e1 := Int.emod_nonneg (need + s - 1) (b := s) (by omega)
  have e2 := Int.emod_lt_of_pos (need + s - 1) (b := s) (by omega)
  rw [Int.mul_comm] at e
  have d1 := Int.ediv_nonneg (a := need + s - 1) (b := s) (by omega) (by omega)
  have d2 := Int.ediv_le_self s (a := need + s - 1) (by omega)
  omega

set_option maxHeartbeats 1000000 in
theorem wish_any (k s m room need : Int) (w : World) (hk : 1 ≤ k ∧ k ≤ 5) (hs : k = 2 → 1 ≤ s ∧ s ≤ 100000) (hr : 0 ≤ room ∧ room ≤ 100000) (hn : 0 ≤ need ∧ need ≤ 100000) :
    Calls Try.prog 64 #[.agg #[.int .i64 k, .int .i64 s, .int .i64 m], .int .i64 room, .int .i64 need] w (WPost (wishI k s room need) w) := by
  obtain ⟨hr1, hr2⟩ := hr
  obtain ⟨hn1, hn2⟩ := hn
  have hkk : k = 1 ∨ k = 2 ∨ k = 3 ∨ k = 4 ∨ k = 5 := by omega
  rcases hkk with rfl | rfl | rfl | rfl | rfl
  · clear hs hk
    go_enter Try.func64, Try.ntmps64
    go_wp2
    go_ret
    exact ⟨rfl, (Below.refl _ _).alloc (Nat.le_refl _) _⟩
  · obtain ⟨hs1, hs2⟩ := hs rfl
    obtain ⟨d1, d2, d3, d4⟩ := mul_bd need s hn1 hn2 hs1 hs2
    clear hs hk
    go_enter Try.func64, Try.ntmps64
    go_wp2
    go_region
    all_goals
      go_wp2
      go_ret
      exact ⟨rfl, ((Below.refl _ _).alloc (Nat.le_refl _) _).drew⟩
  · clear hs hk
    go_enter Try.func64, Try.ntmps64
    go_wp2
    all_goals
      go_ret
      exact ⟨ret_int (by simp [wishI]; omega), (Below.refl _ _).alloc (Nat.le_refl _) _⟩
  · clear hs hk
    go_enter Try.func64, Try.ntmps64
    go_wp2
    all_goals
      go_ret
      exact ⟨ret_int (by simp [wishI]; omega), (Below.refl _ _).alloc (Nat.le_refl _) _⟩
  · clear hs hk
    go_enter Try.func64, Try.ntmps64
    go_wp2_with fail
    refine (classOf_ok _ _ hn1 hn2).mono ?_
    rintro e w1 ⟨rfl, hb⟩
    go_wp2_with fail
    go_ret
    exact ⟨rfl, ((Below.refl _ _).alloc (Nat.le_refl _) _).trans (hb.mono (by simp))⟩

theorem bcell {W w1 : World} (hb : Below W.heap.size W w1) : (∀ b o, b < W.heap.size → w1.cell? ⟨b, o, none⟩ = W.cell? ⟨b, o, none⟩) ∧ (∀ b o, b < W.heap.size → w1.frozen? ⟨b, o, none⟩ = W.frozen? ⟨b, o, none⟩) :=
  ⟨fun b o h => hb.cell (p := ⟨b, o, none⟩) h, fun b o h => hb.frozen (p := ⟨b, o, none⟩) h⟩

def GPost (r : Int) (b : Bool) (w : World) : Ending → World → Prop := fun e w' => e = .returned (.tuple #[.int .i64 r, .bool b]) ∧ Below w.heap.size w w'
theorem ret2_ib {k : IntKind} {a b : Int} {c d : Bool} (h : a = b) (h' : c = d) : Ending.returned (.tuple #[.int k a, .bool c]) = .returned (.tuple #[.int k b, .bool d]) := by rw [h, h']

end
end Go.Proofs.Ytjogaohnphafgaa

namespace Go.Proofs.Ytjogaohnphafgaa
section
open Go.RowKit

/-- A policy that is right. -/
def polOk (k s m : Int) : Prop := (1 ≤ k ∧ k ≤ 5) ∧ (k = 2 → 1 ≤ s ∧ s ≤ 100000) ∧ (0 ≤ m ∧ m ≤ 100000)
theorem polOk_of {k s m : Int} (h : polErr k s m = 0) : polOk k s m := by
  unfold polErr at h
  by_cases h1 : 1 ≤ k ∧ k ≤ 5
  · rw [if_pos h1] at h
    by_cases h2 : (k = 2 → 1 ≤ s ∧ s ≤ 100000) ∧ (¬ k = 2 → s = 0) ∧ (0 ≤ m ∧ m ≤ 100000)
    · exact ⟨h1, h2.1, h2.2.2⟩
    · rw [if_neg h2] at h; omega
  · rw [if_neg h1] at h; omega
theorem polErr_vals (k s m : Int) : polErr k s m = 0 ∨ polErr k s m = 2 ∨ polErr k s m = 10 := by
  unfold polErr; split <;> (try split) <;> simp

set_option maxHeartbeats 1000000 in
theorem grow_pol (k s m room need : Int) (w : World) (h : polErr k s m ≠ 0) :
    Calls Try.prog 49 #[.agg #[.int .i64 k, .int .i64 s, .int .i64 m], .int .i64 room, .int .i64 need] w (RetInt 0 (polErr k s m) w) := by
  have hb : (polErr k s m != 0) = true := bne_iff_ne.2 h
  have C := checkPolicy_any k s m
  generalize polErr k s m = err at *
  go_enter Try.func49, Try.ntmps49
  go_wp2_with fail
  refine (C _).mono ?_
  rintro e w1 ⟨rfl, rfl, _⟩
  go_wp2_with fail
  go_ret2
  exact ⟨rfl, ((Below.refl _ _).alloc (Nat.le_refl _) _).alloc (by simp) _⟩

set_option maxHeartbeats 1000000 in
theorem grow_range (k s m room need : Int) (w : World) (h : polErr k s m = 0) (hr : ¬ ((0 ≤ room ∧ room ≤ 100000) ∧ (0 ≤ need ∧ need ≤ 100000))) :
    Calls Try.prog 49 #[.agg #[.int .i64 k, .int .i64 s, .int .i64 m], .int .i64 room, .int .i64 need] w (RetInt 0 2 w) := by
  have C := checkPolicy_any k s m
  rw [h] at C
  clear h
  by_cases h1 : 0 ≤ room ∧ room ≤ 100000
  · have h2 : ¬ (0 ≤ need ∧ need ≤ 100000) := fun h => hr ⟨h1, h⟩
    have H2 := Lib.hid h2
    obtain ⟨ha, hb⟩ := h1
    clear hr h2
    go_enter Try.func49, Try.ntmps49
    go_wp2_with fail
    refine (C _).mono ?_
    rintro e w1 ⟨rfl, rfl, _⟩
    go_wp2_with fail
    refine (within_room_yes _ _ _ _ ha hb).mono ?_
    rintro e w1 ⟨rfl, rfl⟩
    go_wp2_with fail
    refine (within_room_no _ _ _ _ H2.out).mono ?_
    rintro e w1 ⟨rfl, rfl⟩
    go_wp2_with fail
    go_ret2
    exact ⟨rfl, ((Below.refl _ _).alloc (Nat.le_refl _) _).alloc (by simp) _⟩
  · have H1 := Lib.hid h1
    clear hr h1
    go_enter Try.func49, Try.ntmps49
    go_wp2_with fail
    refine (C _).mono ?_
    rintro e w1 ⟨rfl, rfl, _⟩
    go_wp2_with fail
    refine (within_room_no _ _ _ _ H1.out).mono ?_
    rintro e w1 ⟨rfl, rfl⟩
    go_wp2_with fail
    go_ret2
    exact ⟨rfl, ((Below.refl _ _).alloc (Nat.le_refl _) _).alloc (by simp) _⟩

set_option maxHeartbeats 1000000 in
theorem grow_has (k s m room need : Int) (w : World) (h : polErr k s m = 0) (h1 : 0 ≤ room ∧ room ≤ 100000) (h2 : 0 ≤ need ∧ need ≤ 100000) (h3 : need ≤ room) :
    Calls Try.prog 49 #[.agg #[.int .i64 k, .int .i64 s, .int .i64 m], .int .i64 room, .int .i64 need] w (RetInt room 0 w) := by
  have C := checkPolicy_any k s m
  rw [h] at C
  clear h
  obtain ⟨ha, hb⟩ := h1
  obtain ⟨hc, hd⟩ := h2
  go_enter Try.func49, Try.ntmps49
  go_wp2_with fail
  refine (C _).mono ?_
  rintro e w1 ⟨rfl, rfl, _⟩
  go_wp2_with fail
  refine (within_room_yes _ _ _ _ ha hb).mono ?_
  rintro e w1 ⟨rfl, rfl⟩
  go_wp2_with fail
  refine (within_room_yes _ _ _ _ hc hd).mono ?_
  rintro e w1 ⟨rfl, rfl⟩
  go_wp2_with fail
  go_ret2
  exact ⟨rfl, ((Below.refl _ _).alloc (Nat.le_refl _) _).alloc (by simp) _⟩

set_option maxHeartbeats 1000000 in
theorem grow_full (k s m room need : Int) (w : World) (h : polErr k s m = 0) (h1 : 0 ≤ room ∧ room ≤ 100000) (h2 : 0 ≤ need ∧ need ≤ 100000) (h3 : room < need) (h4 : m < need) :
    Calls Try.prog 49 #[.agg #[.int .i64 k, .int .i64 s, .int .i64 m], .int .i64 room, .int .i64 need] w (RetInt 0 12 w) := by
  have C := checkPolicy_any k s m
  rw [h] at C
  clear h
  obtain ⟨ha, hb⟩ := h1
  obtain ⟨hc, hd⟩ := h2
  go_enter Try.func49, Try.ntmps49
  go_wp2_with fail
  refine (C _).mono ?_
  rintro e w1 ⟨rfl, rfl, _⟩
  go_wp2_with fail
  refine (within_room_yes _ _ _ _ ha hb).mono ?_
  rintro e w1 ⟨rfl, rfl⟩
  go_wp2_with fail
  refine (within_room_yes _ _ _ _ hc hd).mono ?_
  rintro e w1 ⟨rfl, rfl⟩
  go_wp2_with fail
  go_ret2
  exact ⟨rfl, ((Below.refl _ _).alloc (Nat.le_refl _) _).alloc (by simp) _⟩

set_option maxHeartbeats 2000000 in
theorem grow_new (k s m room need : Int) (w : World) (h : polErr k s m = 0) (h1 : 0 ≤ room ∧ room ≤ 100000) (h2 : 0 ≤ need ∧ need ≤ 100000) (h3 : room < need) (h4 : need ≤ m) :
    Calls Try.prog 49 #[.agg #[.int .i64 k, .int .i64 s, .int .i64 m], .int .i64 room, .int .i64 need] w (RetInt (min (wishI k s room need) m) 0 w) := by
  have C := checkPolicy_any k s m
  rw [h] at C
  obtain ⟨p1, p2, p3⟩ := polOk_of h
  clear h
  have P2 := Lib.hid p2
  clear p2
  have W := fun w => wish_any k s m room need w p1 P2.out h1 h2
  obtain ⟨ha, hb⟩ := h1
  obtain ⟨hc, hd⟩ := h2
  have CW := Lib.hid W
  clear W
  generalize wishI k s room need = r at *
  go_enter Try.func49, Try.ntmps49
  go_wp2_with fail
  refine (C _).mono ?_
  rintro e w1 ⟨rfl, rfl, _⟩
  go_wp2_with fail
  refine (within_room_yes _ _ _ _ ha hb).mono ?_
  rintro e w1 ⟨rfl, rfl⟩
  go_wp2_with fail
  refine (within_room_yes _ _ _ _ hc hd).mono ?_
  rintro e w1 ⟨rfl, rfl⟩
  go_wp2_with fail
  clear C
  go_region_with (go_at_call 64; refine (CW.out _).mono ?_; rintro e w' ⟨rfl, hb1⟩; obtain ⟨hc1, hf1⟩ := bcell hb1)
  all_goals
    go_wp2
    all_goals
      go_ret2
      refine ⟨ret2_int (by omega) rfl, Below.trans ?_ (hb1.mono (by simp; try omega))⟩
      go_grown

end
end Go.Proofs.Ytjogaohnphafgaa

namespace Go.Proofs.Ytjogaohnphafgaa
section
open Go.RowKit

/-- What a policy gives for arguments that are right. -/
def gV (k s m room need : Int) : Int := if need ≤ room then room else if m < need then 0 else min (wishI k s room need) m
def gE (m room need : Int) : Int := if need ≤ room then 0 else if m < need then 12 else 0
/-- What Grow gives. -/
def growV (k s m room need : Int) : Int := if polErr k s m = 0 ∧ (0 ≤ room ∧ room ≤ 100000) ∧ (0 ≤ need ∧ need ≤ 100000) then gV k s m room need else 0
def growE (k s m room need : Int) : Int := if polErr k s m = 0 then (if (0 ≤ room ∧ room ≤ 100000) ∧ (0 ≤ need ∧ need ≤ 100000) then gE m room need else 2) else polErr k s m

theorem gE_cases (k s m room need : Int) : gE m room need = 0 ∨ (gE m room need = 12 ∧ gV k s m room need = 0) := by
  unfold gE gV
  by_cases h3 : need ≤ room
  · rw [if_pos h3]; exact Or.inl rfl
  · rw [if_neg h3, if_neg h3]
    by_cases h4 : m < need
    · rw [if_pos h4, if_pos h4]; exact Or.inr ⟨rfl, rfl⟩
    · rw [if_neg h4]; exact Or.inl rfl

theorem grow_valid (k s m room need : Int) (w : World) (h : polErr k s m = 0) (h1 : 0 ≤ room ∧ room ≤ 100000) (h2 : 0 ≤ need ∧ need ≤ 100000) :
    Calls Try.prog 49 #[.agg #[.int .i64 k, .int .i64 s, .int .i64 m], .int .i64 room, .int .i64 need] w (RetInt (gV k s m room need) (gE m room need) w) := by
  unfold gV gE
  by_cases h3 : need ≤ room
  · rw [if_pos h3, if_pos h3]; exact grow_has k s m room need w h h1 h2 h3
  · rw [if_neg h3, if_neg h3]
    by_cases h4 : m < need
    · rw [if_pos h4, if_pos h4]; exact grow_full k s m room need w h h1 h2 (by omega) h4
    · rw [if_neg h4, if_neg h4]; exact grow_new k s m room need w h h1 h2 (by omega) (by omega)

theorem grow_any (k s m room need : Int) (w : World) :
    Calls Try.prog 49 #[.agg #[.int .i64 k, .int .i64 s, .int .i64 m], .int .i64 room, .int .i64 need] w (RetInt (growV k s m room need) (growE k s m room need) w) := by
  unfold growV growE
  by_cases h : polErr k s m = 0
  · by_cases hr : (0 ≤ room ∧ room ≤ 100000) ∧ (0 ≤ need ∧ need ≤ 100000)
    · rw [if_pos ⟨h, hr⟩, if_pos h, if_pos hr]; exact grow_valid k s m room need w h hr.1 hr.2
    · rw [if_neg (fun x => hr x.2), if_pos h, if_neg hr]; exact grow_range k s m room need w h hr
  · rw [if_neg (fun x => h x.1), if_neg h]; exact grow_pol k s m room need w h

end
end Go.Proofs.Ytjogaohnphafgaa

namespace Go.Proofs.Ytjogaohnphafgaa
section
open Go.RowKit

/-- The room that is left, for arguments that are right: g, e: what Grow gives for a room 0. -/
def shrV (k room used g e : Int) : Int := if e = 0 ∧ g < room ∧ ¬ ((k = 3 ∨ k = 4) ∧ room < 4 * used) then g else room
def shrinkIn (room used : Int) : Prop := (0 ≤ room ∧ room ≤ 100000) ∧ (0 ≤ used ∧ used ≤ room)
instance (room used : Int) : Decidable (shrinkIn room used) := by unfold shrinkIn; exact inferInstance
def shrinkV (k s m room used : Int) : Int := if polErr k s m = 0 ∧ shrinkIn room used then shrV k room used (gV k s m 0 used) (gE m 0 used) else 0
def shrinkE (k s m room used : Int) : Int := if polErr k s m = 0 then (if shrinkIn room used then 0 else 2) else polErr k s m

theorem shrV_full {k room used g : Int} : shrV k room used g 12 = room := by unfold shrV; rw [if_neg (by omega)]
theorem shrV_more {k room used g : Int} (h : room ≤ g) : shrV k room used g 0 = room := by unfold shrV; rw [if_neg (by omega)]
theorem shrV_loose {k room used g : Int} (hk : k = 3 ∨ k = 4) (h : room < 4 * used) : shrV k room used g 0 = room := by unfold shrV; rw [if_neg (fun x => x.2.2 ⟨hk, h⟩)]
theorem shrV_less {k room used g : Int} (h : g < room) (h2 : ¬ ((k = 3 ∨ k = 4) ∧ room < 4 * used)) : shrV k room used g 0 = g := by unfold shrV; rw [if_pos ⟨rfl, h, h2⟩]

end
end Go.Proofs.Ytjogaohnphafgaa

namespace Go.Proofs.Ytjogaohnphafgaa
section
open Go.RowKit

/-- A policy's box. -/
def BoxAt (w : World) (b : Nat) (k s m : Int) : Prop :=
  b < w.heap.size ∧ w.cell? ⟨b, 0, none⟩ = some (.int .i64 k) ∧ w.cell? ⟨b, 1, none⟩ = some (.int .i64 s) ∧ w.cell? ⟨b, 2, none⟩ = some (.int .i64 m)
theorem BoxAt.new (w : World) (k s m : Int) (t : TypeId) : BoxAt (w.alloc (.cells #[.int .i64 k, .int .i64 s, .int .i64 m] t)) w.heap.size k s m := by
  refine ⟨by simp, ?_, ?_, ?_⟩ <;> (rw [cell_of_row _ _ _ _ _ _ (heap_alloc_new w _)]; rfl)
theorem BoxAt.below {w w' : World} {b : Nat} {k s m : Int} (h : BoxAt w b k s m) (hb : Below w.heap.size w w') : BoxAt w' b k s m :=
  ⟨Nat.lt_of_lt_of_le h.1 hb.size, (hb.cell (p := ⟨b, 0, none⟩) h.1).trans h.2.1, (hb.cell (p := ⟨b, 1, none⟩) h.1).trans h.2.2.1, (hb.cell (p := ⟨b, 2, none⟩) h.1).trans h.2.2.2⟩

end
end Go.Proofs.Ytjogaohnphafgaa
