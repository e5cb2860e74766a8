/-
  GrowOf beside Grow: both are the functions growV and growE. No conditions.
  Shrink and ShrinkOf: both are one function; the walks of RoomGrows and RoomTurns. No conditions.
  ShrinkOf beside Shrink; the walks of RoomGrows and RoomTurns. No conditions.
  book, stranger, NewHeap, and the walk of MoveMade. No conditions.
-/
import Derived.Test.YtjogaohnphafgaaGreatMoveRunsPae
import Derived.Test.YtjogaohnphafgaaGreatMoveRunsPad

namespace Go.Proofs.YtjogaohnphafgaaGreat
section
open Go.RowKit

/-- What a policy gives for arguments that are right. -/
def gV (k s m room need : Int) : Int := if need ≤ room then room else if m < need then 0 else min (wishI k s room need) m
def gE (m room need : Int) : Int := if need ≤ room then 0 else if m < need then 12 else 0
/-- What Grow gives. -/
def growV (k s m room need : Int) : Int := if polErr k s m = 0 ∧ (0 ≤ room ∧ room ≤ 100000) ∧ (0 ≤ need ∧ need ≤ 100000) then gV k s m room need else 0
def growE (k s m room need : Int) : Int := if polErr k s m = 0 then (if (0 ≤ room ∧ room ≤ 100000) ∧ (0 ≤ need ∧ need ≤ 100000) then gE m room need else 2) else polErr k s m

theorem gE_cases (k s m room need : Int) : gE m room need = 0 ∨ (gE m room need = 12 ∧ gV k s m room need = 0) := by
  unfold gE gV
  by_cases h3 : need ≤ room
  · rw [if_pos h3]; exact Or.inl rfl
  · rw [if_neg h3, if_neg h3]
    by_cases h4 : m < need
    · rw [if_pos h4, if_pos h4]; exact Or.inr ⟨rfl, rfl⟩
    · rw [if_neg h4]; exact Or.inl rfl

theorem grow_valid (k s m room need : Int) (w : World) (h : polErr k s m = 0) (h1 : 0 ≤ room ∧ room ≤ 100000) (h2 : 0 ≤ need ∧ need ≤ 100000) :
    Calls Tryz.prog 87 #[.agg #[.int .i64 k, .int .i64 s, .int .i64 m], .int .i64 room, .int .i64 need] w (RetInt (gV k s m room need) (gE m room need) w) := by
  unfold gV gE
  by_cases h3 : need ≤ room
  · rw [if_pos h3, if_pos h3]; exact grow_has k s m room need w h h1 h2 h3
  · rw [if_neg h3, if_neg h3]
    by_cases h4 : m < need
    · rw [if_pos h4, if_pos h4]; exact grow_full k s m room need w h h1 h2 (by omega) h4
    · rw [if_neg h4, if_neg h4]; exact grow_new k s m room need w h h1 h2 (by omega) (by omega)

theorem grow_any (k s m room need : Int) (w : World) :
    Calls Tryz.prog 87 #[.agg #[.int .i64 k, .int .i64 s, .int .i64 m], .int .i64 room, .int .i64 need] w (RetInt (growV k s m room need) (growE k s m room need) w) := by
  unfold growV growE
  by_cases h : polErr k s m = 0
  · by_cases hr : (0 ≤ room ∧ room ≤ 100000) ∧ (0 ≤ need ∧ need ≤ 100000)
    · rw [if_pos ⟨h, hr⟩, if_pos h, if_pos hr]; exact grow_valid k s m room need w h hr.1 hr.2
    · rw [if_neg (fun x => hr x.2), if_pos h, if_neg hr]; exact grow_range k s m room need w h hr
  · rw [if_neg (fun x => h x.1), if_neg h]; exact grow_pol k s m room need w h

end
end Go.Proofs.YtjogaohnphafgaaGreat

namespace Go.Proofs.YtjogaohnphafgaaGreat
section
open Go.RowKit

/-- The room that is left, for arguments that are right: g, e: what Grow gives for a room 0. -/
def shrV (k room used g e : Int) : Int := if e = 0 ∧ g < room ∧ ¬ ((k = 3 ∨ k = 4) ∧ room < 4 * used) then g else room
def shrinkIn (room used : Int) : Prop := (0 ≤ room ∧ room ≤ 100000) ∧ (0 ≤ used ∧ used ≤ room)
instance (room used : Int) : Decidable (shrinkIn room used) := by unfold shrinkIn; exact inferInstance
def shrinkV (k s m room used : Int) : Int := if polErr k s m = 0 ∧ shrinkIn room used then shrV k room used (gV k s m 0 used) (gE m 0 used) else 0
def shrinkE (k s m room used : Int) : Int := if polErr k s m = 0 then (if shrinkIn room used then 0 else 2) else polErr k s m

theorem shrV_full {k room used g : Int} : shrV k room used g 12 = room := by unfold shrV; rw [if_neg (by omega)]
theorem shrV_more {k room used g : Int} (h : room ≤ g) : shrV k room used g 0 = room := by unfold shrV; rw [if_neg (by omega)]
theorem shrV_loose {k room used g : Int} (hk : k = 3 ∨ k = 4) (h : room < 4 * used) : shrV k room used g 0 = room := by unfold shrV; rw [if_neg (fun x => x.2.2 ⟨hk, h⟩)]
theorem shrV_less {k room used g : Int} (h : g < room) (h2 : ¬ ((k = 3 ∨ k = 4) ∧ room < 4 * used)) : shrV k room used g 0 = g := by unfold shrV; rw [if_pos ⟨rfl, h, h2⟩]

set_option maxHeartbeats 1000000 in
theorem shrink_pol (k s m room used : Int) (w : World) (h : polErr k s m ≠ 0) :
    Calls Tryz.prog 55 #[.agg #[.int .i64 k, .int .i64 s, .int .i64 m], .int .i64 room, .int .i64 used] w (RetInt 0 (polErr k s m) w) := by
  have hb : (polErr k s m != 0) = true := bne_iff_ne.2 h
  have C := checkPolicy_any k s m
  generalize polErr k s m = err at *
  go_enter Tryz.func55, Tryz.ntmps55
  go_wp2_with fail
  refine (C _).mono ?_
  rintro e w1 ⟨rfl, rfl, _⟩
  go_wp2_with fail
  go_ret2
  exact ⟨rfl, by go_grown⟩

set_option maxHeartbeats 1000000 in
theorem shrink_range (k s m room used : Int) (w : World) (h : polErr k s m = 0) (hr : ¬ shrinkIn room used) :
    Calls Tryz.prog 55 #[.agg #[.int .i64 k, .int .i64 s, .int .i64 m], .int .i64 room, .int .i64 used] w (RetInt 0 2 w) := by
  have C := checkPolicy_any k s m
  rw [h] at C
  clear h
  unfold shrinkIn at hr
  by_cases h1 : 0 ≤ room ∧ room ≤ 100000
  · have h2 : ¬ (0 ≤ used ∧ used ≤ room) := fun h => hr ⟨h1, h⟩
    have H2 := Lib.hid h2
    obtain ⟨ha, hb⟩ := h1
    clear hr
    clear h2
    go_enter Tryz.func55, Tryz.ntmps55
    go_wp2_with fail
    refine (C _).mono ?_
    rintro e w1 ⟨rfl, rfl, _⟩
    go_wp2_with fail
    refine (within_room_yes _ _ _ _ ha hb).mono ?_
    rintro e w1 ⟨rfl, rfl⟩
    go_wp2_with fail
    refine (within_room_no _ _ _ _ H2.out).mono ?_
    rintro e w1 ⟨rfl, rfl⟩
    go_wp2_with fail
    go_ret2
    exact ⟨rfl, by go_grown⟩
  · have H1 := Lib.hid h1
    clear hr h1
    go_enter Tryz.func55, Tryz.ntmps55
    go_wp2_with fail
    refine (C _).mono ?_
    rintro e w1 ⟨rfl, rfl, _⟩
    go_wp2_with fail
    refine (within_room_no _ _ _ _ H1.out).mono ?_
    rintro e w1 ⟨rfl, rfl⟩
    go_wp2_with fail
    go_ret2
    exact ⟨rfl, by go_grown⟩

set_option maxHeartbeats 4000000 in
theorem shrink_core (k s m room used g e : Int) (w : World) (h : polErr k s m = 0) (ha : 0 ≤ room) (hb : room ≤ 100000) (hc : 0 ≤ used) (hd : used ≤ room) (he : e = 0 ∨ e = 12)
    (hg : ∀ w, Calls Tryz.prog 87 #[.agg #[.int .i64 k, .int .i64 s, .int .i64 m], .int .i64 0, .int .i64 used] w (RetInt g e w)) :
    Calls Tryz.prog 55 #[.agg #[.int .i64 k, .int .i64 s, .int .i64 m], .int .i64 room, .int .i64 used] w (RetInt (shrV k room used g e) 0 w) := by
  have C := checkPolicy_any k s m
  rw [h] at C
  have G := Lib.hid hg
  obtain ⟨p1, _, _⟩ := polOk_of h
  clear h hg
  have hkk : k = 1 ∨ k = 2 ∨ k = 3 ∨ k = 4 ∨ k = 5 := by omega
  clear p1
  rcases he with rfl | rfl
  · by_cases h1 : g < room
    · by_cases h2 : room < 4 * used
      · rcases hkk with rfl | rfl | rfl | rfl | rfl
        · have X := Lib.hid (shrV_less (k := 1) (used := used) h1 (by omega))
          go_enter Tryz.func55, Tryz.ntmps55
          go_wp2_with fail
          refine (C _).mono ?_
          rintro e w1 ⟨rfl, rfl, _⟩
          go_wp2_with fail
          refine (within_room_yes _ _ _ _ ha hb).mono ?_
          rintro e w1 ⟨rfl, rfl⟩
          go_wp2_with fail
          refine (within_room_yes _ _ _ _ hc hd).mono ?_
          rintro e w1 ⟨rfl, rfl⟩
          go_wp2_with fail
          refine (G.out _).mono ?_
          rintro e w2 ⟨rfl, hb1⟩
          obtain ⟨hc1, hf1⟩ := bcell hb1
          go_wp2
          go_ret2
          refine ⟨ret2_int X.out.symm rfl, Below.trans ?_ (hb1.mono (by simp; try omega))⟩
          go_grown
        · have X := Lib.hid (shrV_less (k := 2) (used := used) h1 (by omega))
          go_enter Tryz.func55, Tryz.ntmps55
          go_wp2_with fail
          refine (C _).mono ?_
          rintro e w1 ⟨rfl, rfl, _⟩
          go_wp2_with fail
          refine (within_room_yes _ _ _ _ ha hb).mono ?_
          rintro e w1 ⟨rfl, rfl⟩
          go_wp2_with fail
          refine (within_room_yes _ _ _ _ hc hd).mono ?_
          rintro e w1 ⟨rfl, rfl⟩
          go_wp2_with fail
          refine (G.out _).mono ?_
          rintro e w2 ⟨rfl, hb1⟩
          obtain ⟨hc1, hf1⟩ := bcell hb1
          go_wp2
          go_ret2
          refine ⟨ret2_int X.out.symm rfl, Below.trans ?_ (hb1.mono (by simp; try omega))⟩
          go_grown
        · have X := Lib.hid (shrV_loose (k := 3) (used := used) (g := g) (by omega) h2)
          go_enter Tryz.func55, Tryz.ntmps55
          go_wp2_with fail
          refine (C _).mono ?_
          rintro e w1 ⟨rfl, rfl, _⟩
          go_wp2_with fail
          refine (within_room_yes _ _ _ _ ha hb).mono ?_
          rintro e w1 ⟨rfl, rfl⟩
          go_wp2_with fail
          refine (within_room_yes _ _ _ _ hc hd).mono ?_
          rintro e w1 ⟨rfl, rfl⟩
          go_wp2_with fail
          refine (G.out _).mono ?_
          rintro e w2 ⟨rfl, hb1⟩
          obtain ⟨hc1, hf1⟩ := bcell hb1
          go_wp2
          go_ret2
          refine ⟨ret2_int X.out.symm rfl, Below.trans ?_ (hb1.mono (by simp; try omega))⟩
          go_grown
        · have X := Lib.hid (shrV_loose (k := 4) (used := used) (g := g) (by omega) h2)
          go_enter Tryz.func55, Tryz.ntmps55
          go_wp2_with fail
          refine (C _).mono ?_
          rintro e w1 ⟨rfl, rfl, _⟩
          go_wp2_with fail
          refine (within_room_yes _ _ _ _ ha hb).mono ?_
          rintro e w1 ⟨rfl, rfl⟩
          go_wp2_with fail
          refine (within_room_yes _ _ _ _ hc hd).mono ?_
          rintro e w1 ⟨rfl, rfl⟩
          go_wp2_with fail
          refine (G.out _).mono ?_
          rintro e w2 ⟨rfl, hb1⟩
          obtain ⟨hc1, hf1⟩ := bcell hb1
          go_wp2
          go_ret2
          refine ⟨ret2_int X.out.symm rfl, Below.trans ?_ (hb1.mono (by simp; try omega))⟩
          go_grown
        · have X := Lib.hid (shrV_less (k := 5) (used := used) h1 (by omega))
          go_enter Tryz.func55, Tryz.ntmps55
          go_wp2_with fail
          refine (C _).mono ?_
          rintro e w1 ⟨rfl, rfl, _⟩
          go_wp2_with fail
          refine (within_room_yes _ _ _ _ ha hb).mono ?_
          rintro e w1 ⟨rfl, rfl⟩
          go_wp2_with fail
          refine (within_room_yes _ _ _ _ hc hd).mono ?_
          rintro e w1 ⟨rfl, rfl⟩
          go_wp2_with fail
          refine (G.out _).mono ?_
          rintro e w2 ⟨rfl, hb1⟩
          obtain ⟨hc1, hf1⟩ := bcell hb1
          go_wp2
          go_ret2
          refine ⟨ret2_int X.out.symm rfl, Below.trans ?_ (hb1.mono (by simp; try omega))⟩
          go_grown
      · have h3 : 4 * used ≤ room := by omega
        clear h2
        rcases hkk with rfl | rfl | rfl | rfl | rfl
        · have X := Lib.hid (shrV_less (k := 1) (used := used) h1 (by omega))
          go_enter Tryz.func55, Tryz.ntmps55
          go_wp2_with fail
          refine (C _).mono ?_
          rintro e w1 ⟨rfl, rfl, _⟩
          go_wp2_with fail
          refine (within_room_yes _ _ _ _ ha hb).mono ?_
          rintro e w1 ⟨rfl, rfl⟩
          go_wp2_with fail
          refine (within_room_yes _ _ _ _ hc hd).mono ?_
          rintro e w1 ⟨rfl, rfl⟩
          go_wp2_with fail
          refine (G.out _).mono ?_
          rintro e w2 ⟨rfl, hb1⟩
          obtain ⟨hc1, hf1⟩ := bcell hb1
          go_wp2
          go_ret2
          refine ⟨ret2_int X.out.symm rfl, Below.trans ?_ (hb1.mono (by simp; try omega))⟩
          go_grown
        · have X := Lib.hid (shrV_less (k := 2) (used := used) h1 (by omega))
          go_enter Tryz.func55, Tryz.ntmps55
          go_wp2_with fail
          refine (C _).mono ?_
          rintro e w1 ⟨rfl, rfl, _⟩
          go_wp2_with fail
          refine (within_room_yes _ _ _ _ ha hb).mono ?_
          rintro e w1 ⟨rfl, rfl⟩
          go_wp2_with fail
          refine (within_room_yes _ _ _ _ hc hd).mono ?_
          rintro e w1 ⟨rfl, rfl⟩
          go_wp2_with fail
          refine (G.out _).mono ?_
          rintro e w2 ⟨rfl, hb1⟩
          obtain ⟨hc1, hf1⟩ := bcell hb1
          go_wp2
          go_ret2
          refine ⟨ret2_int X.out.symm rfl, Below.trans ?_ (hb1.mono (by simp; try omega))⟩
          go_grown
        · have X := Lib.hid (shrV_less (k := 3) (used := used) h1 (by omega))
          go_enter Tryz.func55, Tryz.ntmps55
          go_wp2_with fail
          refine (C _).mono ?_
          rintro e w1 ⟨rfl, rfl, _⟩
          go_wp2_with fail
          refine (within_room_yes _ _ _ _ ha hb).mono ?_
          rintro e w1 ⟨rfl, rfl⟩
          go_wp2_with fail
          refine (within_room_yes _ _ _ _ hc hd).mono ?_
          rintro e w1 ⟨rfl, rfl⟩
          go_wp2_with fail
          refine (G.out _).mono ?_
          rintro e w2 ⟨rfl, hb1⟩
          obtain ⟨hc1, hf1⟩ := bcell hb1
          go_wp2
          go_ret2
          refine ⟨ret2_int X.out.symm rfl, Below.trans ?_ (hb1.mono (by simp; try omega))⟩
          go_grown
        · have X := Lib.hid (shrV_less (k := 4) (used := used) h1 (by omega))
          go_enter Tryz.func55, Tryz.ntmps55
          go_wp2_with fail
          refine (C _).mono ?_
          rintro e w1 ⟨rfl, rfl, _⟩
          go_wp2_with fail
          refine (within_room_yes _ _ _ _ ha hb).mono ?_
          rintro e w1 ⟨rfl, rfl⟩
          go_wp2_with fail
          refine (within_room_yes _ _ _ _ hc hd).mono ?_
          rintro e w1 ⟨rfl, rfl⟩
          go_wp2_with fail
          refine (G.out _).mono ?_
          rintro e w2 ⟨rfl, hb1⟩
          obtain ⟨hc1, hf1⟩ := bcell hb1
          go_wp2
          go_ret2
          refine ⟨ret2_int X.out.symm rfl, Below.trans ?_ (hb1.mono (by simp; try omega))⟩
          go_grown
        · have X := Lib.hid (shrV_less (k := 5) (used := used) h1 (by omega))
          go_enter Tryz.func55, Tryz.ntmps55
          go_wp2_with fail
          refine (C _).mono ?_
          rintro e w1 ⟨rfl, rfl, _⟩
          go_wp2_with fail
          refine (within_room_yes _ _ _ _ ha hb).mono ?_
          rintro e w1 ⟨rfl, rfl⟩
          go_wp2_with fail
          refine (within_room_yes _ _ _ _ hc hd).mono ?_
          rintro e w1 ⟨rfl, rfl⟩
          go_wp2_with fail
          refine (G.out _).mono ?_
          rintro e w2 ⟨rfl, hb1⟩
          obtain ⟨hc1, hf1⟩ := bcell hb1
          go_wp2
          go_ret2
          refine ⟨ret2_int X.out.symm rfl, Below.trans ?_ (hb1.mono (by simp; try omega))⟩
          go_grown
    · have h3 : room ≤ g := by omega
      clear h1
      rcases hkk with rfl | rfl | rfl | rfl | rfl
      · have X := Lib.hid (shrV_more (k := 1) (used := used) h3)
        go_enter Tryz.func55, Tryz.ntmps55
        go_wp2_with fail
        refine (C _).mono ?_
        rintro e w1 ⟨rfl, rfl, _⟩
        go_wp2_with fail
        refine (within_room_yes _ _ _ _ ha hb).mono ?_
        rintro e w1 ⟨rfl, rfl⟩
        go_wp2_with fail
        refine (within_room_yes _ _ _ _ hc hd).mono ?_
        rintro e w1 ⟨rfl, rfl⟩
        go_wp2_with fail
        refine (G.out _).mono ?_
        rintro e w2 ⟨rfl, hb1⟩
        obtain ⟨hc1, hf1⟩ := bcell hb1
        go_wp2
        go_ret2
        refine ⟨ret2_int X.out.symm rfl, Below.trans ?_ (hb1.mono (by simp; try omega))⟩
        go_grown
      · have X := Lib.hid (shrV_more (k := 2) (used := used) h3)
        go_enter Tryz.func55, Tryz.ntmps55
        go_wp2_with fail
        refine (C _).mono ?_
        rintro e w1 ⟨rfl, rfl, _⟩
        go_wp2_with fail
        refine (within_room_yes _ _ _ _ ha hb).mono ?_
        rintro e w1 ⟨rfl, rfl⟩
        go_wp2_with fail
        refine (within_room_yes _ _ _ _ hc hd).mono ?_
        rintro e w1 ⟨rfl, rfl⟩
        go_wp2_with fail
        refine (G.out _).mono ?_
        rintro e w2 ⟨rfl, hb1⟩
        obtain ⟨hc1, hf1⟩ := bcell hb1
        go_wp2
        go_ret2
        refine ⟨ret2_int X.out.symm rfl, Below.trans ?_ (hb1.mono (by simp; try omega))⟩
        go_grown
      · have X := Lib.hid (shrV_more (k := 3) (used := used) h3)
        go_enter Tryz.func55, Tryz.ntmps55
        go_wp2_with fail
        refine (C _).mono ?_
        rintro e w1 ⟨rfl, rfl, _⟩
        go_wp2_with fail
        refine (within_room_yes _ _ _ _ ha hb).mono ?_
        rintro e w1 ⟨rfl, rfl⟩
        go_wp2_with fail
        refine (within_room_yes _ _ _ _ hc hd).mono ?_
        rintro e w1 ⟨rfl, rfl⟩
        go_wp2_with fail
        refine (G.out _).mono ?_
        rintro e w2 ⟨rfl, hb1⟩
        obtain ⟨hc1, hf1⟩ := bcell hb1
        go_wp2
        go_ret2
        refine ⟨ret2_int X.out.symm rfl, Below.trans ?_ (hb1.mono (by simp; try omega))⟩
        go_grown
      · have X := Lib.hid (shrV_more (k := 4) (used := used) h3)
        go_enter Tryz.func55, Tryz.ntmps55
        go_wp2_with fail
        refine (C _).mono ?_
        rintro e w1 ⟨rfl, rfl, _⟩
        go_wp2_with fail
        refine (within_room_yes _ _ _ _ ha hb).mono ?_
        rintro e w1 ⟨rfl, rfl⟩
        go_wp2_with fail
        refine (within_room_yes _ _ _ _ hc hd).mono ?_
        rintro e w1 ⟨rfl, rfl⟩
        go_wp2_with fail
        refine (G.out _).mono ?_
        rintro e w2 ⟨rfl, hb1⟩
        obtain ⟨hc1, hf1⟩ := bcell hb1
        go_wp2
        go_ret2
        refine ⟨ret2_int X.out.symm rfl, Below.trans ?_ (hb1.mono (by simp; try omega))⟩
        go_grown
      · have X := Lib.hid (shrV_more (k := 5) (used := used) h3)
        go_enter Tryz.func55, Tryz.ntmps55
        go_wp2_with fail
        refine (C _).mono ?_
        rintro e w1 ⟨rfl, rfl, _⟩
        go_wp2_with fail
        refine (within_room_yes _ _ _ _ ha hb).mono ?_
        rintro e w1 ⟨rfl, rfl⟩
        go_wp2_with fail
        refine (within_room_yes _ _ _ _ hc hd).mono ?_
        rintro e w1 ⟨rfl, rfl⟩
        go_wp2_with fail
        refine (G.out _).mono ?_
        rintro e w2 ⟨rfl, hb1⟩
        obtain ⟨hc1, hf1⟩ := bcell hb1
        go_wp2
        go_ret2
        refine ⟨ret2_int X.out.symm rfl, Below.trans ?_ (hb1.mono (by simp; try omega))⟩
        go_grown
  · rcases hkk with rfl | rfl | rfl | rfl | rfl
    · have X := Lib.hid (shrV_full (k := 1) (room := room) (used := used) (g := g))
      go_enter Tryz.func55, Tryz.ntmps55
      go_wp2_with fail
      refine (C _).mono ?_
      rintro e w1 ⟨rfl, rfl, _⟩
      go_wp2_with fail
      refine (within_room_yes _ _ _ _ ha hb).mono ?_
      rintro e w1 ⟨rfl, rfl⟩
      go_wp2_with fail
      refine (within_room_yes _ _ _ _ hc hd).mono ?_
      rintro e w1 ⟨rfl, rfl⟩
      go_wp2_with fail
      refine (G.out _).mono ?_
      rintro e w2 ⟨rfl, hb1⟩
      obtain ⟨hc1, hf1⟩ := bcell hb1
      go_wp2
      go_ret2
      refine ⟨ret2_int X.out.symm rfl, Below.trans ?_ (hb1.mono (by simp; try omega))⟩
      go_grown
    · have X := Lib.hid (shrV_full (k := 2) (room := room) (used := used) (g := g))
      go_enter Tryz.func55, Tryz.ntmps55
      go_wp2_with fail
      refine (C _).mono ?_
      rintro e w1 ⟨rfl, rfl, _⟩
      go_wp2_with fail
      refine (within_room_yes _ _ _ _ ha hb).mono ?_
      rintro e w1 ⟨rfl, rfl⟩
      go_wp2_with fail
      refine (within_room_yes _ _ _ _ hc hd).mono ?_
      rintro e w1 ⟨rfl, rfl⟩
      go_wp2_with fail
      refine (G.out _).mono ?_
      rintro e w2 ⟨rfl, hb1⟩
      obtain ⟨hc1, hf1⟩ := bcell hb1
      go_wp2
      go_ret2
      refine ⟨ret2_int X.out.symm rfl, Below.trans ?_ (hb1.mono (by simp; try omega))⟩
      go_grown
    · have X := Lib.hid (shrV_full (k := 3) (room := room) (used := used) (g := g))
      go_enter Tryz.func55, Tryz.ntmps55
      go_wp2_with fail
      refine (C _).mono ?_
      rintro e w1 ⟨rfl, rfl, _⟩
      go_wp2_with fail
      refine (within_room_yes _ _ _ _ ha hb).mono ?_
      rintro e w1 ⟨rfl, rfl⟩
      go_wp2_with fail
      refine (within_room_yes _ _ _ _ hc hd).mono ?_
      rintro e w1 ⟨rfl, rfl⟩
      go_wp2_with fail
      refine (G.out _).mono ?_
      rintro e w2 ⟨rfl, hb1⟩
      obtain ⟨hc1, hf1⟩ := bcell hb1
      go_wp2
      go_ret2
      refine ⟨ret2_int X.out.symm rfl, Below.trans ?_ (hb1.mono (by simp; try omega))⟩
      go_grown
    · have X := Lib.hid (shrV_full (k := 4) (room := room) (used := used) (g := g))
      go_enter Tryz.func55, Tryz.ntmps55
      go_wp2_with fail
      refine (C _).mono ?_
      rintro e w1 ⟨rfl, rfl, _⟩
      go_wp2_with fail
      refine (within_room_yes _ _ _ _ ha hb).mono ?_
      rintro e w1 ⟨rfl, rfl⟩
      go_wp2_with fail
      refine (within_room_yes _ _ _ _ hc hd).mono ?_
      rintro e w1 ⟨rfl, rfl⟩
      go_wp2_with fail
      refine (G.out _).mono ?_
      rintro e w2 ⟨rfl, hb1⟩
      obtain ⟨hc1, hf1⟩ := bcell hb1
      go_wp2
      go_ret2
      refine ⟨ret2_int X.out.symm rfl, Below.trans ?_ (hb1.mono (by simp; try omega))⟩
      go_grown
    · have X := Lib.hid (shrV_full (k := 5) (room := room) (used := used) (g := g))
      go_enter Tryz.func55, Tryz.ntmps55
      go_wp2_with fail
      refine (C _).mono ?_
      rintro e w1 ⟨rfl, rfl, _⟩
      go_wp2_with fail
      refine (within_room_yes _ _ _ _ ha hb).mono ?_
      rintro e w1 ⟨rfl, rfl⟩
      go_wp2_with fail
      refine (within_room_yes _ _ _ _ hc hd).mono ?_
      rintro e w1 ⟨rfl, rfl⟩
      go_wp2_with fail
      refine (G.out _).mono ?_
      rintro e w2 ⟨rfl, hb1⟩
      obtain ⟨hc1, hf1⟩ := bcell hb1
      go_wp2
      go_ret2
      refine ⟨ret2_int X.out.symm rfl, Below.trans ?_ (hb1.mono (by simp; try omega))⟩
      go_grown

end
end Go.Proofs.YtjogaohnphafgaaGreat

namespace Go.Proofs.YtjogaohnphafgaaGreat
section
open Go.RowKit

theorem shrink_any (k s m room used : Int) (w : World) :
    Calls Tryz.prog 55 #[.agg #[.int .i64 k, .int .i64 s, .int .i64 m], .int .i64 room, .int .i64 used] w (RetInt (shrinkV k s m room used) (shrinkE k s m room used) w) := by
  unfold shrinkV shrinkE
  by_cases h : polErr k s m = 0
  · by_cases hr : shrinkIn room used
    · rw [if_pos ⟨h, hr⟩, if_pos h, if_pos hr]
      exact shrink_core k s m room used _ _ w h hr.1.1 hr.1.2 hr.2.1 hr.2.2 (by rcases gE_cases k s m 0 used with x | x <;> omega) (fun w => grow_valid k s m 0 used w h (by omega) ⟨hr.2.1, by have := hr.1.2; have := hr.2.2; omega⟩)
    · rw [if_neg (fun x => hr x.2), if_pos h, if_neg hr]; exact shrink_range k s m room used w h hr
  · rw [if_neg (fun x => h x.1), if_neg h]; exact shrink_pol k s m room used w h

/-- A policy's box. -/
def BoxAt (w : World) (b : Nat) (k s m : Int) : Prop :=
  b < w.heap.size ∧ w.cell? ⟨b, 0, none⟩ = some (.int .i64 k) ∧ w.cell? ⟨b, 1, none⟩ = some (.int .i64 s) ∧ w.cell? ⟨b, 2, none⟩ = some (.int .i64 m)
theorem BoxAt.new (w : World) (k s m : Int) (t : TypeId) : BoxAt (w.alloc (.cells #[.int .i64 k, .int .i64 s, .int .i64 m] t)) w.heap.size k s m := by
  refine ⟨by simp, ?_, ?_, ?_⟩ <;> (rw [cell_of_row _ _ _ _ _ _ (heap_alloc_new w _)]; rfl)
theorem BoxAt.below {w w' : World} {b : Nat} {k s m : Int} (h : BoxAt w b k s m) (hb : Below w.heap.size w w') : BoxAt w' b k s m :=
  ⟨Nat.lt_of_lt_of_le h.1 hb.size, (hb.cell (p := ⟨b, 0, none⟩) h.1).trans h.2.1, (hb.cell (p := ⟨b, 1, none⟩) h.1).trans h.2.2.1, (hb.cell (p := ⟨b, 2, none⟩) h.1).trans h.2.2.2⟩

end
end Go.Proofs.YtjogaohnphafgaaGreat

namespace Go.Proofs.YtjogaohnphafgaaGreat
section
open Go.RowKit

/-- The book of the statements: one account, number 1. -/
def oneSt (l : Int) : BookSt := openSt (newSt 10000000) 1 l

def BookPost (l : Int) (w : World) : Ending → World → Prop := fun e w' =>
  ∃ p, e = .returned (.pointer (some ⟨p, 0, none⟩)) ∧ BookAt w' (fun k => w.heap.size ≤ k) p (oneSt l) 1 ∧ Below w.heap.size w w'

set_option maxHeartbeats 1000000 in
set_option maxRecDepth 100000 in
theorem book_any (l : Int) (w : World) (h1 : 0 ≤ l) (h2 : l ≤ 10000000) :
    Calls Tryz.prog 5 #[.int .i64 l] w (BookPost l w) := by
  go_enter Tryz.func5, Tryz.ntmps5
  go_wp2_with fail
  refine (newBook_ok _ _ (by omega) (by omega)).mono ?_
  rintro e w1 ⟨p, rfl, hb, hbel⟩
  have O := Lib.hid (open_new p 1 l w1 _ _ 0 hb (by simp [newSt]) (by unfold maxLen; omega) (by omega) ⟨h1, h2⟩ rfl)
  have hsz := hbel.size
  clear hb
  go_wp2_with fail
  refine O.out.mono ?_
  rintro e w2 ⟨rfl, hb2, ht2⟩
  go_wp2_with fail
  go_ret
  refine ⟨p, rfl, hb2.wider (fun k hk => by rcases hk with hk | hk <;> omega), ?_⟩
  exact hbel.trans (ht2.below hsz (fun k hk => hk))

def strangerE (o : Int) : Int := if o < 1 ∨ 40 < o then 2 else 7
theorem heldE_one (l o : Int) : heldE (oneSt l) o = if o = 1 then 0 else strangerE o := by
  unfold heldE strangerE oneSt openSt newSt
  by_cases h : o = 1
  · subst h; simp
  · by_cases h2 : 1 ≤ o ∧ o ≤ 40
    · rw [if_pos h2]; simp [h]; omega
    · rw [if_neg h2, if_neg h, if_pos (by omega)]

/-- A constructor's result: an object in a new block, or an error. -/
def PtrPost (cs : Array Value) (t : TypeId) (err : Int) (w : World) : Ending → World → Prop := fun e w' =>
  Below w.heap.size w w' ∧ ((err ≠ 0 ∧ e = .returned (.tuple #[.pointer none, .int .i64 err])) ∨
    (err = 0 ∧ ∃ h, e = .returned (.tuple #[.pointer (some ⟨h, 0, none⟩), .int .i64 0]) ∧ w.heap.size ≤ h ∧ w'.heap[h]? = some (.cells cs t (0, 0))))

def heapCells (p : Nat) (o k s m : Int) : Array Value :=
  #[.pointer (some ⟨p, 0, none⟩), .int .i64 o, .int .i64 k, .int .i64 s, .int .i64 m, .bool false, .slice none 0 0, .slice none 0 0, .int .i64 0, .int .i64 0, .slice none 0 0]

def newErr (st : BookSt) (k s m o : Int) : Int := if polErr k s m = 0 then heldE st o else polErr k s m

set_option maxHeartbeats 2000000 in
set_option maxRecDepth 100000 in
theorem newHeap_any (p : Nat) (o k s m : Int) (w : World) (F : Nat → Prop) (st : BookSt) (N : Nat) (hb : BookAt w F p st N) :
    Calls Tryz.prog 7 #[.pointer (some ⟨p, 0, none⟩), .int .i64 o, .agg #[.int .i64 k, .int .i64 s, .int .i64 m]] w (PtrPost (heapCells p o k s m) 75 (newErr st k s m o) w) := by
  have C := checkPolicy_any k s m
  by_cases h0 : polErr k s m = 0
  · have hb2 := hb.same (Below.same_on (w' := (w.alloc (.cells #[.int .i64 k, .int .i64 s, .int .i64 m] 23)).alloc (.cells #[.int .i64 k, .int .i64 s, .int .i64 m] 23)) (by go_grown))
    have HH := Lib.hid (held_any p o _ F st N hb2)
    by_cases he : heldE st o = 0
    · have E := Lib.hid (show newErr st k s m o = 0 from by unfold newErr; rw [if_pos h0, he])
      rw [h0] at C
      rw [he] at HH
      have HC := Lib.hid C
      clear C h0 he hb hb2
      generalize heldV st o = hv at *
      go_enter Tryz.func7, Tryz.ntmps7
      go_wp2_with fail
      refine (HC.out _).mono ?_
      rintro e w1 ⟨rfl, rfl, _⟩
      go_wp2_with fail
      refine HH.out.mono ?_
      rintro e w1 ⟨rfl, rfl⟩
      go_wp2_with fail
      go_ret2
      refine ⟨by go_grown, Or.inr ⟨E.out, _, rfl, ?_, ?_⟩⟩
      · omega
      · have := heap_alloc_new ((w.alloc (.cells #[.int .i64 k, .int .i64 s, .int .i64 m] 23)).alloc (.cells #[.int .i64 k, .int .i64 s, .int .i64 m] 23)) (.cells (heapCells p o k s m) 75)
        simpa [heapCells] using this
    · have E := Lib.hid (show newErr st k s m o = heldE st o from by unfold newErr; rw [if_pos h0])
      have e1 : (heldE st o != 0) = true := bne_iff_ne.2 he
      have NE := Lib.hid he
      rw [h0] at C
      have HC := Lib.hid C
      clear C h0 hb hb2 he
      generalize heldV st o = hv at *
      generalize heldE st o = he at *
      go_enter Tryz.func7, Tryz.ntmps7
      go_wp2_with fail
      refine (HC.out _).mono ?_
      rintro e w1 ⟨rfl, rfl, _⟩
      go_wp2_with fail
      refine HH.out.mono ?_
      rintro e w1 ⟨rfl, rfl⟩
      go_wp2_with fail
      go_ret2
      refine ⟨by go_grown, Or.inl ⟨by rw [E.out]; exact NE.out, by rw [E.out]; rfl⟩⟩
  · have E := Lib.hid (show newErr st k s m o = polErr k s m from by unfold newErr; rw [if_neg h0])
    have e1 : (polErr k s m != 0) = true := bne_iff_ne.2 h0
    have NE := Lib.hid h0
    have HC := Lib.hid C
    clear C h0 hb
    generalize polErr k s m = pe at *
    go_enter Tryz.func7, Tryz.ntmps7
    go_wp2_with fail
    refine (HC.out _).mono ?_
    rintro e w1 ⟨rfl, rfl, _⟩
    go_wp2_with fail
    go_ret2
    refine ⟨by go_grown, Or.inl ⟨by rw [E.out]; exact NE.out, by rw [E.out]; rfl⟩⟩

/-- The error that the statements expect of a constructor with a policy and an owner. -/
def wantErr (k s m o : Int) : Int := if polErr k s m = 0 then (if o = 1 then 0 else strangerE o) else polErr k s m

theorem newErr_one (l k s m o : Int) : newErr (oneSt l) k s m o = wantErr k s m o := by unfold newErr wantErr; rw [heldE_one]
theorem strangerE_ne (o : Int) : strangerE o ≠ 0 := by unfold strangerE; split <;> decide

end
end Go.Proofs.YtjogaohnphafgaaGreat
