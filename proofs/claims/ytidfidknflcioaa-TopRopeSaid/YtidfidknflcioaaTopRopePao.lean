/-
  Shrink and ShrinkOf: both are one function; the walks of RoomGrows and RoomTurns. No conditions.
-/
import Derived.Test.YtidfidknflcioaaTopRopePag
namespace Go.Proofs.Ytidfidknflcioaa
open Go.RowKit

/-- The room that is left, for arguments that are right: g, e: what Grow gives for a room 0. -/
def shrV (k room used g e : Int) : Int := if e = 0 ∧ g < room ∧ ¬ ((k = 3 ∨ k = 4) ∧ room < 4 * used) then g else room
def shrinkIn (room used : Int) : Prop := (0 ≤ room ∧ room ≤ 100000) ∧ (0 ≤ used ∧ used ≤ room)
instance (room used : Int) : Decidable (shrinkIn room used) := by unfold shrinkIn; exact inferInstance
def shrinkV (k s m room used : Int) : Int := if polErr k s m = 0 ∧ shrinkIn room used then shrV k room used (gV k s m 0 used) (gE m 0 used) else 0
def shrinkE (k s m room used : Int) : Int := if polErr k s m = 0 then (if shrinkIn room used then 0 else 2) else polErr k s m

theorem shrV_full {k room used g : Int} : shrV k room used g 12 = room := by unfold shrV; rw [if_neg (by omega)]
theorem shrV_more {k room used g : Int} (h : room ≤ g) : shrV k room used g 0 = room := by unfold shrV; rw [if_neg (by omega)]
theorem shrV_loose {k room used g : Int} (hk : k = 3 ∨ k = 4) (h : room < 4 * used) : shrV k room used g 0 = room := by unfold shrV; rw [if_neg (fun x => x.2.2 ⟨hk, h⟩)]
theorem shrV_less {k room used g : Int} (h : g < room) (h2 : ¬ ((k = 3 ∨ k = 4) ∧ room < 4 * used)) : shrV k room used g 0 = g := by unfold shrV; rw [if_pos ⟨rfl, h, h2⟩]

set_option maxHeartbeats 1000000 in
theorem shrink_pol (k s m room used : Int) (w : World) (h : polErr k s m ≠ 0) :
    Calls Try.prog 53 #[.agg #[.int .i64 k, .int .i64 s, .int .i64 m], .int .i64 room, .int .i64 used] w (RetInt 0 (polErr k s m) w) := by
  have hb : (polErr k s m != 0) = true := bne_iff_ne.2 h
  have C := checkPolicy_any k s m
  generalize polErr k s m = err at *
  go_enter Try.func53, Try.ntmps53
  go_wp2_with fail
  refine (C _).mono ?_
  rintro e w1 ⟨rfl, rfl, _⟩
  go_wp2_with fail
  go_ret2
  exact ⟨rfl, by go_grown⟩

set_option maxHeartbeats 1000000 in
theorem shrink_range (k s m room used : Int) (w : World) (h : polErr k s m = 0) (hr : ¬ shrinkIn room used) :
    Calls Try.prog 53 #[.agg #[.int .i64 k, .int .i64 s, .int .i64 m], .int .i64 room, .int .i64 used] w (RetInt 0 2 w) := by
  have C := checkPolicy_any k s m
  rw [h] at C
  clear h
  unfold shrinkIn at hr
  by_cases h1 : 0 ≤ room ∧ room ≤ 100000
  · have h2 : ¬ (0 ≤ used ∧ used ≤ room) := fun h => hr ⟨h1, h⟩
    have H2 := Lib.hid h2
    obtain ⟨ha, hb⟩ := h1
    clear hr
    clear h2
    go_enter Try.func53, Try.ntmps53
    go_wp2_with fail
    refine (C _).mono ?_
    rintro e w1 ⟨rfl, rfl, _⟩
    go_wp2_with fail
    refine (within_room_yes _ _ _ _ ha hb).mono ?_
    rintro e w1 ⟨rfl, rfl⟩
    go_wp2_with fail
    refine (within_room_no _ _ _ _ H2.out).mono ?_
    rintro e w1 ⟨rfl, rfl⟩
    go_wp2_with fail
    go_ret2
    exact ⟨rfl, by go_grown⟩
  · have H1 := Lib.hid h1
    clear hr h1
    go_enter Try.func53, Try.ntmps53
    go_wp2_with fail
    refine (C _).mono ?_
    rintro e w1 ⟨rfl, rfl, _⟩
    go_wp2_with fail
    refine (within_room_no _ _ _ _ H1.out).mono ?_
    rintro e w1 ⟨rfl, rfl⟩
    go_wp2_with fail
    go_ret2
    exact ⟨rfl, by go_grown⟩

set_option maxHeartbeats 4000000 in
theorem shrink_core (k s m room used g e : Int) (w : World) (h : polErr k s m = 0) (ha : 0 ≤ room) (hb : room ≤ 100000) (hc : 0 ≤ used) (hd : used ≤ room) (he : e = 0 ∨ e = 12)
    (hg : ∀ w, Calls Try.prog 79 #[.agg #[.int .i64 k, .int .i64 s, .int .i64 m], .int .i64 0, .int .i64 used] w (RetInt g e w)) :
    Calls Try.prog 53 #[.agg #[.int .i64 k, .int .i64 s, .int .i64 m], .int .i64 room, .int .i64 used] w (RetInt (shrV k room used g e) 0 w) := by
  have C := checkPolicy_any k s m
  rw [h] at C
  have G := Lib.hid hg
  obtain ⟨p1, _, _⟩ := polOk_of h
  clear h hg
  have hkk : k = 1 ∨ k = 2 ∨ k = 3 ∨ k = 4 ∨ k = 5 := by omega
  clear p1
  rcases he with rfl | rfl
  · by_cases h1 : g < room
    · by_cases h2 : room < 4 * used
      · rcases hkk with rfl | rfl | rfl | rfl | rfl
        · have X := Lib.hid (shrV_less (k := 1) (used := used) h1 (by omega))
          go_enter Try.func53, Try.ntmps53
          go_wp2_with fail
          refine (C _).mono ?_
          rintro e w1 ⟨rfl, rfl, _⟩
          go_wp2_with fail
          refine (within_room_yes _ _ _ _ ha hb).mono ?_
          rintro e w1 ⟨rfl, rfl⟩
          go_wp2_with fail
          refine (within_room_yes _ _ _ _ hc hd).mono ?_
          rintro e w1 ⟨rfl, rfl⟩
          go_wp2_with fail
          refine (G.out _).mono ?_
          rintro e w2 ⟨rfl, hb1⟩
          obtain ⟨hc1, hf1⟩ := bcell hb1
          go_wp2
          go_ret2
          refine ⟨ret2_int X.out.symm rfl, Below.trans ?_ (hb1.mono (by simp; try omega))⟩
          go_grown
        · have X := Lib.hid (shrV_less (k := 2) (used := used) h1 (by omega))
          go_enter Try.func53, Try.ntmps53
          go_wp2_with fail
          refine (C _).mono ?_
          rintro e w1 ⟨rfl, rfl, _⟩
          go_wp2_with fail
          refine (within_room_yes _ _ _ _ ha hb).mono ?_
          rintro e w1 ⟨rfl, rfl⟩
          go_wp2_with fail
          refine (within_room_yes _ _ _ _ hc hd).mono ?_
          rintro e w1 ⟨rfl, rfl⟩
          go_wp2_with fail
          refine (G.out _).mono ?_
          rintro e w2 ⟨rfl, hb1⟩
          obtain ⟨hc1, hf1⟩ := bcell hb1
          go_wp2
          go_ret2
          refine ⟨ret2_int X.out.symm rfl, Below.trans ?_ (hb1.mono (by simp; try omega))⟩
          go_grown
        · have X := Lib.hid (shrV_loose (k := 3) (used := used) (g := g) (by omega) h2)
          go_enter Try.func53, Try.ntmps53
          go_wp2_with fail
          refine (C _).mono ?_
          rintro e w1 ⟨rfl, rfl, _⟩
          go_wp2_with fail
          refine (within_room_yes _ _ _ _ ha hb).mono ?_
          rintro e w1 ⟨rfl, rfl⟩
          go_wp2_with fail
          refine (within_room_yes _ _ _ _ hc hd).mono ?_
          rintro e w1 ⟨rfl, rfl⟩
          go_wp2_with fail
          refine (G.out _).mono ?_
          rintro e w2 ⟨rfl, hb1⟩
          obtain ⟨hc1, hf1⟩ := bcell hb1
          go_wp2
          go_ret2
          refine ⟨ret2_int X.out.symm rfl, Below.trans ?_ (hb1.mono (by simp; try omega))⟩
          go_grown
        · have X := Lib.hid (shrV_loose (k := 4) (used := used) (g := g) (by omega) h2)
          go_enter Try.func53, Try.ntmps53
          go_wp2_with fail
          refine (C _).mono ?_
          rintro e w1 ⟨rfl, rfl, _⟩
          go_wp2_with fail
          refine (within_room_yes _ _ _ _ ha hb).mono ?_
          rintro e w1 ⟨rfl, rfl⟩
          go_wp2_with fail
          refine (within_room_yes _ _ _ _ hc hd).mono ?_
          rintro e w1 ⟨rfl, rfl⟩
          go_wp2_with fail
          refine (G.out _).mono ?_
          rintro e w2 ⟨rfl, hb1⟩
          obtain ⟨hc1, hf1⟩ := bcell hb1
          go_wp2
          go_ret2
          refine ⟨ret2_int X.out.symm rfl, Below.trans ?_ (hb1.mono (by simp; try omega))⟩
          go_grown
        · have X := Lib.hid (shrV_less (k := 5) (used := used) h1 (by omega))
          go_enter Try.func53, Try.ntmps53
          go_wp2_with fail
          refine (C _).mono ?_
          rintro e w1 ⟨rfl, rfl, _⟩
          go_wp2_with fail
          refine (within_room_yes _ _ _ _ ha hb).mono ?_
          rintro e w1 ⟨rfl, rfl⟩
          go_wp2_with fail
          refine (within_room_yes _ _ _ _ hc hd).mono ?_
          rintro e w1 ⟨rfl, rfl⟩
          go_wp2_with fail
          refine (G.out _).mono ?_
          rintro e w2 ⟨rfl, hb1⟩
          obtain ⟨hc1, hf1⟩ := bcell hb1
          go_wp2
          go_ret2
          refine ⟨ret2_int X.out.symm rfl, Below.trans ?_ (hb1.mono (by simp; try omega))⟩
          go_grown
      · have h3 : 4 * used ≤ room := by omega
        clear h2
        rcases hkk with rfl | rfl | rfl | rfl | rfl
        · have X := Lib.hid (shrV_less (k := 1) (used := used) h1 (by omega))
          go_enter Try.func53, Try.ntmps53
          go_wp2_with fail
          refine (C _).mono ?_
          rintro e w1 ⟨rfl, rfl, _⟩
          go_wp2_with fail
          refine (within_room_yes _ _ _ _ ha hb).mono ?_
          rintro e w1 ⟨rfl, rfl⟩
          go_wp2_with fail
          refine (within_room_yes _ _ _ _ hc hd).mono ?_
          rintro e w1 ⟨rfl, rfl⟩
          go_wp2_with fail
          refine (G.out _).mono ?_
          rintro e w2 ⟨rfl, hb1⟩
          obtain ⟨hc1, hf1⟩ := bcell hb1
          go_wp2
          go_ret2
          refine ⟨ret2_int X.out.symm rfl, Below.trans ?_ (hb1.mono (by simp; try omega))⟩
          go_grown
        · have X := Lib.hid (shrV_less (k := 2) (used := used) h1 (by omega))
          go_enter Try.func53, Try.ntmps53
          go_wp2_with fail
          refine (C _).mono ?_
          rintro e w1 ⟨rfl, rfl, _⟩
          go_wp2_with fail
          refine (within_room_yes _ _ _ _ ha hb).mono ?_
          rintro e w1 ⟨rfl, rfl⟩
          go_wp2_with fail
          refine (within_room_yes _ _ _ _ hc hd).mono ?_
          rintro e w1 ⟨rfl, rfl⟩
          go_wp2_with fail
          refine (G.out _).mono ?_
          rintro e w2 ⟨rfl, hb1⟩
          obtain ⟨hc1, hf1⟩ := bcell hb1
          go_wp2
          go_ret2
          refine ⟨ret2_int X.out.symm rfl, Below.trans ?_ (hb1.mono (by simp; try omega))⟩
          go_grown
        · have X := Lib.hid (shrV_less (k := 3) (used := used) h1 (by omega))
          go_enter Try.func53, Try.ntmps53
          go_wp2_with fail
          refine (C _).mono ?_
          rintro e w1 ⟨rfl, rfl, _⟩
          go_wp2_with fail
          refine (within_room_yes _ _ _ _ ha hb).mono ?_
          rintro e w1 ⟨rfl, rfl⟩
          go_wp2_with fail
          refine (within_room_yes _ _ _ _ hc hd).mono ?_
          rintro e w1 ⟨rfl, rfl⟩
          go_wp2_with fail
          refine (G.out _).mono ?_
          rintro e w2 ⟨rfl, hb1⟩
          obtain ⟨hc1, hf1⟩ := bcell hb1
          go_wp2
          go_ret2
          refine ⟨ret2_int X.out.symm rfl, Below.trans ?_ (hb1.mono (by simp; try omega))⟩
          go_grown
        · have X := Lib.hid (shrV_less (k := 4) (used := used) h1 (by omega))
          go_enter Try.func53, Try.ntmps53
          go_wp2_with fail
          refine (C _).mono ?_
          rintro e w1 ⟨rfl, rfl, _⟩
          go_wp2_with fail
          refine (within_room_yes _ _ _ _ ha hb).mono ?_
          rintro e w1 ⟨rfl, rfl⟩
          go_wp2_with fail
          refine (within_room_yes _ _ _ _ hc hd).mono ?_
          rintro e w1 ⟨rfl, rfl⟩
          go_wp2_with fail
          refine (G.out _).mono ?_
          rintro e w2 ⟨rfl, hb1⟩
          obtain ⟨hc1, hf1⟩ := bcell hb1
          go_wp2
          go_ret2
          refine ⟨ret2_int X.out.symm rfl, Below.trans ?_ (hb1.mono (by simp; try omega))⟩
          go_grown
        · have X := Lib.hid (shrV_less (k := 5) (used := used) h1 (by omega))
          go_enter Try.func53, Try.ntmps53
          go_wp2_with fail
          refine (C _).mono ?_
          rintro e w1 ⟨rfl, rfl, _⟩
          go_wp2_with fail
          refine (within_room_yes _ _ _ _ ha hb).mono ?_
          rintro e w1 ⟨rfl, rfl⟩
          go_wp2_with fail
          refine (within_room_yes _ _ _ _ hc hd).mono ?_
          rintro e w1 ⟨rfl, rfl⟩
          go_wp2_with fail
          refine (G.out _).mono ?_
          rintro e w2 ⟨rfl, hb1⟩
          obtain ⟨hc1, hf1⟩ := bcell hb1
          go_wp2
          go_ret2
          refine ⟨ret2_int X.out.symm rfl, Below.trans ?_ (hb1.mono (by simp; try omega))⟩
          go_grown
    · have h3 : room ≤ g := by omega
      clear h1
      rcases hkk with rfl | rfl | rfl | rfl | rfl
      · have X := Lib.hid (shrV_more (k := 1) (used := used) h3)
        go_enter Try.func53, Try.ntmps53
        go_wp2_with fail
        refine (C _).mono ?_
        rintro e w1 ⟨rfl, rfl, _⟩
        go_wp2_with fail
        refine (within_room_yes _ _ _ _ ha hb).mono ?_
        rintro e w1 ⟨rfl, rfl⟩
        go_wp2_with fail
        refine (within_room_yes _ _ _ _ hc hd).mono ?_
        rintro e w1 ⟨rfl, rfl⟩
        go_wp2_with fail
        refine (G.out _).mono ?_
        rintro e w2 ⟨rfl, hb1⟩
        obtain ⟨hc1, hf1⟩ := bcell hb1
        go_wp2
        go_ret2
        refine ⟨ret2_int X.out.symm rfl, Below.trans ?_ (hb1.mono (by simp; try omega))⟩
        go_grown
      · have X := Lib.hid (shrV_more (k := 2) (used := used) h3)
        go_enter Try.func53, Try.ntmps53
        go_wp2_with fail
        refine (C _).mono ?_
        rintro e w1 ⟨rfl, rfl, _⟩
        go_wp2_with fail
        refine (within_room_yes _ _ _ _ ha hb).mono ?_
        rintro e w1 ⟨rfl, rfl⟩
        go_wp2_with fail
        refine (within_room_yes _ _ _ _ hc hd).mono ?_
        rintro e w1 ⟨rfl, rfl⟩
        go_wp2_with fail
        refine (G.out _).mono ?_
        rintro e w2 ⟨rfl, hb1⟩
        obtain ⟨hc1, hf1⟩ := bcell hb1
        go_wp2
        go_ret2
        refine ⟨ret2_int X.out.symm rfl, Below.trans ?_ (hb1.mono (by simp; try omega))⟩
        go_grown
      · have X := Lib.hid (shrV_more (k := 3) (used := used) h3)
        go_enter Try.func53, Try.ntmps53
        go_wp2_with fail
        refine (C _).mono ?_
        rintro e w1 ⟨rfl, rfl, _⟩
        go_wp2_with fail
        refine (within_room_yes _ _ _ _ ha hb).mono ?_
        rintro e w1 ⟨rfl, rfl⟩
        go_wp2_with fail
        refine (within_room_yes _ _ _ _ hc hd).mono ?_
        rintro e w1 ⟨rfl, rfl⟩
        go_wp2_with fail
        refine (G.out _).mono ?_
        rintro e w2 ⟨rfl, hb1⟩
        obtain ⟨hc1, hf1⟩ := bcell hb1
        go_wp2
        go_ret2
        refine ⟨ret2_int X.out.symm rfl, Below.trans ?_ (hb1.mono (by simp; try omega))⟩
        go_grown
      · have X := Lib.hid (shrV_more (k := 4) (used := used) h3)
        go_enter Try.func53, Try.ntmps53
        go_wp2_with fail
        refine (C _).mono ?_
        rintro e w1 ⟨rfl, rfl, _⟩
        go_wp2_with fail
        refine (within_room_yes _ _ _ _ ha hb).mono ?_
        rintro e w1 ⟨rfl, rfl⟩
        go_wp2_with fail
        refine (within_room_yes _ _ _ _ hc hd).mono ?_
        rintro e w1 ⟨rfl, rfl⟩
        go_wp2_with fail
        refine (G.out _).mono ?_
        rintro e w2 ⟨rfl, hb1⟩
        obtain ⟨hc1, hf1⟩ := bcell hb1
        go_wp2
        go_ret2
        refine ⟨ret2_int X.out.symm rfl, Below.trans ?_ (hb1.mono (by simp; try omega))⟩
        go_grown
      · have X := Lib.hid (shrV_more (k := 5) (used := used) h3)
        go_enter Try.func53, Try.ntmps53
        go_wp2_with fail
        refine (C _).mono ?_
        rintro e w1 ⟨rfl, rfl, _⟩
        go_wp2_with fail
        refine (within_room_yes _ _ _ _ ha hb).mono ?_
        rintro e w1 ⟨rfl, rfl⟩
        go_wp2_with fail
        refine (within_room_yes _ _ _ _ hc hd).mono ?_
        rintro e w1 ⟨rfl, rfl⟩
        go_wp2_with fail
        refine (G.out _).mono ?_
        rintro e w2 ⟨rfl, hb1⟩
        obtain ⟨hc1, hf1⟩ := bcell hb1
        go_wp2
        go_ret2
        refine ⟨ret2_int X.out.symm rfl, Below.trans ?_ (hb1.mono (by simp; try omega))⟩
        go_grown
  · rcases hkk with rfl | rfl | rfl | rfl | rfl
    · have X := Lib.hid (shrV_full (k := 1) (room := room) (used := used) (g := g))
      go_enter Try.func53, Try.ntmps53
      go_wp2_with fail
      refine (C _).mono ?_
      rintro e w1 ⟨rfl, rfl, _⟩
      go_wp2_with fail
      refine (within_room_yes _ _ _ _ ha hb).mono ?_
      rintro e w1 ⟨rfl, rfl⟩
      go_wp2_with fail
      refine (within_room_yes _ _ _ _ hc hd).mono ?_
      rintro e w1 ⟨rfl, rfl⟩
      go_wp2_with fail
      refine (G.out _).mono ?_
      rintro e w2 ⟨rfl, hb1⟩
      obtain ⟨hc1, hf1⟩ := bcell hb1
      go_wp2
      go_ret2
      refine ⟨ret2_int X.out.symm rfl, Below.trans ?_ (hb1.mono (by simp; try omega))⟩
      go_grown
    · have X := Lib.hid (shrV_full (k := 2) (room := room) (used := used) (g := g))
      go_enter Try.func53, Try.ntmps53
      go_wp2_with fail
      refine (C _).mono ?_
      rintro e w1 ⟨rfl, rfl, _⟩
      go_wp2_with fail
      refine (within_room_yes _ _ _ _ ha hb).mono ?_
      rintro e w1 ⟨rfl, rfl⟩
      go_wp2_with fail
      refine (within_room_yes _ _ _ _ hc hd).mono ?_
      rintro e w1 ⟨rfl, rfl⟩
      go_wp2_with fail
      refine (G.out _).mono ?_
      rintro e w2 ⟨rfl, hb1⟩
      obtain ⟨hc1, hf1⟩ := bcell hb1
      go_wp2
      go_ret2
      refine ⟨ret2_int X.out.symm rfl, Below.trans ?_ (hb1.mono (by simp; try omega))⟩
      go_grown
    · have X := Lib.hid (shrV_full (k := 3) (room := room) (used := used) (g := g))
      go_enter Try.func53, Try.ntmps53
      go_wp2_with fail
      refine (C _).mono ?_
      rintro e w1 ⟨rfl, rfl, _⟩
      go_wp2_with fail
      refine (within_room_yes _ _ _ _ ha hb).mono ?_
      rintro e w1 ⟨rfl, rfl⟩
      go_wp2_with fail
      refine (within_room_yes _ _ _ _ hc hd).mono ?_
      rintro e w1 ⟨rfl, rfl⟩
      go_wp2_with fail
      refine (G.out _).mono ?_
      rintro e w2 ⟨rfl, hb1⟩
      obtain ⟨hc1, hf1⟩ := bcell hb1
      go_wp2
      go_ret2
      refine ⟨ret2_int X.out.symm rfl, Below.trans ?_ (hb1.mono (by simp; try omega))⟩
      go_grown
    · have X := Lib.hid (shrV_full (k := 4) (room := room) (used := used) (g := g))
      go_enter Try.func53, Try.ntmps53
      go_wp2_with fail
      refine (C _).mono ?_
      rintro e w1 ⟨rfl, rfl, _⟩
      go_wp2_with fail
      refine (within_room_yes _ _ _ _ ha hb).mono ?_
      rintro e w1 ⟨rfl, rfl⟩
      go_wp2_with fail
      refine (within_room_yes _ _ _ _ hc hd).mono ?_
      rintro e w1 ⟨rfl, rfl⟩
      go_wp2_with fail
      refine (G.out _).mono ?_
      rintro e w2 ⟨rfl, hb1⟩
      obtain ⟨hc1, hf1⟩ := bcell hb1
      go_wp2
      go_ret2
      refine ⟨ret2_int X.out.symm rfl, Below.trans ?_ (hb1.mono (by simp; try omega))⟩
      go_grown
    · have X := Lib.hid (shrV_full (k := 5) (room := room) (used := used) (g := g))
      go_enter Try.func53, Try.ntmps53
      go_wp2_with fail
      refine (C _).mono ?_
      rintro e w1 ⟨rfl, rfl, _⟩
      go_wp2_with fail
      refine (within_room_yes _ _ _ _ ha hb).mono ?_
      rintro e w1 ⟨rfl, rfl⟩
      go_wp2_with fail
      refine (within_room_yes _ _ _ _ hc hd).mono ?_
      rintro e w1 ⟨rfl, rfl⟩
      go_wp2_with fail
      refine (G.out _).mono ?_
      rintro e w2 ⟨rfl, hb1⟩
      obtain ⟨hc1, hf1⟩ := bcell hb1
      go_wp2
      go_ret2
      refine ⟨ret2_int X.out.symm rfl, Below.trans ?_ (hb1.mono (by simp; try omega))⟩
      go_grown

end Go.Proofs.Ytidfidknflcioaa
