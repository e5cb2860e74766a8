/-
  ShrinkOf beside Shrink; the walks of RoomGrows and RoomTurns. No conditions.
-/
import Derived.Test.YteeiohhoccgafaaShrink
namespace Go.Proofs.Yteeiohhoccgafaa
open Go.RowKit

set_option maxHeartbeats 4000000 in
theorem shrunk_core (k s m room used g e : Int) (w : World) (p1 : 1 ≤ k ∧ k ≤ 5) (ha : 0 ≤ room) (hb : room ≤ 100000) (hc : 0 ≤ used) (hd : used ≤ room) (he : e = 0 ∨ e = 12)
    (hg : ∀ w, Calls Try.prog 71 #[.agg #[.int .i64 k, .int .i64 s, .int .i64 m], .int .i64 0, .int .i64 used] w (GPost g (e == 0) w)) :
    Calls Try.prog 72 #[.agg #[.int .i64 k, .int .i64 s, .int .i64 m], .int .i64 room, .int .i64 used] w (WPost (shrV k room used g e) w) := by
  have hkk : k = 1 ∨ k = 2 ∨ k = 3 ∨ k = 4 ∨ k = 5 := by omega
  clear p1
  rcases he with rfl | rfl
  · rw [show ((0 : Int) == 0) = true from rfl] at hg
    have G := Lib.hid hg
    clear hg
    by_cases h1 : g < room
    · by_cases h2 : room < 4 * used
      · rcases hkk with rfl | rfl | rfl | rfl | rfl
        · have X := Lib.hid (shrV_less (k := 1) (used := used) h1 (by omega))
          go_enter Try.func72, Try.ntmps72
          go_wp2_with fail
          refine (G.out _).mono ?_
          rintro e w2 ⟨rfl, hb1⟩
          obtain ⟨hc1, hf1⟩ := bcell hb1
          go_wp2
          go_ret
          refine ⟨ret_int X.out.symm, Below.trans ?_ (hb1.mono (by simp; try omega))⟩
          go_grown
        · have X := Lib.hid (shrV_less (k := 2) (used := used) h1 (by omega))
          go_enter Try.func72, Try.ntmps72
          go_wp2_with fail
          refine (G.out _).mono ?_
          rintro e w2 ⟨rfl, hb1⟩
          obtain ⟨hc1, hf1⟩ := bcell hb1
          go_wp2
          go_ret
          refine ⟨ret_int X.out.symm, Below.trans ?_ (hb1.mono (by simp; try omega))⟩
          go_grown
        · have X := Lib.hid (shrV_loose (k := 3) (used := used) (g := g) (by omega) h2)
          go_enter Try.func72, Try.ntmps72
          go_wp2_with fail
          refine (G.out _).mono ?_
          rintro e w2 ⟨rfl, hb1⟩
          obtain ⟨hc1, hf1⟩ := bcell hb1
          go_wp2
          go_ret
          refine ⟨ret_int X.out.symm, Below.trans ?_ (hb1.mono (by simp; try omega))⟩
          go_grown
        · have X := Lib.hid (shrV_loose (k := 4) (used := used) (g := g) (by omega) h2)
          go_enter Try.func72, Try.ntmps72
          go_wp2_with fail
          refine (G.out _).mono ?_
          rintro e w2 ⟨rfl, hb1⟩
          obtain ⟨hc1, hf1⟩ := bcell hb1
          go_wp2
          go_ret
          refine ⟨ret_int X.out.symm, Below.trans ?_ (hb1.mono (by simp; try omega))⟩
          go_grown
        · have X := Lib.hid (shrV_less (k := 5) (used := used) h1 (by omega))
          go_enter Try.func72, Try.ntmps72
          go_wp2_with fail
          refine (G.out _).mono ?_
          rintro e w2 ⟨rfl, hb1⟩
          obtain ⟨hc1, hf1⟩ := bcell hb1
          go_wp2
          go_ret
          refine ⟨ret_int X.out.symm, Below.trans ?_ (hb1.mono (by simp; try omega))⟩
          go_grown
      · have h3 : 4 * used ≤ room := by omega
        clear h2
        rcases hkk with rfl | rfl | rfl | rfl | rfl
        · have X := Lib.hid (shrV_less (k := 1) (used := used) h1 (by omega))
          go_enter Try.func72, Try.ntmps72
          go_wp2_with fail
          refine (G.out _).mono ?_
          rintro e w2 ⟨rfl, hb1⟩
          obtain ⟨hc1, hf1⟩ := bcell hb1
          go_wp2
          go_ret
          refine ⟨ret_int X.out.symm, Below.trans ?_ (hb1.mono (by simp; try omega))⟩
          go_grown
        · have X := Lib.hid (shrV_less (k := 2) (used := used) h1 (by omega))
          go_enter Try.func72, Try.ntmps72
          go_wp2_with fail
          refine (G.out _).mono ?_
          rintro e w2 ⟨rfl, hb1⟩
          obtain ⟨hc1, hf1⟩ := bcell hb1
          go_wp2
          go_ret
          refine ⟨ret_int X.out.symm, Below.trans ?_ (hb1.mono (by simp; try omega))⟩
          go_grown
        · have X := Lib.hid (shrV_less (k := 3) (used := used) h1 (by omega))
          go_enter Try.func72, Try.ntmps72
          go_wp2_with fail
          refine (G.out _).mono ?_
          rintro e w2 ⟨rfl, hb1⟩
          obtain ⟨hc1, hf1⟩ := bcell hb1
          go_wp2
          go_ret
          refine ⟨ret_int X.out.symm, Below.trans ?_ (hb1.mono (by simp; try omega))⟩
          go_grown
        · have X := Lib.hid (shrV_less (k := 4) (used := used) h1 (by omega))
          go_enter Try.func72, Try.ntmps72
          go_wp2_with fail
          refine (G.out _).mono ?_
          rintro e w2 ⟨rfl, hb1⟩
          obtain ⟨hc1, hf1⟩ := bcell hb1
          go_wp2
          go_ret
          refine ⟨ret_int X.out.symm, Below.trans ?_ (hb1.mono (by simp; try omega))⟩
          go_grown
        · have X := Lib.hid (shrV_less (k := 5) (used := used) h1 (by omega))
          go_enter Try.func72, Try.ntmps72
          go_wp2_with fail
          refine (G.out _).mono ?_
          rintro e w2 ⟨rfl, hb1⟩
          obtain ⟨hc1, hf1⟩ := bcell hb1
          go_wp2
          go_ret
          refine ⟨ret_int X.out.symm, Below.trans ?_ (hb1.mono (by simp; try omega))⟩
          go_grown
    · have h3 : room ≤ g := by omega
      clear h1
      rcases hkk with rfl | rfl | rfl | rfl | rfl
      · have X := Lib.hid (shrV_more (k := 1) (used := used) h3)
        go_enter Try.func72, Try.ntmps72
        go_wp2_with fail
        refine (G.out _).mono ?_
        rintro e w2 ⟨rfl, hb1⟩
        obtain ⟨hc1, hf1⟩ := bcell hb1
        go_wp2
        go_ret
        refine ⟨ret_int X.out.symm, Below.trans ?_ (hb1.mono (by simp; try omega))⟩
        go_grown
      · have X := Lib.hid (shrV_more (k := 2) (used := used) h3)
        go_enter Try.func72, Try.ntmps72
        go_wp2_with fail
        refine (G.out _).mono ?_
        rintro e w2 ⟨rfl, hb1⟩
        obtain ⟨hc1, hf1⟩ := bcell hb1
        go_wp2
        go_ret
        refine ⟨ret_int X.out.symm, Below.trans ?_ (hb1.mono (by simp; try omega))⟩
        go_grown
      · have X := Lib.hid (shrV_more (k := 3) (used := used) h3)
        go_enter Try.func72, Try.ntmps72
        go_wp2_with fail
        refine (G.out _).mono ?_
        rintro e w2 ⟨rfl, hb1⟩
        obtain ⟨hc1, hf1⟩ := bcell hb1
        go_wp2
        go_ret
        refine ⟨ret_int X.out.symm, Below.trans ?_ (hb1.mono (by simp; try omega))⟩
        go_grown
      · have X := Lib.hid (shrV_more (k := 4) (used := used) h3)
        go_enter Try.func72, Try.ntmps72
        go_wp2_with fail
        refine (G.out _).mono ?_
        rintro e w2 ⟨rfl, hb1⟩
        obtain ⟨hc1, hf1⟩ := bcell hb1
        go_wp2
        go_ret
        refine ⟨ret_int X.out.symm, Below.trans ?_ (hb1.mono (by simp; try omega))⟩
        go_grown
      · have X := Lib.hid (shrV_more (k := 5) (used := used) h3)
        go_enter Try.func72, Try.ntmps72
        go_wp2_with fail
        refine (G.out _).mono ?_
        rintro e w2 ⟨rfl, hb1⟩
        obtain ⟨hc1, hf1⟩ := bcell hb1
        go_wp2
        go_ret
        refine ⟨ret_int X.out.symm, Below.trans ?_ (hb1.mono (by simp; try omega))⟩
        go_grown
  · rw [show ((12 : Int) == 0) = false from rfl] at hg
    have G := Lib.hid hg
    clear hg
    rcases hkk with rfl | rfl | rfl | rfl | rfl
    · have X := Lib.hid (shrV_full (k := 1) (room := room) (used := used) (g := g))
      go_enter Try.func72, Try.ntmps72
      go_wp2_with fail
      refine (G.out _).mono ?_
      rintro e w2 ⟨rfl, hb1⟩
      obtain ⟨hc1, hf1⟩ := bcell hb1
      go_wp2
      go_ret
      refine ⟨ret_int X.out.symm, Below.trans ?_ (hb1.mono (by simp; try omega))⟩
      go_grown
    · have X := Lib.hid (shrV_full (k := 2) (room := room) (used := used) (g := g))
      go_enter Try.func72, Try.ntmps72
      go_wp2_with fail
      refine (G.out _).mono ?_
      rintro e w2 ⟨rfl, hb1⟩
      obtain ⟨hc1, hf1⟩ := bcell hb1
      go_wp2
      go_ret
      refine ⟨ret_int X.out.symm, Below.trans ?_ (hb1.mono (by simp; try omega))⟩
      go_grown
    · have X := Lib.hid (shrV_full (k := 3) (room := room) (used := used) (g := g))
      go_enter Try.func72, Try.ntmps72
      go_wp2_with fail
      refine (G.out _).mono ?_
      rintro e w2 ⟨rfl, hb1⟩
      obtain ⟨hc1, hf1⟩ := bcell hb1
      go_wp2
      go_ret
      refine ⟨ret_int X.out.symm, Below.trans ?_ (hb1.mono (by simp; try omega))⟩
      go_grown
    · have X := Lib.hid (shrV_full (k := 4) (room := room) (used := used) (g := g))
      go_enter Try.func72, Try.ntmps72
      go_wp2_with fail
      refine (G.out _).mono ?_
      rintro e w2 ⟨rfl, hb1⟩
      obtain ⟨hc1, hf1⟩ := bcell hb1
      go_wp2
      go_ret
      refine ⟨ret_int X.out.symm, Below.trans ?_ (hb1.mono (by simp; try omega))⟩
      go_grown
    · have X := Lib.hid (shrV_full (k := 5) (room := room) (used := used) (g := g))
      go_enter Try.func72, Try.ntmps72
      go_wp2_with fail
      refine (G.out _).mono ?_
      rintro e w2 ⟨rfl, hb1⟩
      obtain ⟨hc1, hf1⟩ := bcell hb1
      go_wp2
      go_ret
      refine ⟨ret_int X.out.symm, Below.trans ?_ (hb1.mono (by simp; try omega))⟩
      go_grown

set_option maxHeartbeats 1000000 in
theorem shrinkOf_core (k s m room used r : Int) (w : World) (h : polErr k s m = 0) (ha : 0 ≤ room) (hb : room ≤ 100000) (hc : 0 ≤ used) (hd : used ≤ room)
    (hg : ∀ w, Calls Try.prog 72 #[.agg #[.int .i64 k, .int .i64 s, .int .i64 m], .int .i64 room, .int .i64 used] w (WPost r w)) :
    Calls Try.prog 43 #[.agg #[.int .i64 k, .int .i64 s, .int .i64 m], .int .i64 room, .int .i64 used] w (RetInt r 0 w) := by
  have C := policyFault_any k s m
  rw [h] at C
  have G := Lib.hid hg
  clear h hg
  go_enter Try.func43, Try.ntmps43
  go_wp2_with fail
  refine (C _).mono ?_
  rintro e w1 ⟨rfl, rfl, _⟩
  go_wp2_with fail
  refine (inRoom_yes _ _ ha hb).mono ?_
  rintro e w1 ⟨rfl, rfl⟩
  go_wp2_with fail
  refine (G.out _).mono ?_
  rintro e w2 ⟨rfl, hb1⟩
  go_wp2
  go_ret2
  refine ⟨rfl, Below.trans ?_ (hb1.mono (by simp; try omega))⟩
  go_grown

theorem shrink_any (k s m room used : Int) (w : World) :
    Calls Try.prog 42 #[.agg #[.int .i64 k, .int .i64 s, .int .i64 m], .int .i64 room, .int .i64 used] w (RetInt (shrinkV k s m room used) (shrinkE k s m room used) w) := by
  unfold shrinkV shrinkE
  by_cases h : polErr k s m = 0
  · by_cases hr : shrinkIn room used
    · rw [if_pos ⟨h, hr⟩, if_pos h, if_pos hr]
      exact shrink_core k s m room used _ _ w h hr.1.1 hr.1.2 hr.2.1 hr.2.2 (by rcases gE_cases k s m 0 used with x | x <;> omega) (fun w => grow_valid k s m 0 used w h (by omega) ⟨hr.2.1, by have := hr.1.2; have := hr.2.2; omega⟩)
    · rw [if_neg (fun x => hr x.2), if_pos h, if_neg hr]; exact shrink_range k s m room used w h hr
  · rw [if_neg (fun x => h x.1), if_neg h]; exact shrink_pol k s m room used w h

theorem shrinkOf_any (k s m room used : Int) (w : World) :
    Calls Try.prog 43 #[.agg #[.int .i64 k, .int .i64 s, .int .i64 m], .int .i64 room, .int .i64 used] w (RetInt (shrinkV k s m room used) (shrinkE k s m room used) w) := by
  unfold shrinkV shrinkE
  by_cases h : polErr k s m = 0
  · by_cases hr : shrinkIn room used
    · rw [if_pos ⟨h, hr⟩, if_pos h, if_pos hr]
      exact shrinkOf_core k s m room used _ w h hr.1.1 hr.1.2 hr.2.1 hr.2.2 (fun w => shrunk_core k s m room used _ _ w (polOk_of h).1 hr.1.1 hr.1.2 hr.2.1 hr.2.2 (by rcases gE_cases k s m 0 used with x | x <;> omega) (fun w => grown_valid k s m 0 used w h (by omega) ⟨hr.2.1, by have := hr.1.2; have := hr.2.2; omega⟩))
    · rw [if_neg (fun x => hr x.2), if_pos h, if_neg hr]; exact shrinkOf_range k s m room used w h hr
  · rw [if_neg (fun x => h x.1), if_neg h]; exact shrinkOf_pol k s m room used w h

/-- A policy's box. -/
def BoxAt (w : World) (b : Nat) (k s m : Int) : Prop :=
  b < w.heap.size ∧ w.cell? ⟨b, 0, none⟩ = some (.int .i64 k) ∧ w.cell? ⟨b, 1, none⟩ = some (.int .i64 s) ∧ w.cell? ⟨b, 2, none⟩ = some (.int .i64 m)
theorem BoxAt.new (w : World) (k s m : Int) (t : TypeId) : BoxAt (w.alloc (.cells #[.int .i64 k, .int .i64 s, .int .i64 m] t)) w.heap.size k s m := by
  refine ⟨by simp, ?_, ?_, ?_⟩ <;> (rw [cell_of_row _ _ _ _ _ _ (heap_alloc_new w _)]; rfl)
theorem BoxAt.below {w w' : World} {b : Nat} {k s m : Int} (h : BoxAt w b k s m) (hb : Below w.heap.size w w') : BoxAt w' b k s m :=
  ⟨Nat.lt_of_lt_of_le h.1 hb.size, (hb.cell (p := ⟨b, 0, none⟩) h.1).trans h.2.1, (hb.cell (p := ⟨b, 1, none⟩) h.1).trans h.2.2.1, (hb.cell (p := ⟨b, 2, none⟩) h.1).trans h.2.2.2⟩

set_option maxHeartbeats 1000000 in
theorem roomGrows_walk (k s m room need : Int) (w : World) (_ : -9223372036854775808 ≤ k ∧ k ≤ 9223372036854775807) (_ : -9223372036854775808 ≤ s ∧ s ≤ 9223372036854775807) (_ : -9223372036854775808 ≤ m ∧ m ≤ 9223372036854775807) (_ : -9223372036854775808 ≤ room ∧ room ≤ 9223372036854775807) (_ : -9223372036854775808 ≤ need ∧ need ≤ 9223372036854775807) :
    Calls Try.prog 11 #[.agg #[.int .i64 k, .int .i64 s, .int .i64 m], .int .i64 room, .int .i64 need] w (LawPost w) := by
  have C1 := Lib.hid (fun w => grow_any k s m room need w)
  have C2 := Lib.hid (fun w => growOf_any k s m room need w)
  have C3 := Lib.hid (fun w => shrink_any k s m room need w)
  have C4 := Lib.hid (fun w => shrinkOf_any k s m room need w)
  generalize growV k s m room need = a at *
  generalize growE k s m room need = b at *
  generalize shrinkV k s m room need = c at *
  generalize shrinkE k s m room need = d at *
  have ea : (a == a) = true := by simp
  have eb : (b == b) = true := by simp
  have ec : (c == c) = true := by simp
  have ed : (d == d) = true := by simp
  have B0 := BoxAt.new w k s m 48
  go_enter Try.func11, Try.ntmps11
  go_wp2_with fail
  refine (C1.out _).mono ?_
  rintro e w1 ⟨rfl, hb1⟩
  have h1 : Below w.heap.size w w1 := Below.trans (by go_grown) (hb1.mono (by simp))
  have B1 := B0.below hb1
  clear hb1 B0
  obtain ⟨x0, x1, x2, x3⟩ := B1
  have B1 : BoxAt w1 w.heap.size k s m := ⟨x0, x1, x2, x3⟩
  go_wp2_with fail
  refine (C2.out _).mono ?_
  rintro e w2 ⟨rfl, hb2⟩
  have h2 := h1.trans (hb2.mono h1.size)
  have B2 := B1.below hb2
  clear hb2 B1 x0 x1 x2 x3 h1
  obtain ⟨x0, x1, x2, x3⟩ := B2
  have B2 : BoxAt w2 w.heap.size k s m := ⟨x0, x1, x2, x3⟩
  go_wp2_with fail
  refine (C3.out _).mono ?_
  rintro e w3 ⟨rfl, hb3⟩
  have h3 := h2.trans (hb3.mono h2.size)
  have B3 := B2.below hb3
  clear hb3 B2 x0 x1 x2 x3 h2
  obtain ⟨x0, x1, x2, x3⟩ := B3
  go_wp2_with fail
  refine (C4.out _).mono ?_
  rintro e w4 ⟨rfl, hb4⟩
  have h4 := h3.trans (hb4.mono h3.size)
  clear hb4 x0 x1 x2 x3 h3
  go_wp2
  go_ret
  exact ⟨ret_bool (by simp), h4⟩

end Go.Proofs.Yteeiohhoccgafaa
