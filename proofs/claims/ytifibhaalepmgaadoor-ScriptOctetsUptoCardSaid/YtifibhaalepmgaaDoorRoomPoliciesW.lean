/-
  The walk of RoomPolicies. Conditions: Go's own tables, and the reference's words, hold what their initialisers lay.
-/
import Derived.Test.YtifibhaalepmgaaDoorPolText
namespace Go.Proofs.YtifibhaalepmgaaDoor
open Go.RowKit
set_option linter.unusedVariables false

def polA (k s m : Int) : ByteArray := ⟨(polText k s m).toArray⟩
def TextIs (k s m : Int) (w : World) : Ending → World → Prop := fun e w' => e = .returned (.tuple #[.string (polA k s m), .int .i64 (polErr k s m)]) ∧ Below w.heap.size w w'
theorem TextPost.is {k s m : Int} {w : World} {e : Ending} {w' : World} (h : TextPost k s m w e w') : TextIs k s m w e w' := by
  obtain ⟨x, rfl, hx, hb⟩ := h
  have : x = polA k s m := by
    unfold polA
    rw [← hx]
  rw [this]
  exact ⟨rfl, hb⟩

theorem PolWords.below {w w' : World} (h : PolWords w) (hb : Below w.heap.size w w') : PolWords w' := by
  obtain ⟨gb, go, gc, h1, h2⟩ := h
  refine ⟨gb, go, gc, ?_, fun k hk hk5 => ?_⟩
  · exact (hb.cell (p := ⟨_, 0, none⟩) (World.block_lt_of_cell? w _ h1)).trans h1
  · exact (hb.cell (p := ⟨gb, go + k, none⟩) (World.block_lt_of_cell? w _ (h2 k hk hk5))).trans (h2 k hk hk5)

set_option maxHeartbeats 2000000 in
set_option maxRecDepth 100000 in
theorem roomPolicies (k s m : Int) (w : World) (_ : -9223372036854775808 ≤ k ∧ k ≤ 9223372036854775807) (hs : -9223372036854775808 ≤ s ∧ s ≤ 9223372036854775807) (hm : -9223372036854775808 ≤ m ∧ m ≤ 9223372036854775807) (ht : TabsAt w) (hw : PolWords w) :
    Calls Tryd.prog 3 #[.agg #[.int .i64 k, .int .i64 s, .int .i64 m]] w (LawPost w) := by
  have B0 : Below w.heap.size w (w.alloc (.cells #[.int .i64 k, .int .i64 s, .int .i64 m] 23)) := by go_grown
  have P1 := Lib.hid (policyText_any k s m _ (ht.below B0) hs hm)
  have TT : Hid (∀ {w' : World}, Below w.heap.size w w' → TabsAt w' ∧ PolWords w') := Lib.hid (fun h => ⟨ht.below h, hw.below h⟩)
  have HS := Lib.hid hs
  have HM := Lib.hid hm
  have HB0 := Lib.hid B0
  clear ht hw hs hm B0
  go_enter Tryd.func3, Tryd.ntmps3
  go_wp2_with fail
  refine P1.out.mono ?_
  intro e w1 h1
  obtain ⟨rfl, hb1⟩ := h1.is
  have X1 := box_keep (w := w) (o := .cells #[.int .i64 k, .int .i64 s, .int .i64 m] 23) (w' := w1) (hb1.mono (by simp))
  have y0 : w1.cell? ⟨w.heap.size, 0, none⟩ = some (.int .i64 k) := by rw [cell_of X1]; rfl
  have y1 : w1.cell? ⟨w.heap.size, 1, none⟩ = some (.int .i64 s) := by rw [cell_of X1]; rfl
  have y2 : w1.cell? ⟨w.heap.size, 2, none⟩ = some (.int .i64 m) := by rw [cell_of X1]; rfl
  have L1 := Lib.hid (HB0.out.trans (hb1.mono (by simp)))
  have hsz1 := hb1.size
  have P2 := Lib.hid (policyString_any k s m w1 (TT.out L1.out).1 (TT.out L1.out).2 HS.out HM.out)
  have HX1 := Lib.hid X1
  clear hb1 h1 X1
  rw [World.size_alloc] at hsz1
  go_wp2_with fail
  refine P2.out.mono ?_
  intro e w2 h2
  obtain ⟨rfl, hb2⟩ := h2.is
  have X2 := (hb2.block w.heap.size (by omega)).trans HX1.out
  have z0 : w2.cell? ⟨w.heap.size, 0, none⟩ = some (.int .i64 k) := by rw [cell_of X2]; rfl
  have z1 : w2.cell? ⟨w.heap.size, 1, none⟩ = some (.int .i64 s) := by rw [cell_of X2]; rfl
  have z2 : w2.cell? ⟨w.heap.size, 2, none⟩ = some (.int .i64 m) := by rw [cell_of X2]; rfl
  have L2 := Lib.hid (L1.out.trans (hb2.mono L1.out.size))
  have hsz2 := L2.out.size
  have hne : w.heap.size < w2.heap.size := by have := hb2.size; omega
  clear hb2 h2 X2 y0 y1 y2
  generalize polErr k s m = pe at *
  go_wp2_with fail
  go_region_with (first
    | (go_at_call 11; refine (checkPolicy_any k s m _).mono ?_; rintro e w3 ⟨rfl, rfl, _⟩)
    | (go_at_call 12; refine (policyFault_any k s m _).mono ?_; rintro e w3 ⟨rfl, rfl, _⟩))
  all_goals
    go_wp2_with fail
    go_ret
    exact ⟨by first | rfl | exact ret_bool (by simp), L2.out.trans (by go_grown)⟩

theorem roomPoliciesC (k s m : Int) (w : World) (hk : -9223372036854775808 ≤ k ∧ k ≤ 9223372036854775807) (hs : -9223372036854775808 ≤ s ∧ s ≤ 9223372036854775807) (hm : -9223372036854775808 ≤ m ∧ m ≤ 9223372036854775807) (h : TabsAt w ∧ PolWords w) :
    Calls Tryd.prog 3 #[.agg #[.int .i64 k, .int .i64 s, .int .i64 m]] w (LawPost w) := roomPolicies k s m w hk hs hm h.1 h.2

end Go.Proofs.YtifibhaalepmgaaDoor
