/-
  NewQueue: what it gives. No conditions but that the book has account 1.
-/
import Derived.Test.YtfolidedcejafaaTopRingPax
namespace Go.Proofs.Ytfolidedcejafaa
open Go.RowKit
set_option linter.unusedVariables false

def QuNewPost (bp : Nat) (k s m sz : Int) (w : World) : Ending → World → Prop := fun e w' => Below w.heap.size w w' ∧
  ((∃ err : Int, err ≠ 0 ∧ e = .returned (.tuple #[.pointer none, .int .i64 err])) ∨
   (∃ r, w.heap.size ≤ r ∧ e = .returned (.tuple #[.pointer (some ⟨r, 0, none⟩), .int .i64 0]) ∧ polErr k s m = 0 ∧ (1 ≤ sz ∧ sz ≤ 100000) ∧
     w'.heap[r]? = some (.cells (quCells bp 1 k s m sz (.slice none 0 0)) 112 (0, 0))))

set_option maxHeartbeats 2000000 in
set_option maxRecDepth 100000 in
theorem newQueue_any (bp : Nat) (k s m sz : Int) (w : World) (F : Nat → Prop) (bst : BookSt) (N : Nat) (hb : BookAt w F bp bst N) (hacc : heldE bst 1 = 0) :
    Calls Try.prog 24 #[.pointer (some ⟨bp, 0, none⟩), .int .i64 1, .agg #[.int .i64 k, .int .i64 s, .int .i64 m], .int .i64 sz] w (QuNewPost bp k s m sz w) := by
  have HB := Lib.hid hb
  have HA := Lib.hid hacc
  have W1 : Below w.heap.size w (w.alloc (.cells #[.int .i64 k, .int .i64 s, .int .i64 m] 23)) := by go_grown
  have X1 : (w.alloc (.cells #[.int .i64 k, .int .i64 s, .int .i64 m] 23)).heap[w.heap.size]? = some (.cells #[.int .i64 k, .int .i64 s, .int .i64 m] 23 (0, 0)) := heap_alloc_new w _
  have HW1 := Lib.hid W1
  have HX1 := Lib.hid X1
  clear hb hacc W1 X1
  go_enter Try.func24, Try.ntmps24
  go_wp2_with fail
  refine (checkPolicy_any k s m _).mono ?_
  rintro e w2 ⟨rfl, rfl, _⟩
  have hs1 := HW1.out.size
  have B2 := Lib.hid (HW1.out.alloc hs1 (.cells #[.int .i64 k, .int .i64 s, .int .i64 m] 23))
  have X2 := Lib.hid ((heap_alloc_old (w.alloc (.cells #[.int .i64 k, .int .i64 s, .int .i64 m] 23)) (.cells #[.int .i64 k, .int .i64 s, .int .i64 m] 23) (lt_of HX1.out)).trans HX1.out)
  clear HX1 HW1 hs1
  generalize (w.alloc (.cells #[.int .i64 k, .int .i64 s, .int .i64 m] 23)).alloc (.cells #[.int .i64 k, .int .i64 s, .int .i64 m] 23) = w2 at *
  by_cases e1 : polErr k s m = 0
  case neg =>
    have HE1 := Lib.hid e1
    have e1' : (polErr k s m == 0) = false := by simpa using e1
    generalize polErr k s m = E at *
    go_wp2_with fail
    go_ret2
    exact ⟨B2.out, Or.inl ⟨E, HE1.out, rfl⟩⟩
  have HPOL := Lib.hid e1
  rw [e1]
  clear e1
  have x0 : w2.cell? ⟨w.heap.size, 0, none⟩ = some (.int .i64 k) := by rw [cell_of X2.out]; rfl
  have x1 : w2.cell? ⟨w.heap.size, 1, none⟩ = some (.int .i64 s) := by rw [cell_of X2.out]; rfl
  have x2 : w2.cell? ⟨w.heap.size, 2, none⟩ = some (.int .i64 m) := by rw [cell_of X2.out]; rfl
  have hs2 := B2.out.size
  by_cases hz : 1 ≤ sz ∧ sz ≤ 100000
  case neg =>
    have HZ := Lib.hid hz
    clear hz
    go_wp2_with fail
    refine (within_ring_no _ _ _ _ HZ.out).mono ?_
    rintro e w3 ⟨rfl, rfl⟩
    go_wp2_with fail
    go_ret2
    exact ⟨B2.out, Or.inl ⟨2, by simp, rfl⟩⟩
  obtain ⟨z1, z2⟩ := hz
  by_cases hm : m < sz
  · go_wp2_with fail
    refine (within_ring_yes _ _ _ _ z1 z2).mono ?_
    rintro e w3 ⟨rfl, rfl⟩
    go_wp2_with fail
    go_ret2
    exact ⟨B2.out, Or.inl ⟨12, by simp, rfl⟩⟩
  · have HH := Lib.hid (held_any bp 1 w2 _ bst N (HB.out.narrow.same (fun k hk _ => B2.out.block k hk.2)))
    go_wp2_with fail
    refine (within_ring_yes _ _ _ _ z1 z2).mono ?_
    rintro e w3 ⟨rfl, rfl⟩
    go_wp2_with fail
    refine HH.out.mono ?_
    rintro e w3 ⟨rfl, rfl⟩
    rw [HA.out]
    go_wp2_with fail
    go_ret2
    exact ⟨B2.out.alloc hs2 _, Or.inr ⟨w2.heap.size, hs2, rfl, HPOL.out, ⟨z1, z2⟩, heap_alloc_new w2 _⟩⟩

end Go.Proofs.Ytfolidedcejafaa
