/-
  New and Parts of a ring: what they give. Conditions: numbers in their bounds.
-/
import Derived.Test.YtmapdgpdpojjjaaRingUse
namespace Go.Proofs.Ytmapdgpdpojjjaa
open Go.RowKit

def newRE (st : BookSt) (o k s m : Int) : Int := if polErr k s m ≠ 0 then polErr k s m else heldE st o
def NewPost (bp : Nat) (o k s m : Int) (bst : BookSt) (w : World) : Ending → World → Prop := fun e w' => Below w.heap.size w w' ∧
  ((newRE bst o k s m ≠ 0 ∧ e = .returned (.tuple #[.pointer none, .int .i64 (newRE bst o k s m)])) ∨
   (newRE bst o k s m = 0 ∧ ∃ r, w.heap.size ≤ r ∧ e = .returned (.tuple #[.pointer (some ⟨r, 0, none⟩), .int .i64 0]) ∧ ringAt w' r bp o k s m (memOf none 0) 0 0))

set_option maxHeartbeats 2000000 in
set_option maxRecDepth 100000 in
theorem newRing0_any (bp : Nat) (o k s m : Int) (w : World) (F : Nat → Prop) (bst : BookSt) (N : Nat) (hb : BookAt w F bp bst N) :
    Calls Try.prog 8 #[.pointer (some ⟨bp, 0, none⟩), .int .i64 o, .agg #[.int .i64 k, .int .i64 s, .int .i64 m]] w (NewPost bp o k s m bst w) := by
  have HB := Lib.hid hb
  have W1 : Below w.heap.size w (w.alloc (.cells #[.int .i64 k, .int .i64 s, .int .i64 m] 23)) := by go_grown
  have X1 : (w.alloc (.cells #[.int .i64 k, .int .i64 s, .int .i64 m] 23)).heap[w.heap.size]? = some (.cells #[.int .i64 k, .int .i64 s, .int .i64 m] 23 (0, 0)) := heap_alloc_new w _
  have HW1 := Lib.hid W1
  have HX1 := Lib.hid X1
  clear hb W1 X1
  go_enter Try.func8, Try.ntmps8
  go_wp2_with fail
  refine (checkPolicy_any k s m _).mono ?_
  rintro e w2 ⟨rfl, rfl, _⟩
  have hs1 := HW1.out.size
  have B2 := Lib.hid (HW1.out.alloc hs1 (.cells #[.int .i64 k, .int .i64 s, .int .i64 m] 23))
  have X2 := Lib.hid ((heap_alloc_old (w.alloc (.cells #[.int .i64 k, .int .i64 s, .int .i64 m] 23)) (.cells #[.int .i64 k, .int .i64 s, .int .i64 m] 23) (lt_of HX1.out)).trans HX1.out)
  clear HX1 HW1 hs1
  generalize (w.alloc (.cells #[.int .i64 k, .int .i64 s, .int .i64 m] 23)).alloc (.cells #[.int .i64 k, .int .i64 s, .int .i64 m] 23) = w2 at *
  by_cases e1 : polErr k s m = 0
  case neg =>
    have HE := Lib.hid (show newRE bst o k s m = polErr k s m from if_pos e1)
    have HE1 := Lib.hid e1
    have e1' : (polErr k s m == 0) = false := by simpa using e1
    generalize polErr k s m = E at *
    go_wp2_with fail
    go_ret2
    exact ⟨B2.out, Or.inl ⟨by rw [HE.out]; exact HE1.out, by rw [HE.out]; rfl⟩⟩
  case pos =>
    have HE := Lib.hid (show newRE bst o k s m = heldE bst o from if_neg (by simpa using e1))
    rw [e1]
    clear e1
    have HH := Lib.hid (held_any bp o w2 _ bst N (HB.out.narrow.same (fun k hk _ => B2.out.block k hk.2)))
    go_wp2_with fail
    refine HH.out.mono ?_
    rintro e w3 ⟨rfl, rfl⟩
    by_cases e2 : heldE bst o = 0
    case neg =>
      have HE2 := Lib.hid e2
      have e2' : (heldE bst o == 0) = false := by simpa using e2
      generalize heldE bst o = E at *
      go_wp2_with fail
      go_ret2
      exact ⟨B2.out, Or.inl ⟨by rw [HE.out]; exact HE2.out, by rw [HE.out]; rfl⟩⟩
    case pos =>
      have HE2 := Lib.hid e2
      rw [e2]
      clear e2
      have x0 : w2.cell? ⟨w.heap.size, 0, none⟩ = some (.int .i64 k) := by rw [cell_of X2.out]; rfl
      have x1 : w2.cell? ⟨w.heap.size, 1, none⟩ = some (.int .i64 s) := by rw [cell_of X2.out]; rfl
      have x2 : w2.cell? ⟨w.heap.size, 2, none⟩ = some (.int .i64 m) := by rw [cell_of X2.out]; rfl
      have hs2 := B2.out.size
      go_wp2_with fail
      go_ret2
      refine ⟨B2.out.alloc hs2 _, Or.inr ⟨by rw [HE.out]; exact HE2.out, w2.heap.size, hs2, rfl, heap_alloc_new w2 _⟩⟩

end Go.Proofs.Ytmapdgpdpojjjaa
