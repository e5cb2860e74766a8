/-
  Push of a queue where there is too much: refused. (Push's other ways: under way.)
-/
import Derived.Test.YtfolidedcejafaaTopRingPbc
import Derived.Test.YtfolidedcejafaaTopRingPbe
namespace Go.Proofs.Ytfolidedcejafaa
open Go.RowKit Go.Shelf
attribute [local go_sem] Oper.semAt_some
set_option linter.unusedVariables false

set_option maxHeartbeats 4000000 in
set_option maxRecDepth 100000 in
theorem push_long (I : QuId) (L : List QCh) (R : Nat) (bst : BookSt) (F G : Nat → Prop) (a : Option Addr) (N cap : Nat) (w : World) (h : QB w I L R bst F G) (hN : N ≤ 1000000) (hlong : 100000 < N + qsum QCh.len L) :
    Calls Try.prog 26 #[.pointer (some ⟨I.r, 0, none⟩), .slice a N cap] w (fun e w' => e = .returned (.int .i64 4) ∧ QBPost w w' I L R F G) := by
  obtain ⟨cv, hm⟩ := h.qu
  have W1 : Below w.heap.size w (w.alloc (.cells #[.pointer (some ⟨I.r, 0, none⟩)] 58)) := (Below.refl _ _).alloc (Nat.le_refl _) _
  have AB1 := Lib.hid (h.below W1)
  have AB0 := Lib.hid h
  have HLEN := Lib.hid (qLen_any I F L cv _ (hm.below W1) h.ok)
  have hsum := h.ok.sum L.length
  rw [List.take_length] at hsum
  have c6 : w.cell? ⟨I.r, 6, none⟩ = some (.bool false) := by rw [cell_of hm.self]; rfl
  have k6 : (w.alloc (.cells #[.pointer (some ⟨I.r, 0, none⟩)] 58)).cell? ⟨I.r, 6, none⟩ = some (.bool false) := by rw [cell_of (hm.below W1).self]; rfl
  have HW1 := Lib.hid W1
  generalize hS : qsum QCh.len L = S at *
  clear h hm W1
  refine callsIn_wide (n := 9).1 ?_
  refine callsIn_of_wp_marks Try.func26 rfl trivial ?_ rfl
  simp only [Try.ntmps26, List.size_toArray, List.length_cons, List.length_nil, Nat.reduceAdd, Nat.reduceSub, Array.replicate_succ, Array.replicate_zero, List.push_toArray, List.append_toArray, List.nil_append, List.cons_append]
  refine wpIn_wide.2 ?_
  go_wp2_with fail
  refine HLEN.out.mono ?_
  rintro e w1 ⟨rfl, hb1⟩
  have HB1 := Lib.hid hb1
  clear hb1
  go_wp2_with fail
  refine ⟨_, results_tmp rfl _ _ _, rfl, ?_⟩
  exact QBPost.of_below AB0.out (HW1.out.trans (HB1.out.mono HW1.out.size))

end Go.Proofs.Ytfolidedcejafaa
