/-
  Write of nothing onto a ring without memory. Conditions: numbers in their bounds.
  New and Parts of a ring: what they give. Conditions: numbers in their bounds.
  Parts of a ring: what it gives. Conditions: numbers in their bounds.
-/
import Derived.Test.YtfolidedcejafaaTopRingPbl
import Derived.Test.YtfolidedcejafaaTopRingPbm

namespace Go.Proofs.Ytfolidedcejafaa
section
open Go.RowKit
set_option linter.unusedVariables false

set_option maxHeartbeats 2000000 in
set_option maxRecDepth 100000 in
theorem put_nil (r bp : Nat) (o k s m : Int) (st len : Int) (a : Option Addr) (cap : Nat) (w : World) (h : ringAt w r bp o k s m (memOf none 0) st len) :
    Calls Try.prog 55 #[.pointer (some ⟨r, 0, none⟩), .int .i64 0, .slice a 0 cap] w (fun e w' => e = .returned (.tuple #[]) ∧ ∃ q, w' = w.drewN q) := by
  have HC := Lib.hid (cells_any r bp o k s m none 0 st len 0 0 w h (by omega) (fun _ => rfl) (by omega) (by omega))
  have hcp := fun (w : World) (f p : Option Addr) (c : Nat) => run_copy_none (P := Try.prog) w 46 46 3 5 f p 0 0 0 c Try.underlying46 byteSize rfl
  clear h
  go_enter Try.func55, Try.ntmps55
  go_wp2_with fail
  refine HC.out.mono ?_
  rintro e w2 ⟨f1, f2, rfl, _, q, rfl⟩
  go_wp2_with fail
  go_end0
  exact ⟨rfl, q, rfl⟩

def WriteNilPost (r bp : Nat) (o k s m : Int) (w : World) : Ending → World → Prop := fun e w' =>
  e = .returned (.tuple #[.bool false, .int .i64 0]) ∧ ringAt w' r bp o k s m (memOf none 0) 0 0 ∧ Touch (fun j => j = r) w w'

set_option maxHeartbeats 2000000 in
set_option maxRecDepth 100000 in
theorem write_nil (r bp : Nat) (o k s m : Int) (v : Value) (w : World) (F : Nat → Prop) (bst : BookSt) (N : Nat) (l h ls : Int)
    (hr : ringAt w r bp o k s m (memOf none 0) 0 0) (hp : polErr k s m = 0) (hv : Reads w .u8 v []) (hb : BookAt w F bp bst N) (hs : Sound bst o l h ls) (hF : ¬ F r) :
    Calls Try.prog 25 #[.pointer (some ⟨r, 0, none⟩), v] w (WriteNilPost r bp o k s m w) := by
  have HR := Lib.hid hr
  have HC := Lib.hid (clone_byte v [] w hv (by simp))
  have rlt := lt_of hr
  have HRES := Lib.hid (fun (w1 : World) (hb1 : Below w.heap.size w w1) => reserve_any r bp o k s m none 0 [] 0 0 0 w1 (fun k => F k ∧ k < w.heap.size) bst N l h ls ((hb1.block r rlt).trans hr) ⟨rfl, rfl⟩ (by omega) (by omega) (by omega) hp (by omega) (hb.narrow.same (fun k hk _ => hb1.block k hk.2)) hs (fun x => hF x.1))
  have WV : wantsV k s m 0 (0 : Nat) (0 : Nat) = 0 := by
    unfold wantsV
    rw [if_neg (by omega)]
    exact (by simpa using (growV_has k s m 0 0 hp (by omega) (by omega)).1)
  have WE : wantsE k s m 0 (0 : Nat) (0 : Nat) = 0 := by
    unfold wantsE
    rw [if_neg (by omega)]
    exact (by simpa using (growV_has k s m 0 0 hp (by omega) (by omega)).2)
  have HWV := Lib.hid WV
  have HWE := Lib.hid WE
  obtain ⟨a0, c0, rfl, _, _⟩ := hv
  clear hr hb hs hF hp WV WE
  go_enter Try.func25, Try.ntmps25
  go_wp2_with fail
  refine HC.out.mono ?_
  rintro e w1 ⟨pv, rfl, po, hb1⟩
  have HRES1 := Lib.hid (HRES.out w1 hb1)
  have HB1 := Lib.hid hb1
  obtain ⟨pa, pc, rfl, hp1, hp2⟩ := ownsRow_lt2 po
  clear po hb1
  go_wp2_with fail
  refine HRES1.out.mono ?_
  intro e w2 hres
  rcases hres with ⟨hA, rfl, hb2⟩ | ⟨hE, V, hV, hVR, _⟩
  case inr => exact absurd (by have := HWV.out; rw [this] at hV; omega) hVR
  rw [HWE.out]
  have s1 := HB1.out.size
  have B2 := Lib.hid (HB1.out.trans (hb2.mono s1))
  have R2 : ringAt w2 r bp o k s m (memOf none 0) 0 0 := (B2.out.block r rlt).trans HR.out
  have HR2 := Lib.hid R2
  have c8 : w2.cell? ⟨r, 8, none⟩ = some (.int .i64 0) := by rw [cell_of R2]; rfl
  have HCE := Lib.hid (cell_any r bp o k s m none 0 0 0 0 w2 R2 (by omega) (by omega) (by omega))
  clear hb2 hA R2
  go_wp2_with fail
  refine HCE.out.mono ?_
  rintro e w3 ⟨rfl, q, rfl⟩
  simp only [if_true]
  go_wp2_with fail
  refine (put_nil r bp o k s m 0 0 _ _ (w2.drewN q) HR2.out).mono ?_
  rintro e w4 ⟨rfl, q2, rfl⟩
  have R4 : ((w2.drewN q).drewN q2).heap[r]? = some (.cells (ringCells bp o k s m (memOf none 0) 0 0) 109 (0, 0)) := HR2.out
  have d8 : ((w2.drewN q).drewN q2).cell? ⟨r, 8, none⟩ = some (.int .i64 0) := by rw [cell_of R4]; rfl
  have f8 : ((w2.drewN q).drewN q2).frozen? ⟨r, 8, none⟩ = false := free_of R4 8
  have HR4 := Lib.hid R4
  have T4 := Lib.hid ((((Touch.of_below (F := fun j => j = r) B2.out).drewN q).drewN q2).setCell (p := ⟨r, 8, none⟩) (Or.inl rfl) (.int .i64 0))
  clear R4
  generalize (w2.drewN q).drewN q2 = w5 at *
  go_wp2_with fail
  go_ret2
  refine ⟨rfl, ?_, T4.out⟩
  unfold ringAt
  rw [block_setCell HR4.out]; rfl

end
end Go.Proofs.Ytfolidedcejafaa

namespace Go.Proofs.Ytfolidedcejafaa
section
open Go.RowKit

def newRE (st : BookSt) (o k s m : Int) : Int := if polErr k s m ≠ 0 then polErr k s m else heldE st o
def NewPost (bp : Nat) (o k s m : Int) (bst : BookSt) (w : World) : Ending → World → Prop := fun e w' => Below w.heap.size w w' ∧
  ((newRE bst o k s m ≠ 0 ∧ e = .returned (.tuple #[.pointer none, .int .i64 (newRE bst o k s m)])) ∨
   (newRE bst o k s m = 0 ∧ ∃ r, w.heap.size ≤ r ∧ e = .returned (.tuple #[.pointer (some ⟨r, 0, none⟩), .int .i64 0]) ∧ ringAt w' r bp o k s m (memOf none 0) 0 0))

set_option maxHeartbeats 2000000 in
set_option maxRecDepth 100000 in
theorem newRing0_any (bp : Nat) (o k s m : Int) (w : World) (F : Nat → Prop) (bst : BookSt) (N : Nat) (hb : BookAt w F bp bst N) :
    Calls Try.prog 23 #[.pointer (some ⟨bp, 0, none⟩), .int .i64 o, .agg #[.int .i64 k, .int .i64 s, .int .i64 m]] w (NewPost bp o k s m bst w) := by
  have HB := Lib.hid hb
  have W1 : Below w.heap.size w (w.alloc (.cells #[.int .i64 k, .int .i64 s, .int .i64 m] 23)) := by go_grown
  have X1 : (w.alloc (.cells #[.int .i64 k, .int .i64 s, .int .i64 m] 23)).heap[w.heap.size]? = some (.cells #[.int .i64 k, .int .i64 s, .int .i64 m] 23 (0, 0)) := heap_alloc_new w _
  have HW1 := Lib.hid W1
  have HX1 := Lib.hid X1
  clear hb W1 X1
  go_enter Try.func23, Try.ntmps23
  go_wp2_with fail
  refine (checkPolicy_any k s m _).mono ?_
  rintro e w2 ⟨rfl, rfl, _⟩
  have hs1 := HW1.out.size
  have B2 := Lib.hid (HW1.out.alloc hs1 (.cells #[.int .i64 k, .int .i64 s, .int .i64 m] 23))
  have X2 := Lib.hid ((heap_alloc_old (w.alloc (.cells #[.int .i64 k, .int .i64 s, .int .i64 m] 23)) (.cells #[.int .i64 k, .int .i64 s, .int .i64 m] 23) (lt_of HX1.out)).trans HX1.out)
  clear HX1 HW1 hs1
  generalize (w.alloc (.cells #[.int .i64 k, .int .i64 s, .int .i64 m] 23)).alloc (.cells #[.int .i64 k, .int .i64 s, .int .i64 m] 23) = w2 at *
  by_cases e1 : polErr k s m = 0
  case neg =>
    have HE := Lib.hid (show newRE bst o k s m = polErr k s m from if_pos e1)
    have HE1 := Lib.hid e1
    have e1' : (polErr k s m == 0) = false := by simpa using e1
    generalize polErr k s m = E at *
    go_wp2_with fail
    go_ret2
    exact ⟨B2.out, Or.inl ⟨by rw [HE.out]; exact HE1.out, by rw [HE.out]; rfl⟩⟩
  case pos =>
    have HE := Lib.hid (show newRE bst o k s m = heldE bst o from if_neg (by simpa using e1))
    rw [e1]
    clear e1
    have HH := Lib.hid (held_any bp o w2 _ bst N (HB.out.narrow.same (fun k hk _ => B2.out.block k hk.2)))
    go_wp2_with fail
    refine HH.out.mono ?_
    rintro e w3 ⟨rfl, rfl⟩
    by_cases e2 : heldE bst o = 0
    case neg =>
      have HE2 := Lib.hid e2
      have e2' : (heldE bst o == 0) = false := by simpa using e2
      generalize heldE bst o = E at *
      go_wp2_with fail
      go_ret2
      exact ⟨B2.out, Or.inl ⟨by rw [HE.out]; exact HE2.out, by rw [HE.out]; rfl⟩⟩
    case pos =>
      have HE2 := Lib.hid e2
      rw [e2]
      clear e2
      have x0 : w2.cell? ⟨w.heap.size, 0, none⟩ = some (.int .i64 k) := by rw [cell_of X2.out]; rfl
      have x1 : w2.cell? ⟨w.heap.size, 1, none⟩ = some (.int .i64 s) := by rw [cell_of X2.out]; rfl
      have x2 : w2.cell? ⟨w.heap.size, 2, none⟩ = some (.int .i64 m) := by rw [cell_of X2.out]; rfl
      have hs2 := B2.out.size
      go_wp2_with fail
      go_ret2
      refine ⟨B2.out.alloc hs2 _, Or.inr ⟨by rw [HE.out]; exact HE2.out, w2.heap.size, hs2, rfl, heap_alloc_new w2 _⟩⟩

end
end Go.Proofs.Ytfolidedcejafaa

namespace Go.Proofs.Ytfolidedcejafaa
section
open Go.RowKit

def PartsPost (g : Option Nat) (st len R : Nat) (w : World) : Ending → World → Prop := fun e w' =>
  ∃ f1 f2, e = .returned (.tuple #[.slice f1 (min (st + len) R - st) (min (st + len) R - st), .slice f2 (len - (min (st + len) R - st)) (len - (min (st + len) R - st)), .int .i64 0]) ∧
    (∀ b, g = some b → (st < min (st + len) R → f1 = some ⟨b, st, none⟩) ∧ (0 < len - (min (st + len) R - st) → f2 = some ⟨b, 0, none⟩)) ∧ Below w.heap.size w w'

set_option maxHeartbeats 1000000 in
set_option maxRecDepth 100000 in
theorem parts_any (r bp : Nat) (o k s m : Int) (g : Option Nat) (R : Nat) (cs : List Int) (st len : Nat) (w : World) (h : ringAt w r bp o k s m (memOf g R) st len) (hm : memRow w g R cs) (hR : R ≤ 1000000) (hst : st ≤ R) (hl : len ≤ R) :
    Calls Try.prog 29 #[.pointer (some ⟨r, 0, none⟩)] w (PartsPost g st len R w) := by
  have c5 : w.cell? ⟨r, 5, none⟩ = some (.bool false) := by rw [cell_of h]; rfl
  have c7 : w.cell? ⟨r, 7, none⟩ = some (.int .i64 st) := by rw [cell_of h]; rfl
  have c8 : w.cell? ⟨r, 8, none⟩ = some (.int .i64 len) := by rw [cell_of h]; rfl
  have HC := Lib.hid (cells_any r bp o k s m g R st len st len w.drew h hR hm.nil hst hl)
  clear h hm
  go_enter Try.func29, Try.ntmps29
  go_wp2_with fail
  go_region_with ((go_at_call 65; refine HC.out.mono ?_; rintro e w1 ⟨f1, f2, rfl, hf, q, rfl⟩; have HFF := Lib.hid hf; clear hf))
  all_goals
    go_wp2_with fail
    go_ret3
    exact ⟨f1, f2, rfl, HFF.out, bdrewN (Below.refl _ _) _⟩

end
end Go.Proofs.Ytfolidedcejafaa
