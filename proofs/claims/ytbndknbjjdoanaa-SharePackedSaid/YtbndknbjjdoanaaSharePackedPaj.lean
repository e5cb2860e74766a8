/-
  book, stranger, NewHeap, and the walk of MoveMade. No conditions.
  NewPool, and an empty pool's Room, Strings and Blocks. No conditions.
-/
import Derived.Test.YtbndknbjjdoanaaSharePackedPag
import Derived.Test.YtbndknbjjdoanaaSharePackedPai
import Derived.LoopN
import Derived.Laws.IdiomRangeMap

namespace Go.Proofs.Ytbndknbjjdoanaa
section
open Go.RowKit

/-- The book of the statements: one account, number 1. -/
def oneSt (l : Int) : BookSt := openSt (newSt 10000000) 1 l

def BookPost (l : Int) (w : World) : Ending → World → Prop := fun e w' =>
  ∃ p, e = .returned (.pointer (some ⟨p, 0, none⟩)) ∧ BookAt w' (fun k => w.heap.size ≤ k) p (oneSt l) 1 ∧ Below w.heap.size w w'

def strangerE (o : Int) : Int := if o < 1 ∨ 40 < o then 2 else 7
theorem heldE_one (l o : Int) : heldE (oneSt l) o = if o = 1 then 0 else strangerE o := by
  unfold heldE strangerE oneSt openSt newSt
  by_cases h : o = 1
  · subst h; simp
  · by_cases h2 : 1 ≤ o ∧ o ≤ 40
    · rw [if_pos h2]; simp [h]; omega
    · rw [if_neg h2, if_neg h, if_pos (by omega)]

/-- A constructor's result: an object in a new block, or an error. -/
def PtrPost (cs : Array Value) (t : TypeId) (err : Int) (w : World) : Ending → World → Prop := fun e w' =>
  Below w.heap.size w w' ∧ ((err ≠ 0 ∧ e = .returned (.tuple #[.pointer none, .int .i64 err])) ∨
    (err = 0 ∧ ∃ h, e = .returned (.tuple #[.pointer (some ⟨h, 0, none⟩), .int .i64 0]) ∧ w.heap.size ≤ h ∧ w'.heap[h]? = some (.cells cs t (0, 0))))

def heapCells (p : Nat) (o k s m : Int) : Array Value :=
  #[.pointer (some ⟨p, 0, none⟩), .int .i64 o, .int .i64 k, .int .i64 s, .int .i64 m, .bool false, .slice none 0 0, .slice none 0 0, .int .i64 0, .int .i64 0, .slice none 0 0]

def newErr (st : BookSt) (k s m o : Int) : Int := if polErr k s m = 0 then heldE st o else polErr k s m

/-- The error that the statements expect of a constructor with a policy and an owner. -/
def wantErr (k s m o : Int) : Int := if polErr k s m = 0 then (if o = 1 then 0 else strangerE o) else polErr k s m

theorem newErr_one (l k s m o : Int) : newErr (oneSt l) k s m o = wantErr k s m o := by unfold newErr wantErr; rw [heldE_one]
theorem strangerE_ne (o : Int) : strangerE o ≠ 0 := by unfold strangerE; split <;> decide

end
end Go.Proofs.Ytbndknbjjdoanaa

namespace Go.Proofs.Ytbndknbjjdoanaa
section
open Go.RowKit
set_option linter.unusedVariables false

theorem within_share_yes (n lo hi : Int) (w : World) (h1 : lo ≤ n) (h2 : n ≤ hi) :
    Calls Try.prog 29 #[.int .i64 n, .int .i64 lo, .int .i64 hi] w fun e w' => e = .returned (.bool true) ∧ w = w' := by
  go_enter Try.func29, Try.ntmps29
  go_wp2
  go_ret
  exact ⟨rfl, rfl⟩
theorem within_share_no (n lo hi : Int) (w : World) (h : ¬ (lo ≤ n ∧ n ≤ hi)) :
    Calls Try.prog 29 #[.int .i64 n, .int .i64 lo, .int .i64 hi] w fun e w' => e = .returned (.bool false) ∧ w = w' := by
  by_cases h1 : lo ≤ n
  · have h2 : hi < n := by omega
    clear h
    go_enter Try.func29, Try.ntmps29
    go_wp2
    go_ret
    first | exact ⟨rfl, rfl⟩ | exact ⟨ret_bool (decide_eq_false (by omega)), rfl⟩
  · have h2 : n < lo := by omega
    clear h h1
    go_enter Try.func29, Try.ntmps29
    go_wp2
    go_ret
    first | exact ⟨rfl, rfl⟩ | exact ⟨ret_bool (decide_eq_false (by omega)), rfl⟩

def poolCells (p : Nat) (o size : Int) (mb ms : Nat) : Array Value := #[.pointer (some ⟨p, 0, none⟩), .int .i64 o, .int .i64 size, .bool false, .int .i64 0, .int .i64 0, .map (some mb), .map (some ms)]
/-- An empty pool in memory. -/
def PoolAt (w : World) (h p : Nat) (o size : Int) : Prop := ∃ mb ms c1 c2, w.heap[h]? = some (.cells (poolCells p o size mb ms) 63 (0, 0)) ∧ w.heap[mb]? = some (.map #[] c1) ∧ w.heap[ms]? = some (.map #[] c2)
theorem PoolAt.below {w w' : World} {h p : Nat} {o size : Int} (hp : PoolAt w h p o size) (hb : Below w.heap.size w w') : PoolAt w' h p o size := by
  obtain ⟨mb, ms, c1, c2, h1, h2, h3⟩ := hp
  exact ⟨mb, ms, c1, c2, (hb.block h (lt_of h1)).trans h1, (hb.block mb (by rcases Nat.lt_or_ge mb w.heap.size with x | x; exact x; rw [Array.getElem?_eq_none x] at h2; cases h2)).trans h2, (hb.block ms (by rcases Nat.lt_or_ge ms w.heap.size with x | x; exact x; rw [Array.getElem?_eq_none x] at h3; cases h3)).trans h3⟩
def PoolPost (p : Nat) (o size err : Int) (w : World) : Ending → World → Prop := fun e w' =>
  Below w.heap.size w w' ∧ ((err ≠ 0 ∧ e = .returned (.tuple #[.pointer none, .int .i64 err])) ∨ (err = 0 ∧ ∃ h, e = .returned (.tuple #[.pointer (some ⟨h, 0, none⟩), .int .i64 0]) ∧ PoolAt w' h p o size))
def poolErr (st : BookSt) (o size : Int) : Int := if 1 ≤ size ∧ size ≤ 4096 then heldE st o else 2

theorem pool_made (p : Nat) (o size : Int) (w : World) : PoolAt (((w.alloc (.map #[] 0)).alloc (.map #[] 0)).alloc (.cells (poolCells p o size w.heap.size (w.heap.size + 1)) 63)) (w.heap.size + 2) p o size := by
  have h1 := heap_alloc_new w (.map #[] 0)
  have h2 := heap_alloc_new (w.alloc (.map #[] 0)) (.map #[] 0)
  have h3 := heap_alloc_new ((w.alloc (.map #[] 0)).alloc (.map #[] 0)) (.cells (poolCells p o size w.heap.size (w.heap.size + 1)) 63)
  simp only [World.size_alloc] at h2 h3
  exact ⟨_, _, 0, 0, h3, (heap_alloc_old _ _ (by simp; omega)).trans ((heap_alloc_old _ _ (by simp)).trans h1), (heap_alloc_old _ _ (by simp)).trans h2⟩

set_option maxHeartbeats 2000000 in
set_option maxRecDepth 100000 in
theorem newPool_any (p : Nat) (o size : Int) (w : World) (F : Nat → Prop) (st : BookSt) (N : Nat) (hb : BookAt w F p st N) :
    Calls Try.prog 7 #[.pointer (some ⟨p, 0, none⟩), .int .i64 o, .int .i64 size] w (PoolPost p o size (poolErr st o size) w) := by
  have hmm := @run_makeMap Try.prog
  have HE := Lib.hid (held_any p o w F st N hb)
  have PM := Lib.hid (pool_made p o size w)
  clear hb
  by_cases hs : 1 ≤ size ∧ size ≤ 4096
  · have E := Lib.hid (show poolErr st o size = heldE st o by unfold poolErr; rw [if_pos hs])
    obtain ⟨s1, s2⟩ := hs
    rw [E.out]
    generalize heldE st o = he at *
    generalize heldV st o = hv at *
    go_enter Try.func7, Try.ntmps7
    go_wp2_with fail
    refine (within_share_yes _ _ _ _ s1 s2).mono ?_
    rintro e w' ⟨rfl, rfl⟩
    go_wp2_with fail
    refine HE.out.mono ?_
    rintro e w' ⟨rfl, rfl⟩
    by_cases h0 : he = 0
    · subst h0
      go_wp2_with fail
      go_ret2
      exact ⟨by go_grown, Or.inr ⟨rfl, _, rfl, PM.out⟩⟩
    · have h0' : (he == 0) = false := by simpa using h0
      have H0 := Lib.hid h0
      clear h0
      go_wp2_with fail
      go_ret2
      exact ⟨Below.refl _ _, Or.inl ⟨H0.out, rfl⟩⟩
  · have E := Lib.hid (show poolErr st o size = 2 by unfold poolErr; rw [if_neg hs])
    have HS := Lib.hid hs
    rw [E.out]
    clear hs
    go_enter Try.func7, Try.ntmps7
    go_wp2_with fail
    refine (within_share_no _ _ _ _ HS.out).mono ?_
    rintro e w' ⟨rfl, rfl⟩
    go_wp2_with fail
    go_ret2
    exact ⟨Below.refl _ _, Or.inl ⟨by decide, rfl⟩⟩

end
end Go.Proofs.Ytbndknbjjdoanaa
