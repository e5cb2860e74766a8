/-
  wish, grown, Grow, GrowOf, Shrink, ShrinkOf: what they give, for all arguments. No conditions.
  Grow, GrowOf, Shrink, ShrinkOf: what they give, for all arguments. No conditions.
  GrowOf beside Grow: both are the functions growV and growE. No conditions.
  Shrink and ShrinkOf: both are one function; the walks of RoomGrows and RoomTurns. No conditions.
  ShrinkOf beside Shrink; the walks of RoomGrows and RoomTurns. No conditions.
  book, stranger, NewHeap, and the walk of MoveMade. No conditions.
  NewPool, and an empty pool's Room, Strings and Blocks. No conditions.
  Rows that a call owns: a cell of one, one written, an element of several cells put at the end. No conditions.
  Several cells of a block stored to. No conditions.
-/
import Derived.Test.YtbndknbjjdoanaaTopSharedPae
import Derived.Deep.RegionWith
import Derived.LoopN
import Derived.Laws.IdiomRangeMap
import Derived.Test.YtbndknbjjdoanaaTopSharedPac
import Derived.Test.YtbndknbjjdoanaaTopSharedPaa

namespace Go.Proofs.Ytbndknbjjdoanaa
section
open Go.RowKit

/-- The wish of a policy. -/
def wishI (k s room need : Int) : Int :=
  if k = 2 then (need + s - 1) / s * s else if k = 3 then max need (room + room / 2) else if k = 4 then max need (2 * room) else if k = 5 then cfor need else need

def WPost (r : Int) (w : World) : Ending → World → Prop := fun e w' => e = .returned (.int .i64 r) ∧ Below w.heap.size w w'

theorem mul_bd (need s : Int) (h1 : 0 ≤ need) (h2 : need ≤ 100000) (h3 : 1 ≤ s) (h4 : s ≤ 100000) : 0 ≤ (need + s - 1) / s ∧ (need + s - 1) / s ≤ 200000 ∧ need ≤ (need + s - 1) / s * s ∧ (need + s - 1) / s * s ≤ 200000 := by
  have e := Int.mul_ediv_add_emod (need + s - 1) s
  have e1 := Int.emod_nonneg (need + s - 1) (b := s) (by omega)
  have e2 := Int.emod_lt_of_pos (need + s - 1) (b := s) (by omega)
  rw [Int.mul_comm] at e
  have d1 := Int.ediv_nonneg (a := need + s - 1) (b := s) (by omega) (by omega)
  have d2 := Int.ediv_le_self s (a := need + s - 1) (by omega)
  omega

theorem bcell {W w1 : World} (hb : Below W.heap.size W w1) : (∀ b o, b < W.heap.size → w1.cell? ⟨b, o, none⟩ = W.cell? ⟨b, o, none⟩) ∧ (∀ b o, b < W.heap.size → w1.frozen? ⟨b, o, none⟩ = W.frozen? ⟨b, o, none⟩) :=
  ⟨fun b o h => hb.cell (p := ⟨b, o, none⟩) h, fun b o h => hb.frozen (p := ⟨b, o, none⟩) h⟩

def GPost (r : Int) (b : Bool) (w : World) : Ending → World → Prop := fun e w' => e = .returned (.tuple #[.int .i64 r, .bool b]) ∧ Below w.heap.size w w'
theorem ret2_ib {k : IntKind} {a b : Int} {c d : Bool} (h : a = b) (h' : c = d) : Ending.returned (.tuple #[.int k a, .bool c]) = .returned (.tuple #[.int k b, .bool d]) := by rw [h, h']

end
end Go.Proofs.Ytbndknbjjdoanaa

namespace Go.Proofs.Ytbndknbjjdoanaa
section
open Go.RowKit

/-- A policy that is right. -/
def polOk (k s m : Int) : Prop := (1 ≤ k ∧ k ≤ 5) ∧ (k = 2 → 1 ≤ s ∧ s ≤ 100000) ∧ (0 ≤ m ∧ m ≤ 100000)
theorem polOk_of {k s m : Int} (h : polErr k s m = 0) : polOk k s m := by
  unfold polErr at h
  by_cases h1 : 1 ≤ k ∧ k ≤ 5
  · rw [if_pos h1] at h
    by_cases h2 : (k = 2 → 1 ≤ s ∧ s ≤ 100000) ∧ (¬ k = 2 → s = 0) ∧ (0 ≤ m ∧ m ≤ 100000)
    · exact ⟨h1, h2.1, h2.2.2⟩
    · rw [if_neg h2] at h; omega
  · rw [if_neg h1] at h; omega
theorem polErr_vals (k s m : Int) : polErr k s m = 0 ∨ polErr k s m = 2 ∨ polErr k s m = 10 := by
  unfold polErr; split <;> (try split) <;> simp

end
end Go.Proofs.Ytbndknbjjdoanaa

namespace Go.Proofs.Ytbndknbjjdoanaa
section
open Go.RowKit

/-- What a policy gives for arguments that are right. -/
def gV (k s m room need : Int) : Int := if need ≤ room then room else if m < need then 0 else min (wishI k s room need) m
def gE (m room need : Int) : Int := if need ≤ room then 0 else if m < need then 12 else 0
/-- What Grow gives. -/
def growV (k s m room need : Int) : Int := if polErr k s m = 0 ∧ (0 ≤ room ∧ room ≤ 100000) ∧ (0 ≤ need ∧ need ≤ 100000) then gV k s m room need else 0
def growE (k s m room need : Int) : Int := if polErr k s m = 0 then (if (0 ≤ room ∧ room ≤ 100000) ∧ (0 ≤ need ∧ need ≤ 100000) then gE m room need else 2) else polErr k s m

theorem gE_cases (k s m room need : Int) : gE m room need = 0 ∨ (gE m room need = 12 ∧ gV k s m room need = 0) := by
  unfold gE gV
  by_cases h3 : need ≤ room
  · rw [if_pos h3]; exact Or.inl rfl
  · rw [if_neg h3, if_neg h3]
    by_cases h4 : m < need
    · rw [if_pos h4, if_pos h4]; exact Or.inr ⟨rfl, rfl⟩
    · rw [if_neg h4]; exact Or.inl rfl

end
end Go.Proofs.Ytbndknbjjdoanaa

namespace Go.Proofs.Ytbndknbjjdoanaa
section
open Go.RowKit

/-- The room that is left, for arguments that are right: g, e: what Grow gives for a room 0. -/
def shrV (k room used g e : Int) : Int := if e = 0 ∧ g < room ∧ ¬ ((k = 3 ∨ k = 4) ∧ room < 4 * used) then g else room
def shrinkIn (room used : Int) : Prop := (0 ≤ room ∧ room ≤ 100000) ∧ (0 ≤ used ∧ used ≤ room)
instance (room used : Int) : Decidable (shrinkIn room used) := by unfold shrinkIn; exact inferInstance
def shrinkV (k s m room used : Int) : Int := if polErr k s m = 0 ∧ shrinkIn room used then shrV k room used (gV k s m 0 used) (gE m 0 used) else 0
def shrinkE (k s m room used : Int) : Int := if polErr k s m = 0 then (if shrinkIn room used then 0 else 2) else polErr k s m

theorem shrV_full {k room used g : Int} : shrV k room used g 12 = room := by unfold shrV; rw [if_neg (by omega)]
theorem shrV_more {k room used g : Int} (h : room ≤ g) : shrV k room used g 0 = room := by unfold shrV; rw [if_neg (by omega)]
theorem shrV_loose {k room used g : Int} (hk : k = 3 ∨ k = 4) (h : room < 4 * used) : shrV k room used g 0 = room := by unfold shrV; rw [if_neg (fun x => x.2.2 ⟨hk, h⟩)]
theorem shrV_less {k room used g : Int} (h : g < room) (h2 : ¬ ((k = 3 ∨ k = 4) ∧ room < 4 * used)) : shrV k room used g 0 = g := by unfold shrV; rw [if_pos ⟨rfl, h, h2⟩]

end
end Go.Proofs.Ytbndknbjjdoanaa

namespace Go.Proofs.Ytbndknbjjdoanaa
section
open Go.RowKit

/-- A policy's box. -/
def BoxAt (w : World) (b : Nat) (k s m : Int) : Prop :=
  b < w.heap.size ∧ w.cell? ⟨b, 0, none⟩ = some (.int .i64 k) ∧ w.cell? ⟨b, 1, none⟩ = some (.int .i64 s) ∧ w.cell? ⟨b, 2, none⟩ = some (.int .i64 m)
theorem BoxAt.new (w : World) (k s m : Int) (t : TypeId) : BoxAt (w.alloc (.cells #[.int .i64 k, .int .i64 s, .int .i64 m] t)) w.heap.size k s m := by
  refine ⟨by simp, ?_, ?_, ?_⟩ <;> (rw [cell_of_row _ _ _ _ _ _ (heap_alloc_new w _)]; rfl)
theorem BoxAt.below {w w' : World} {b : Nat} {k s m : Int} (h : BoxAt w b k s m) (hb : Below w.heap.size w w') : BoxAt w' b k s m :=
  ⟨Nat.lt_of_lt_of_le h.1 hb.size, (hb.cell (p := ⟨b, 0, none⟩) h.1).trans h.2.1, (hb.cell (p := ⟨b, 1, none⟩) h.1).trans h.2.2.1, (hb.cell (p := ⟨b, 2, none⟩) h.1).trans h.2.2.2⟩

end
end Go.Proofs.Ytbndknbjjdoanaa

namespace Go.Proofs.Ytbndknbjjdoanaa
section
open Go.RowKit

/-- The book of the statements: one account, number 1. -/
def oneSt (l : Int) : BookSt := openSt (newSt 10000000) 1 l

def BookPost (l : Int) (w : World) : Ending → World → Prop := fun e w' =>
  ∃ p, e = .returned (.pointer (some ⟨p, 0, none⟩)) ∧ BookAt w' (fun k => w.heap.size ≤ k) p (oneSt l) 1 ∧ Below w.heap.size w w'

def strangerE (o : Int) : Int := if o < 1 ∨ 40 < o then 2 else 7
theorem heldE_one (l o : Int) : heldE (oneSt l) o = if o = 1 then 0 else strangerE o := by
  unfold heldE strangerE oneSt openSt newSt
  by_cases h : o = 1
  · subst h; simp
  · by_cases h2 : 1 ≤ o ∧ o ≤ 40
    · rw [if_pos h2]; simp [h]; omega
    · rw [if_neg h2, if_neg h, if_pos (by omega)]

/-- A constructor's result: an object in a new block, or an error. -/
def PtrPost (cs : Array Value) (t : TypeId) (err : Int) (w : World) : Ending → World → Prop := fun e w' =>
  Below w.heap.size w w' ∧ ((err ≠ 0 ∧ e = .returned (.tuple #[.pointer none, .int .i64 err])) ∨
    (err = 0 ∧ ∃ h, e = .returned (.tuple #[.pointer (some ⟨h, 0, none⟩), .int .i64 0]) ∧ w.heap.size ≤ h ∧ w'.heap[h]? = some (.cells cs t (0, 0))))

def heapCells (p : Nat) (o k s m : Int) : Array Value :=
  #[.pointer (some ⟨p, 0, none⟩), .int .i64 o, .int .i64 k, .int .i64 s, .int .i64 m, .bool false, .slice none 0 0, .slice none 0 0, .int .i64 0, .int .i64 0, .slice none 0 0]

def newErr (st : BookSt) (k s m o : Int) : Int := if polErr k s m = 0 then heldE st o else polErr k s m

/-- The error that the statements expect of a constructor with a policy and an owner. -/
def wantErr (k s m o : Int) : Int := if polErr k s m = 0 then (if o = 1 then 0 else strangerE o) else polErr k s m

theorem newErr_one (l k s m o : Int) : newErr (oneSt l) k s m o = wantErr k s m o := by unfold newErr wantErr; rw [heldE_one]
theorem strangerE_ne (o : Int) : strangerE o ≠ 0 := by unfold strangerE; split <;> decide

end
end Go.Proofs.Ytbndknbjjdoanaa

namespace Go.Proofs.Ytbndknbjjdoanaa
section
open Go.RowKit
set_option linter.unusedVariables false

theorem within_share_yes (n lo hi : Int) (w : World) (h1 : lo ≤ n) (h2 : n ≤ hi) :
    Calls Try.prog 29 #[.int .i64 n, .int .i64 lo, .int .i64 hi] w fun e w' => e = .returned (.bool true) ∧ w = w' := by
  go_enter Try.func29, Try.ntmps29
  go_wp2
  go_ret
  exact ⟨rfl, rfl⟩
theorem within_share_no (n lo hi : Int) (w : World) (h : ¬ (lo ≤ n ∧ n ≤ hi)) :
    Calls Try.prog 29 #[.int .i64 n, .int .i64 lo, .int .i64 hi] w fun e w' => e = .returned (.bool false) ∧ w = w' := by
  by_cases h1 : lo ≤ n
  · have h2 : hi < n := by omega
    clear h
    go_enter Try.func29, Try.ntmps29
    go_wp2
    go_ret
    first | exact ⟨rfl, rfl⟩ | exact ⟨ret_bool (decide_eq_false (by omega)), rfl⟩
  · have h2 : n < lo := by omega
    clear h h1
    go_enter Try.func29, Try.ntmps29
    go_wp2
    go_ret
    first | exact ⟨rfl, rfl⟩ | exact ⟨ret_bool (decide_eq_false (by omega)), rfl⟩

def poolCells (p : Nat) (o size : Int) (mb ms : Nat) : Array Value := #[.pointer (some ⟨p, 0, none⟩), .int .i64 o, .int .i64 size, .bool false, .int .i64 0, .int .i64 0, .map (some mb), .map (some ms)]
/-- An empty pool in memory. -/
def PoolAt (w : World) (h p : Nat) (o size : Int) : Prop := ∃ mb ms c1 c2, w.heap[h]? = some (.cells (poolCells p o size mb ms) 63 (0, 0)) ∧ w.heap[mb]? = some (.map #[] c1) ∧ w.heap[ms]? = some (.map #[] c2)
theorem PoolAt.below {w w' : World} {h p : Nat} {o size : Int} (hp : PoolAt w h p o size) (hb : Below w.heap.size w w') : PoolAt w' h p o size := by
  obtain ⟨mb, ms, c1, c2, h1, h2, h3⟩ := hp
  exact ⟨mb, ms, c1, c2, (hb.block h (lt_of h1)).trans h1, (hb.block mb (by rcases Nat.lt_or_ge mb w.heap.size with x | x; exact x; rw [Array.getElem?_eq_none x] at h2; cases h2)).trans h2, (hb.block ms (by rcases Nat.lt_or_ge ms w.heap.size with x | x; exact x; rw [Array.getElem?_eq_none x] at h3; cases h3)).trans h3⟩
def PoolPost (p : Nat) (o size err : Int) (w : World) : Ending → World → Prop := fun e w' =>
  Below w.heap.size w w' ∧ ((err ≠ 0 ∧ e = .returned (.tuple #[.pointer none, .int .i64 err])) ∨ (err = 0 ∧ ∃ h, e = .returned (.tuple #[.pointer (some ⟨h, 0, none⟩), .int .i64 0]) ∧ PoolAt w' h p o size))
def poolErr (st : BookSt) (o size : Int) : Int := if 1 ≤ size ∧ size ≤ 4096 then heldE st o else 2

theorem pool_made (p : Nat) (o size : Int) (w : World) : PoolAt (((w.alloc (.map #[] 0)).alloc (.map #[] 0)).alloc (.cells (poolCells p o size w.heap.size (w.heap.size + 1)) 63)) (w.heap.size + 2) p o size := by
  have h1 := heap_alloc_new w (.map #[] 0)
  have h2 := heap_alloc_new (w.alloc (.map #[] 0)) (.map #[] 0)
  have h3 := heap_alloc_new ((w.alloc (.map #[] 0)).alloc (.map #[] 0)) (.cells (poolCells p o size w.heap.size (w.heap.size + 1)) 63)
  simp only [World.size_alloc] at h2 h3
  exact ⟨_, _, 0, 0, h3, (heap_alloc_old _ _ (by simp; omega)).trans ((heap_alloc_old _ _ (by simp)).trans h1), (heap_alloc_old _ _ (by simp)).trans h2⟩

set_option maxHeartbeats 2000000 in
set_option maxRecDepth 100000 in
theorem newPool_any (p : Nat) (o size : Int) (w : World) (F : Nat → Prop) (st : BookSt) (N : Nat) (hb : BookAt w F p st N) :
    Calls Try.prog 7 #[.pointer (some ⟨p, 0, none⟩), .int .i64 o, .int .i64 size] w (PoolPost p o size (poolErr st o size) w) := by
  have hmm := @run_makeMap Try.prog
  have HE := Lib.hid (held_any p o w F st N hb)
  have PM := Lib.hid (pool_made p o size w)
  clear hb
  by_cases hs : 1 ≤ size ∧ size ≤ 4096
  · have E := Lib.hid (show poolErr st o size = heldE st o by unfold poolErr; rw [if_pos hs])
    obtain ⟨s1, s2⟩ := hs
    rw [E.out]
    generalize heldE st o = he at *
    generalize heldV st o = hv at *
    go_enter Try.func7, Try.ntmps7
    go_wp2_with fail
    refine (within_share_yes _ _ _ _ s1 s2).mono ?_
    rintro e w' ⟨rfl, rfl⟩
    go_wp2_with fail
    refine HE.out.mono ?_
    rintro e w' ⟨rfl, rfl⟩
    by_cases h0 : he = 0
    · subst h0
      go_wp2_with fail
      go_ret2
      exact ⟨by go_grown, Or.inr ⟨rfl, _, rfl, PM.out⟩⟩
    · have h0' : (he == 0) = false := by simpa using h0
      have H0 := Lib.hid h0
      clear h0
      go_wp2_with fail
      go_ret2
      exact ⟨Below.refl _ _, Or.inl ⟨H0.out, rfl⟩⟩
  · have E := Lib.hid (show poolErr st o size = 2 by unfold poolErr; rw [if_neg hs])
    have HS := Lib.hid hs
    rw [E.out]
    clear hs
    go_enter Try.func7, Try.ntmps7
    go_wp2_with fail
    refine (within_share_no _ _ _ _ HS.out).mono ?_
    rintro e w' ⟨rfl, rfl⟩
    go_wp2_with fail
    go_ret2
    exact ⟨Below.refl _ _, Or.inl ⟨by decide, rfl⟩⟩

end
end Go.Proofs.Ytbndknbjjdoanaa

namespace Go.Proofs.Ytbndknbjjdoanaa
section
open Go.RowKit
set_option linter.unusedVariables false

theorem wrow_set {w : World} {B e size n g cap : Nat} {xs : List Value} (h : w.ownsRow B e size (.slice (some ⟨g, 0, none⟩) n cap) n xs) (j : Nat) (u : Value) : (w.setCell ⟨g, j, none⟩ u).ownsRow B e size (.slice (some ⟨g, 0, none⟩) n cap) n (xs.set j u) := by
  refine ⟨by rw [List.length_set]; exact h.1, ?_⟩
  rcases h.2 with ⟨h1, h2⟩ | ⟨g', cap', cur, h1, hb, hg, hn, hm, hs, ht⟩
  · cases h1
  · simp only [Value.slice.injEq, Option.some.injEq, Addr.mk.injEq, and_true] at h1
    obtain ⟨rfl, _, rfl⟩ := h1
    refine Or.inr ⟨g, cap, cur.setIfInBounds j u, rfl, hb, block_setCell hg j u, hn, hm, by simpa using hs, ?_⟩
    rw [Array.toList_setIfInBounds, List.take_set, ht]
theorem wrow_cell {w : World} {B e size n c : Nat} {a : Option Addr} {xs : List Value} (h : w.ownsRow B e size (.slice a n c) n xs) {j : Nat} {u : Value} (hu : xs[j]? = some u) : ∃ g, a = some ⟨g, 0, none⟩ ∧ w.cell? ⟨g, j, none⟩ = some u ∧ w.frozen? ⟨g, j, none⟩ = false := by
  rcases h.2 with ⟨hv, h0⟩ | ⟨g, cap, cur, hv, _, hg, _⟩
  · have := h.1
    have hj := (List.getElem?_eq_some_iff.1 hu).1
    rw [h0, Nat.zero_mul] at this
    omega
  · simp only [Value.slice.injEq] at hv
    obtain ⟨rfl, _, rfl⟩ := hv
    have := h.cells (g := g) rfl j _ hu
    have e1 : (⟨g, 0, none⟩ : Addr).add j = ⟨g, j, none⟩ := by unfold Addr.add; split <;> simp_all
    rw [e1] at this
    exact ⟨g, rfl, this, free_of hg j⟩

theorem wrow_sh {w : World} {B e size n : Nat} {v : Value} {xs : List Value} (h : w.ownsRow B e size v n xs) : ∃ a c, v = .slice a n c := by
  rcases h.2 with ⟨rfl, rfl⟩ | ⟨g, cap, cur, rfl, _⟩
  · exact ⟨_, _, rfl⟩
  · exact ⟨_, _, rfl⟩
/-- 'append(s, e)', where e's cells lie in the block just made. -/
theorem wpList_append_w {P : Program} {ops : Array Oper} {rest : List Oper} {o : Oper} {a : Act} {Q : Exit → Act → World → Prop} (hgd : o.guard = none) (s x : Operand) (t : TypeId)
    (ho : o.op = .call { callee := .builtin .append, args := #[s, x], argTypes := #[t, t] })
    (base : Nat) (e : TypeId) (i : TypeInfo) (z : Value) (size bytes : Nat) (ht : P.underlying t = some (.slice e)) (hi : P.info? e = some i) (hz : i.zero = some z)
    (hsize : i.size = size) (hby : i.bytes = bytes) (hzs : z.cells.size = size) (hsz : 0 < size)
    (v : Value) (n : Nat) (xs : List Value) (wr : World) (e' : TypeId) (us : List Value) (hs : a.eval s = v) (hown : wr.ownsRow base e size v n xs)
    (hx : a.eval x = .slice (some ⟨wr.heap.size, 0, none⟩) 1 1) (hl : us.length = size) (h1 : ∀ u ∈ us, u.oneCell' = true)
    (h63 : n + 1 ≤ maxLen) (hbytes : (n + 1) * bytes ≤ 140737488355328) (hbase : base ≤ wr.heap.size)
    (h : ∀ v' w', w'.ownsRow base e size v' (n + 1) (xs ++ us) → wr.grownBy w' v.ownBlock → Below base wr w' → wpList P ops Q rest (a.put o.dst v') w') :
    wpList P ops Q (o :: rest) a (wr.alloc (.cells us.toArray e')) := by
  refine wpList_append_own _ hgd s x t ho base e i z size bytes ht hi hz hsize hby hzs hsz v n xs hs (hown.alloc _) ⟨wr.heap.size, 0, none⟩ 1 1 us hx (by omega) ?_ h1 h63 hbytes (by simp; omega) ?_
  · intro j u hj
    have e1 : (⟨wr.heap.size, 0, none⟩ : Addr).add j = ⟨wr.heap.size, j, none⟩ := by unfold Addr.add; split <;> simp_all
    rw [e1, cell_of (heap_alloc_new wr _)]
    simpa using hj
  · intro v' w' hown' hg _
    refine h v' w' hown' ?_ ?_
    · exact ⟨hg.os, hg.tape, hg.output, Nat.le_trans (by simp) hg.size, fun k hk hne => (hg.block k (by simp; omega) hne).trans (heap_alloc_old wr _ hk)⟩
    · exact ((Below.refl base wr).alloc hbase _).grown hg (by simp; omega) (fun q hq => (hown.lt q hq).1)

theorem row_low {w : World} {B B' e size n : Nat} {v : Value} {xs : List Value} (h : w.ownsRow B e size v n xs) (hB : B' ≤ B) : w.ownsRow B' e size v n xs := by
  refine ⟨h.1, ?_⟩
  rcases h.2 with hn | ⟨g, cap, cur, rfl, hb, rest⟩
  · exact .inl hn
  · exact .inr ⟨g, cap, cur, rfl, Nat.le_trans hB hb, rest⟩
theorem row_kept {w w' : World} {B e size n : Nat} {v : Value} {zs : List Value} (h : w.ownsRow B e size v n zs) (hb : Below w.heap.size w w') : w'.ownsRow B e size v n zs := ownsRow_same h (fun k hk => hb.block k (h.lt k hk).2)

end
end Go.Proofs.Ytbndknbjjdoanaa

namespace Go.Proofs.Ytbndknbjjdoanaa
section
open Go.RowKit
set_option linter.unusedVariables false

theorem heap_setCells_other (b : Nat) : ∀ (vs : List Value) (o : Nat) (w : World) (k : Nat), k ≠ b → (w.setCells b o vs).heap[k]? = w.heap[k]?
  | [], _, _, _, _ => rfl
  | v :: vs, o, w, k, h => (heap_setCells_other b vs (o + 1) _ k h).trans (Below.heap_setCell w ⟨b, o, none⟩ v k h)
theorem size_setCells (b : Nat) : ∀ (vs : List Value) (o : Nat) (w : World), (w.setCells b o vs).heap.size = w.heap.size
  | [], _, _ => rfl
  | v :: vs, o, w => (size_setCells b vs (o + 1) _).trans (by simp [World.setCell])
theorem setCells_rest (b : Nat) : ∀ (vs : List Value) (o : Nat) (w : World), (w.setCells b o vs).os = w.os ∧ (w.setCells b o vs).tape = w.tape ∧ (w.setCells b o vs).output = w.output
  | [], _, _ => ⟨rfl, rfl, rfl⟩
  | v :: vs, o, w => setCells_rest b vs (o + 1) _
theorem block_setCells {b : Nat} {t : TypeId} : ∀ (vs : List Value) (o : Nat) (w : World) (cur : Array Value), w.heap[b]? = some (.cells cur t (0, 0)) → o + vs.length ≤ cur.size →
    ∃ cur', (w.setCells b o vs).heap[b]? = some (.cells cur' t (0, 0)) ∧ cur'.size = cur.size ∧ cur'.toList = cur.toList.take o ++ vs ++ cur.toList.drop (o + vs.length)
  | [], o, w, cur, h, _ => ⟨cur, h, rfl, by simp⟩
  | v :: vs, o, w, cur, h, hl => by
    simp at hl
    obtain ⟨cur', h1, h2, h3⟩ := block_setCells vs (o + 1) (w.setCell ⟨b, o, none⟩ v) (cur.setIfInBounds o v) (block_setCell h o v) (by simp; omega)
    refine ⟨cur', h1, by simpa using h2, ?_⟩
    rw [h3, Array.toList_setIfInBounds]
    have ho : o < cur.toList.length := by simp; omega
    rw [List.drop_set_of_lt (by omega), List.take_add_one, List.take_set_of_le (by omega), List.getElem?_set_self ho]
    simp [Nat.add_comm, Nat.add_left_comm]

end
end Go.Proofs.Ytbndknbjjdoanaa
