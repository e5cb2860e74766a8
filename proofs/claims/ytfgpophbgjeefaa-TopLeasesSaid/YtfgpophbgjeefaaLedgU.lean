/-
  maps.Keys over a map of integers: its iterator. No conditions.
-/
import Derived.RangeFuncNested
import Derived.RangeFuncBound
import Derived.RangeFuncCalls
import Derived.RangeFuncLeaves
import Derived.RangeFuncStops
import Derived.Shelf.Abstract
import Derived.Shelf.RegionOpen
import Derived.WalkKit
import Derived.OwnWalkIn
import Derived.TacticsInMore
import Derived.LoopNIn
import Derived.LoopIn
import Derived.Maps.OwnIn
import Derived.Sort.MapsRangeIn
import Derived.Test.YtfgpophbgjeefaaLedgV
namespace Go.Proofs.Ytfgpophbgjeefaa
open Go.RowKit Go.Shelf Go.Maps
attribute [local go_sem] Oper.semAt_some
set_option linter.unusedVariables false

/-- A key of a map of integers. -/
abbrev KeyI (D : DataW Unit) := { x : Int // has D (.int .i64 x) = true }
def keysV {D : DataW Unit} (l : List (KeyI D)) : List Int := l.map Subtype.val
/-- What has come: no key twice; a key has come where the map has it and it is no longer to come. -/
def CollI (D : DataW Unit) (left : Lit → Bool) (l : List (KeyI D)) : Prop := (keysV l).Nodup ∧ ∀ x, x ∈ keysV l ↔ (has D (.int .i64 x) = true ∧ left (.int .i64 x) = false)
theorem CollI.start (D : DataW Unit) : CollI D (has D) [] := ⟨List.nodup_nil, fun x => by cases has D (.int .i64 x) <;> simp [keysV]⟩
theorem CollI.step {D : DataW Unit} {left : Lit → Bool} {l : List (KeyI D)} (h : CollI D left l) {x : Int} (hx : has D (.int .i64 x) = true) (hlk : left (.int .i64 x) = true) : CollI D (fun z => left z && !z.sameKey (.int .i64 x)) (l ++ [⟨x, hx⟩]) := by
  have hm : keysV (l ++ [⟨x, hx⟩]) = keysV l ++ [x] := by simp [keysV]
  refine ⟨?_, fun y => ?_⟩
  · rw [hm]
    refine List.nodup_append.2 ⟨h.1, by simp, ?_⟩
    intro a ha b hb
    simp at hb
    subst hb
    rintro rfl
    have := ((h.2 a).1 ha).2
    rw [hlk] at this
    cases this
  · rw [hm, List.mem_append, h.2 y]
    by_cases e : y = x
    · subst e
      simp [hx, Lit.sameKey]
    · simp [e, Lit.sameKey]

set_option maxRecDepth 100000 in
set_option maxHeartbeats 2000000 in
theorem keysI_in (n : Nat) (hn : 1 ≤ n) (l Bm b nn : Nat) (D : DataW Unit) (J Jx : List (KeyI D) → World → Prop)
    (hY : ∀ pre (x : KeyI D) W, J pre W → pre.length < Maps.size D → YieldAt Fence.wide (n - 1) Try.prog l #[.int .i64 x.1] W fun e W' =>
      (e = .returned (.bool true) ∧ J (pre ++ [x]) W' ∧ KeepsWalks W W') ∨ (e = .returned (.bool false) ∧ Jx (pre ++ [x]) W'))
    (W : World) (hJ : AbidesFrom W.heap.size J) (hm : W.cell? ⟨Bm, 0, none⟩ = some (.map (some b))) (hown : W.ownsMap Try.prog 3 (plainElem Try.prog 3) b nn D) (h0 : J [] W) :
    CallsIn Fence.wide n Try.prog 35 #[.func (.yield l) #[] #[], .pointer (some ⟨Bm, 0, none⟩)] W fun e W' => (∃ v, e = .returned v) ∧
      ((∃ ss : List (KeyI D), ((keysV ss).Nodup ∧ ∀ x, x ∈ keysV ss ↔ has D (.int .i64 x) = true) ∧ J ss W') ∨ (∃ pre : List (KeyI D), True ∧ Jx pre W')) := by
  refine callsIn_of_wp Try.func35 rfl trivial ?_ rfl
  simp only [Try.ntmps35, List.size_toArray, List.length_cons, List.length_nil, Nat.reduceAdd, Nat.reduceSub, Array.replicate_succ, Array.replicate_zero, List.push_toArray, List.append_toArray, List.nil_append, List.cons_append]
  gi_wp2_with (first
    | (gi_at_range; refine wpListIn_range_own _ rfl _ 29 rfl 3 3 (int_keyed Try.underlying3) Try.underlying29 _ b nn _ rfl hown ?_; intro w0 hrg0 hg0 hs0)
    | gi_in)
  go_frame
  gi_loopw [3] (fun _ wr => ∃ (left : Lit → Bool) (cnt : Nat) (ss : List (KeyI D)), wr.ranges Try.prog 3 (plainElem Try.prog 3) b W.heap.size nn D left cnt ∧ ss.length + cnt ≤ Maps.size D ∧ CollI D left ss ∧ J ss wr)
    (fun _ wr => wr.rangeLeft b W.heap.size)
  case atStart =>
    exact ⟨_, _, [], hrg0, by simp, CollI.start D, hJ [] W w0 none h0 hg0 (fun r e => by cases e)⟩
  case round =>
    obtain ⟨left, cnt, ss, hrg, hcs, hC, hJs⟩ := hrel
    gi_wp2_with (first
      | (gi_at_next; refine wpListIn_next_ranges_ii _ rfl _ rfl 3 3 .i64 .i64 (int_keyed Try.underlying3) Try.underlying3 Try.underlying3 b W.heap.size nn _ _ _ rfl hrg ?_ ?_)
      | gi_in)
    · intro hc0 hl0
      gi_wp2
      go_end0
      exact ⟨⟨_, rfl⟩, .inl ⟨ss, ⟨hC.1, fun x => by rw [hC.2 x, hl0]; simp⟩, hJs⟩⟩
    · intro x c w2 cnt2 hwx hwc hlk hat hrg2 hlt hg2 hs2 hen
      have hx : has D (.int .i64 x) = true := has_true_of_atKey hat
      have hJ2 : J ss w2 := hJ ss wr w2 (some W.heap.size) hJs hg2 (fun r e => by cases e; exact ⟨Nat.le_refl _, hrg.iter_walk⟩)
      obtain ⟨fn, tmps, assign, body, hy, hR⟩ := hY ss ⟨x, hx⟩ w2 hJ2 (by omega)
      clear hs2
      gi_wp2
      refine hR.mono ?_
      have hC2 := hC.step hx hlk
      rintro e W3 (⟨rfl, hJ3, hk3⟩ | ⟨rfl, hJx3⟩)
      · gi_wp2
        have hrg3 := hrg2.of_walks hk3
        go_roundw
        case rel => exact ⟨_, cnt2, ss ++ [⟨x, hx⟩], hrg3, by simp; omega, hC2, hJ3⟩
        case measure => rw [hrg3.left_eq, hrg.left_eq]; exact hlt
      · gi_wp2
        refine bodyPost_ret (results_none rfl _ _ _) rfl ?_
        exact ⟨⟨_, rfl⟩, .inr ⟨ss ++ [⟨x, hx⟩], trivial, hJx3⟩⟩

theorem keysI_stops (n : Nat) (hn : 1 ≤ n) (Bm b nn : Nat) (D : DataW Unit) (w : World) (hBm : Bm < w.heap.size) (hm : w.cell? ⟨Bm, 0, none⟩ = some (.map (some b))) (hown : w.ownsMap Try.prog 3 (plainElem Try.prog 3) b nn D) :
    SeqStopsK Fence.wide n Try.prog 35 #[.pointer (some ⟨Bm, 0, none⟩)] (fun x : KeyI D => #[.int .i64 x.1]) KeepsWalks
      (fun ss => (keysV ss).Nodup ∧ ∀ x, x ∈ keysV ss ↔ has D (.int .i64 x) = true) (fun _ => True) (Maps.size D) w := fun l J Jx W hW hJ _ hY h0 =>
  keysI_in n hn l Bm b nn D J Jx hY W hJ ((hW.cell (p := ⟨Bm, 0, none⟩) hBm).trans hm) (ownsMap_same hown (hW.block b hown.lt)) h0

set_option maxRecDepth 100000 in
theorem keysMk_any (b : Nat) (w : World) :
    Calls Try.prog 12 #[.map (some b)] w (fun e w' => e = .returned (.func (.func 35) #[] #[.pointer (some ⟨w.heap.size, 0, none⟩)]) ∧ w' = w.alloc (.cells #[.map (some b)] 29)) := by
  go_enter Try.func12, Try.ntmps12
  go_wp2_with fail
  go_ret
  exact ⟨rfl, rfl⟩

end Go.Proofs.Ytfgpophbgjeefaa
