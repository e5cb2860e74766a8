/-
  Join of two ropes that hold nothing. No conditions.
-/
import Derived.Test.YteeiohhoccgafaaRopeNew
import Derived.BigQuiet
import Derived.Laws.StructEq
import Derived.Handy
import Derived.LaidEqlPtr
import Derived.Lib.Builder
namespace Go.Proofs.Yteeiohhoccgafaa
open Go.RowKit

/-- An empty rope's cells that Join reads. -/
structure RopeIs (w : World) (a p : Nat) (o k s m l : Int) : Prop where
  blk : w.heap[a]? = some (.cells (ropeCells p o k s m l) 91 (0, 0))
  lt : a < w.heap.size
  c0 : w.cell? ⟨a, 0, none⟩ = some (.pointer (some ⟨p, 0, none⟩))
  c1 : w.cell? ⟨a, 1, none⟩ = some (.int .i64 o)
  c2 : w.cell? ⟨a, 2, none⟩ = some (.int .i64 k)
  c3 : w.cell? ⟨a, 3, none⟩ = some (.int .i64 s)
  c4 : w.cell? ⟨a, 4, none⟩ = some (.int .i64 m)
  c5 : w.cell? ⟨a, 5, none⟩ = some (.int .i64 l)
  c6 : w.cell? ⟨a, 6, none⟩ = some (.bool false)
  c7 : w.cell? ⟨a, 7, none⟩ = some (.slice none 0 0)
  c8 : w.cell? ⟨a, 8, none⟩ = some (.slice none 0 0)
  fr : ∀ j, w.frozen? ⟨a, j, none⟩ = false

theorem RopeIs.of {w : World} {a p : Nat} {o k s m l : Int} (h : w.heap[a]? = some (.cells (ropeCells p o k s m l) 91 (0, 0))) : RopeIs w a p o k s m l := by
  refine ⟨h, lt_of h, ?_, ?_, ?_, ?_, ?_, ?_, ?_, ?_, ?_, free_of h⟩ <;> (rw [cell_of h]; rfl)
theorem RopeIs.below {w w' : World} {a p : Nat} {o k s m l : Int} (h : RopeIs w a p o k s m l) (hb : Below w.heap.size w w') : RopeIs w' a p o k s m l :=
  .of ((hb.block a h.lt).trans h.blk)

theorem bookSize : (Try.prog.info? 119).map (fun j => decide (j.size ≠ 0)) = some true := by kernel_rfl
theorem ropeSize : (Try.prog.info? 91).map (fun j => decide (j.size ≠ 0)) = some true := by kernel_rfl

section
variable {P : Program} (w : World)
theorem run_neq_ptr_other {tp te : TypeId} {j : TypeInfo} {a b : Addr} {ca cb : Array Value} {ta tb : TypeId} (hp : P.underlying tp = some (.pointer te)) (hte : P.info? te = some j) (hsz : j.size ≠ 0)
    (hne : a ≠ b) (ha : w.heap[a.block]? = some (.cells ca ta (0, 0))) (hb : w.heap[b.block]? = some (.cells cb tb (0, 0))) :
    (binOp .neq tp (.pointer (some a)) (.pointer (some b))).run P w = .ok (.bool true) w := by
  have h : ∀ d : Nat, (Op.equalIn (d + 1) tp (.pointer (some a)) (.pointer (some b))).run P w = .ok false w := fun d => by
    simp [Op.equalIn, run_underlying hp, sizeOf, typeInfo, hte, hsz, run_sameAddr_other w hne ha hb]
  simp only [binOp]
  simp [Op.equal, Op.maxDepth, h 9999]
end

/-- Two ropes' pointers are not the same. -/
theorem ropes_apart {w : World} {a b p q : Nat} {o k s m l o' k' s' m' l' : Int} (ha : RopeIs w a p o k s m l) (hb : RopeIs w b q o' k' s' m' l') (hab : a ≠ b) :
    (binOp .eql 57 (.pointer (some ⟨a, 0, none⟩)) (.pointer (some ⟨b, 0, none⟩))).run Try.prog w = .ok (.bool false) w := by
  obtain ⟨j, hj, hjs⟩ := Option.map_eq_some_iff.1 ropeSize
  exact run_eql_ptr_other w Try.underlying57 hj (of_decide_eq_true hjs) (fun e => hab (congrArg Addr.block e)) ha.blk hb.blk
theorem books_apart {w : World} {p q : Nat} {ca cb : Array Value} (hp : w.heap[p]? = some (.cells ca 119 (0, 0))) (hq : w.heap[q]? = some (.cells cb 119 (0, 0))) (hpq : p ≠ q) :
    (binOp .neq 49 (.pointer (some ⟨p, 0, none⟩)) (.pointer (some ⟨q, 0, none⟩))).run Try.prog w = .ok (.bool true) w := by
  obtain ⟨j, hj, hjs⟩ := Option.map_eq_some_iff.1 bookSize
  exact run_neq_ptr_other w Try.underlying49 hj (of_decide_eq_true hjs) (fun e => hpq (congrArg Addr.block e)) hp hq
theorem books_same (w : World) (p : Nat) :
    (binOp .neq 49 (.pointer (some ⟨p, 0, none⟩)) (.pointer (some ⟨p, 0, none⟩))).run Try.prog w = .ok (.bool false) w := by
  obtain ⟨j, hj, _⟩ := Option.map_eq_some_iff.1 bookSize
  exact Lib.run_neq_ptr_same w _ Try.underlying49 hj

set_option maxHeartbeats 1000000 in
theorem ropeSizes_nil {w : World} {a p : Nat} {o k s m l : Int} (h : RopeIs w a p o k s m l) :
    Calls Try.prog 90 #[.pointer (some ⟨a, 0, none⟩)] w (fun e w' => e = .returned (.slice none 0 0) ∧ w' = w) := by
  obtain ⟨_, hlt, c0, c1, c2, c3, c4, c5, c6, c7, c8, fr⟩ := h
  go_enter Try.func90, Try.ntmps90
  go_wp2
  go_rounds 1
  go_ret
  exact ⟨rfl, rfl⟩

set_option maxHeartbeats 1000000 in
theorem ropeTotal_nil (w : World) :
    Calls Try.prog 89 #[.slice none 0 0] w (fun e w' => e = .returned (.tuple #[.int .i64 0, .int .i64 0]) ∧ w' = w) := by
  go_enter Try.func89, Try.ntmps89
  go_wp2
  go_rounds 1
  go_ret2
  exact ⟨rfl, rfl⟩

set_option maxHeartbeats 1000000 in
theorem ropeLen_nil {w : World} {a p : Nat} {o k s m l : Int} (h : RopeIs w a p o k s m l) :
    Calls Try.prog 78 #[.pointer (some ⟨a, 0, none⟩)] w (fun e w' => e = .returned (.int .i64 0) ∧ w' = w) := by
  have S := Lib.hid (ropeSizes_nil h)
  go_enter Try.func78, Try.ntmps78
  go_wp2_with fail
  refine S.out.mono ?_
  rintro e w1 ⟨rfl, rfl⟩
  go_wp2_with fail
  refine (ropeTotal_nil _).mono ?_
  rintro e w1 ⟨rfl, rfl⟩
  go_wp2_with fail
  go_ret
  exact ⟨rfl, rfl⟩

set_option maxHeartbeats 1000000 in
theorem growRows_nil (w : World) :
    Calls Try.prog 93 #[.slice none 0 0, .int .i64 0] w (fun e w' => e = .returned (.slice none 0 0) ∧ w' = w) := by
  go_enter Try.func93, Try.ntmps93
  go_wp2
  go_ret
  exact ⟨rfl, rfl⟩

set_option maxHeartbeats 1000000 in
theorem concat_nil2 (w : World) (c : Nat) (h0 : w.cell? ⟨c, 0, none⟩ = some (.slice none 0 0)) (h1 : w.cell? ⟨c, 1, none⟩ = some (.slice none 0 0)) :
    Calls Try.prog 81 #[.slice (some ⟨c, 0, none⟩) 2 2] w (fun e w' => e = .returned (.slice none 0 0) ∧ w' = w) := by
  go_enter Try.func81, Try.ntmps81
  go_wp2
  refine wp_loop_rounds 3 ?_
  iterate 3 (rw [rounds_succ]; go_wp2_with fail)
  refine (growRows_nil _).mono ?_
  rintro e w1 ⟨rfl, rfl⟩
  go_wp2_with fail
  go_rounds 3
  go_ret
  exact ⟨rfl, rfl⟩

set_option maxHeartbeats 1000000 in
theorem containsMark_nil (w : World) (f : Value) :
    Calls Try.prog 79 #[.slice none 0 0, f] w (fun e w' => e = .returned (.bool false) ∧ w' = w) := by
  go_enter Try.func79, Try.ntmps79
  go_wp2
  go_rounds 1
  go_ret
  exact ⟨rfl, rfl⟩

end Go.Proofs.Yteeiohhoccgafaa
