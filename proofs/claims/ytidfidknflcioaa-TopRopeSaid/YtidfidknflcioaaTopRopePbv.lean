/-
  Join of two ropes that hold nothing. No conditions.
  Join of two ropes that hold nothing. No conditions.
-/
import Derived.Test.YtidfidknflcioaaTopRopePas
import Derived.BigQuiet
import Derived.Laws.StructEq
import Derived.Handy
import Derived.LaidEqlPtr
import Derived.Lib.Builder
import Derived.Deep.RegionWith

namespace Go.Proofs.Ytidfidknflcioaa
section
open Go.RowKit

/-- An empty rope's cells that Join reads. -/
structure RopeIs (w : World) (a p : Nat) (o k s m l : Int) : Prop where
  blk : w.heap[a]? = some (.cells (ropeCells p o k s m l) 69 (0, 0))
  lt : a < w.heap.size
  c0 : w.cell? ⟨a, 0, none⟩ = some (.pointer (some ⟨p, 0, none⟩))
  c1 : w.cell? ⟨a, 1, none⟩ = some (.int .i64 o)
  c2 : w.cell? ⟨a, 2, none⟩ = some (.int .i64 k)
  c3 : w.cell? ⟨a, 3, none⟩ = some (.int .i64 s)
  c4 : w.cell? ⟨a, 4, none⟩ = some (.int .i64 m)
  c5 : w.cell? ⟨a, 5, none⟩ = some (.int .i64 l)
  c6 : w.cell? ⟨a, 6, none⟩ = some (.bool false)
  c7 : w.cell? ⟨a, 7, none⟩ = some (.slice none 0 0)
  c8 : w.cell? ⟨a, 8, none⟩ = some (.slice none 0 0)
  fr : ∀ j, w.frozen? ⟨a, j, none⟩ = false

theorem RopeIs.of {w : World} {a p : Nat} {o k s m l : Int} (h : w.heap[a]? = some (.cells (ropeCells p o k s m l) 69 (0, 0))) : RopeIs w a p o k s m l := by
  refine ⟨h, lt_of h, ?_, ?_, ?_, ?_, ?_, ?_, ?_, ?_, ?_, free_of h⟩ <;> (rw [cell_of h]; rfl)
theorem RopeIs.below {w w' : World} {a p : Nat} {o k s m l : Int} (h : RopeIs w a p o k s m l) (hb : Below w.heap.size w w') : RopeIs w' a p o k s m l :=
  .of ((hb.block a h.lt).trans h.blk)

theorem bookSize : (Try.prog.info? 101).map (fun j => decide (j.size ≠ 0)) = some true := by kernel_rfl
theorem ropeSize : (Try.prog.info? 69).map (fun j => decide (j.size ≠ 0)) = some true := by kernel_rfl

section
variable {P : Program} (w : World)
theorem run_neq_ptr_other {tp te : TypeId} {j : TypeInfo} {a b : Addr} {ca cb : Array Value} {ta tb : TypeId} (hp : P.underlying tp = some (.pointer te)) (hte : P.info? te = some j) (hsz : j.size ≠ 0)
    (hne : a ≠ b) (ha : w.heap[a.block]? = some (.cells ca ta (0, 0))) (hb : w.heap[b.block]? = some (.cells cb tb (0, 0))) :
    (binOp .neq tp (.pointer (some a)) (.pointer (some b))).run P w = .ok (.bool true) w := by
  have h : ∀ d : Nat, (Op.equalIn (d + 1) tp (.pointer (some a)) (.pointer (some b))).run P w = .ok false w := fun d => by
    simp [Op.equalIn, run_underlying hp, sizeOf, typeInfo, hte, hsz, run_sameAddr_other w hne ha hb]
  simp only [binOp]
  simp [Op.equal, Op.maxDepth, h 9999]
end

/-- Two ropes' pointers are not the same. -/
theorem ropes_apart {w : World} {a b p q : Nat} {o k s m l o' k' s' m' l' : Int} (ha : RopeIs w a p o k s m l) (hb : RopeIs w b q o' k' s' m' l') (hab : a ≠ b) :
    (binOp .eql 28 (.pointer (some ⟨a, 0, none⟩)) (.pointer (some ⟨b, 0, none⟩))).run Try.prog w = .ok (.bool false) w := by
  obtain ⟨j, hj, hjs⟩ := Option.map_eq_some_iff.1 ropeSize
  exact run_eql_ptr_other w Try.underlying28 hj (of_decide_eq_true hjs) (fun e => hab (congrArg Addr.block e)) ha.blk hb.blk
theorem books_apart {w : World} {p q : Nat} {ca cb : Array Value} (hp : w.heap[p]? = some (.cells ca 101 (0, 0))) (hq : w.heap[q]? = some (.cells cb 101 (0, 0))) (hpq : p ≠ q) :
    (binOp .neq 26 (.pointer (some ⟨p, 0, none⟩)) (.pointer (some ⟨q, 0, none⟩))).run Try.prog w = .ok (.bool true) w := by
  obtain ⟨j, hj, hjs⟩ := Option.map_eq_some_iff.1 bookSize
  exact run_neq_ptr_other w Try.underlying26 hj (of_decide_eq_true hjs) (fun e => hpq (congrArg Addr.block e)) hp hq
theorem books_same (w : World) (p : Nat) :
    (binOp .neq 26 (.pointer (some ⟨p, 0, none⟩)) (.pointer (some ⟨p, 0, none⟩))).run Try.prog w = .ok (.bool false) w := by
  obtain ⟨j, hj, _⟩ := Option.map_eq_some_iff.1 bookSize
  exact Lib.run_neq_ptr_same w _ Try.underlying26 hj

set_option maxHeartbeats 1000000 in
theorem ropeSizes_nil {w : World} {a p : Nat} {o k s m l : Int} (h : RopeIs w a p o k s m l) :
    Calls Try.prog 36 #[.pointer (some ⟨a, 0, none⟩)] w (fun e w' => e = .returned (.slice none 0 0) ∧ w' = w) := by
  obtain ⟨_, hlt, c0, c1, c2, c3, c4, c5, c6, c7, c8, fr⟩ := h
  go_enter Try.func36, Try.ntmps36
  go_wp2
  go_rounds 1
  go_ret
  exact ⟨rfl, rfl⟩

set_option maxHeartbeats 1000000 in
theorem ropeTotal_nil (w : World) :
    Calls Try.prog 48 #[.slice none 0 0] w (fun e w' => e = .returned (.tuple #[.int .i64 0, .int .i64 0]) ∧ w' = w) := by
  go_enter Try.func48, Try.ntmps48
  go_wp2
  go_rounds 1
  go_ret2
  exact ⟨rfl, rfl⟩

set_option maxHeartbeats 1000000 in
theorem ropeLen_nil {w : World} {a p : Nat} {o k s m l : Int} (h : RopeIs w a p o k s m l) :
    Calls Try.prog 15 #[.pointer (some ⟨a, 0, none⟩)] w (fun e w' => e = .returned (.int .i64 0) ∧ w' = w) := by
  have S := Lib.hid (ropeSizes_nil h)
  go_enter Try.func15, Try.ntmps15
  go_wp2_with fail
  refine S.out.mono ?_
  rintro e w1 ⟨rfl, rfl⟩
  go_wp2_with fail
  refine (ropeTotal_nil _).mono ?_
  rintro e w1 ⟨rfl, rfl⟩
  go_wp2_with fail
  go_ret
  exact ⟨rfl, rfl⟩

set_option maxHeartbeats 1000000 in
theorem growRows_nil (w : World) :
    Calls Try.prog 78 #[.slice none 0 0, .int .i64 0] w (fun e w' => e = .returned (.slice none 0 0) ∧ w' = w) := by
  go_enter Try.func78, Try.ntmps78
  go_wp2
  go_ret
  exact ⟨rfl, rfl⟩

set_option maxHeartbeats 1000000 in
theorem concat_nil2 (w : World) (c : Nat) (h0 : w.cell? ⟨c, 0, none⟩ = some (.slice none 0 0)) (h1 : w.cell? ⟨c, 1, none⟩ = some (.slice none 0 0)) :
    Calls Try.prog 51 #[.slice (some ⟨c, 0, none⟩) 2 2] w (fun e w' => e = .returned (.slice none 0 0) ∧ w' = w) := by
  go_enter Try.func51, Try.ntmps51
  go_wp2
  refine wp_loop_rounds 3 ?_
  iterate 3 (rw [rounds_succ]; go_wp2_with fail)
  refine (growRows_nil _).mono ?_
  rintro e w1 ⟨rfl, rfl⟩
  go_wp2_with fail
  go_rounds 3
  go_ret
  exact ⟨rfl, rfl⟩

set_option maxHeartbeats 1000000 in
theorem containsMark_nil (w : World) (f : Value) :
    Calls Try.prog 49 #[.slice none 0 0, f] w (fun e w' => e = .returned (.bool false) ∧ w' = w) := by
  go_enter Try.func49, Try.ntmps49
  go_wp2
  go_rounds 1
  go_ret
  exact ⟨rfl, rfl⟩

end
end Go.Proofs.Ytidfidknflcioaa

namespace Go.Proofs.Ytidfidknflcioaa
section
open Go.RowKit

theorem fieldsOf_eq {P : Program} {t : TypeId} {fs : Array Field} (h : P.underlying t = some (.struct fs)) : P.fieldsOf t = fs := by simp [Program.fieldsOf, h]
set_option maxRecDepth 100000 in
theorem pol_neq (w : World) (k s m k' s' m' : Int) : (binOp .neq 23 (.agg #[.int .i64 k, .int .i64 s, .int .i64 m]) (.agg #[.int .i64 k', .int .i64 s', .int .i64 m'])).run Try.prog w = .ok (.bool (!((k == k') && ((s == s') && (m == m'))))) w := by
  have hg := fieldsOf_eq Try.underlying23
  have hu := Try.underlying3
  rw [run_neq_struct]
  rw [run_equalIn_agg _ _ _ _ _ (by rw [hg]; exact Try.underlying23) (by kernel_rfl), hg]
  have hi := fun (d : Nat) (w : World) (a b : Int) => run_equalIn_int (P := Try.prog) w d 3 .i64 .i64 a b hu
  cases h1 : k == k' <;> cases h2 : s == s' <;> cases h3 : m == m' <;> simp only [Op.eqFields] <;> simp [part, hi, h1, h2, h3]

theorem pol_ne (w : World) {k s m k' s' m' : Int} (h : ¬ (k = k' ∧ s = s' ∧ m = m')) : (binOp .neq 23 (.agg #[.int .i64 k, .int .i64 s, .int .i64 m]) (.agg #[.int .i64 k', .int .i64 s', .int .i64 m'])).run Try.prog w = .ok (.bool true) w := by
  rw [pol_neq]
  have : (!((k == k') && ((s == s') && (m == m')))) = true := by
    cases h1 : k == k' <;> cases h2 : s == s' <;> cases h3 : m == m' <;> first | rfl | (simp at h1 h2 h3; exact absurd ⟨h1, h2, h3⟩ h)
  rw [this]
theorem pol_same (w : World) (k s m : Int) : (binOp .neq 23 (.agg #[.int .i64 k, .int .i64 s, .int .i64 m]) (.agg #[.int .i64 k, .int .i64 s, .int .i64 m])).run Try.prog w = .ok (.bool false) w := by
  rw [pol_neq]
  simp

set_option maxHeartbeats 1000000 in
set_option maxRecDepth 100000 in
theorem join_owner {w : World} {a b p q : Nat} {o k s m l o' k' s' m' l' : Int} {cp cq : Array Value} (ha : RopeIs w a p o k s m l) (hb : RopeIs w b q o' k' s' m' l') (hab : a ≠ b)
    (hp : w.heap[p]? = some (.cells cp 101 (0, 0))) (hq : w.heap[q]? = some (.cells cq 101 (0, 0))) (hpq : p ≠ q) :
    Calls Try.prog 16 #[.pointer (some ⟨a, 0, none⟩), .pointer (some ⟨b, 0, none⟩)] w (fun e w' => e = .returned (.int .i64 15) ∧ Below w.heap.size w w') := by
  have ap := ropes_apart ha hb hab
  have bp := fun n => books_apart (w := w.drewN n) hp hq hpq
  obtain ⟨_, hlt, c0, c1, c2, c3, c4, c5, c6, c7, c8, fr⟩ := ha
  obtain ⟨_, hlt', d0, d1, d2, d3, d4, d5, d6, d7, d8, fr'⟩ := hb
  clear hp hq
  go_enter Try.func16, Try.ntmps16
  go_wp2_with fail
  go_quiet (fail)
  go_wp2_with fail
  go_ret
  exact ⟨rfl, bdrewN (Below.refl _ _) _⟩

set_option maxHeartbeats 1000000 in
set_option maxRecDepth 100000 in
theorem join_policy {w : World} {a b p : Nat} {o k s m l k' s' m' l' : Int} (ha : RopeIs w a p o k s m l) (hb : RopeIs w b p o k' s' m' l') (hab : a ≠ b) (hne : ¬ (k = k' ∧ s = s' ∧ m = m')) :
    Calls Try.prog 16 #[.pointer (some ⟨a, 0, none⟩), .pointer (some ⟨b, 0, none⟩)] w (fun e w' => e = .returned (.int .i64 1) ∧ Below w.heap.size w w') := by
  have ap := ropes_apart ha hb hab
  have bp := fun n => books_same (w.drewN n) p
  have oo : (o != o) = false := by simp
  rcases (show k ≠ k' ∨ (k = k' ∧ s ≠ s') ∨ (k = k' ∧ s = s' ∧ m ≠ m') from by omega) with h | ⟨rfl, h⟩ | ⟨rfl, rfl, h⟩
  all_goals
    clear hne
    have kk := beq_eq_false_iff_ne.2 h
    clear h
    obtain ⟨_, hlt, c0, c1, c2, c3, c4, c5, c6, c7, c8, fr⟩ := ha
    obtain ⟨_, hlt', d0, d1, d2, d3, d4, d5, d6, d7, d8, fr'⟩ := hb
    go_enter Try.func16, Try.ntmps16
    go_wp2_with fail
    go_quiet (fail)
    go_wp2_with fail
    go_quiet (fail)
    go_wp2_with fail
    go_ret
    exact ⟨rfl, bdrewN (bdrewN (Below.refl _ _) _) _⟩

set_option maxHeartbeats 1000000 in
set_option maxRecDepth 100000 in
theorem join_leaf {w : World} {a b p : Nat} {o k s m l l' : Int} (ha : RopeIs w a p o k s m l) (hb : RopeIs w b p o k s m l') (hab : a ≠ b) (hne : l ≠ l') :
    Calls Try.prog 16 #[.pointer (some ⟨a, 0, none⟩), .pointer (some ⟨b, 0, none⟩)] w (fun e w' => e = .returned (.int .i64 1) ∧ Below w.heap.size w w') := by
  have ap := ropes_apart ha hb hab
  have bp := fun n => books_same (w.drewN n) p
  have pp := fun n => pol_same (w.drewN n) k s m
  have oo : (o != o) = false := by simp
  have ll : (l != l') = true := bne_iff_ne.2 hne
  obtain ⟨_, hlt, c0, c1, c2, c3, c4, c5, c6, c7, c8, fr⟩ := ha
  obtain ⟨_, hlt', d0, d1, d2, d3, d4, d5, d6, d7, d8, fr'⟩ := hb
  go_enter Try.func16, Try.ntmps16
  go_wp2_with fail
  go_quiet (fail)
  go_wp2_with fail
  go_quiet (fail)
  go_wp2_with fail
  go_ret
  exact ⟨rfl, bdrewN (bdrewN (Below.refl _ _) _) _⟩

theorem concat_new (t : TypeId) (w : World) : Calls Try.prog 51 #[.slice (some ⟨w.heap.size, 0, none⟩) 2 2] (w.alloc (.cells #[.slice none 0 0, .slice none 0 0] t)) (fun e w' => e = .returned (.slice none 0 0) ∧ w' = w.alloc (.cells #[.slice none 0 0, .slice none 0 0] t)) :=
  concat_nil2 _ _ (by rw [cell_of_row _ _ _ _ _ _ (heap_alloc_new w _)]; rfl) (by rw [cell_of_row _ _ _ _ _ _ (heap_alloc_new w _)]; rfl)

set_option maxHeartbeats 2000000 in
set_option maxRecDepth 100000 in
theorem join_ok {w : World} {a b p : Nat} {o k s m l : Int} (ha : RopeIs w a p o k s m l) (hb : RopeIs w b p o k s m l) (hab : a ≠ b) (B : Nat) (hBa : B ≤ a) (hBb : B ≤ b) :
    Calls Try.prog 16 #[.pointer (some ⟨a, 0, none⟩), .pointer (some ⟨b, 0, none⟩)] w (fun e w' => e = .returned (.int .i64 0) ∧ Below B w w') := by
  have ap := ropes_apart ha hb hab
  have bp := fun n => books_same (w.drewN n) p
  have pp := fun n => pol_same (w.drewN n) k s m
  have oo : (o != o) = false := by simp
  have ll : (l != l) = false := by simp
  have BW : B ≤ w.heap.size := Nat.le_trans hBa (Nat.le_of_lt ha.lt)
  have HA := Lib.hid ha
  have HB := Lib.hid hb
  obtain ⟨_, hlt, c0, c1, c2, c3, c4, c5, c6, c7, c8, fr⟩ := ha
  obtain ⟨_, hlt', d0, d1, d2, d3, d4, d5, d6, d7, d8, fr'⟩ := hb
  go_enter Try.func16, Try.ntmps16
  go_wp2_with fail
  go_quiet (fail)
  go_wp2_with fail
  go_quiet (fail)
  go_wp2_with fail
  refine (ropeLen_nil (HA.out.below (bdrewN (Below.refl _ _) _))).mono ?_
  rintro e w1 ⟨rfl, rfl⟩
  go_wp2_with fail
  refine (ropeLen_nil (HB.out.below (bdrewN (Below.refl _ _) _))).mono ?_
  rintro e w1 ⟨rfl, rfl⟩
  go_wp2_with fail
  refine (containsMark_nil _ _).mono ?_
  rintro e w1 ⟨rfl, rfl⟩
  go_wp2_with fail
  go_quiet (fail)
  go_wp2_with fail
  refine wp_loop_rounds 1 ?_
  rw [rounds_succ]
  go_wp2_with fail
  have hfr : ∀ (n : Nat) (x : Obj) (j : Nat), ((w.drewN n).alloc x).frozen? ⟨a, j, none⟩ = false := fun n x j => by
    have h := heap_alloc_old (w.drewN n) x HA.out.lt
    exact free_of (h.trans HA.out.blk) j
  have hce : ∀ (n : Nat) (x : Obj), ((w.drewN n).alloc x).cell? ⟨a, 7, none⟩ = some (.slice none 0 0) := fun n x => by
    have h := heap_alloc_old (w.drewN n) x HA.out.lt
    rw [cell_of (h.trans HA.out.blk)]; rfl
  have gfr : ∀ (n : Nat) (x : Obj) (j : Nat), ((w.drewN n).alloc x).frozen? ⟨b, j, none⟩ = false := fun n x j => by
    have h := heap_alloc_old (w.drewN n) x HB.out.lt
    exact free_of (h.trans HB.out.blk) j
  have gce : ∀ (n : Nat) (x : Obj) (j : Nat), ((w.drewN n).alloc x).cell? ⟨b, j, none⟩ = (ropeCells p o k s m l)[j]? := fun n x j => by
    have h := heap_alloc_old (w.drewN n) x HB.out.lt
    exact cell_of (h.trans HB.out.blk) j
  have gc6 := fun n x => (gce n x 6).trans (show (ropeCells p o k s m l)[6]? = some (.bool false) from rfl)
  have gc7 := fun n x => (gce n x 7).trans (show (ropeCells p o k s m l)[7]? = some (.slice none 0 0) from rfl)
  have gc8 := fun n x => (gce n x 8).trans (show (ropeCells p o k s m l)[8]? = some (.slice none 0 0) from rfl)
  clear gce
  have hba : b ≠ a := fun e => hab e.symm
  go_region_with (go_at_call 51; refine (concat_new _ _).mono ?_; rintro e w1 ⟨rfl, rfl⟩)
  all_goals
    go_wp2_with fail
    go_ret
    refine ⟨rfl, ?_⟩
    go_grown
    exact bdrewN (Below.refl _ _) _

end
end Go.Proofs.Ytidfidknflcioaa
