/-
  Sorting nothing; an empty pool's Room, Strings and Blocks. No conditions.
-/
import Derived.Test.YtpcmgglfkbdbhaaPool
namespace Go.Proofs.Ytpcmgglfkbdbhaa
open Go.RowKit
set_option linter.unusedVariables false

set_option maxRecDepth 100000 in
set_option maxHeartbeats 2000000 in
theorem len64_zero (w : World) : Calls Try.prog 37 #[.int .u64 0] w (fun e w' => e = .returned (.int .i64 0) ∧ w = w') := by
  go_enter Try.func37, Try.ntmps37
  go_wp2
  go_ret
  exact ⟨ret_int (by kernel_rfl), rfl⟩
theorem len_zero (w : World) : Calls Try.prog 23 #[.int .u64 0] w (fun e w' => e = .returned (.int .i64 0) ∧ w = w') := by
  go_enter Try.func23, Try.ntmps23
  go_wp2_with fail
  refine (len64_zero _).mono ?_
  rintro e w' ⟨rfl, rfl⟩
  go_wp2
  go_ret
  exact ⟨rfl, rfl⟩
theorem insertion_nil (w : World) : Calls Try.prog 27 #[.slice none 0 0, .int .i64 0, .int .i64 0] w (fun e w' => e = .returned (.tuple #[]) ∧ w = w') := by
  go_enter Try.func27, Try.ntmps27
  go_wp2
  refine wp_loop_rounds 1 ?_
  rw [rounds_succ]
  go_wp2
  go_end0
  exact ⟨rfl, rfl⟩
set_option maxRecDepth 100000 in
theorem pdq_nil (w : World) : Calls Try.prog 22 #[.slice none 0 0, .int .i64 0, .int .i64 0, .int .i64 0] w (fun e w' => e = .returned (.tuple #[]) ∧ w = w') := by
  go_enter Try.func22, Try.ntmps22
  go_wp2
  refine wp_loop_rounds 1 ?_
  rw [rounds_succ]
  go_wp2_with fail
  refine (insertion_nil _).mono ?_
  rintro e w' ⟨rfl, rfl⟩
  go_wp2
  refine bodyPost_ret (results_none rfl _ _ _) rfl ?_
  exact ⟨rfl, rfl⟩
theorem sort_nil (w : World) : Calls Try.prog 14 #[.slice none 0 0] w (fun e w' => e = .returned (.tuple #[]) ∧ w = w') := by
  go_enter Try.func14, Try.ntmps14
  go_wp2_with fail
  refine (len_zero _).mono ?_
  rintro e w' ⟨rfl, rfl⟩
  go_wp2_with fail
  refine (pdq_nil _).mono ?_
  rintro e w' ⟨rfl, rfl⟩
  go_wp2
  go_end0
  exact ⟨rfl, rfl⟩

theorem insertionC_nil (f : Value) (w : World) : Calls Try.prog 38 #[.slice none 0 0, .int .i64 0, .int .i64 0, f] w (fun e w' => e = .returned (.tuple #[]) ∧ w = w') := by
  go_enter Try.func38, Try.ntmps38
  go_wp2
  refine wp_loop_rounds 1 ?_
  rw [rounds_succ]
  go_wp2
  go_end0
  exact ⟨rfl, rfl⟩
set_option maxRecDepth 100000 in
theorem pdqC_nil (f : Value) (w : World) : Calls Try.prog 24 #[.slice none 0 0, .int .i64 0, .int .i64 0, .int .i64 0, f] w (fun e w' => e = .returned (.tuple #[]) ∧ w = w') := by
  go_enter Try.func24, Try.ntmps24
  go_wp2
  refine wp_loop_rounds 1 ?_
  rw [rounds_succ]
  go_wp2_with fail
  refine (insertionC_nil _ _).mono ?_
  rintro e w' ⟨rfl, rfl⟩
  go_wp2
  refine bodyPost_ret (results_none rfl _ _ _) rfl ?_
  exact ⟨rfl, rfl⟩
theorem sortC_nil (f : Value) (w : World) : Calls Try.prog 15 #[.slice none 0 0, f] w (fun e w' => e = .returned (.tuple #[]) ∧ w = w') := by
  go_enter Try.func15, Try.ntmps15
  go_wp2_with fail
  refine (len_zero _).mono ?_
  rintro e w' ⟨rfl, rfl⟩
  go_wp2_with fail
  refine (pdqC_nil _ _).mono ?_
  rintro e w' ⟨rfl, rfl⟩
  go_wp2
  go_end0
  exact ⟨rfl, rfl⟩

theorem next_empty {P : Program} (w : World) (ty : TypeId) (bm since : Nat) (clock : Nat) (hb : w.heap[bm]? = some (.map #[] clock)) :
    (Instr.next (.pointer (some ⟨w.heap.size, 0, none⟩)) false ty).run P (w.alloc (.mapIter (some bm) since #[] since)) = .ok (.tuple #[.bool false]) (w.alloc (.mapIter (some bm) since #[] since)) := by
  rcases run_next_map (P := P) w ty bm since since #[] #[] clock hb (fun x hx => by simp at hx) (Nat.le_refl _) with h | ⟨e, he, _⟩
  · exact h.2
  · simp [leftOf] at he

set_option maxHeartbeats 2000000 in
set_option maxRecDepth 100000 in
theorem room_zero (h p : Nat) (o size : Int) (w : World) (hp : PoolAt w h p o size) :
    Calls Try.prog 7 #[.pointer (some ⟨h, 0, none⟩)] w (fun e w' => e = .returned (.int .i64 0) ∧ Below w.heap.size w w') := by
  obtain ⟨mb, ms, c1, c2, h1, h2, h3⟩ := hp
  have p2 : w.cell? ⟨h, 2, none⟩ = some (.int .i64 size) := (cell_of h1 2).trans rfl
  have p6 : w.cell? ⟨h, 6, none⟩ = some (.map (some mb)) := (cell_of h1 6).trans rfl
  have LM : (Builtin.len_ #[41] 3 #[.map (some mb)]).run Try.prog w.drew = .ok (.int .i64 0) w.drew := run_len_map (P := Try.prog) (w := w.drew) 41 3 mb #[] c1 (by kernel_rfl) h2
  go_enter Try.func7, Try.ntmps7
  go_wp2_with fail
  go_region
  go_wp2_with fail
  go_ret
  exact ⟨ret_int (by simp), (Below.refl _ _).drew⟩

set_option maxHeartbeats 2000000 in
set_option maxRecDepth 100000 in
theorem strings_nil (h p : Nat) (o size : Int) (w : World) (hp : PoolAt w h p o size) :
    Calls Try.prog 8 #[.pointer (some ⟨h, 0, none⟩)] w (fun e w' => e = .returned (.slice none 0 0) ∧ Below w.heap.size w w') := by
  obtain ⟨mb, ms, c1, c2, h1, h2, h3⟩ := hp
  have p7 : w.cell? ⟨h, 7, none⟩ = some (.map (some ms)) := (cell_of h1 7).trans rfl
  have RR := run_range_map (P := Try.prog) w 42 _ _ ms #[] c2 Try.underlying42 h3
  have NN := fun ty => next_empty (P := Try.prog) w ty ms c2 c2 h3
  go_enter Try.func8, Try.ntmps8
  go_wp2_with fail
  refine wp_loop_rounds 1 ?_
  rw [rounds_succ]
  go_wp2_with fail
  refine (sort_nil _).mono ?_
  rintro e w' ⟨rfl, rfl⟩
  go_wp2_with fail
  go_ret
  exact ⟨rfl, by go_grown⟩

set_option maxHeartbeats 2000000 in
set_option maxRecDepth 100000 in
theorem blocks_nil (h p : Nat) (o size : Int) (w : World) (hp : PoolAt w h p o size) :
    Calls Try.prog 9 #[.pointer (some ⟨h, 0, none⟩)] w (fun e w' => e = .returned (.slice none 0 0) ∧ Below w.heap.size w w') := by
  have hp1 := hp.below (w' := w.alloc (.map #[] 0)) (by go_grown)
  obtain ⟨mb, ms, c1, c2, h1, h2, h3⟩ := hp1
  have h6 : ((w.alloc (.map #[] 0)).alloc (.mapIter (some ms) c2 #[] c2)).heap[h]? = _ := (heap_alloc_old _ _ (lt_of h1)).trans h1
  have h7 : ((w.alloc (.map #[] 0)).alloc (.mapIter (some ms) c2 #[] c2)).heap[mb]? = some (.map #[] c1) := (heap_alloc_old _ _ (by rcases Nat.lt_or_ge mb (w.alloc (.map #[] 0)).heap.size with x | x; exact x; rw [Array.getElem?_eq_none x] at h2; cases h2)).trans h2
  have p7 : (w.alloc (.map #[] 0)).cell? ⟨h, 7, none⟩ = some (.map (some ms)) := (cell_of h1 7).trans rfl
  have p6 : ((w.alloc (.map #[] 0)).alloc (.mapIter (some ms) c2 #[] c2)).cell? ⟨h, 6, none⟩ = some (.map (some mb)) := (cell_of h6 6).trans rfl
  have hmm := @run_makeMap Try.prog
  have RR := run_range_map (P := Try.prog) _ 42 _ _ ms #[] c2 Try.underlying42 h3
  have NN := fun ty => next_empty (P := Try.prog) _ ty ms c2 c2 h3
  have RR2 := run_range_map (P := Try.prog) _ 41 _ _ mb #[] c1 Try.underlying41 h7
  have NN2 := fun ty => next_empty (P := Try.prog) _ ty mb c1 c1 h7
  simp only [World.size_alloc] at RR NN RR2 NN2
  clear h1 h2 h3 h6 h7 hp
  go_enter Try.func9, Try.ntmps9
  go_wp2_with fail
  refine wp_loop_rounds 1 ?_
  rw [rounds_succ]
  go_wp2_with fail
  refine wp_loop_rounds 1 ?_
  rw [rounds_succ]
  go_wp2_with fail
  refine (sortC_nil _ _).mono ?_
  rintro e w' ⟨rfl, rfl⟩
  go_wp2_with fail
  go_ret
  exact ⟨rfl, by go_grown⟩

end Go.Proofs.Ytpcmgglfkbdbhaa
