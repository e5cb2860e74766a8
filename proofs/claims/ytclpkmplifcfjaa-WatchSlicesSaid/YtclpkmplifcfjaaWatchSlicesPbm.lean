/-
  slices.Repeat of one integer. Conditions: the number in its bounds.
-/
import Derived.StillTailTactics
import Derived.Test.YtclpkmplifcfjaaWatchSlicesPad
import Derived.Test.YtclpkmplifcfjaaWatchSlicesPbl
import Derived.Test.YtclpkmplifcfjaaWatchSlicesPbf
namespace Go.Proofs.Ytclpkmplifcfjaa
open Go.RowKit Go.Shelf
set_option linter.unusedVariables false

def intRow (w : World) (g : Nat) (zs : List Int) : Prop := w.heap[g]? = some (.cells (zs.map (Value.int .i64)).toArray 3 (0, 0))
theorem intRow.cell {w : World} {g : Nat} {zs : List Int} (h : intRow w g zs) (j : Nat) (hj : j < zs.length) : w.cell? ⟨g, j, none⟩ = some (.int .i64 (zs.getD j 0)) := by
  rw [cell_of h]
  simp [List.getD_eq_getElem?_getD, List.getElem?_eq_getElem hj]
theorem copy_ints (w : World) (g : Nat) (cur : List Int) (h : intRow w g cur) (o n c b p m mc : Nat) (zs : List Int) (hl : zs.length = min n m) (hle : o + zs.length ≤ cur.length) (hz : ∀ j, j < zs.length → w.cell? ⟨b, p + j, none⟩ = some (.int .i64 (zs.getD j 0))) :
    ∃ w', (Builtin.copy_ #[35, 35] 3 #[.slice (some ⟨g, o, none⟩) n c, .slice (some ⟨b, p, none⟩) m mc]).run Try.prog w = .ok (.int .i64 (zs.length : Nat)) w' ∧ intRow w' g (splice cur o zs) ∧ Touch (fun k => k = g) w w' := by
  have hrun := run_copy_row (P := Try.prog) w 35 35 3 3 g o n c ⟨b, p, none⟩ m mc _ 3 (zs.map (Value.int .i64)) Try.underlying35 (by kernel_rfl) h (by rw [List.length_map, hl]; show min n m = min m n; omega)
    (fun j u hj => by
      have hjm : j < zs.length := by
        rcases Nat.lt_or_ge j zs.length with h | h
        · exact h
        · rw [List.getElem?_eq_none (by simpa using h)] at hj; cases hj
      have e1 : (⟨b, p, none⟩ : Addr).add j = ⟨b, p + j, none⟩ := by unfold Addr.add; split <;> simp_all
      rw [e1, hz j hjm, ← hj]
      simp [List.getD_eq_getElem?_getD, List.getElem?_eq_getElem hjm]) (by simp; omega) (by intro u hu; obtain ⟨z, _, rfl⟩ := List.mem_map.1 hu; rfl)
  have hTT := fun (vs : Array Value) => (⟨rfl, rfl, rfl, by simp [World.setRow], fun k _ hk => setRow_other w g k _ hk⟩ : Touch (fun k => k = g) w (w.setRow g vs))
  refine ⟨_, hrun.trans (by rw [List.length_map]; rfl), ?_, hTT _⟩
  unfold intRow
  rw [setRow_heap w g _ _ 3 _ h]
  simp [splice]

def repM (z : Int) (n m : Nat) : List Int := List.replicate m z ++ List.replicate (n - m) 0
theorem repM_put (z : Int) (n m k : Nat) (hk : m + k ≤ n) : splice (repM z n m) m (List.replicate k z) = repM z n (m + k) := by
  unfold repM splice
  rw [List.take_append_of_le_length (by simp), List.take_replicate, Nat.min_self, List.length_replicate, List.drop_append, List.length_replicate, List.drop_replicate, List.drop_replicate]
  rw [show m - (m + k) = 0 by omega, show n - m - (m + k - m) = n - (m + k) by omega, ← List.replicate_append_replicate (n := m) (m := k)]
  simp only [List.replicate_zero, List.nil_append, List.append_assoc]
theorem made_ints (n : Nat) : madeCells #[Value.int .i64 0] n = ((repM 0 n 0).map (Value.int .i64)).toArray := by
  apply Array.ext
  · simp [madeCells, repM]
  · intro i h1 h2
    simp [madeCells, repM, Nat.mod_one]
theorem run_makeInts (w : World) (n : Nat) (hn : n ≤ 1000) :
    (Instr.makeSlice 35 (.int .i64 (n : Int)) (.int .i64 (n : Int))).run Try.prog w = .ok (.slice (some ⟨w.heap.size, 0, none⟩) n n) (w.alloc (.cells ((repM 0 n 0).map (Value.int .i64)).toArray 3)) := by
  obtain ⟨i0, hi, hz0, hz1, hz2⟩ := info_parts (show (Try.prog.info? 3).map (fun i => (i.zero, i.size, i.bytes)) = some (some (.int .i64 0), 1, 8) by kernel_rfl)
  have h := run_make (P := Try.prog) w 35 3 i0 (.int .i64 0) Try.underlying35 hi hz0 .i64 .i64 (n : Int) (n : Int) (by omega) (by omega) (by rw [hz2]; omega) (by omega)
  rw [h]
  simp only [Value.cells, hz1, Nat.mul_one, Int.toNat_natCast]
  rw [made_ints]

set_option maxHeartbeats 2000000 in
set_option maxRecDepth 100000 in
theorem repeat_any (b : Nat) (z : Int) (n : Nat) (w : World) (hb : w.cell? ⟨b, 0, none⟩ = some (.int .i64 z)) (hn : n ≤ 1000) :
    Calls Try.prog 25 #[.slice (some ⟨b, 0, none⟩) 1 1, .int .i64 n] w (fun e w' => ∃ v, e = .returned v ∧ w'.ownsRow w.heap.size 3 1 v n (List.replicate n (.int .i64 z)) ∧ Below w.heap.size w w') := by
  have MU := Lib.hid (Go.Proofs.Try.bits_Mul 1 n (by omega) (by omega) w)
  have e1 : ((1 * n / 18446744073709551616 : Nat) : Int) = 0 := by omega
  have e2 : ((1 * n % 18446744073709551616 : Nat) : Int) = n := by omega
  have EE := Lib.hid (And.intro e1 e2)
  clear e1 e2
  go_enter Try.func25, Try.ntmps25
  go_wp2_with fail
  refine MU.out.mono ?_
  rintro e w2 ⟨rfl, rfl⟩
  rw [EE.out.1, EE.out.2]
  obtain ⟨W1, hW1⟩ : ∃ W, w2.alloc (.cells ((repM 0 n 0).map (Value.int .i64)).toArray 3) = W := ⟨_, rfl⟩
  have mk := run_makeInts w2 n hn
  have r1 : intRow W1 w2.heap.size (repM z n 0) := by
    rw [← hW1]
    have h1 := heap_alloc_new w2 (.cells ((repM 0 n 0).map (Value.int .i64)).toArray 3)
    have h2 : repM z n 0 = repM 0 n 0 := by simp [repM]
    unfold intRow
    rw [h2]
    exact h1
  have b1 : Below w2.heap.size w2 W1 := by rw [← hW1]; exact (Below.refl _ _).alloc (Nat.le_refl _) _
  rw [hW1] at mk
  obtain ⟨W2, cp, r2, t2⟩ := copy_ints W1 w2.heap.size (repM z n 0) r1 0 n n b 0 1 1 (List.replicate (min n 1) z) (by simp) (by simp [repM]; omega) (fun j hj => by
    rw [List.length_replicate] at hj
    obtain rfl : j = 0 := by omega
    rw [List.getD_eq_getElem?_getD, List.getElem?_replicate, if_pos hj]
    exact old_cell b1 hb)
  rw [List.length_replicate] at cp
  rw [repM_put _ _ _ _ (by omega), Nat.zero_add] at r2
  have B2 : Below w2.heap.size w2 W2 := b1.trans ⟨t2.os, t2.tape, t2.output, t2.size, fun k hk => t2.block k (by have := b1.size; omega) (by omega)⟩
  obtain ⟨m0, hm0⟩ : ∃ m, min n 1 = m := ⟨_, rfl⟩
  rw [hm0] at cp r2
  have R2 := Lib.hid r2
  have HB2 := Lib.hid B2
  obtain ⟨g, hg⟩ : ∃ g, w2.heap.size = g := ⟨_, rfl⟩
  rw [hg] at mk cp
  have hm01 : m0 ≤ n ∧ (n = 0 ∨ 0 < m0) := by omega
  clear r1 b1 t2 r2 B2 hW1 hm0
  go_wp2_with fail
  rw [← hg] at *
  go_loopw [8] (fun i wr => ∃ m : Nat, m ≤ n ∧ (n = 0 ∨ 0 < m) ∧ i = .int .i64 m ∧ intRow wr w2.heap.size (repM z n m) ∧ Below w2.heap.size w2 wr) (fun i _ => n - (intOf i).toNat)
  case atStart => exact ⟨m0, hm01.1, hm01.2, rfl, R2.out, HB2.out⟩
  case round =>
    obtain ⟨m, hmn, hpos, rfl, hrow, hbl⟩ := hrel
    have BL := Lib.hid hbl
    by_cases hlt : m < n
    · obtain ⟨k, hk⟩ : ∃ k, min (n - m) m = k := ⟨_, rfl⟩
      have hk1 : m + k ≤ n ∧ 0 < k ∧ k ≤ m := by omega
      have CP : ∀ q, ∃ W3, (Builtin.copy_ #[35, 35] 3 #[.slice (some ⟨w2.heap.size, m, none⟩) (n - m) (n - m), .slice (some ⟨w2.heap.size, 0, none⟩) m n]).run Try.prog (wr.drewN q) = .ok (.int .i64 (k : Nat)) W3 ∧ intRow W3 w2.heap.size (repM z n (m + k)) ∧ Below w2.heap.size w2 W3 := fun q => by
        have hrd : intRow (wr.drewN q) w2.heap.size (repM z n m) := hrow
        obtain ⟨W3, cp, r3, t3⟩ := copy_ints (wr.drewN q) w2.heap.size (repM z n m) hrd m (n - m) (n - m) w2.heap.size 0 m n (List.replicate k z) (by simp; omega) (by simp [repM]; omega) (fun j hj => by
          rw [List.length_replicate] at hj
          have h1 := hrd.cell j (by simp [repM]; omega)
          rw [Nat.zero_add, h1]
          simp only [repM, List.getD_eq_getElem?_getD]
          rw [List.getElem?_append_left (by simp; omega), List.getElem?_replicate, if_pos (by omega), List.getElem?_replicate, if_pos hj])
        rw [List.length_replicate] at cp
        rw [repM_put _ _ _ _ (by omega)] at r3
        exact ⟨W3, cp, r3, (bdrewN BL.out q).trans ⟨t3.os, t3.tape, t3.output, t3.size, fun j hj => t3.block j (by have := BL.out.size; show j < wr.heap.size; omega) (by omega)⟩⟩
      have HCP := Lib.hid CP
      have e3 : ((n : Int) - m).toNat = n - m := by omega
      clear hrow hbl CP hk
      go_wp2_with fail
      obtain ⟨W3, cp0, r3, B3⟩ := HCP.out 1
      have cp : (Builtin.copy_ #[35, 35] 3 #[.slice (some ⟨w2.heap.size, m, none⟩) (n - m) (n - m), .slice (some ⟨w2.heap.size, 0, none⟩) m n]).run Try.prog wr.drew = .ok (.int .i64 (k : Nat)) W3 := cp0
      have R3 := Lib.hid r3
      have HB3 := Lib.hid B3
      clear r3 B3 cp0
      refine wp_normal ?_
      refine wp_region_plan 7 (fun _ => True) rfl ?_
      refine wpN_pure [0, 1, 2, 3, 4, 5, 6] (by kernel_rfl) (by kernel_rfl) (by kernel_rfl) (fun _ _ _ _ _ h => h) (fun _ => trivial) ?_
      simp only [pick, List.map_cons, List.map_nil, List.getElem?_cons_succ, List.getElem?_cons_zero, Option.getD_some]
      repeat (go_big_quiet_step (fail))
      refine wpQuiet_nil ?_
      refine wpN_one 7 _ (by kernel_rfl) rfl ?_
      refine NextAt.free (by kernel_rfl) ?_
      intro K hK
      go_simp
      refine hK _ _ ?_
      clear hK K
      refine wpN_one 8 _ (by kernel_rfl) rfl ?_
      refine NextAt.free (by kernel_rfl) ?_
      intro K hK
      go_simp
      refine hK _ _ ?_
      clear hK K
      rw [show IntKind.i64.wrap ((m : Int) + (k : Int)) = ((m + k : Nat) : Int) by rw [← Int.natCast_add]; exact IntWalk.i64_in _ (by omega)]
      refine wpN_one 9 _ (by kernel_rfl) rfl ?_
      refine NextAt.free (by kernel_rfl) ?_
      intro K hK
      go_simp
      refine hK _ _ ?_
      clear hK K
      refine wpN_done (by kernel_rfl) ?_
      go_wp2_with fail
      go_round
      case rel => exact ⟨m + k, by omega, Or.inr (by omega), by go_num, R3.out, HB3.out⟩
      case measure => simp [intOf]; omega
    · obtain rfl : n = m := by omega
      have FIN := Lib.hid (show wr.ownsRow w2.heap.size 3 1 (.slice (some ⟨w2.heap.size, 0, none⟩) n n) n (List.replicate n (.int .i64 z)) by
        refine ⟨by simp, Or.inr ⟨w2.heap.size, n, _, rfl, Nat.le_refl _, hrow, Nat.le_refl _, by unfold maxLen; omega, by simp [repM], ?_⟩⟩
        simp [repM])
      clear hlt hmn hrow hbl
      go_wp2_with fail
      go_ret
      exact ⟨_, rfl, FIN.out, BL.out⟩

end Go.Proofs.Ytclpkmplifcfjaa
