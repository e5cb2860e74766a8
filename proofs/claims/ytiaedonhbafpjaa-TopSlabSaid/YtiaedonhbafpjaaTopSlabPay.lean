/-
  slices.Repeat of one cell; what a slab has at first. No conditions but bounds.
-/
import Derived.Test.YtiaedonhbafpjaaTopSlabPax
import Derived.Laws.CopyRow
namespace Go.Proofs.Ytiaedonhbafpjaa
open Go.RowKit Go.Shelf
set_option linter.unusedVariables false

theorem run_copy_rowN {P : Program} (w : World) (dT sT ty elem : TypeId) (g o dLen dCap : Nat) (a : Addr) (sLen sCap n sz : Nat) (cur : Array Value) (t : TypeId) (cs : List Value)
    (hu : P.underlying dT = some (.slice elem)) (hs : (P.info? elem).map (·.size) = some sz)
    (hg : w.heap[g]? = some (.cells cur t (0, 0))) (hn : n = Nat.min sLen dLen) (hcl : cs.length = n * sz)
    (hsrc : ∀ j v, cs[j]? = some v → w.cell? (a.add j) = some v) (hfit : o + cs.length ≤ cur.size) (h1 : ∀ v ∈ cs, v.oneCell' = true) :
    (Builtin.copy_ #[dT, sT] ty #[.slice (some ⟨g, o, none⟩) dLen dCap, .slice (some a) sLen sCap]).run P w =
      .ok (goInt n) (w.setRow g (cur.toList.take o ++ cs ++ cur.toList.drop (o + cs.length)).toArray) := by
  have hl := run_loadCells_list (P := P) w a cs hsrc
  have hst := run_storeCells_at P g o t cs 0 cur w hg (by simpa using hfit) h1
  cases hq : P.info? elem with
  | none => simp [hq] at hs
  | some i =>
    have hi : i.size = sz := by simpa [hq] using hs
    subst hi
    rw [hcl] at hl
    simp [Builtin.copy_, run_underlying hu, Builtin.lenOf, Builtin.firstCells, sizeOf, typeInfo, hq, ← hn, hl, hst]

theorem celCells_take (l : List Cel) (k : Nat) : (celCells l).take (k * 3) = celCells (l.take k) := by
  induction l generalizing k with
  | nil => simp [celCells]
  | cons x l ih =>
    cases k with
    | zero => simp [celCells]
    | succ k => rw [List.take_succ_cons, celCells_cons, celCells_cons, Nat.succ_mul]; simp [ih]
theorem celCells_drop (l : List Cel) (k : Nat) : (celCells l).drop (k * 3) = celCells (l.drop k) := by
  induction l generalizing k with
  | nil => simp [celCells]
  | cons x l ih =>
    cases k with
    | zero => simp
    | succ k => rw [List.drop_succ_cons, celCells_cons, Nat.succ_mul]; simp [ih]
theorem celCells_app (a b : List Cel) : celCells (a ++ b) = celCells a ++ celCells b := by simp [celCells]
theorem celCells_one (l : List Cel) : ∀ v ∈ celCells l, v.oneCell' = true := fun v hv => by
  obtain ⟨x, _, hx⟩ := List.mem_flatMap.1 hv
  simp [Cel.vals] at hx
  rcases hx with rfl | rfl | rfl <;> rfl
def celRow (w : World) (g : Nat) (l : List Cel) : Prop := w.heap[g]? = some (.cells (celCells l).toArray 71 (0, 0))
theorem celRow.cellv {w : World} {g : Nat} {l : List Cel} (h : celRow w g l) (j : Nat) : w.cell? ⟨g, j, none⟩ = (celCells l)[j]? := by
  rw [cell_of h]
  simp
theorem copy_cels (w : World) (g : Nat) (cur : List Cel) (h : celRow w g cur) (o n c b p m mc : Nat) (zs : List Cel) (hl : zs.length = min n m) (hle : o + zs.length ≤ cur.length) (hz : ∀ j u, (celCells zs)[j]? = some u → w.cell? ⟨b, p + j, none⟩ = some u) :
    ∃ w', (Builtin.copy_ #[80, 80] 3 #[.slice (some ⟨g, o * 3, none⟩) n c, .slice (some ⟨b, p, none⟩) m mc]).run Try.prog w = .ok (.int .i64 (zs.length : Nat)) w' ∧ celRow w' g (splice cur o zs) ∧ Touch (fun k => k = g) w w' := by
  have hrun := run_copy_rowN (P := Try.prog) w 80 80 3 71 g (o * 3) n c ⟨b, p, none⟩ m mc zs.length 3 _ 71 (celCells zs) Try.underlying80 (by kernel_rfl) h (by rw [hl]; show min n m = min m n; omega) (celCells_len zs)
    (fun j u hj => by
      have e1 : (⟨b, p, none⟩ : Addr).add j = ⟨b, p + j, none⟩ := by unfold Addr.add; split <;> simp_all
      rw [e1]
      exact hz j u hj) (by simp [celCells_len]; omega) (celCells_one zs)
  have hTT := fun (vs : Array Value) => (⟨rfl, rfl, rfl, by simp [World.setRow], fun k _ hk => setRow_other w g k _ hk⟩ : Touch (fun k => k = g) w (w.setRow g vs))
  refine ⟨_, hrun.trans rfl, ?_, hTT _⟩
  unfold celRow
  rw [setRow_heap w g _ _ 71 _ h, celCells_len]
  show some (Obj.cells ((celCells cur).take (o * 3) ++ celCells zs ++ (celCells cur).drop (o * 3 + zs.length * 3)).toArray _ _) = _
  rw [celCells_take, ← Nat.add_mul, celCells_drop, ← celCells_app, ← celCells_app, List.append_assoc]
  rfl

def zeroC : Cel := ⟨0, 0, false⟩
def repC (z : Cel) (n m : Nat) : List Cel := List.replicate m z ++ List.replicate (n - m) zeroC
theorem repC_len (z : Cel) {n m : Nat} (h : m ≤ n) : (repC z n m).length = n := by simp [repC]; omega
theorem repC_put (z : Cel) (n m k : Nat) (hk : m + k ≤ n) : splice (repC z n m) m (List.replicate k z) = repC z n (m + k) := by
  unfold repC splice
  rw [List.take_append_of_le_length (by simp), List.take_replicate, Nat.min_self, List.length_replicate, List.drop_append, List.length_replicate, List.drop_replicate, List.drop_replicate]
  rw [show m - (m + k) = 0 by omega, show n - m - (m + k - m) = n - (m + k) by omega, ← List.replicate_append_replicate (n := m) (m := k)]
  simp only [List.replicate_zero, List.nil_append, List.append_assoc]
theorem made_cels (n : Nat) : madeCells #[Value.int .i64 0, Value.int .i64 0, Value.bool false] (n * 3) = (celCells (List.replicate n zeroC)).toArray := by
  have key : ∀ n j : Nat, j < n * 3 → (celCells (List.replicate n zeroC))[j]? = some ((#[Value.int .i64 0, Value.int .i64 0, Value.bool false] : Array Value).getD (j % 3) default) := by
    intro n
    induction n with
    | zero => intro j hj; omega
    | succ n ih =>
      intro j hj
      rw [List.replicate_succ, celCells_cons]
      match j, hj with
      | 0, _ => rfl
      | 1, _ => rfl
      | 2, _ => rfl
      | j + 3, hj =>
        show (celCells (List.replicate n zeroC))[j]? = _
        rw [ih j (by omega), Nat.add_mod_right]
  apply Array.ext
  · simp [madeCells, celCells_len]
  · intro i h1 h2
    have h3 : i < n * 3 := by simpa [celCells_len] using h2
    have h4 := key n i h3
    have h5 : (celCells (List.replicate n zeroC)).toArray[i]? = some ((celCells (List.replicate n zeroC)).toArray[i]) := Array.getElem?_eq_getElem h2
    rw [List.getElem?_toArray, h4] at h5
    rw [← Option.some.inj h5]
    have h6 : i % 3 < 3 := Nat.mod_lt _ (by omega)
    simp [madeCells, Array.getD, h6]
theorem run_makeCels (w : World) (n : Nat) (hn : n ≤ 1000) :
    (Instr.makeSlice 80 (.int .i64 (n : Int)) (.int .i64 (n : Int))).run Try.prog w = .ok (.slice (some ⟨w.heap.size, 0, none⟩) n n) (w.alloc (.cells (celCells (List.replicate n zeroC)).toArray 71)) := by
  obtain ⟨i0, hi, hz0, hz1, hz2⟩ := info_parts (show (Try.prog.info? 71).map (fun i => (i.zero, i.size, i.bytes)) = some (some (.agg #[.int .i64 0, .int .i64 0, .bool false]), 3, 24) by kernel_rfl)
  have h := run_make (P := Try.prog) w 80 71 i0 (.agg #[.int .i64 0, .int .i64 0, .bool false]) Try.underlying80 hi hz0 .i64 .i64 (n : Int) (n : Int) (by omega) (by omega) (by rw [hz2]; omega) (by omega)
  rw [h]
  have e : Value.cells (.agg #[.int .i64 0, .int .i64 0, .bool false]) = #[Value.int .i64 0, Value.int .i64 0, Value.bool false] := by kernel_rfl
  simp only [e, hz1, Int.toNat_natCast]
  rw [made_cels]

set_option maxHeartbeats 2000000 in
set_option maxRecDepth 100000 in
theorem repeatC_any (b : Nat) (z : Cel) (n : Nat) (w : World) (hb : ∀ j u, (celCells [z])[j]? = some u → w.cell? ⟨b, j, none⟩ = some u) (hn : n ≤ 1000) (h0 : 0 < n) :
    Calls Try.prog 53 #[.slice (some ⟨b, 0, none⟩) 1 1, .int .i64 n] w (fun e w' => ∃ g, e = .returned (.slice (some ⟨g, 0, none⟩) n n) ∧ celRow w' g (List.replicate n z) ∧ w.heap.size ≤ g ∧ Below w.heap.size w w') := by
  have MU := Lib.hid (Go.Proofs.Try.bits_Mul 1 n (by omega) (by omega) w)
  have e1 : ((1 * n / 18446744073709551616 : Nat) : Int) = 0 := by omega
  have e2 : ((1 * n % 18446744073709551616 : Nat) : Int) = n := by omega
  have EE := Lib.hid (And.intro e1 e2)
  clear e1 e2
  go_enter Try.func53, Try.ntmps53
  go_wp2_with fail
  refine MU.out.mono ?_
  rintro e w2 ⟨rfl, hw2⟩
  obtain rfl := hw2.symm
  rw [EE.out.1, EE.out.2]
  obtain ⟨W1, hW1⟩ : ∃ W, w.alloc (.cells (celCells (List.replicate n zeroC)).toArray 71) = W := ⟨_, rfl⟩
  have mk := run_makeCels w n hn
  have r1 : celRow W1 w.heap.size (repC z n 0) := by
    rw [← hW1]
    have h1 := heap_alloc_new w (.cells (celCells (List.replicate n zeroC)).toArray 71)
    have h2 : repC z n 0 = List.replicate n zeroC := by simp [repC]
    unfold celRow
    rw [h2]
    exact h1
  have b1 : Below w.heap.size w W1 := by rw [← hW1]; exact (Below.refl _ _).alloc (Nat.le_refl _) _
  rw [hW1] at mk
  obtain ⟨W2, cp, r2, t2⟩ := copy_cels W1 w.heap.size (repC z n 0) r1 0 n n b 0 1 1 [z] (by show 1 = min n 1; omega) (by rw [repC_len z (Nat.zero_le _)]; show 0 + 1 ≤ n; omega) (fun j u hj => by
    rw [Nat.zero_add]
    exact old_cell b1 (hb j u hj))
  rw [show ([z] : List Cel) = List.replicate 1 z from rfl, repC_put _ _ _ _ (by omega), Nat.zero_add] at r2
  have B2 : Below w.heap.size w W2 := b1.trans ⟨t2.os, t2.tape, t2.output, t2.size, fun k hk => t2.block k (by have := b1.size; omega) (by omega)⟩
  have R2 := Lib.hid r2
  have HB2 := Lib.hid B2
  simp only [Nat.zero_mul] at cp
  have cp : (Builtin.copy_ #[80, 80] 3 #[.slice (some ⟨w.heap.size, 0, none⟩) n n, .slice (some ⟨b, 0, none⟩) 1 1]).run Try.prog W1 = .ok (.int .i64 1) W2 := cp
  obtain ⟨g, hg⟩ : ∃ g, w.heap.size = g := ⟨_, rfl⟩
  rw [hg] at mk cp
  clear r1 b1 t2 r2 B2 hW1
  go_wp2_with fail
  rw [← hg] at *
  go_loopw [8] (fun i wr => ∃ m : Nat, m ≤ n ∧ 0 < m ∧ i = .int .i64 m ∧ celRow wr w.heap.size (repC z n m) ∧ Below w.heap.size w wr) (fun i _ => n - (intOf i).toNat)
  case atStart => exact ⟨1, by omega, by omega, rfl, R2.out, HB2.out⟩
  case round =>
    obtain ⟨m, hmn, hpos, rfl, hrow, hbl⟩ := hrel
    have BL := Lib.hid hbl
    by_cases hlt : m < n
    · obtain ⟨k, hk⟩ : ∃ k, min (n - m) m = k := ⟨_, rfl⟩
      have hk1 : m + k ≤ n ∧ 0 < k ∧ k ≤ m := by omega
      have CP : ∀ q, ∃ W3, (Builtin.copy_ #[80, 80] 3 #[.slice (some ⟨w.heap.size, m * 3, none⟩) (n - m) (n - m), .slice (some ⟨w.heap.size, 0, none⟩) m n]).run Try.prog (wr.drewN q) = .ok (.int .i64 (k : Nat)) W3 ∧ celRow W3 w.heap.size (repC z n (m + k)) ∧ Below w.heap.size w W3 := fun q => by
        have hrd : celRow (wr.drewN q) w.heap.size (repC z n m) := hrow
        obtain ⟨W3, cp, r3, t3⟩ := copy_cels (wr.drewN q) w.heap.size (repC z n m) hrd m (n - m) (n - m) w.heap.size 0 m n (List.replicate k z) (by simp; omega) (by rw [repC_len z hmn, List.length_replicate]; omega) (fun j u hj => by
          rw [Nat.zero_add, hrd.cellv]
          have hjl : j < (celCells (List.replicate k z)).length := (List.getElem?_eq_some_iff.1 hj).1
          have h2 : celCells (List.replicate k z) = (celCells (repC z n m)).take (k * 3) := by
            rw [celCells_take]
            unfold repC
            rw [List.take_append_of_le_length (by simp; omega), List.take_replicate, Nat.min_eq_left hk1.2.2]
          rw [h2, List.getElem?_take_of_lt (by rw [celCells_len, List.length_replicate] at hjl; exact hjl)] at hj
          exact hj)
        rw [List.length_replicate] at cp
        rw [repC_put _ _ _ _ (by omega)] at r3
        exact ⟨W3, cp, r3, (bdrewN BL.out q).trans ⟨t3.os, t3.tape, t3.output, t3.size, fun j hj => t3.block j (by have := BL.out.size; show j < wr.heap.size; omega) (by omega)⟩⟩
      have HCP := Lib.hid CP
      have e3 : ((n : Int) - m).toNat = n - m := by omega
      clear hrow hbl CP hk
      go_wp2_with fail
      obtain ⟨W3, cp0, r3, B3⟩ := HCP.out 1
      have cp : (Builtin.copy_ #[80, 80] 3 #[.slice (some ⟨w.heap.size, m * 3, none⟩) (n - m) (n - m), .slice (some ⟨w.heap.size, 0, none⟩) m n]).run Try.prog wr.drew = .ok (.int .i64 (k : Nat)) W3 := cp0
      have R3 := Lib.hid r3
      have HB3 := Lib.hid B3
      clear r3 B3 cp0
      refine wp_normal ?_
      refine wp_region_plan 7 (fun _ => True) rfl ?_
      refine wpN_pure [0, 1, 2, 3, 4, 5, 6] (by kernel_rfl) (by kernel_rfl) (by kernel_rfl) (fun _ _ _ _ _ h => h) (fun _ => trivial) ?_
      simp only [pick, List.map_cons, List.map_nil, List.getElem?_cons_succ, List.getElem?_cons_zero, Option.getD_some]
      repeat (go_big_quiet_step (fail))
      refine wpQuiet_nil ?_
      refine wpN_one 7 _ (by kernel_rfl) rfl ?_
      refine NextAt.free (by kernel_rfl) ?_
      intro K hK
      go_simp
      refine hK _ _ ?_
      clear hK K
      refine wpN_one 8 _ (by kernel_rfl) rfl ?_
      refine NextAt.free (by kernel_rfl) ?_
      intro K hK
      go_simp
      refine hK _ _ ?_
      clear hK K
      rw [show IntKind.i64.wrap ((m : Int) + (k : Int)) = ((m + k : Nat) : Int) by rw [← Int.natCast_add]; exact IntWalk.i64_in _ (by omega)]
      refine wpN_one 9 _ (by kernel_rfl) rfl ?_
      refine NextAt.free (by kernel_rfl) ?_
      intro K hK
      go_simp
      refine hK _ _ ?_
      clear hK K
      refine wpN_done (by kernel_rfl) ?_
      go_wp2_with fail
      go_round
      case rel => exact ⟨m + k, by omega, by omega, by go_num, R3.out, HB3.out⟩
      case measure => simp [intOf]; omega
    · obtain rfl : n = m := by omega
      have FIN := Lib.hid (show celRow wr w.heap.size (List.replicate n z) by
        have e : repC z n n = List.replicate n z := by simp [repC]
        rw [e] at hrow
        exact hrow)
      clear hlt hmn hrow hbl
      go_wp2_with fail
      go_ret
      exact ⟨_, rfl, FIN.out, Nat.le_refl _, BL.out⟩

end Go.Proofs.Ytiaedonhbafpjaa
