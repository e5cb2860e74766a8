/-
  The reference's Pass: its closure, slices.SortFunc over it. No conditions but lengths.
-/
import Derived.Test.YtljjndifmfhffaaGreatDoorLedgerChecksPbj
namespace Go.Proofs.YtljjndifmfhffaaGreatDoor
open Go.RowKit Go.Sort
set_option linter.unusedVariables false

set_option maxHeartbeats 4000000 in
set_option maxRecDepth 100000 in
theorem passCR (x y : Lea) (W : World) :
    Calls Tryz.prog 73 #[.agg #[.int .i64 x.no, .int .i64 x.owner, .int .i64 x.amount, .int .i64 x.untl], .agg #[.int .i64 y.no, .int .i64 y.owner, .int .i64 y.amount, .int .i64 y.untl]] W fun e w' => e = .returned (.int .i64 (cmpL x y)) ∧ ∃ q os', w' = grow (W.drewN q) os' := by
  have hcon : ∀ (a b : Int) (W' : World), Calls Tryz.prog 66 #[.int .i64 a, .int .i64 b] W' fun e w' => e = .returned (.int .i64 (Lib.compareInt a b)) ∧ ∃ q, w' = W'.drewN q := fun a b W' => (Tryz.cmp_Compare_int a b W').mono fun e w' ⟨h1, h2⟩ => ⟨h1, 0, h2⟩
  have HCON := Lib.hid hcon
  unfold cmpL
  obtain ⟨x1, x2, x3, x4⟩ := x
  obtain ⟨y1, y2, y3, y4⟩ := y
  simp only
  have hor := fun (W3 : World) (n : Nat) => (or_two (Lib.compareInt x4 y4) (Lib.compareInt x1 y1) _ ((W3.alloc (.cells #[.int .i64 (Lib.compareInt x4 y4), .int .i64 (Lib.compareInt x1 y1)] 3)).drewN n) ((reads_two W3 (Lib.compareInt x4 y4) (Lib.compareInt x1 y1)).drewN n)).mono (R' := fun e w' => e = .returned (.int .i64 (orV (Lib.compareInt x4 y4) (Lib.compareInt x1 y1))) ∧ ∃ q, w' = ((W3.alloc (.cells #[.int .i64 (Lib.compareInt x4 y4), .int .i64 (Lib.compareInt x1 y1)] 3)).drewN n).drewN q) fun e w' ⟨h1, h2⟩ => ⟨h1, 0, h2⟩
  have HOR := Lib.hid hor
  clear hcon hor
  go_enter Tryz.func73, Tryz.ntmps73
  go_wp2_with fail
  have hbx : ∀ o, ((W.alloc (.cells #[.int .i64 x1, .int .i64 x2, .int .i64 x3, .int .i64 x4] 88)).alloc o).heap[W.heap.size]? = some (.cells #[.int .i64 x1, .int .i64 x2, .int .i64 x3, .int .i64 x4] 88 (0, 0)) := fun o => (heap_alloc_old _ _ (by simp)).trans (heap_alloc_new W _)
  obtain ⟨W2, hW2⟩ : ∃ W2, (W.alloc (.cells #[.int .i64 x1, .int .i64 x2, .int .i64 x3, .int .i64 x4] 88)).alloc (.cells #[.int .i64 y1, .int .i64 y2, .int .i64 y3, .int .i64 y4] 88) = W2 := ⟨_, rfl⟩
  have b1 : W2.heap[W.heap.size]? = some (.cells #[.int .i64 x1, .int .i64 x2, .int .i64 x3, .int .i64 x4] 88 (0, 0)) := by rw [← hW2]; exact hbx _
  have b2 : W2.heap[W.heap.size + 1]? = some (.cells #[.int .i64 y1, .int .i64 y2, .int .i64 y3, .int .i64 y4] 88 (0, 0)) := by
    rw [← hW2]
    have := heap_alloc_new (W.alloc (.cells #[.int .i64 x1, .int .i64 x2, .int .i64 x3, .int .i64 x4] 88)) (.cells #[.int .i64 y1, .int .i64 y2, .int .i64 y3, .int .i64 y4] 88)
    simpa using this
  have hG : W2 = grow W #[.cells #[.int .i64 x1, .int .i64 x2, .int .i64 x3, .int .i64 x4] 88, .cells #[.int .i64 y1, .int .i64 y2, .int .i64 y3, .int .i64 y4] 88] := by
    rw [← hW2, alloc_eq_grow, alloc_eq_grow, grow_grow]; rfl
  have HG := Lib.hid hG
  rw [hW2]
  clear hbx hW2 hG
  have c3 : W2.cell? ⟨W.heap.size, 3, none⟩ = some (.int .i64 x4) := (cell_of b1 3).trans rfl
  have c0 : W2.cell? ⟨W.heap.size, 0, none⟩ = some (.int .i64 x1) := (cell_of b1 0).trans rfl
  have d3 : W2.cell? ⟨W.heap.size + 1, 3, none⟩ = some (.int .i64 y4) := (cell_of b2 3).trans rfl
  have d0 : W2.cell? ⟨W.heap.size + 1, 0, none⟩ = some (.int .i64 y1) := (cell_of b2 0).trans rfl
  clear b1 b2
  generalize W.heap.size = sz at *
  refine wp_region_mid 10 _ (by kernel_rfl) (by kernel_rfl) rfl ?_
  simp only [List.take_succ_cons, List.take_zero, List.drop_succ_cons, List.drop_zero]
  repeat (go_big_quiet_step ((go_at_call 66; exact Calls.quiet_of (HCON.out _ _ _))))
  refine wpQuiet_nil ?_
  intro _ hw'
  obtain ⟨nq, rfl⟩ := hw'
  intro K hK
  go_simp
  refine hK _ _ ?_
  clear hK K
  repeat (go_big_quiet_step ((go_at_call 65; exact Calls.quiet_of (HOR.out _ _))))
  refine wpQuiet_nil ?_
  intro _ hw'
  obtain ⟨nq3, rfl⟩ := hw'
  go_wp2_with fail
  go_ret
  exact ⟨rfl, nq + nq3, _, (congrArg (fun X : World => ((X.drewN nq).alloc _).drewN nq3) HG.out).trans (grow_form _ _ _ _ _)⟩

theorem sort_leaR (g cap : Nat) (ls : List Lea) (w : World) (hr : w.ownsRow 0 88 4 (.slice (some ⟨g, 0, none⟩) ls.length cap) ls.length (ls.flatMap Lea.cells)) (hnos : (ls.map Lea.no).Pairwise (· < ·)) (hlen : ls.length ≤ 1000000) :
    Calls Tryz.prog 63 #[.slice (some ⟨g, 0, none⟩) ls.length cap, .func (.func 73) #[] #[]] w (SortPost g cap ls w) := by
  obtain ⟨g', cap', cur, hv, _, hg, hn, hcm, hs, ht⟩ := hr.2.resolve_left (by rintro ⟨h, _⟩; cases h)
  simp only [Value.slice.injEq, Option.some.injEq, Addr.mk.injEq, and_true] at hv
  obtain ⟨rfl, _, rfl⟩ := hv
  have eg : ∀ args w, (callFunc 73 args).run Tryz.prog w = .ok (.enter 73 args) w := enters_of Tryz.func73 (by kernel_rfl) rfl
  have hH : HoldsK Lea.cells 4 w g 0 ls.toArray := by
    intro j hj
    have hj' : j < ls.length * 4 := by simpa using hj
    refine ⟨?_, free_of hg _⟩
    have h1 : (flatK Lea.cells 4 ls.toArray)[j]! = (flatK Lea.cells 4 ls.toArray)[j] := getElem!_pos _ j hj
    rw [h1, cell_of hg, Nat.zero_add]
    have h2 := congrArg (fun l : List Value => l[j]?) (flatL ls)
    simp only [Array.getElem?_toList] at h2
    rw [Array.getElem?_eq_getElem hj] at h2
    rw [← Array.getElem?_toList]
    have h3 : cur.toList[j]? = (cur.toList.take (ls.length * 4))[j]? := (List.getElem?_take_of_lt hj').symm
    rw [h3, ht, ← h2]; rfl
  have C := Tryz.slices_SortFunc 4 Tryz.isAgg88 Tryz.sizeOf88 Lea.cells (fun _ => rfl) (fun x v hv => by simp [Lea.cells] at hv; rcases hv with rfl | rfl | rfl | rfl <;> rfl) cmpL swoL 73 #[] g 0 cap ls.toArray w eg (fun m os dk _ x y => passCR x y _) hH (lt_of hg) (by simp; omega)
  simp only [List.size_toArray] at C
  refine C.mono ?_
  rintro e w' ⟨rfl, d', n, os, hp, hso, rfl⟩
  have hd := sorted_eq ls hnos d' (by simpa using hp) (by simpa using hso)
  have hdsz : d'.size = ls.length := by have := hp.1; simpa using this
  have hblk : ∀ k, k < w.heap.size → (sortWorldK Lea.cells 4 w g 0 n d' os).heap[k]? = (w.heap.modify g (onCells (putCells id 0 (flatK Lea.cells 4 d'))))[k]? := by
    intro k hk
    unfold sortWorldK grow putRowK putRow mapBlock
    simp only [heap_ahead]
    rw [Array.getElem?_append_left (by simpa using hk)]
  refine ⟨rfl, ⟨?_, Or.inr ⟨g, cap, putCells id 0 (flatK Lea.cells 4 d') cur, rfl, Nat.zero_le _, ?_, hn, hcm, by simp [putCells, hs], ?_⟩⟩, ?_⟩
  · rw [lcells_len, List.length_mergeSort]
  · rw [hblk g (lt_of hg), Array.getElem?_modify]
    simp [hg, onCells]
  · rw [← hd]
    have : d'.toList.flatMap Lea.cells = (flatK Lea.cells 4 d').toList := by rw [← flatL d'.toList]
    rw [this]
    apply List.ext_getElem?
    intro t
    by_cases h : t < ls.length * 4
    · rw [List.getElem?_take_of_lt h]
      simp only [Array.getElem?_toList, putCells, Array.getElem?_mapIdx]
      have hcs : t < cur.size := by rw [hs]; have := Nat.mul_le_mul_right 4 hn; omega
      rw [Array.getElem?_eq_getElem hcs]
      have hfs : t < (flatK Lea.cells 4 d').size := by simp [hdsz]; omega
      rw [Array.getElem?_eq_getElem hfs]
      simp only [Option.map_some, Nat.zero_le, Nat.zero_add, hfs, and_self, if_true, Nat.sub_zero, id]
      rw [getElem!_pos _ t hfs]
    · rw [List.getElem?_eq_none (by simp; omega), List.getElem?_eq_none (by simp [hdsz]; omega)]
  · refine ⟨rfl, rfl, rfl, ?_, ?_⟩
    · unfold sortWorldK grow putRowK putRow mapBlock
      simp
    · intro k hk hne
      rw [hblk k hk, Array.getElem?_modify, if_neg (fun e => hne e.symm)]

theorem sort_anyR (B : Nat) (v : Value) (ls : List Lea) (w : World) (hr : w.ownsRow B 88 4 v ls.length (ls.flatMap Lea.cells)) (hlen : ls.length ≤ 1000000) (hB : B ≤ w.heap.size) (hnos : (ls.map Lea.no).Pairwise (· < ·)) :
    Calls Tryz.prog 63 #[v, .func (.func 73) #[] #[]] w (fun e w' => e = .returned (.tuple #[]) ∧ w'.ownsRow 0 88 4 v (ls.mergeSort leLea).length ((ls.mergeSort leLea).flatMap Lea.cells) ∧ Below B w w') := by
  rw [List.length_mergeSort]
  rcases Nat.eq_zero_or_pos ls.length with h0 | h0
  · obtain ⟨a, c, rfl, _, _⟩ := ownsRow_sh hr
    have hz : ls = [] := by cases ls with | nil => rfl | cons x xs => simp at h0
    subst hz
    refine (Tryz.slices_SortFunc_none (α := Nat) a c _ w).mono ?_
    rintro e w' ⟨rfl, rfl⟩
    exact ⟨rfl, by simpa using row_zero hr, Below.refl _ _⟩
  · obtain ⟨g, cap, cur, rfl, hgB, hg, _⟩ := lrow_open hr h0
    refine (sort_leaR g cap ls w (row_zero hr) hnos hlen).mono ?_
    rintro e w' ⟨rfl, h1, h2⟩
    exact ⟨rfl, h1, h2.below hB (fun k hk => by rw [hk]; exact hgB)⟩


end Go.Proofs.YtljjndifmfhffaaGreatDoor
