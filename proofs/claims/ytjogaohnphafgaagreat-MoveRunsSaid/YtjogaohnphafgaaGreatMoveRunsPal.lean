/-
  Rows of blocks: slices.IndexFunc, slices.DeleteFunc. No conditions but lengths.
  The octets of a block, shared with the memory. No conditions but bounds.
-/
import Derived.Test.YtjogaohnphafgaaGreatMoveRunsPaj
import Derived.Test.YtjogaohnphafgaaGreatMoveRunsPak
import Derived.Deep.Cut
import Derived.Deep.CutBlock
import Derived.Deep.DeepCutAuto
import Derived.Deep.QuietTactic

namespace Go.Proofs.YtjogaohnphafgaaGreat
section
open Go.RowKit
set_option linter.unusedVariables false


theorem bcells_len (ls : List Blk) : (ls.flatMap Blk.cells).length = ls.length * 3 := by
  induction ls with
  | nil => rfl
  | cons e es ih => rw [List.flatMap_cons, List.length_append, ih, List.length_cons]; simp [Blk.cells]; omega
theorem bcells_get : ∀ (ls : List Blk) (k i : Nat) (l : Blk), ls[k]? = some l → i < 3 → (ls.flatMap Blk.cells)[k * 3 + i]? = l.cells[i]?
  | [], k, i, l, h, _ => by simp at h
  | x :: ls, 0, i, l, h, hi => by
    simp at h; subst h
    rw [List.flatMap_cons, List.getElem?_append_left (by simp [Blk.cells]; omega)]; simp
  | x :: ls, k + 1, i, l, h, hi => by
    simp at h
    rw [List.flatMap_cons, List.getElem?_append_right (by simp [Blk.cells]; omega)]
    have := bcells_get ls k i l h hi
    rw [← this]; congr 1; simp [Blk.cells]; omega
theorem bcells_take (ls : List Blk) (k : Nat) : (ls.flatMap Blk.cells).take (k * 3) = (ls.take k).flatMap Blk.cells := by
  induction ls generalizing k with
  | nil => simp
  | cons x ls ih =>
    cases k with
    | zero => simp
    | succ k =>
      rw [List.flatMap_cons, List.take_succ_cons, List.flatMap_cons, ← ih k, List.take_append]
      have : x.cells.length = 3 := rfl
      rw [List.take_of_length_le (by rw [this]; omega), this]; congr 2; omega
theorem bcells_one (ls : List Blk) : ∀ u ∈ ls.flatMap Blk.cells, u.oneCell' = true := by
  intro u hu
  obtain ⟨e, _, he⟩ := List.mem_flatMap.1 hu
  simp [Blk.cells] at he
  rcases he with rfl | rfl | rfl <;> rfl
theorem infoBlk : (Tryz.prog.info? 78).map (fun i => (i.zero, i.size, i.bytes)) = some (some (.agg #[.int .i64 0, .int .i64 0, .int .i64 0]), 3, 24) := by kernel_rfl
/-- A row: the value's shape, and element k's cells. -/
theorem brow_open {w : World} {B : Nat} {v : Value} {ls : List Blk} (h : w.ownsRow B 78 3 v ls.length (ls.flatMap Blk.cells)) (h0 : 0 < ls.length) :
    ∃ g cap cur, v = .slice (some ⟨g, 0, none⟩) ls.length cap ∧ B ≤ g ∧ w.heap[g]? = some (.cells cur 78 (0, 0)) ∧ ls.length ≤ cap ∧ cap ≤ maxLen ∧ cur.size = cap * 3 ∧ cur.toList.take (ls.length * 3) = ls.flatMap Blk.cells ∧
      (∀ k l, ls[k]? = some l → ∀ i, i < 3 → w.cell? ⟨g, k * 3 + i, none⟩ = l.cells[i]?) := by
  rcases h.2 with ⟨_, h2⟩ | ⟨g, cap, cur, hv, hb, hg, hn, hm, hs, ht⟩
  · omega
  · refine ⟨g, cap, cur, hv, hb, hg, hn, hm, hs, ht, ?_⟩
    intro k l hk i hi
    have hkl : k < ls.length := (List.getElem?_eq_some_iff.1 hk).1
    rw [cell_of hg, ← Array.getElem?_toList, ← bcells_get ls k i l hk hi, ← ht, List.getElem?_take_of_lt (by omega)]

/-- IndexFunc over a row. -/
def bIdxPost (v : Int) (w : World) : Ending → World → Prop := fun e w' => e = .returned (.int .i64 v) ∧ Below w.heap.size w w'
theorem bindex_row (g cap : Nat) (ls : List Blk) (fn : FuncId) (fv : Array Value) (p : Blk → Bool) (w : World) (eg : ∀ args w, (callFunc fn args).run Tryz.prog w = .ok (.enter fn args) w) (hg : g < w.heap.size) (hbig : ls.length ≤ 9223372036854775807)
    (hc : ∀ k l, ls[k]? = some l → ∀ i, i < 3 → w.cell? ⟨g, k * 3 + i, none⟩ = l.cells[i]?)
    (hp : ∀ (W : World) (x : Blk), Below w.heap.size w W → Calls Tryz.prog fn (#[.agg #[.int .i64 (x.h : Int), .int .i64 (x.at' : Int), .int .i64 (x.len : Int)]] ++ fv) W fun e w' => e = .returned (.bool (p x)) ∧ Below w.heap.size w w') :
    Calls Tryz.prog 89 #[.slice (some ⟨g, 0, none⟩) ls.length cap, .func (.func fn) #[] fv] w (bIdxPost (Lib.idxByFrom (fun _ y => p y) default ls 0) w) := by
  have := Tryz.slices_IndexFunc_f89 3 Tryz.isAgg78 Tryz.sizeOf78 Blk.cells (fun x => rfl) p fn fv eg g 0 ls.length cap ls w (fun W x hb => hp W x hb) (Nat.le_refl _) hbig hg (fun j hj i v hv => by
    have hi : i < 3 := (List.getElem?_eq_some_iff.1 hv).1
    rw [Nat.zero_add, hc j ls[j]! (by rw [getElem!_pos ls j hj]; exact List.getElem?_eq_getElem hj) i hi]
    exact hv)
  rw [List.take_length] at this
  exact this

/-- 'clear' of some elements. -/
theorem run_clear_b (w : World) (ty : TypeId) (b o n c : Nat) (hn : 0 < n) (hc : ∀ j, j < n * 3 → (w.cell? ⟨b, o + j, none⟩).isSome = true) (hf : ∀ j, j < n * 3 → w.frozen? ⟨b, o + j, none⟩ = false) :
    ∃ zs : List Value, zs.length = n * 3 ∧ (Builtin.clear_ #[39] ty #[.slice (some ⟨b, o, none⟩) n c]).run Tryz.prog w = .ok (.tuple #[]) (w.setCells b o zs) := by
  refine ⟨(Builtin.zeroCells (Value.agg #[.int .i64 0, .int .i64 0, .int .i64 0]).cells n).toList, ?_, ?_⟩
  · rw [Array.length_toList, size_zeroCells]; rfl
  · have hlen : (Builtin.zeroCells (Value.agg #[.int .i64 0, .int .i64 0, .int .i64 0]).cells n).toList.length = n * 3 := by rw [Array.length_toList, size_zeroCells]; rfl
    have hone : ∀ v ∈ (Builtin.zeroCells (Value.agg #[.int .i64 0, .int .i64 0, .int .i64 0]).cells n).toList, v.oneCell' = true := by
      intro v hv
      simp only [Builtin.zeroCells, Array.toList_map, List.mem_map] at hv
      obtain ⟨i, _, rfl⟩ := hv
      have h4 : i % (Value.agg #[.int .i64 0, .int .i64 0, .int .i64 0]).cells.size < 3 := Nat.mod_lt _ (by decide)
      generalize i % (Value.agg #[.int .i64 0, .int .i64 0, .int .i64 0]).cells.size = r at h4
      match r, h4 with
      | 0, _ => rfl
      | 1, _ => rfl
      | 2, _ => rfl
    have hst := run_storeCells_cells (P := Tryz.prog) b o _ 0 w (by simpa [hlen] using hc) (by simpa [hlen] using hf) hone
    simp only [Nat.add_zero] at hst
    obtain ⟨m, rfl⟩ : ∃ m, n = m + 1 := ⟨n - 1, by omega⟩
    simp [Builtin.clear_, run_underlying Tryz.underlying39, Tryz.zeroValue78, hst]

theorem bidxFirst {p : Blk → Bool} (x : Blk) : ∀ (ls : List Blk) (i : Nat), (Lib.idxByFrom (fun _ y => p y) x ls i = -1 ∧ ∀ y ∈ ls, p y = false) ∨ ∃ k, k < ls.length ∧ Lib.idxByFrom (fun _ y => p y) x ls i = ((i + k : Nat) : Int) ∧ (∃ y, ls[k]? = some y ∧ p y = true) ∧ ∀ y ∈ ls.take k, p y = false
  | [], i => Or.inl ⟨rfl, by simp⟩
  | y :: ls, i => by
    unfold Lib.idxByFrom
    cases h : p y with
    | true => exact Or.inr ⟨0, by simp, by simp, ⟨y, rfl, h⟩, by simp⟩
    | false =>
      simp only [Bool.false_eq_true, if_false]
      rcases bidxFirst x ls (i + 1) with ⟨h1, h2⟩ | ⟨k, h1, h2, ⟨z, h3, h4⟩, h5⟩
      · refine Or.inl ⟨h1, ?_⟩
        intro z hz
        rcases List.mem_cons.1 hz with rfl | hz
        · exact h
        · exact h2 z hz
      · refine Or.inr ⟨k + 1, by simp; omega, by rw [h2]; congr 1; omega, ⟨z, by simpa using h3, h4⟩, ?_⟩
        intro q hq
        rw [List.take_succ_cons] at hq
        rcases List.mem_cons.1 hq with rfl | hq
        · exact h
        · exact h5 q hq

/-- The same row at the front of the same block; only that block turned. -/
def bDelPost (g cap : Nat) (ls : List Blk) (w : World) : Ending → World → Prop := fun e w' =>
  ∃ n, n = ls.length ∧ e = .returned (.slice (some ⟨g, 0, none⟩) n cap) ∧ w'.ownsRow g 78 3 (.slice (some ⟨g, 0, none⟩) n cap) ls.length (ls.flatMap Blk.cells) ∧ Touch (fun k => k = g) w w'

/-- What holds between two rounds: m kept of the first k. -/
structure BlkDelAt (g cap k m : Nat) (p : Blk → Bool) (ls : List Blk) (w wr : World) (cur : Array Value) : Prop where
  blk : wr.heap[g]? = some (.cells cur 78 (0, 0))
  size : cur.size = cap * 3
  kept : cur.toList.take (m * 3) = ((ls.take k).filter fun y => !p y).flatMap Blk.cells
  cnt : m = ((ls.take k).filter fun y => !p y).length
  rest : ∀ j l, k ≤ j → ls[j]? = some l → ∀ i, i < 3 → cur[j * 3 + i]? = l.cells[i]?
  touch : Touch (fun k => k = g) w wr

theorem BlkDelAt.skip {g cap k m : Nat} {p : Blk → Bool} {ls : List Blk} {w wr wr' : World} {cur : Array Value} (h : BlkDelAt g cap k m p ls w wr cur) {l : Blk} (hl : ls[k]? = some l) (hp : p l = true) (hb : wr'.heap[g]? = wr.heap[g]?) (hB : Touch (fun k => k = g) w wr') : BlkDelAt g cap (k + 1) m p ls w wr' cur := by
  have hf : (ls.take (k + 1)).filter (fun y => !p y) = (ls.take k).filter fun y => !p y := by
    rw [List.take_add_one, List.filter_append, hl]; simp [hp]
  exact ⟨hb.trans h.blk, h.size, by rw [hf]; exact h.kept, by rw [hf]; exact h.cnt, fun j l hj => h.rest j l (by omega), hB⟩
theorem btouch_set {g : Nat} {w wr : World} (h : Touch (fun k => k = g) w wr) (s : Nat) (vs : List Value) : Touch (fun k => k = g) w (wr.setCells g s vs) := by
  refine ⟨?_, ?_, ?_, ?_, ?_⟩
  · rw [(setCells_rest g _ _ _).1]; exact h.os
  · rw [(setCells_rest g _ _ _).2.1]; exact h.tape
  · rw [(setCells_rest g _ _ _).2.2]; exact h.output
  · rw [size_setCells]; exact h.size
  · intro i hi hne
    rw [heap_setCells_other g _ _ _ i (fun e => hne e)]; exact h.block i hi hne
theorem BlkDelAt.keep {g cap k m : Nat} {p : Blk → Bool} {ls : List Blk} {w wr wr' : World} {cur : Array Value} (h : BlkDelAt g cap k m p ls w wr cur) {l : Blk} (hl : ls[k]? = some l) (hp : p l = false) (hmk : m < k) (hcap : ls.length ≤ cap) (hb : wr'.heap[g]? = wr.heap[g]?) (hB : Touch (fun k => k = g) w wr') :
    ∃ c', BlkDelAt g cap (k + 1) (m + 1) p ls w (wr'.setCells g (m * 3) l.cells) c' := by
  have hk : k < ls.length := (List.getElem?_eq_some_iff.1 hl).1
  have hf : (ls.take (k + 1)).filter (fun y => !p y) = ((ls.take k).filter fun y => !p y) ++ [l] := by
    rw [List.take_add_one, List.filter_append, hl]; simp [hp]
  have h4 : l.cells.length = 3 := rfl
  have hcs := h.size
  obtain ⟨c', h1, h2, h3⟩ := block_setCells l.cells (m * 3) wr' cur (hb.trans h.blk) (by rw [h4]; omega)
  refine ⟨c', h1, h2.trans h.size, ?_, ?_, ?_, btouch_set hB _ _⟩
  · have e4 : (cur.toList.take (m * 3) ++ l.cells).length = (m + 1) * 3 := by rw [List.length_append, List.length_take, Array.length_toList, h4]; omega
    rw [h3, List.take_left' e4, hf, h.kept]
    simp
  · rw [hf, List.length_append, ← h.cnt]; rfl
  · intro j l' hj hl' i hi
    rw [← Array.getElem?_toList, h3, h4]
    have e5 : (cur.toList.take (m * 3) ++ l.cells).length = m * 3 + 3 := by rw [List.length_append, List.length_take, Array.length_toList, h4]; omega
    rw [List.getElem?_append_right (by omega), e5, List.getElem?_drop, Array.getElem?_toList, ← h.rest j l' (by omega) hl' i hi]
    congr 1; omega

set_option maxHeartbeats 4000000 in
set_option maxRecDepth 100000 in
theorem bdeleteFunc_row (B g cap : Nat) (ls : List Blk) (fn : FuncId) (fv : Array Value) (p : Blk → Bool) (w : World) (hr : w.ownsRow B 78 3 (.slice (some ⟨g, 0, none⟩) ls.length cap) ls.length (ls.flatMap Blk.cells)) (h0 : 0 < ls.length) (hlen : ls.length ≤ 1000000)
    (eg : ∀ args w, (callFunc fn args).run Tryz.prog w = .ok (.enter fn args) w)
    (hp : ∀ (W : World) (x : Blk), Touch (fun k => k = g) w W → Calls Tryz.prog fn (#[.agg #[.int .i64 (x.h : Int), .int .i64 (x.at' : Int), .int .i64 (x.len : Int)]] ++ fv) W fun e w' => e = .returned (.bool (p x)) ∧ Below W.heap.size W w') :
    Calls Tryz.prog 40 #[.slice (some ⟨g, 0, none⟩) ls.length cap, .func (.func fn) #[] fv] w (bDelPost g cap (ls.filter fun y => !p y) w) := by
  obtain ⟨g', cap', cur, hv, hB, hg, hn, hcm, hs, ht, hc⟩ := brow_open hr h0
  simp only [Value.slice.injEq, Option.some.injEq, Addr.mk.injEq, and_true] at hv
  obtain ⟨rfl, _, rfl⟩ := hv
  have hcm' : cap ≤ 9223372036854775807 := by unfold maxLen at hcm; omega
  have C := bindex_row g cap ls fn fv p w eg (lt_of hg) (by omega) hc (fun W x hb => (hp W x (Touch.of_below hb)).mono fun e w' ⟨h1, h2⟩ => ⟨h1, hb.trans (h2.mono hb.size)⟩)
  rcases bidxFirst (p := p) default ls 0 with ⟨h1, h2⟩ | ⟨i0, h1, h2, ⟨y0, h3, h4⟩, h5⟩
  · rw [h1] at C
    have HC := Lib.hid C
    have hfil : ls.filter (fun y => !p y) = ls := List.filter_eq_self.2 (fun y hy => by rw [h2 y hy]; rfl)
    rw [hfil]
    have FIN : Hid (∀ w', Below w.heap.size w w' → bDelPost g cap ls w (.returned (.slice (some ⟨g, 0, none⟩) ls.length cap)) w') := Lib.hid (fun w' hb => ⟨_, rfl, rfl, ⟨bcells_len _, Or.inr ⟨g, cap, cur, rfl, Nat.le_refl _, (hb.block g (lt_of hg)).trans hg, hn, hcm, hs, ht⟩⟩, Touch.of_below hb⟩)
    clear C hp hc ht hs hg hr h1 h2 hfil
    go_enter Tryz.func40, Tryz.ntmps40
    go_wp2_with fail
    refine HC.out.mono ?_
    rintro e w' ⟨rfl, hb⟩
    have HB := Lib.hid hb
    clear hb
    go_wp2_with fail
    go_ret
    exact FIN.out _ HB.out
  · rw [h2, Nat.zero_add] at C
    have HC := Lib.hid C
    have hi0 : i0 < ls.length := h1
    have ST : Hid (∀ w', Below w.heap.size w w' → BlkDelAt g cap (i0 + 1) i0 p ls w w' cur) := Lib.hid (fun w' hb => by
      have hf : (ls.take (i0 + 1)).filter (fun y => !p y) = ls.take i0 := by
        rw [List.take_add_one, List.filter_append, List.filter_eq_self.2 (fun y hy => by rw [h5 y hy]; rfl), h3]
        simp [h4]
      refine ⟨(hb.block g (lt_of hg)).trans hg, hs, ?_, ?_, ?_, Touch.of_below hb⟩
      · rw [hf, ← bcells_take, ← ht, List.take_take]; congr 1; omega
      · rw [hf, List.length_take]; omega
      · intro j l _ hj i hi
        have := hc j l hj i hi
        rw [cell_of hg] at this
        exact this)
    have HP := Lib.hid hp
    have hgl := lt_of hg
    have hne1 : ((i0 : Int) == -1) = false := by simp
    clear C hp hc ht hs hg hr h1 h2 h3 h4 h5
    go_enter Tryz.func40, Tryz.ntmps40
    go_wp2_with fail
    refine HC.out.mono ?_
    rintro e w0 ⟨rfl, hb⟩
    have D0 := Lib.hid (ST.out _ hb)
    clear hb HC ST
    go_wp2_with fail
    go_loopw [5, 6] (fun vi vj wr => ∃ (k m : Nat) (c : Array Value), k ≤ ls.length ∧ m < k ∧ vi = .int .i64 m ∧ vj = .int .i64 k ∧ BlkDelAt g cap k m p ls w wr c) (fun _ vj _ => ls.length - (intOf vj).toNat)
    case atStart => exact ⟨i0 + 1, i0, cur, by omega, by omega, rfl, by go_num, D0.out⟩
    case round =>
      obtain ⟨k, m, c, hk, hmk, rfl, rfl, hD⟩ := hrel
      have HD := Lib.hid hD
      by_cases hlt : k < ls.length
      · obtain ⟨l, hl⟩ : ∃ l, ls[k]? = some l := ⟨_, List.getElem?_eq_getElem hlt⟩
        have HL := Lib.hid hl
        obtain ⟨l1, l2, l3⟩ := l
        have hgr := lt_of hD.blk
        have C2 := HP.out (wr.alloc (.cells #[.int .i64 (l1 : Int), .int .i64 (l2 : Int), .int .i64 (l3 : Int)] 78)) ⟨l1, l2, l3⟩ (hD.touch.then (Touch.of_below ((Below.refl _ _).alloc (Nat.le_refl _) _)))
        have HC2 := Lib.hid C2
        have hbx : ∀ w2, Below (wr.alloc (.cells #[.int .i64 (l1 : Int), .int .i64 (l2 : Int), .int .i64 (l3 : Int)] 78)).heap.size (wr.alloc (.cells #[.int .i64 (l1 : Int), .int .i64 (l2 : Int), .int .i64 (l3 : Int)] 78)) w2 →
            w2.heap[g]? = wr.heap[g]? ∧ w2.heap[wr.heap.size]? = some (.cells #[.int .i64 (l1 : Int), .int .i64 (l2 : Int), .int .i64 (l3 : Int)] 78 (0, 0)) ∧ Touch (fun k => k = g) w w2 := fun w2 hb =>
          ⟨(hb.block g (by simp; omega)).trans (heap_alloc_old _ _ hgr), (hb.block wr.heap.size (by simp)).trans (heap_alloc_new _ _), (hD.touch.then (Touch.of_below ((Below.refl _ _).alloc (Nat.le_refl _) _))).then (Touch.of_below hb)⟩
        have HBX := Lib.hid hbx
        clear hD C2 hl hbx
        have g0 : wr.cell? ⟨g, k * 3, none⟩ = some (.int .i64 (l1 : Int)) := by rw [cell_of HD.out.blk]; exact HD.out.rest k _ (Nat.le_refl _) HL.out 0 (by omega)
        have g1 : wr.cell? ⟨g, k * 3 + 1, none⟩ = some (.int .i64 (l2 : Int)) := by rw [cell_of HD.out.blk]; exact HD.out.rest k _ (Nat.le_refl _) HL.out 1 (by omega)
        have g2 : wr.cell? ⟨g, k * 3 + 2, none⟩ = some (.int .i64 (l3 : Int)) := by rw [cell_of HD.out.blk]; exact HD.out.rest k _ (Nat.le_refl _) HL.out 2 (by omega)
        cases hpl : p ⟨l1, l2, l3⟩ with
        | true =>
          rw [hpl] at HC2
          have HPL := Lib.hid hpl
          clear hpl
          go_wp2_with fail
          refine HC2.out.mono ?_
          rintro e w2 ⟨rfl, hb2⟩
          obtain ⟨k1, k2, k3⟩ := HBX.out _ hb2
          have DN := Lib.hid (HD.out.skip HL.out HPL.out k1 k3)
          clear hb2 k1 k2 k3
          go_wp2_with fail
          go_roundw
          case rel => exact ⟨k + 1, m, c, by omega, by omega, rfl, by go_num, DN.out⟩
          case measure => simp [intOf]; omega
        | false =>
          rw [hpl] at HC2
          have HPL := Lib.hid hpl
          clear hpl
          go_wp2_with fail
          refine HC2.out.mono ?_
          rintro e w2 ⟨rfl, hb2⟩
          obtain ⟨k1, k2, k3⟩ := HBX.out _ hb2
          obtain ⟨c', DN0⟩ := HD.out.keep HL.out HPL.out hmk hn k1 k3
          have DN := Lib.hid DN0
          have v0 : w2.cell? ⟨wr.heap.size, 0, none⟩ = some (.int .i64 (l1 : Int)) := (cell_of k2 0).trans rfl
          have v1 : w2.cell? ⟨wr.heap.size, 1, none⟩ = some (.int .i64 (l2 : Int)) := (cell_of k2 1).trans rfl
          have v2 : w2.cell? ⟨wr.heap.size, 2, none⟩ = some (.int .i64 (l3 : Int)) := (cell_of k2 2).trans rfl
          have hcs := HD.out.size
          have kb := k1.trans HD.out.blk
          have is : ∀ r, r < 3 → ∃ u, w2.cell? ⟨g, m * 3 + r, none⟩ = some u := fun r hr => ⟨_, (cell_of kb _).trans (Array.getElem?_eq_getElem (by omega))⟩
          obtain ⟨u0, m0⟩ := is 0 (by omega)
          obtain ⟨u1, m1⟩ := is 1 (by omega)
          obtain ⟨u2, m2⟩ := is 2 (by omega)
          rw [Nat.add_zero] at m0
          have fz : ∀ j, w2.frozen? ⟨g, j, none⟩ = false := fun j => free_of kb j
          clear hb2 k1 k2 k3 kb is DN0 hcs g0 g1 g2
          go_wp2_with fail
          go_roundw
          case rel => exact ⟨k + 1, m + 1, c', by omega, by omega, by go_num, by go_num, DN.out⟩
          case measure => simp [intOf]; omega
      · obtain rfl : k = ls.length := by omega
        have hcs := hD.size
        obtain ⟨zs, z1, z2⟩ := run_clear_b wr 0 g (m * 3) (ls.length - m) (cap - m) (by omega) (fun j hj => by rw [cell_of hD.blk, Array.getElem?_eq_getElem (by omega)]; rfl) (fun j _ => free_of hD.blk _)
        have FIN : Hid (bDelPost g cap (ls.filter fun y => !p y) w (.returned (.slice (some ⟨g, 0, none⟩) m cap)) (wr.setCells g (m * 3) zs)) := Lib.hid (by
          obtain ⟨c2, q1, q2, q3⟩ := block_setCells zs (m * 3) wr c hD.blk (by rw [z1]; omega)
          have hm := hD.cnt
          have hkp := hD.kept
          rw [List.take_length] at hm hkp
          refine ⟨m, hm, rfl, ⟨bcells_len _, Or.inr ⟨g, cap, c2, by rw [hm], Nat.le_refl _, q1, by omega, hcm, q2.trans hcs, ?_⟩⟩, btouch_set hD.touch _ _⟩
          rw [q3, ← hm, List.append_assoc, List.take_left' (by rw [List.length_take, Array.length_toList]; omega)]
          exact hkp)
        have hcne : ¬ (cap = m) := by omega
        have hmc : m ≤ cap := by omega
        clear hD hcs z1 hlt hk
        go_wp2_with fail
        go_ret
        exact FIN.out

set_option maxHeartbeats 1000000 in
set_option maxRecDepth 100000 in
theorem bdeleteFunc_none (a : Option Addr) (cap : Nat) (fv : Value) (w : World) : Calls Tryz.prog 40 #[.slice a 0 cap, fv] w fun e w' => e = .returned (.slice a 0 cap) ∧ w' = w := by
  have C : ∀ fv W, Calls Tryz.prog 89 #[.slice a 0 cap, fv] W fun e w' => e = .returned (.int .i64 (-1)) ∧ w' = W := fun fv W => by
    go_enter Tryz.func89, Tryz.ntmps89
    go_wp2_with fail
    refine wp_loop_rounds 1 ?_
    rw [rounds_succ]
    go_wp2_with fail
    go_ret
    exact ⟨rfl, rfl⟩
  have HC := Lib.hid C
  clear C
  go_enter Tryz.func40, Tryz.ntmps40
  go_wp2_with fail
  refine (HC.out _ _).mono ?_
  rintro e w' ⟨rfl, hw⟩
  obtain rfl := hw
  go_wp2_with fail
  go_ret
  exact ⟨rfl, rfl⟩

end
end Go.Proofs.YtjogaohnphafgaaGreat

namespace Go.Proofs.YtjogaohnphafgaaGreat
section
open Go.RowKit
set_option linter.unusedVariables false

theorem HpMem.memory {w : World} {F : Nat → Prop} {hp bp : Nat} {S : HpSt} {vm vb vh : Value} {vhs : List Value} (m : HpMem w F hp bp S vm vb vh vhs) :
    ∃ a cap, vm = .slice a S.mem.length cap ∧ S.mem.length ≤ cap ∧ cap ≤ 9223372036854775807 ∧ (0 < S.mem.length → ∃ g, a = some ⟨g, 0, none⟩) := by
  rcases m.mem.1.2 with ⟨h1, h2⟩ | ⟨g, cap, cur, h1, _, hg, hle, hmx, hsz, htk⟩
  · exact ⟨none, 0, by rw [h1, h2], by omega, by omega, fun h => by omega⟩
  · unfold maxLen at hmx
    exact ⟨_, cap, h1, hle, by omega, fun _ => ⟨g, rfl⟩⟩
def OcPost (vm : Value) (at' len n : Nat) (w : World) : Ending → World → Prop := fun e w' => ∃ a, e = .returned (.slice a len len) ∧ (0 < len → ∃ g cap, vm = .slice (some ⟨g, 0, none⟩) n cap ∧ a = some ⟨g, at', none⟩) ∧ Below w.heap.size w w'

set_option maxHeartbeats 4000000 in
set_option maxRecDepth 100000 in
theorem octetsM_any {w : World} {F : Nat → Prop} {hp bp : Nat} {S : HpSt} {vm vb vh : Value} {vhs : List Value} (m : HpMem w F hp bp S vm vb vh vhs) (h : Int) (at' len : Nat) (hl : at' + len ≤ S.mem.length) :
    Calls Tryz.prog 44 #[.pointer (some ⟨hp, 0, none⟩), .agg #[.int .i64 h, .int .i64 (at' : Int), .int .i64 (len : Int)]] w (OcPost vm at' len S.mem.length w) := by
  have B0 : Below w.heap.size w (w.alloc (.cells #[.int .i64 h, .int .i64 (at' : Int), .int .i64 (len : Int)] 78)) := (Below.refl _ w).alloc (Nat.le_refl _) _
  have RS0 := heap_alloc_new w (.cells #[.int .i64 h, .int .i64 (at' : Int), .int .i64 (len : Int)] 78)
  have M0 := m.below B0
  have c6 := M0.cells.2.2.2.2.2.2.1
  obtain ⟨a, cap, hvm, hcap, hcap2, hsh⟩ := m.memory
  have HVM := Lib.hid hvm
  have HSH := Lib.hid hsh
  rw [hvm] at c6
  have hbig := m.big.1
  obtain ⟨n, hn⟩ : ∃ n, S.mem.length = n := ⟨_, rfl⟩
  rw [hn] at c6 hl hcap hbig HVM HSH ⊢
  have HB0 := Lib.hid B0
  have q1 : (w.alloc (.cells #[.int .i64 h, .int .i64 (at' : Int), .int .i64 (len : Int)] 78)).cell? ⟨w.heap.size, 1, none⟩ = some (.int .i64 (at' : Int)) := (cell_of RS0 1).trans rfl
  have q2 : (w.alloc (.cells #[.int .i64 h, .int .i64 (at' : Int), .int .i64 (len : Int)] 78)).cell? ⟨w.heap.size, 2, none⟩ = some (.int .i64 (len : Int)) := (cell_of RS0 2).trans rfl
  clear m M0 B0 hvm hsh hn RS0
  go_enter Tryz.func44, Tryz.ntmps44
  go_upto_region 1 with fail
  generalize w.alloc (.cells #[.int .i64 h, .int .i64 (at' : Int), .int .i64 (len : Int)] 78) = W0 at *
  by_cases h0 : len = 0
  · subst h0
    go_quiet (fail)
    go_wp2_with fail
    go_ret
    exact ⟨a, by first | rfl | simp, fun h => by omega, bdrewN HB0.out _⟩
  · obtain ⟨g, rfl⟩ := HSH.out (by omega)
    have hsub : at' + len - at' = len := by omega
    have HSB := Lib.hid hsub
    clear hsub
    go_quiet (fail)
    go_wp2_with fail
    go_ret
    refine ⟨some ⟨g, at', none⟩, ?_, fun _ => ⟨g, cap, HVM.out, rfl⟩, bdrewN HB0.out _⟩
    have e := HSB.out
    first
    | (simp only [e]; rfl)
    | simp [e, Addr.add]

end
end Go.Proofs.YtjogaohnphafgaaGreat
