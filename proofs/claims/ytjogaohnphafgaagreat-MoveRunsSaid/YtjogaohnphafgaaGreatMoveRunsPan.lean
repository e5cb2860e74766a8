/-
  Rows of gaps: slices.IndexFunc, slices.DeleteFunc. No conditions but lengths.
  append whose run is known, as a step of a plan. No conditions.
-/
import Derived.Test.YtjogaohnphafgaaGreatMoveRunsPaj
import Derived.Test.YtjogaohnphafgaaGreatMoveRunsPak
import Derived.Test.YtjogaohnphafgaaGreatMoveRunsPaa
import Derived.Test.YtjogaohnphafgaaGreatMoveRunsPai

namespace Go.Proofs.YtjogaohnphafgaaGreat
section
open Go.RowKit
set_option linter.unusedVariables false

/-- A gap: where it lies, its length. -/
structure Gp where
  at' : Nat
  len : Nat
deriving DecidableEq
def Gp.cells (x : Gp) : List Value := [.int .i64 (x.at' : Int), .int .i64 (x.len : Int)]
instance : Inhabited Gp := ⟨⟨0, 0⟩⟩
theorem gcells_len (ls : List Gp) : (ls.flatMap Gp.cells).length = ls.length * 2 := by
  induction ls with
  | nil => rfl
  | cons e es ih => rw [List.flatMap_cons, List.length_append, ih, List.length_cons]; simp [Gp.cells]; omega
theorem gcells_get : ∀ (ls : List Gp) (k i : Nat) (l : Gp), ls[k]? = some l → i < 2 → (ls.flatMap Gp.cells)[k * 2 + i]? = l.cells[i]?
  | [], k, i, l, h, _ => by simp at h
  | x :: ls, 0, i, l, h, hi => by
    simp at h; subst h
    rw [List.flatMap_cons, List.getElem?_append_left (by simp [Gp.cells]; omega)]; simp
  | x :: ls, k + 1, i, l, h, hi => by
    simp at h
    rw [List.flatMap_cons, List.getElem?_append_right (by simp [Gp.cells]; omega)]
    have := gcells_get ls k i l h hi
    rw [← this]; congr 1; simp [Gp.cells]; omega
theorem gcells_take (ls : List Gp) (k : Nat) : (ls.flatMap Gp.cells).take (k * 2) = (ls.take k).flatMap Gp.cells := by
  induction ls generalizing k with
  | nil => simp
  | cons x ls ih =>
    cases k with
    | zero => simp
    | succ k =>
      rw [List.flatMap_cons, List.take_succ_cons, List.flatMap_cons, ← ih k, List.take_append]
      have : x.cells.length = 2 := rfl
      rw [List.take_of_length_le (by rw [this]; omega), this]; congr 2; omega
theorem gcells_one (ls : List Gp) : ∀ u ∈ ls.flatMap Gp.cells, u.oneCell' = true := by
  intro u hu
  obtain ⟨e, _, he⟩ := List.mem_flatMap.1 hu
  simp [Gp.cells] at he
  rcases he with rfl | rfl <;> rfl
theorem infoGp : (Tryz.prog.info? 92).map (fun i => (i.zero, i.size, i.bytes)) = some (some (.agg #[.int .i64 0, .int .i64 0]), 2, 16) := by kernel_rfl
/-- A row: the value's shape, and element k's cells. -/
theorem grow_open {w : World} {B : Nat} {v : Value} {ls : List Gp} (h : w.ownsRow B 92 2 v ls.length (ls.flatMap Gp.cells)) (h0 : 0 < ls.length) :
    ∃ g cap cur, v = .slice (some ⟨g, 0, none⟩) ls.length cap ∧ B ≤ g ∧ w.heap[g]? = some (.cells cur 92 (0, 0)) ∧ ls.length ≤ cap ∧ cap ≤ maxLen ∧ cur.size = cap * 2 ∧ cur.toList.take (ls.length * 2) = ls.flatMap Gp.cells ∧
      (∀ k l, ls[k]? = some l → ∀ i, i < 2 → w.cell? ⟨g, k * 2 + i, none⟩ = l.cells[i]?) := by
  rcases h.2 with ⟨_, h2⟩ | ⟨g, cap, cur, hv, hb, hg, hn, hm, hs, ht⟩
  · omega
  · refine ⟨g, cap, cur, hv, hb, hg, hn, hm, hs, ht, ?_⟩
    intro k l hk i hi
    have hkl : k < ls.length := (List.getElem?_eq_some_iff.1 hk).1
    rw [cell_of hg, ← Array.getElem?_toList, ← gcells_get ls k i l hk hi, ← ht, List.getElem?_take_of_lt (by omega)]

/-- IndexFunc over a row. -/
def gIdxPost (v : Int) (w : World) : Ending → World → Prop := fun e w' => e = .returned (.int .i64 v) ∧ Below w.heap.size w w'
theorem gindex_row (g cap : Nat) (ls : List Gp) (fn : FuncId) (fv : Array Value) (p : Gp → Bool) (w : World) (eg : ∀ args w, (callFunc fn args).run Tryz.prog w = .ok (.enter fn args) w) (hg : g < w.heap.size) (hbig : ls.length ≤ 9223372036854775807)
    (hc : ∀ k l, ls[k]? = some l → ∀ i, i < 2 → w.cell? ⟨g, k * 2 + i, none⟩ = l.cells[i]?)
    (hp : ∀ (W : World) (x : Gp), Below w.heap.size w W → Calls Tryz.prog fn (#[.agg #[.int .i64 (x.at' : Int), .int .i64 (x.len : Int)]] ++ fv) W fun e w' => e = .returned (.bool (p x)) ∧ Below w.heap.size w w') :
    Calls Tryz.prog 106 #[.slice (some ⟨g, 0, none⟩) ls.length cap, .func (.func fn) #[] fv] w (gIdxPost (Lib.idxByFrom (fun _ y => p y) default ls 0) w) := by
  have := Tryz.slices_IndexFunc_f106 2 Tryz.isAgg92 Tryz.sizeOf92 Gp.cells (fun x => rfl) p fn fv eg g 0 ls.length cap ls w (fun W x hb => hp W x hb) (Nat.le_refl _) hbig hg (fun j hj i v hv => by
    have hi : i < 2 := (List.getElem?_eq_some_iff.1 hv).1
    rw [Nat.zero_add, hc j ls[j]! (by rw [getElem!_pos ls j hj]; exact List.getElem?_eq_getElem hj) i hi]
    exact hv)
  rw [List.take_length] at this
  exact this

/-- 'clear' of some elements. -/
theorem run_clear_g (w : World) (ty : TypeId) (b o n c : Nat) (hn : 0 < n) (hc : ∀ j, j < n * 2 → (w.cell? ⟨b, o + j, none⟩).isSome = true) (hf : ∀ j, j < n * 2 → w.frozen? ⟨b, o + j, none⟩ = false) :
    ∃ zs : List Value, zs.length = n * 2 ∧ (Builtin.clear_ #[89] ty #[.slice (some ⟨b, o, none⟩) n c]).run Tryz.prog w = .ok (.tuple #[]) (w.setCells b o zs) := by
  refine ⟨(Builtin.zeroCells (Value.agg #[.int .i64 0, .int .i64 0]).cells n).toList, ?_, ?_⟩
  · rw [Array.length_toList, size_zeroCells]; rfl
  · have hlen : (Builtin.zeroCells (Value.agg #[.int .i64 0, .int .i64 0]).cells n).toList.length = n * 2 := by rw [Array.length_toList, size_zeroCells]; rfl
    have hone : ∀ v ∈ (Builtin.zeroCells (Value.agg #[.int .i64 0, .int .i64 0]).cells n).toList, v.oneCell' = true := by
      intro v hv
      simp only [Builtin.zeroCells, Array.toList_map, List.mem_map] at hv
      obtain ⟨i, _, rfl⟩ := hv
      have h4 : i % (Value.agg #[.int .i64 0, .int .i64 0]).cells.size < 2 := Nat.mod_lt _ (by decide)
      generalize i % (Value.agg #[.int .i64 0, .int .i64 0]).cells.size = r at h4
      match r, h4 with
      | 0, _ => rfl
      | 1, _ => rfl
    have hst := run_storeCells_cells (P := Tryz.prog) b o _ 0 w (by simpa [hlen] using hc) (by simpa [hlen] using hf) hone
    simp only [Nat.add_zero] at hst
    obtain ⟨m, rfl⟩ : ∃ m, n = m + 1 := ⟨n - 1, by omega⟩
    simp [Builtin.clear_, run_underlying Tryz.underlying89, Tryz.zeroValue92, hst]

theorem gidxFirst {p : Gp → Bool} (x : Gp) : ∀ (ls : List Gp) (i : Nat), (Lib.idxByFrom (fun _ y => p y) x ls i = -1 ∧ ∀ y ∈ ls, p y = false) ∨ ∃ k, k < ls.length ∧ Lib.idxByFrom (fun _ y => p y) x ls i = ((i + k : Nat) : Int) ∧ (∃ y, ls[k]? = some y ∧ p y = true) ∧ ∀ y ∈ ls.take k, p y = false
  | [], i => Or.inl ⟨rfl, by simp⟩
  | y :: ls, i => by
    unfold Lib.idxByFrom
    cases h : p y with
    | true => exact Or.inr ⟨0, by simp, by simp, ⟨y, rfl, h⟩, by simp⟩
    | false =>
      simp only [Bool.false_eq_true, if_false]
      rcases gidxFirst x ls (i + 1) with ⟨h1, h2⟩ | ⟨k, h1, h2, ⟨z, h3, h4⟩, h5⟩
      · refine Or.inl ⟨h1, ?_⟩
        intro z hz
        rcases List.mem_cons.1 hz with rfl | hz
        · exact h
        · exact h2 z hz
      · refine Or.inr ⟨k + 1, by simp; omega, by rw [h2]; congr 1; omega, ⟨z, by simpa using h3, h4⟩, ?_⟩
        intro q hq
        rw [List.take_succ_cons] at hq
        rcases List.mem_cons.1 hq with rfl | hq
        · exact h
        · exact h5 q hq

/-- The same row at the front of the same block; only that block turned. -/
def gDelPost (g cap : Nat) (ls : List Gp) (w : World) : Ending → World → Prop := fun e w' =>
  ∃ n, n = ls.length ∧ e = .returned (.slice (some ⟨g, 0, none⟩) n cap) ∧ w'.ownsRow g 92 2 (.slice (some ⟨g, 0, none⟩) n cap) ls.length (ls.flatMap Gp.cells) ∧ Touch (fun k => k = g) w w'

/-- What holds between two rounds: m kept of the first k. -/
structure GpDelAt (g cap k m : Nat) (p : Gp → Bool) (ls : List Gp) (w wr : World) (cur : Array Value) : Prop where
  blk : wr.heap[g]? = some (.cells cur 92 (0, 0))
  size : cur.size = cap * 2
  kept : cur.toList.take (m * 2) = ((ls.take k).filter fun y => !p y).flatMap Gp.cells
  cnt : m = ((ls.take k).filter fun y => !p y).length
  rest : ∀ j l, k ≤ j → ls[j]? = some l → ∀ i, i < 2 → cur[j * 2 + i]? = l.cells[i]?
  touch : Touch (fun k => k = g) w wr

theorem GpDelAt.skip {g cap k m : Nat} {p : Gp → Bool} {ls : List Gp} {w wr wr' : World} {cur : Array Value} (h : GpDelAt g cap k m p ls w wr cur) {l : Gp} (hl : ls[k]? = some l) (hp : p l = true) (hb : wr'.heap[g]? = wr.heap[g]?) (hB : Touch (fun k => k = g) w wr') : GpDelAt g cap (k + 1) m p ls w wr' cur := by
  have hf : (ls.take (k + 1)).filter (fun y => !p y) = (ls.take k).filter fun y => !p y := by
    rw [List.take_add_one, List.filter_append, hl]; simp [hp]
  exact ⟨hb.trans h.blk, h.size, by rw [hf]; exact h.kept, by rw [hf]; exact h.cnt, fun j l hj => h.rest j l (by omega), hB⟩
theorem gtouch_set {g : Nat} {w wr : World} (h : Touch (fun k => k = g) w wr) (s : Nat) (vs : List Value) : Touch (fun k => k = g) w (wr.setCells g s vs) := by
  refine ⟨?_, ?_, ?_, ?_, ?_⟩
  · rw [(setCells_rest g _ _ _).1]; exact h.os
  · rw [(setCells_rest g _ _ _).2.1]; exact h.tape
  · rw [(setCells_rest g _ _ _).2.2]; exact h.output
  · rw [size_setCells]; exact h.size
  · intro i hi hne
    rw [heap_setCells_other g _ _ _ i (fun e => hne e)]; exact h.block i hi hne
theorem GpDelAt.keep {g cap k m : Nat} {p : Gp → Bool} {ls : List Gp} {w wr wr' : World} {cur : Array Value} (h : GpDelAt g cap k m p ls w wr cur) {l : Gp} (hl : ls[k]? = some l) (hp : p l = false) (hmk : m < k) (hcap : ls.length ≤ cap) (hb : wr'.heap[g]? = wr.heap[g]?) (hB : Touch (fun k => k = g) w wr') :
    ∃ c', GpDelAt g cap (k + 1) (m + 1) p ls w (wr'.setCells g (m * 2) l.cells) c' := by
  have hk : k < ls.length := (List.getElem?_eq_some_iff.1 hl).1
  have hf : (ls.take (k + 1)).filter (fun y => !p y) = ((ls.take k).filter fun y => !p y) ++ [l] := by
    rw [List.take_add_one, List.filter_append, hl]; simp [hp]
  have h4 : l.cells.length = 2 := rfl
  have hcs := h.size
  obtain ⟨c', h1, h2, h3⟩ := block_setCells l.cells (m * 2) wr' cur (hb.trans h.blk) (by rw [h4]; omega)
  refine ⟨c', h1, h2.trans h.size, ?_, ?_, ?_, gtouch_set hB _ _⟩
  · have e4 : (cur.toList.take (m * 2) ++ l.cells).length = (m + 1) * 2 := by rw [List.length_append, List.length_take, Array.length_toList, h4]; omega
    rw [h3, List.take_left' e4, hf, h.kept]
    simp
  · rw [hf, List.length_append, ← h.cnt]; rfl
  · intro j l' hj hl' i hi
    rw [← Array.getElem?_toList, h3, h4]
    have e5 : (cur.toList.take (m * 2) ++ l.cells).length = m * 2 + 2 := by rw [List.length_append, List.length_take, Array.length_toList, h4]; omega
    rw [List.getElem?_append_right (by omega), e5, List.getElem?_drop, Array.getElem?_toList, ← h.rest j l' (by omega) hl' i hi]
    congr 1; omega

set_option maxHeartbeats 4000000 in
set_option maxRecDepth 100000 in
theorem gdeleteFunc_row (B g cap : Nat) (ls : List Gp) (fn : FuncId) (fv : Array Value) (p : Gp → Bool) (w : World) (hr : w.ownsRow B 92 2 (.slice (some ⟨g, 0, none⟩) ls.length cap) ls.length (ls.flatMap Gp.cells)) (h0 : 0 < ls.length) (hlen : ls.length ≤ 1000000)
    (eg : ∀ args w, (callFunc fn args).run Tryz.prog w = .ok (.enter fn args) w)
    (hp : ∀ (W : World) (x : Gp), Touch (fun k => k = g) w W → Calls Tryz.prog fn (#[.agg #[.int .i64 (x.at' : Int), .int .i64 (x.len : Int)]] ++ fv) W fun e w' => e = .returned (.bool (p x)) ∧ Below W.heap.size W w') :
    Calls Tryz.prog 99 #[.slice (some ⟨g, 0, none⟩) ls.length cap, .func (.func fn) #[] fv] w (gDelPost g cap (ls.filter fun y => !p y) w) := by
  obtain ⟨g', cap', cur, hv, hB, hg, hn, hcm, hs, ht, hc⟩ := grow_open hr h0
  simp only [Value.slice.injEq, Option.some.injEq, Addr.mk.injEq, and_true] at hv
  obtain ⟨rfl, _, rfl⟩ := hv
  have hcm' : cap ≤ 9223372036854775807 := by unfold maxLen at hcm; omega
  have C := gindex_row g cap ls fn fv p w eg (lt_of hg) (by omega) hc (fun W x hb => (hp W x (Touch.of_below hb)).mono fun e w' ⟨h1, h2⟩ => ⟨h1, hb.trans (h2.mono hb.size)⟩)
  rcases gidxFirst (p := p) default ls 0 with ⟨h1, h2⟩ | ⟨i0, h1, h2, ⟨y0, h3, h4⟩, h5⟩
  · rw [h1] at C
    have HC := Lib.hid C
    have hfil : ls.filter (fun y => !p y) = ls := List.filter_eq_self.2 (fun y hy => by rw [h2 y hy]; rfl)
    rw [hfil]
    have FIN : Hid (∀ w', Below w.heap.size w w' → gDelPost g cap ls w (.returned (.slice (some ⟨g, 0, none⟩) ls.length cap)) w') := Lib.hid (fun w' hb => ⟨_, rfl, rfl, ⟨gcells_len _, Or.inr ⟨g, cap, cur, rfl, Nat.le_refl _, (hb.block g (lt_of hg)).trans hg, hn, hcm, hs, ht⟩⟩, Touch.of_below hb⟩)
    clear C hp hc ht hs hg hr h1 h2 hfil
    go_enter Tryz.func99, Tryz.ntmps99
    go_wp2_with fail
    refine HC.out.mono ?_
    rintro e w' ⟨rfl, hb⟩
    have HB := Lib.hid hb
    clear hb
    go_wp2_with fail
    go_ret
    exact FIN.out _ HB.out
  · rw [h2, Nat.zero_add] at C
    have HC := Lib.hid C
    have hi0 : i0 < ls.length := h1
    have ST : Hid (∀ w', Below w.heap.size w w' → GpDelAt g cap (i0 + 1) i0 p ls w w' cur) := Lib.hid (fun w' hb => by
      have hf : (ls.take (i0 + 1)).filter (fun y => !p y) = ls.take i0 := by
        rw [List.take_add_one, List.filter_append, List.filter_eq_self.2 (fun y hy => by rw [h5 y hy]; rfl), h3]
        simp [h4]
      refine ⟨(hb.block g (lt_of hg)).trans hg, hs, ?_, ?_, ?_, Touch.of_below hb⟩
      · rw [hf, ← gcells_take, ← ht, List.take_take]; congr 1; omega
      · rw [hf, List.length_take]; omega
      · intro j l _ hj i hi
        have := hc j l hj i hi
        rw [cell_of hg] at this
        exact this)
    have HP := Lib.hid hp
    have hgl := lt_of hg
    have hne1 : ((i0 : Int) == -1) = false := by simp
    clear C hp hc ht hs hg hr h1 h2 h3 h4 h5
    go_enter Tryz.func99, Tryz.ntmps99
    go_wp2_with fail
    refine HC.out.mono ?_
    rintro e w0 ⟨rfl, hb⟩
    have D0 := Lib.hid (ST.out _ hb)
    clear hb HC ST
    go_wp2_with fail
    go_loopw [5, 6] (fun vi vj wr => ∃ (k m : Nat) (c : Array Value), k ≤ ls.length ∧ m < k ∧ vi = .int .i64 m ∧ vj = .int .i64 k ∧ GpDelAt g cap k m p ls w wr c) (fun _ vj _ => ls.length - (intOf vj).toNat)
    case atStart => exact ⟨i0 + 1, i0, cur, by omega, by omega, rfl, by go_num, D0.out⟩
    case round =>
      obtain ⟨k, m, c, hk, hmk, rfl, rfl, hD⟩ := hrel
      have HD := Lib.hid hD
      by_cases hlt : k < ls.length
      · obtain ⟨l, hl⟩ : ∃ l, ls[k]? = some l := ⟨_, List.getElem?_eq_getElem hlt⟩
        have HL := Lib.hid hl
        obtain ⟨l1, l2⟩ := l
        have hgr := lt_of hD.blk
        have C2 := HP.out (wr.alloc (.cells #[.int .i64 (l1 : Int), .int .i64 (l2 : Int)] 92)) ⟨l1, l2⟩ (hD.touch.then (Touch.of_below ((Below.refl _ _).alloc (Nat.le_refl _) _)))
        have HC2 := Lib.hid C2
        have hbx : ∀ w2, Below (wr.alloc (.cells #[.int .i64 (l1 : Int), .int .i64 (l2 : Int)] 92)).heap.size (wr.alloc (.cells #[.int .i64 (l1 : Int), .int .i64 (l2 : Int)] 92)) w2 →
            w2.heap[g]? = wr.heap[g]? ∧ w2.heap[wr.heap.size]? = some (.cells #[.int .i64 (l1 : Int), .int .i64 (l2 : Int)] 92 (0, 0)) ∧ Touch (fun k => k = g) w w2 := fun w2 hb =>
          ⟨(hb.block g (by simp; omega)).trans (heap_alloc_old _ _ hgr), (hb.block wr.heap.size (by simp)).trans (heap_alloc_new _ _), (hD.touch.then (Touch.of_below ((Below.refl _ _).alloc (Nat.le_refl _) _))).then (Touch.of_below hb)⟩
        have HBX := Lib.hid hbx
        clear hD C2 hl hbx
        have g0 : wr.cell? ⟨g, k * 2, none⟩ = some (.int .i64 (l1 : Int)) := by rw [cell_of HD.out.blk]; exact HD.out.rest k _ (Nat.le_refl _) HL.out 0 (by omega)
        have g1 : wr.cell? ⟨g, k * 2 + 1, none⟩ = some (.int .i64 (l2 : Int)) := by rw [cell_of HD.out.blk]; exact HD.out.rest k _ (Nat.le_refl _) HL.out 1 (by omega)
        cases hpl : p ⟨l1, l2⟩ with
        | true =>
          rw [hpl] at HC2
          have HPL := Lib.hid hpl
          clear hpl
          go_wp2_with fail
          refine HC2.out.mono ?_
          rintro e w2 ⟨rfl, hb2⟩
          obtain ⟨k1, k2, k3⟩ := HBX.out _ hb2
          have DN := Lib.hid (HD.out.skip HL.out HPL.out k1 k3)
          clear hb2 k1 k2 k3
          go_wp2_with fail
          go_roundw
          case rel => exact ⟨k + 1, m, c, by omega, by omega, rfl, by go_num, DN.out⟩
          case measure => simp [intOf]; omega
        | false =>
          rw [hpl] at HC2
          have HPL := Lib.hid hpl
          clear hpl
          go_wp2_with fail
          refine HC2.out.mono ?_
          rintro e w2 ⟨rfl, hb2⟩
          obtain ⟨k1, k2, k3⟩ := HBX.out _ hb2
          obtain ⟨c', DN0⟩ := HD.out.keep HL.out HPL.out hmk hn k1 k3
          have DN := Lib.hid DN0
          have v0 : w2.cell? ⟨wr.heap.size, 0, none⟩ = some (.int .i64 (l1 : Int)) := (cell_of k2 0).trans rfl
          have v1 : w2.cell? ⟨wr.heap.size, 1, none⟩ = some (.int .i64 (l2 : Int)) := (cell_of k2 1).trans rfl
          have hcs := HD.out.size
          have kb := k1.trans HD.out.blk
          have is : ∀ r, r < 2 → ∃ u, w2.cell? ⟨g, m * 2 + r, none⟩ = some u := fun r hr => ⟨_, (cell_of kb _).trans (Array.getElem?_eq_getElem (by omega))⟩
          obtain ⟨u0, m0⟩ := is 0 (by omega)
          obtain ⟨u1, m1⟩ := is 1 (by omega)
          rw [Nat.add_zero] at m0
          have fz : ∀ j, w2.frozen? ⟨g, j, none⟩ = false := fun j => free_of kb j
          clear hb2 k1 k2 k3 kb is DN0 hcs g0 g1
          go_wp2_with fail
          go_roundw
          case rel => exact ⟨k + 1, m + 1, c', by omega, by omega, by go_num, by go_num, DN.out⟩
          case measure => simp [intOf]; omega
      · obtain rfl : k = ls.length := by omega
        have hcs := hD.size
        obtain ⟨zs, z1, z2⟩ := run_clear_g wr 0 g (m * 2) (ls.length - m) (cap - m) (by omega) (fun j hj => by rw [cell_of hD.blk, Array.getElem?_eq_getElem (by omega)]; rfl) (fun j _ => free_of hD.blk _)
        have FIN : Hid (gDelPost g cap (ls.filter fun y => !p y) w (.returned (.slice (some ⟨g, 0, none⟩) m cap)) (wr.setCells g (m * 2) zs)) := Lib.hid (by
          obtain ⟨c2, q1, q2, q3⟩ := block_setCells zs (m * 2) wr c hD.blk (by rw [z1]; omega)
          have hm := hD.cnt
          have hkp := hD.kept
          rw [List.take_length] at hm hkp
          refine ⟨m, hm, rfl, ⟨gcells_len _, Or.inr ⟨g, cap, c2, by rw [hm], Nat.le_refl _, q1, by omega, hcm, q2.trans hcs, ?_⟩⟩, gtouch_set hD.touch _ _⟩
          rw [q3, ← hm, List.append_assoc, List.take_left' (by rw [List.length_take, Array.length_toList]; omega)]
          exact hkp)
        have hcne : ¬ (cap = m) := by omega
        have hmc : m ≤ cap := by omega
        clear hD hcs z1 hlt hk
        go_wp2_with fail
        go_ret
        exact FIN.out

set_option maxHeartbeats 1000000 in
set_option maxRecDepth 100000 in
theorem gdeleteFunc_none (a : Option Addr) (cap : Nat) (fv : Value) (w : World) : Calls Tryz.prog 99 #[.slice a 0 cap, fv] w fun e w' => e = .returned (.slice a 0 cap) ∧ w' = w := by
  have C : ∀ fv W, Calls Tryz.prog 106 #[.slice a 0 cap, fv] W fun e w' => e = .returned (.int .i64 (-1)) ∧ w' = W := fun fv W => by
    go_enter Tryz.func106, Tryz.ntmps106
    go_wp2_with fail
    refine wp_loop_rounds 1 ?_
    rw [rounds_succ]
    go_wp2_with fail
    go_ret
    exact ⟨rfl, rfl⟩
  have HC := Lib.hid C
  clear C
  go_enter Tryz.func99, Tryz.ntmps99
  go_wp2_with fail
  refine (HC.out _ _).mono ?_
  rintro e w' ⟨rfl, hw⟩
  obtain rfl := hw
  go_wp2_with fail
  go_ret
  exact ⟨rfl, rfl⟩

end
end Go.Proofs.YtjogaohnphafgaaGreat

namespace Go.Proofs.YtjogaohnphafgaaGreat
section
open Go.RowKit
set_option linter.unusedVariables false

theorem step_append_known {P : Program} {ops : Array Oper} {o : Oper} {a : Act} {w w' : World} {K : Act → World → Prop} {Q : Exit → Act → World → Prop} {E : Prop} (hg : o.guard = none) (s x : Operand) (t : TypeId)
    (hop : o.op = Op.call { callee := Callee.builtin Builtin.append, args := #[s, x], argTypes := #[t, t] }) (v1 v2 v : Value) (hs : a.eval s = v1) (hx : a.eval x = v2) (hr : (Builtin.append_ #[t, t] o.type #[v1, v2]).run P w = .ok v w') (h : K (a.put o.dst v) w') :
    if Region.wanted o (yielded ops a.tmps) = true then Oper.wp P o a w K Q else E := by
  have hw : Region.wanted o (yielded ops a.tmps) = true := by simp [Region.wanted, hg]
  rw [if_pos hw]
  unfold Oper.wp execOp
  simp only [hop, resolve, invoke, builtin, Sem.run_bind, Sem.run_pure, Result.andThen_ok, List.map_toArray, List.map_cons, List.map_nil, hs, hx, hr]
  exact h

end
end Go.Proofs.YtjogaohnphafgaaGreat
