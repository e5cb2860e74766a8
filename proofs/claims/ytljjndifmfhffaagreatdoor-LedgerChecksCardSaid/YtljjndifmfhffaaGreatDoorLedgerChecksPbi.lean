/-
  slices.DeleteFunc over leases. No conditions but lengths.
-/
import Derived.Test.YtljjndifmfhffaaGreatDoorLedgerChecksPbe
namespace Go.Proofs.YtljjndifmfhffaaGreatDoor
open Go.RowKit
set_option linter.unusedVariables false

theorem idxFirst {p : Lea → Bool} (x : Lea) : ∀ (ls : List Lea) (i : Nat), (Lib.idxByFrom (fun _ y => p y) x ls i = -1 ∧ ∀ y ∈ ls, p y = false) ∨ ∃ k, k < ls.length ∧ Lib.idxByFrom (fun _ y => p y) x ls i = ((i + k : Nat) : Int) ∧ (∃ y, ls[k]? = some y ∧ p y = true) ∧ ∀ y ∈ ls.take k, p y = false
  | [], i => Or.inl ⟨rfl, by simp⟩
  | y :: ls, i => by
    unfold Lib.idxByFrom
    cases h : p y with
    | true => exact Or.inr ⟨0, by simp, by simp, ⟨y, rfl, h⟩, by simp⟩
    | false =>
      simp only [Bool.false_eq_true, if_false]
      rcases idxFirst x ls (i + 1) with ⟨h1, h2⟩ | ⟨k, h1, h2, ⟨z, h3, h4⟩, h5⟩
      · refine Or.inl ⟨h1, ?_⟩
        intro z hz
        rcases List.mem_cons.1 hz with rfl | hz
        · exact h
        · exact h2 z hz
      · refine Or.inr ⟨k + 1, by simp; omega, by rw [h2]; congr 1; omega, ⟨z, by simpa using h3, h4⟩, ?_⟩
        intro q hq
        rw [List.take_succ_cons] at hq
        rcases List.mem_cons.1 hq with rfl | hq
        · exact h
        · exact h5 q hq

def DelFPost (B : Nat) (ls : List Lea) (w : World) : Ending → World → Prop := fun e w' =>
  ∃ v, e = .returned v ∧ w'.ownsRow B 88 4 v ls.length (ls.flatMap Lea.cells) ∧ Below B w w'

/-- What holds between two rounds: m kept of the first k. -/
structure DelAt (g cap k m : Nat) (p : Lea → Bool) (ls : List Lea) (w wr : World) (cur : Array Value) : Prop where
  blk : wr.heap[g]? = some (.cells cur 88 (0, 0))
  size : cur.size = cap * 4
  kept : cur.toList.take (m * 4) = ((ls.take k).filter fun y => !p y).flatMap Lea.cells
  cnt : m = ((ls.take k).filter fun y => !p y).length
  rest : ∀ j l, k ≤ j → ls[j]? = some l → ∀ i, i < 4 → cur[j * 4 + i]? = l.cells[i]?
  below : Below g w wr

theorem DelAt.skip {g cap k m : Nat} {p : Lea → Bool} {ls : List Lea} {w wr wr' : World} {cur : Array Value} (h : DelAt g cap k m p ls w wr cur) {l : Lea} (hl : ls[k]? = some l) (hp : p l = true) (hb : wr'.heap[g]? = wr.heap[g]?) (hB : Below g w wr') : DelAt g cap (k + 1) m p ls w wr' cur := by
  have hf : (ls.take (k + 1)).filter (fun y => !p y) = (ls.take k).filter fun y => !p y := by
    rw [List.take_add_one, List.filter_append, hl]; simp [hp]
  exact ⟨hb.trans h.blk, h.size, by rw [hf]; exact h.kept, by rw [hf]; exact h.cnt, fun j l hj => h.rest j l (by omega), hB⟩
theorem DelAt.keep {g cap k m : Nat} {p : Lea → Bool} {ls : List Lea} {w wr wr' : World} {cur : Array Value} (h : DelAt g cap k m p ls w wr cur) {l : Lea} (hl : ls[k]? = some l) (hp : p l = false) (hmk : m < k) (hcap : ls.length ≤ cap) (hb : wr'.heap[g]? = wr.heap[g]?) (hB : Below g w wr') :
    ∃ c', DelAt g cap (k + 1) (m + 1) p ls w (wr'.setCells g (m * 4) l.cells) c' := by
  have hk : k < ls.length := (List.getElem?_eq_some_iff.1 hl).1
  have hf : (ls.take (k + 1)).filter (fun y => !p y) = ((ls.take k).filter fun y => !p y) ++ [l] := by
    rw [List.take_add_one, List.filter_append, hl]; simp [hp]
  have h4 : l.cells.length = 4 := rfl
  have hcs := h.size
  obtain ⟨c', h1, h2, h3⟩ := block_setCells l.cells (m * 4) wr' cur (hb.trans h.blk) (by rw [h4]; omega)
  refine ⟨c', h1, h2.trans h.size, ?_, ?_, ?_, ?_⟩
  · have e4 : (cur.toList.take (m * 4) ++ l.cells).length = (m + 1) * 4 := by rw [List.length_append, List.length_take, Array.length_toList, h4]; omega
    rw [h3, List.take_left' e4, hf, h.kept]
    simp
  · rw [hf, List.length_append, ← h.cnt]; rfl
  · intro j l' hj hl' i hi
    rw [← Array.getElem?_toList, h3, h4]
    have e5 : (cur.toList.take (m * 4) ++ l.cells).length = m * 4 + 4 := by rw [List.length_append, List.length_take, Array.length_toList, h4]; omega
    rw [List.getElem?_append_right (by omega), e5, List.getElem?_drop, Array.getElem?_toList, ← h.rest j l' (by omega) hl' i hi]
    congr 1; omega
  · refine ⟨?_, ?_, ?_, ?_, ?_⟩
    · rw [(setCells_rest g _ _ _).1]; exact hB.os
    · rw [(setCells_rest g _ _ _).2.1]; exact hB.tape
    · rw [(setCells_rest g _ _ _).2.2]; exact hB.output
    · rw [size_setCells]; exact hB.size
    · intro i hi
      rw [heap_setCells_other g _ _ _ i (by omega)]; exact hB.block i hi

set_option maxHeartbeats 4000000 in
set_option maxRecDepth 100000 in
theorem deleteFunc_row (B g cap : Nat) (ls : List Lea) (f : FuncId) (fv : Array Value) (p : Lea → Bool) (w : World) (hr : w.ownsRow B 88 4 (.slice (some ⟨g, 0, none⟩) ls.length cap) ls.length (ls.flatMap Lea.cells)) (h0 : 0 < ls.length) (hlen : ls.length ≤ 1000000)
    (eg : ∀ args w, (callFunc f args).run Tryz.prog w = .ok (.enter f args) w)
    (hp : ∀ (W : World) (x : Lea), Below g w W → Calls Tryz.prog f (#[.agg #[.int .i64 x.no, .int .i64 x.owner, .int .i64 x.amount, .int .i64 x.untl]] ++ fv) W fun e w' => e = .returned (.bool (p x)) ∧ Below W.heap.size W w') :
    Calls Tryz.prog 60 #[.slice (some ⟨g, 0, none⟩) ls.length cap, .func (.func f) #[] fv] w (DelFPost B (ls.filter fun y => !p y) w) := by
  obtain ⟨g', cap', cur, hv, hB, hg, hn, hcm, hs, ht, hc⟩ := lrow_open hr h0
  simp only [Value.slice.injEq, Option.some.injEq, Addr.mk.injEq, and_true] at hv
  obtain ⟨rfl, _, rfl⟩ := hv
  have hcm' : cap ≤ 9223372036854775807 := by unfold maxLen at hcm; omega
  have C := index_row g cap ls f fv p w eg (lt_of hg) (by omega) hc (fun W x hb => (hp W x (hb.mono (Nat.le_of_lt (lt_of hg)))).mono fun e w' ⟨h1, h2⟩ => ⟨h1, hb.trans (h2.mono hb.size)⟩)
  rcases idxFirst (p := p) default ls 0 with ⟨h1, h2⟩ | ⟨i0, h1, h2, ⟨y0, h3, h4⟩, h5⟩
  · rw [h1] at C
    have HC := Lib.hid C
    have hfil : ls.filter (fun y => !p y) = ls := List.filter_eq_self.2 (fun y hy => by rw [h2 y hy]; rfl)
    rw [hfil]
    have FIN : Hid (∀ w', Below w.heap.size w w' → DelFPost B ls w (.returned (.slice (some ⟨g, 0, none⟩) ls.length cap)) w') := Lib.hid (fun w' hb => ⟨_, rfl, ownsRow_same hr (fun k hk => by
      simp only [Value.ownBlock, Option.some.injEq] at hk; subst hk; exact hb.block g (lt_of hg)), hb.mono (Nat.le_trans hB (Nat.le_of_lt (lt_of hg)))⟩)
    clear C hp hc ht hs hg hr h1 h2 hfil
    go_enter Tryz.func60, Tryz.ntmps60
    go_wp2_with fail
    refine HC.out.mono ?_
    rintro e w' ⟨rfl, hb⟩
    have HB := Lib.hid hb
    clear hb
    go_wp2_with fail
    go_ret
    exact FIN.out _ HB.out
  · rw [h2, Nat.zero_add] at C
    have HC := Lib.hid C
    have hi0 : i0 < ls.length := h1
    have ST : Hid (∀ w', Below w.heap.size w w' → DelAt g cap (i0 + 1) i0 p ls w w' cur) := Lib.hid (fun w' hb => by
      have hf : (ls.take (i0 + 1)).filter (fun y => !p y) = ls.take i0 := by
        rw [List.take_add_one, List.filter_append, List.filter_eq_self.2 (fun y hy => by rw [h5 y hy]; rfl), h3]
        simp [h4]
      refine ⟨(hb.block g (lt_of hg)).trans hg, hs, ?_, ?_, ?_, hb.mono (Nat.le_of_lt (lt_of hg))⟩
      · rw [hf, ← lcells_take, ← ht, List.take_take]; congr 1; omega
      · rw [hf, List.length_take]; omega
      · intro j l _ hj i hi
        have := hc j l hj i hi
        rw [cell_of hg] at this
        exact this)
    have HP := Lib.hid hp
    have hgl := lt_of hg
    have hne1 : ((i0 : Int) == -1) = false := by simp
    clear C hp hc ht hs hg hr h1 h2 h3 h4 h5
    go_enter Tryz.func60, Tryz.ntmps60
    go_wp2_with fail
    refine HC.out.mono ?_
    rintro e w0 ⟨rfl, hb⟩
    have D0 := Lib.hid (ST.out _ hb)
    clear hb HC ST
    go_wp2_with fail
    go_loopw [5, 6] (fun vi vj wr => ∃ (k m : Nat) (c : Array Value), k ≤ ls.length ∧ m < k ∧ vi = .int .i64 m ∧ vj = .int .i64 k ∧ DelAt g cap k m p ls w wr c) (fun _ vj _ => ls.length - (intOf vj).toNat)
    case atStart => exact ⟨i0 + 1, i0, cur, by omega, by omega, rfl, by go_num, D0.out⟩
    case round =>
      obtain ⟨k, m, c, hk, hmk, rfl, rfl, hD⟩ := hrel
      have HD := Lib.hid hD
      by_cases hlt : k < ls.length
      · obtain ⟨l, hl⟩ : ∃ l, ls[k]? = some l := ⟨_, List.getElem?_eq_getElem hlt⟩
        have g0 : wr.cell? ⟨g, k * 4, none⟩ = some (.int .i64 l.no) := by rw [cell_of hD.blk]; exact hD.rest k l (Nat.le_refl _) hl 0 (by omega)
        have g1 : wr.cell? ⟨g, k * 4 + 1, none⟩ = some (.int .i64 l.owner) := by rw [cell_of hD.blk]; exact hD.rest k l (Nat.le_refl _) hl 1 (by omega)
        have g2 : wr.cell? ⟨g, k * 4 + 2, none⟩ = some (.int .i64 l.amount) := by rw [cell_of hD.blk]; exact hD.rest k l (Nat.le_refl _) hl 2 (by omega)
        have g3 : wr.cell? ⟨g, k * 4 + 3, none⟩ = some (.int .i64 l.untl) := by rw [cell_of hD.blk]; exact hD.rest k l (Nat.le_refl _) hl 3 (by omega)
        have HL := Lib.hid hl
        obtain ⟨l1, l2, l3, l4⟩ := l
        have hgr := lt_of hD.blk
        have C2 := HP.out (wr.alloc (.cells #[.int .i64 l1, .int .i64 l2, .int .i64 l3, .int .i64 l4] 88)) ⟨l1, l2, l3, l4⟩ (hD.below.alloc (Nat.le_of_lt hgr) _)
        have HC2 := Lib.hid C2
        have hbx : ∀ w2, Below (wr.alloc (.cells #[.int .i64 l1, .int .i64 l2, .int .i64 l3, .int .i64 l4] 88)).heap.size (wr.alloc (.cells #[.int .i64 l1, .int .i64 l2, .int .i64 l3, .int .i64 l4] 88)) w2 →
            w2.heap[g]? = wr.heap[g]? ∧ w2.heap[wr.heap.size]? = some (.cells #[.int .i64 l1, .int .i64 l2, .int .i64 l3, .int .i64 l4] 88 (0, 0)) ∧ Below g w w2 := fun w2 hb =>
          ⟨(hb.block g (by simp; omega)).trans (heap_alloc_old _ _ hgr), (hb.block wr.heap.size (by simp)).trans (heap_alloc_new _ _), (hD.below.alloc (Nat.le_of_lt hgr) _).trans (hb.mono (by simp; omega))⟩
        have HBX := Lib.hid hbx
        clear hD C2 hl hbx g0 g1 g2 g3
        have g0 : wr.cell? ⟨g, k * 4, none⟩ = some (.int .i64 l1) := by rw [cell_of HD.out.blk]; exact HD.out.rest k _ (Nat.le_refl _) HL.out 0 (by omega)
        have g1 : wr.cell? ⟨g, k * 4 + 1, none⟩ = some (.int .i64 l2) := by rw [cell_of HD.out.blk]; exact HD.out.rest k _ (Nat.le_refl _) HL.out 1 (by omega)
        have g2 : wr.cell? ⟨g, k * 4 + 2, none⟩ = some (.int .i64 l3) := by rw [cell_of HD.out.blk]; exact HD.out.rest k _ (Nat.le_refl _) HL.out 2 (by omega)
        have g3 : wr.cell? ⟨g, k * 4 + 3, none⟩ = some (.int .i64 l4) := by rw [cell_of HD.out.blk]; exact HD.out.rest k _ (Nat.le_refl _) HL.out 3 (by omega)
        cases hpl : p ⟨l1, l2, l3, l4⟩ with
        | true =>
          rw [hpl] at HC2
          have HPL := Lib.hid hpl
          clear hpl
          go_wp2_with fail
          refine HC2.out.mono ?_
          rintro e w2 ⟨rfl, hb2⟩
          obtain ⟨k1, k2, k3⟩ := HBX.out _ hb2
          have DN := Lib.hid (HD.out.skip HL.out HPL.out k1 k3)
          clear hb2 k1 k2 k3
          go_wp2_with fail
          go_roundw
          case rel => exact ⟨k + 1, m, c, by omega, by omega, rfl, by go_num, DN.out⟩
          case measure => simp [intOf]; omega
        | false =>
          rw [hpl] at HC2
          have HPL := Lib.hid hpl
          clear hpl
          go_wp2_with fail
          refine HC2.out.mono ?_
          rintro e w2 ⟨rfl, hb2⟩
          obtain ⟨k1, k2, k3⟩ := HBX.out _ hb2
          obtain ⟨c', DN0⟩ := HD.out.keep HL.out HPL.out hmk hn k1 k3
          have DN := Lib.hid DN0
          have v0 : w2.cell? ⟨wr.heap.size, 0, none⟩ = some (.int .i64 l1) := (cell_of k2 0).trans rfl
          have v1 : w2.cell? ⟨wr.heap.size, 1, none⟩ = some (.int .i64 l2) := (cell_of k2 1).trans rfl
          have v2 : w2.cell? ⟨wr.heap.size, 2, none⟩ = some (.int .i64 l3) := (cell_of k2 2).trans rfl
          have v3 : w2.cell? ⟨wr.heap.size, 3, none⟩ = some (.int .i64 l4) := (cell_of k2 3).trans rfl
          have hcs := HD.out.size
          have kb := k1.trans HD.out.blk
          have is : ∀ r, r < 4 → ∃ u, w2.cell? ⟨g, m * 4 + r, none⟩ = some u := fun r hr => ⟨_, (cell_of kb _).trans (Array.getElem?_eq_getElem (by omega))⟩
          obtain ⟨u0, m0⟩ := is 0 (by omega)
          obtain ⟨u1, m1⟩ := is 1 (by omega)
          obtain ⟨u2, m2⟩ := is 2 (by omega)
          obtain ⟨u3, m3⟩ := is 3 (by omega)
          rw [Nat.add_zero] at m0
          have fz : ∀ j, w2.frozen? ⟨g, j, none⟩ = false := fun j => free_of kb j
          clear hb2 k1 k2 k3 kb is DN0 hcs g0 g1 g2 g3
          go_wp2_with fail
          go_roundw
          case rel => exact ⟨k + 1, m + 1, c', by omega, by omega, by go_num, by go_num, DN.out⟩
          case measure => simp [intOf]; omega
      · obtain rfl : k = ls.length := by omega
        have hcs := hD.size
        obtain ⟨zs, z1, z2⟩ := run_clear_leas wr 0 g (m * 4) (ls.length - m) (cap - m) (by omega) (fun j hj => by rw [cell_of hD.blk, Array.getElem?_eq_getElem (by omega)]; rfl) (fun j _ => free_of hD.blk _)
        have FIN : Hid (DelFPost B (ls.filter fun y => !p y) w (.returned (.slice (some ⟨g, 0, none⟩) m cap)) (wr.setCells g (m * 4) zs)) := Lib.hid (by
          obtain ⟨c2, q1, q2, q3⟩ := block_setCells zs (m * 4) wr c hD.blk (by rw [z1]; omega)
          have hm := hD.cnt
          have hkp := hD.kept
          rw [List.take_length] at hm hkp
          refine ⟨_, rfl, ⟨lcells_len _, Or.inr ⟨g, cap, c2, by rw [hm], hB, q1, by omega, hcm, q2.trans hcs, ?_⟩⟩, ?_⟩
          · rw [q3, ← hm, List.append_assoc, List.take_left' (by rw [List.length_take, Array.length_toList]; omega)]
            exact hkp
          · refine Below.mono (B := g) ⟨?_, ?_, ?_, ?_, ?_⟩ hB
            · rw [(setCells_rest g _ _ _).1]; exact hD.below.os
            · rw [(setCells_rest g _ _ _).2.1]; exact hD.below.tape
            · rw [(setCells_rest g _ _ _).2.2]; exact hD.below.output
            · rw [size_setCells]; exact hD.below.size
            · intro i hi
              rw [heap_setCells_other g _ _ _ i (by omega)]; exact hD.below.block i hi)
        have hcne : ¬ (cap = m) := by omega
        have hmc : m ≤ cap := by omega
        clear hD hcs z1 hlt hk
        go_wp2_with fail
        go_ret
        exact FIN.out

end Go.Proofs.YtljjndifmfhffaaGreatDoor
