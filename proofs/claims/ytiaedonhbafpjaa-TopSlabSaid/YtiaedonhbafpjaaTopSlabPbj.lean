/-
  The sort of slots: its insertion sort, its rotation. No conditions but bounds.
  The sort of slots: symMerge. No conditions but bounds.
-/
import Derived.Test.YtiaedonhbafpjaaTopSlabPbi

namespace Go.Proofs.Ytiaedonhbafpjaa
section
open Go.RowKit Go.Shelf Go.Sort Go.Lib
set_option linter.unusedVariables false

theorem size_insI (lt : Sq → Sq → Bool) (a : Nat) : ∀ (j : Nat) (d : Array Sq), (Sort.insInner lt a j d).size = d.size
  | 0, d => rfl
  | j + 1, d => by
    rw [Sort.insInner]
    split
    · rw [size_insI lt a j, size_swp]
    · rfl
theorem size_insO (lt : Sq → Sq → Bool) (a b : Nat) : ∀ (g i : Nat) (d : Array Sq), b - i ≤ g → (Sort.insOuter lt a b i d).size = d.size
  | 0, i, d, h => by rw [Sort.insOuter, if_neg (by omega)]
  | g + 1, i, d, h => by
    rw [Sort.insOuter]
    split
    · rw [size_insO lt a b g (i + 1) _ (by omega), size_insI]
    · rfl
theorem size_insS (lt : Sq → Sq → Bool) (d : Array Sq) (a b : Nat) : (Sort.insertionSort lt d a b).size = d.size := size_insO lt a b _ (a + 1) d (Nat.le_refl _)

theorem insS_any {w : World} {blk N : Nat} (h : SwIn w blk N) (cap a b m : Nat) (d : Array Sq) (os : Array Obj) (hd : d.size = N) (hab : a ≤ b) (hb : b ≤ N) :
    Calls Try.prog 68 #[.slice (some ⟨blk, 0, none⟩) N cap, .int .i64 (a : Int), .int .i64 (b : Int), .func (.func 40) #[] #[]] (SW w blk m d os) (SwPost w blk N) := by
  have eg : ∀ args w, (callFunc 40 args).run Try.prog w = .ok (.enter 40 args) w := enters_of Try.func40 (by kernel_rfl) rfl
  have C := AnyQ.insertionSortCmpFunc laysIns 4 Try.isAgg37 Try.sizeOf37 Sq.cells (fun _ => rfl) Sq.one (fun x y => Lib.compareInt x.cls y.cls) 40 #[] blk 0 cap a b d (SW w blk m d os) eg (fun m' os' dk _ x y => by
    have := slotsC x y (sortWorldK Sq.cells 4 (SW w blk m d os) blk 0 m' dk os')
    exact this) (h.holds hd) (Nat.lt_of_lt_of_le h.blk (size_sortWorldK_c Sq.cells 4 w blk 0 m d os)) hab (by rw [hd]; exact hb) (by have := h.sz; rw [hd]; omega)
  rw [hd] at C
  refine C.mono ?_
  rintro e w' ⟨rfl, n, os', rfl⟩
  have hz := size_insS (ltOf fun (x y : Sq) => Lib.compareInt x.cls y.cls) d a b
  exact ⟨rfl, m + n, Sort.insertionSort (ltOf fun (x y : Sq) => Lib.compareInt x.cls y.cls) d a b, os ++ os', hz.trans hd, grow_step_growK Sq.cells 4 w os os' m n blk 0 d _ h.blk hz⟩

set_option maxHeartbeats 4000000 in
set_option maxRecDepth 1000000 in
theorem rotR_any {w : World} {blk N : Nat} (h : SwIn w blk N) (cap : Nat) (fv : Value) (a mm b m : Nat) (d : Array Sq) (os : Array Obj) (hd : d.size = N) (ha : a < mm) (hb : mm < b) (hbN : b ≤ N) :
    Calls Try.prog 73 #[.slice (some ⟨blk, 0, none⟩) N cap, .int .i64 (a : Int), .int .i64 (mm : Int), .int .i64 (b : Int), fv] (SW w blk m d os) (SwPost w blk N) := by
  have SWP := Lib.hid (fun (a b n m : Nat) (d : Array Sq) (os : Array Obj) (hd : d.size = N) (ha : a + n ≤ N) (hb : b + n ≤ N) => swapR_any h cap fv a b n m d os hd ha hb)
  have hsz := h.sz
  clear h
  go_enter Try.func73, Try.ntmps73
  go_wp2_with fail
  go_loopw [10, 11] (fun u v wr => ∃ (i j m : Nat) (d : Array Sq) (os : Array Obj), u = .int .i64 (i : Int) ∧ v = .int .i64 (j : Int) ∧ 1 ≤ i ∧ i ≤ mm - a ∧ 1 ≤ j ∧ j ≤ b - mm ∧ d.size = N ∧ wr = SW w blk m d os) (fun u v _ => (intOf u).toNat + (intOf v).toNat)
  case atStart => exact ⟨mm - a, b - mm, m, d, os, by go_num, by go_num, by omega, by omega, by omega, by omega, hd, rfl⟩
  case round =>
    obtain ⟨i, j, m, d, os, rfl, rfl, hi1, hi2, hj1, hj2, hd, rfl⟩ := hrel
    by_cases he : i = j
    · subst he
      have C := Lib.hid (SWP.out (mm - i) mm i m d os hd (by omega) (by omega))
      have e1 : (mm : Int) - (i : Int) = ((mm - i : Nat) : Int) := by omega
      go_wp2_with fail
      refine C.out.mono ?_
      rintro e w2 ⟨rfl, hp⟩
      have HP := Lib.hid hp
      clear hp C
      go_wp2_with fail
      go_end0
      exact ⟨rfl, HP.out⟩
    · have hne : ¬ (i : Int) = (j : Int) := by omega
      by_cases hgt : j < i
      · have hgt' : (j : Int) < (i : Int) := by omega
        have C := Lib.hid (SWP.out (mm - i) mm j m d os hd (by omega) (by omega))
        have e1 : (mm : Int) - (i : Int) = ((mm - i : Nat) : Int) := by omega
        have e2 : (i : Int) - (j : Int) = ((i - j : Nat) : Int) := by omega
        go_wp2_with fail
        refine C.out.mono ?_
        rintro e w2 ⟨rfl, m2, d2, os2, hd2, rfl⟩
        clear C
        go_wp2_with fail
        go_roundw
        case measure => simp only [intOf]; omega
        case rel => exact ⟨i - j, j, m2, d2, os2, by go_num, rfl, by omega, by omega, hj1, hj2, hd2, rfl⟩
      · have hgt' : ¬ (j : Int) < (i : Int) := by omega
        have C := Lib.hid (SWP.out (mm - i) (mm + j - i) i m d os hd (by omega) (by omega))
        have e1 : (mm : Int) - (i : Int) = ((mm - i : Nat) : Int) := by omega
        have e2 : (mm : Int) + (j : Int) - (i : Int) = ((mm + j - i : Nat) : Int) := by omega
        have e3 : (j : Int) - (i : Int) = ((j - i : Nat) : Int) := by omega
        go_wp2_with fail
        refine C.out.mono ?_
        rintro e w2 ⟨rfl, m2, d2, os2, hd2, rfl⟩
        clear C
        go_wp2_with fail
        go_roundw
        case measure => simp only [intOf]; omega
        case rel => exact ⟨i, j - i, m2, d2, os2, rfl, by go_num, hi1, hi2, by omega, by omega, hd2, rfl⟩

end
end Go.Proofs.Ytiaedonhbafpjaa

namespace Go.Proofs.Ytiaedonhbafpjaa
section
open Go.RowKit Go.Shelf Go.Sort Go.Lib
set_option linter.unusedVariables false

theorem cmp_grown {x y : Sq} (W : World) (n : Nat) (os : Array Obj) :
    Calls Try.prog 40 #[.agg #[.int .i64 x.cls, .int .i64 x.no, .int .i64 x.at', .int .i64 x.gen], .agg #[.int .i64 y.cls, .int .i64 y.no, .int .i64 y.at', .int .i64 y.gen]] (grow (W.drewN n) os) fun e w'' => e = .returned (.int .i64 (Lib.compareInt x.cls y.cls)) ∧ ∃ p : GrownBy, w'' = grow (W.drewN p.n) p.os :=
  Calls.grown_of (slotsC x y _)

theorem SwIn.lt {w : World} {blk N : Nat} (h : SwIn w blk N) (m : Nat) (d : Array Sq) (os : Array Obj) : blk < (SW w blk m d os).heap.size := Nat.lt_of_lt_of_le h.blk (size_sortWorldK_c Sq.cells 4 w blk 0 m d os)
/-- The cells of a slot, in every world that a reading region may pass. -/
theorem SwIn.reads {w : World} {blk N : Nat} (h : SwIn w blk N) {m : Nat} {d : Array Sq} {os : Array Obj} (hd : d.size = N) {i : Nat} (hi : i < N) :
    (∀ n os', (grow ((SW w blk m d os).drewN n) os').cell? ⟨blk, i * 4, none⟩ = some (.int .i64 d[i]!.cls)) ∧ (∀ n os', (grow ((SW w blk m d os).drewN n) os').cell? ⟨blk, i * 4 + 1, none⟩ = some (.int .i64 d[i]!.no)) ∧
    (∀ n os', (grow ((SW w blk m d os).drewN n) os').cell? ⟨blk, i * 4 + 2, none⟩ = some (.int .i64 d[i]!.at')) ∧ (∀ n os', (grow ((SW w blk m d os).drewN n) os').cell? ⟨blk, i * 4 + 3, none⟩ = some (.int .i64 d[i]!.gen)) := by
  obtain ⟨c0, c1, c2, c3⟩ := slot_cells (h.holds (m := m) (os := os) hd) (i := i) (by omega)
  have hl := h.lt m d os
  exact ⟨fun n os' => cell_grown hl c0 n os', fun n os' => cell_grown hl c1 n os', fun n os' => cell_grown hl c2 n os', fun n os' => cell_grown hl c3 n os'⟩
theorem sw_grown (w : World) (blk m n : Nat) (d : Array Sq) (os os' : Array Obj) : grow ((SW w blk m d os).drewN n) os' = SW w blk (m + n) d (os ++ os') := sortWorldK_grown_c Sq.cells 4 w blk 0 m n d os os'

set_option maxHeartbeats 8000000 in
set_option maxRecDepth 1000000 in
theorem symM1_any {w : World} {blk N : Nat} (h : SwIn w blk N) (cap a mm b m : Nat) (d : Array Sq) (os : Array Obj) (hd : d.size = N) (ha : a < mm) (hb : mm < b) (hbN : b ≤ N) (h1 : mm - a = 1) :
    Calls Try.prog 69 #[.slice (some ⟨blk, 0, none⟩) N cap, .int .i64 (a : Int), .int .i64 (mm : Int), .int .i64 (b : Int), .func (.func 40) #[] #[]] (SW w blk m d os) (SwPost w blk N) := by
  have HI := Lib.hid h
  have mixed : Try.prog.follows .mixedOrders = true := by kernel_rfl
  have hsz := h.sz
  clear h
  go_enter Try.func69, Try.ntmps69
  have e1 : (mm : Int) - (a : Int) = 1 := by omega
  go_wp2_with fail
  go_loopw [10, 11] (fun u v wr => ∃ (i j m : Nat) (d : Array Sq) (os : Array Obj), u = .int .i64 (i : Int) ∧ v = .int .i64 (j : Int) ∧ mm ≤ i ∧ i ≤ j ∧ j ≤ b ∧ d.size = N ∧ wr = SW w blk m d os) (fun u v _ => (intOf v).toNat - (intOf u).toNat)
  case atStart => exact ⟨mm, b, m, d, os, rfl, rfl, Nat.le_refl _, by omega, Nat.le_refl _, hd, rfl⟩
  case round =>
    obtain ⟨i, j, m, d, os, rfl, rfl, hi1, hij, hj2, hd, rfl⟩ := hrel
    by_cases hlt : i < j
    · have hlt' : (i : Int) < (j : Int) := by omega
      obtain ⟨hh, ehh⟩ : ∃ hh : Nat, (i + j) / 2 = hh := ⟨_, rfl⟩
      have eh : ((i : Int) + (j : Int)) / 2 = (hh : Int) := by omega
      have hh1 : i ≤ hh := by omega
      have hh2 : hh < j := by omega
      obtain ⟨c0, c1, c2, c3⟩ := HI.out.reads (m := m) (os := os) hd (i := hh) (by omega)
      obtain ⟨d0, d1, d2, d3⟩ := HI.out.reads (m := m) (os := os) hd (i := a) (by omega)
      have CMP := Lib.hid (fun n os' => cmp_grown (x := d[hh]!) (y := d[a]!) (SW w blk m d os) n os')
      have GR := Lib.hid (fun n os' => sw_grown w blk m n d os os')
      generalize d[hh]! = x at *
      generalize d[a]! = y at *
      generalize SW w blk m d os = W at c0 c1 c2 c3 d0 d1 d2 d3 CMP GR ⊢
      generalize Lib.compareInt x.cls y.cls = cv at *
      have z1 : (hh : Int) < (N : Int) := by omega
      have z2 : (a : Int) < (N : Int) := by omega
      have z3 : hh < N := by omega
      have z4 : a < N := by omega
      clear ehh
      go_upto_region 5 with fail
      by_cases hc : cv < 0
      · go_quiet_grown (first | (go_at_call 40; exact CMP.out _ _))
        go_wp2_with fail
        go_roundw
        case measure => simp only [intOf]; omega
        case rel => exact ⟨hh + 1, j, _, d, _, by go_num, rfl, by omega, by omega, hj2, hd, GR.out _ _⟩
      · go_quiet_grown (first | (go_at_call 40; exact CMP.out _ _))
        go_wp2_with fail
        go_roundw
        case measure => simp only [intOf]; omega
        case rel => exact ⟨i, hh, _, d, _, rfl, by go_num, hi1, by omega, by omega, hd, GR.out _ _⟩
    · have hlt' : ¬ (i : Int) < (j : Int) := by omega
      have hib : i ≤ b := by omega
      clear hij hj2 hlt
      go_wp2_with fail
      go_loopw [13] (fun u wr => ∃ (k m : Nat) (d : Array Sq) (os : Array Obj), u = .int .i64 (k : Int) ∧ a ≤ k ∧ k + 1 ≤ i ∧ d.size = N ∧ wr = SW w blk m d os) (fun u _ => i - (intOf u).toNat)
      case atStart => exact ⟨a, m, d, os, rfl, Nat.le_refl _, by omega, hd, rfl⟩
      case round =>
        obtain ⟨k, m, d, os, rfl, hk1, hk2, hd, rfl⟩ := hrel
        by_cases hkl : k + 1 < i
        · have hkl' : (k : Int) < (i : Int) - 1 := by omega
          have HH := HI.out.holds (m := m) (os := os) hd
          obtain ⟨xa, hxa⟩ : ∃ x, d[k]! = x := ⟨_, rfl⟩
          obtain ⟨xb, hxb⟩ : ∃ x, d[k + 1]! = x := ⟨_, rfl⟩
          obtain ⟨c0, c1, c2, c3⟩ := slot_cells HH (i := k + 1) (by omega)
          obtain ⟨d0, d1, d2, d3⟩ := slot_cells HH (i := k) (by omega)
          obtain ⟨_, _, _, _, p0, p1, p2, p3, f0, f1, f2, f3⟩ := slot_ats (F := flatK Sq.cells 4 d) HH (i := k) (by rw [size_flatK]; omega)
          obtain ⟨h2, DN⟩ := swap_facts HI.out m d os hd (k) (k + 1) (by omega) (by omega)
          obtain ⟨u0, u1, u2, u3, q0, q1, q2, q3, k0, k1, k2, k3⟩ := slot_ats h2 (i := k + 1) (by rw [size_setMany, size_flatK]; omega)
          rw [hxa, hxb] at DN
          rw [hxb] at q0 q1 q2 q3 k0 k1 k2 k3
          rw [hxb] at c0 c1 c2 c3
          rw [hxa] at d0 d1 d2 d3
          have DONE := Lib.hid DN
          clear DN h2 p0 p1 p2 p3
          generalize SW w blk m d os = W at c0 c1 c2 c3 d0 d1 d2 d3 f0 f1 f2 f3 q0 q1 q2 q3 k0 k1 k2 k3 DONE ⊢
          clear HH hxa hxb hd
          have zp1 : (((k : Nat)) : Int) < (N : Int) := by omega
          have zp2 : (((k + 1 : Nat)) : Int) < (N : Int) := by omega
          go_upto_region 11 with fail
          have S0 : (fun y : World => y = W.drew) W.drew := rfl
          have b0 : ∀ y : WIn (fun y : World => y = W.drew), y.w.cell? ⟨blk, (k + 1) * 4, none⟩ = some (.int .i64 xb.cls) := fun y => by rw [y.h]; exact c0
          have a0 : ∀ y : WIn (fun y : World => y = W.drew), y.w.cell? ⟨blk, (k) * 4, none⟩ = some (.int .i64 xa.cls) := fun y => by rw [y.h]; exact d0
          have b1 : ∀ y : WIn (fun y : World => y = W.drew), y.w.cell? ⟨blk, (k + 1) * 4 + 1, none⟩ = some (.int .i64 xb.no) := fun y => by rw [y.h]; exact c1
          have a1 : ∀ y : WIn (fun y : World => y = W.drew), y.w.cell? ⟨blk, (k) * 4 + 1, none⟩ = some (.int .i64 xa.no) := fun y => by rw [y.h]; exact d1
          have b2 : ∀ y : WIn (fun y : World => y = W.drew), y.w.cell? ⟨blk, (k + 1) * 4 + 2, none⟩ = some (.int .i64 xb.at') := fun y => by rw [y.h]; exact c2
          have a2 : ∀ y : WIn (fun y : World => y = W.drew), y.w.cell? ⟨blk, (k) * 4 + 2, none⟩ = some (.int .i64 xa.at') := fun y => by rw [y.h]; exact d2
          have b3 : ∀ y : WIn (fun y : World => y = W.drew), y.w.cell? ⟨blk, (k + 1) * 4 + 3, none⟩ = some (.int .i64 xb.gen) := fun y => by rw [y.h]; exact c3
          have a3 : ∀ y : WIn (fun y : World => y = W.drew), y.w.cell? ⟨blk, (k) * 4 + 3, none⟩ = some (.int .i64 xa.gen) := fun y => by rw [y.h]; exact d3
          haveI ne : Nonempty (WIn (fun y : World => y = W.drew)) := ⟨⟨W.drew, S0⟩⟩
          refine wp_normal ?_
          refine wp_region_plan 15 (fun y : World => y = W.drew) rfl ?_
          refine wpN_pure [0, 1, 2, 3, 4, 5, 6, 7, 8, 10, 11, 12] (by kernel_rfl) (by kernel_rfl) (by kernel_rfl) (fun _ _ _ _ _ h => h) (fun _ => S0) ?_
          simp only [pick, List.map_cons, List.map_nil, List.getElem?_cons_succ, List.getElem?_cons_zero, Option.getD_some]
          repeat (go_big_quiet_step (fail))
          refine wpQuiet_nil ?_
          refine wpN_segX [9, 13, 15] [9, 13] (by kernel_rfl) (by kernel_rfl) (by kernel_rfl) (by kernel_rfl) (by decide) (fun _ _ _ _ _ h => h) S0 ?_
          simp only [pick, List.map_cons, List.map_nil, List.getElem?_cons_succ, List.getElem?_cons_zero, Option.getD_some]
          repeat (go_big_quiet_step (fail))
          refine wpQuiet_nil ?_
          clear b0 b1 b2 b3 a0 a1 a2 a3 ne c0 c1 c2 c3
          refine wpN_pure [14] (by kernel_rfl) (by kernel_rfl) (by kernel_rfl) (fun _ _ _ _ _ h => h) (fun _ => S0) ?_
          simp only [pick, List.map_cons, List.map_nil, List.getElem?_cons_succ, List.getElem?_cons_zero, Option.getD_some]
          repeat (go_big_quiet_step (fail))
          refine wpQuiet_nil ?_
          refine wpN_one 15 _ (by kernel_rfl) rfl ?_
          refine NextAt.free (by kernel_rfl) ?_
          intro K hK
          go_simp
          refine hK _ _ ?_
          clear hK K
          have eX : put4 W.drew blk (k) xb = ((((W.setCell ⟨blk, (k) * 4, none⟩ (.int .i64 xb.cls)).setCell ⟨blk, (k) * 4 + 1, none⟩ (.int .i64 xb.no)).setCell ⟨blk, (k) * 4 + 2, none⟩ (.int .i64 xb.at')).setCell ⟨blk, (k) * 4 + 3, none⟩ (.int .i64 xb.gen)).drew := rfl
          rw [← eX]
          clear eX
          generalize put4 W.drew blk (k) xb = W1 at *
          clear S0 d0 d1 d2 d3 f0 f1 f2 f3
          refine wpN_pure [16] (by kernel_rfl) (by kernel_rfl) (by kernel_rfl) (fun _ _ _ _ _ h => h) (fun h => by cases h) ?_
          simp only [pick, List.map_cons, List.map_nil, List.getElem?_cons_succ, List.getElem?_cons_zero, Option.getD_some]
          repeat (go_big_quiet_step (fail))
          refine wpQuiet_nil ?_
          refine wpN_one 17 _ (by kernel_rfl) rfl ?_
          refine NextAt.free (by kernel_rfl) ?_
          intro K hK
          go_simp
          refine hK _ _ ?_
          clear hK K
          refine wpN_done (by kernel_rfl) ?_
          go_wp2_with fail
          go_roundw
          case measure => simp only [intOf]; omega
          case rel => exact ⟨k + 1, m + 1, _, os, by go_num, by omega, by omega, DONE.out.2, DONE.out.1⟩
        · have hkl' : ¬ (k : Int) < (i : Int) - 1 := by omega
          go_wp2_with fail
          go_end0
          exact ⟨rfl, m, d, os, hd, rfl⟩

end
end Go.Proofs.Ytiaedonhbafpjaa
