/-
  The sort of slots: its comparison, its insertion sort, its swaps. No conditions but bounds.
-/
import Derived.Test.YtiaedonhbafpjaaTopSlabPbh
import Derived.Test.YtiaedonhbafpjaaTopSlabPao
import Derived.Shelf.SlSortCmp.InsertionK
namespace Go.Proofs.Ytiaedonhbafpjaa
open Go.RowKit Go.Shelf Go.Sort Go.Lib
set_option linter.unusedVariables false

/-- A slot: four numbers. -/
structure Sq where
  cls : Int
  no : Int
  at' : Int
  gen : Int
  deriving Inhabited
def Sq.cells (x : Sq) : List Value := [.int .i64 x.cls, .int .i64 x.no, .int .i64 x.at', .int .i64 x.gen]
theorem Sq.one (x : Sq) : ∀ v ∈ x.cells, v.oneCell' = true := fun v hv => by
  simp [Sq.cells] at hv
  rcases hv with rfl | rfl | rfl | rfl <;> rfl

def insRen : Go.Shelf.Ren := ⟨fun | 20 => 68 | n => n, fun | 22 => 31 | 24 => 37 | 25 => 85 | n => n, fun | n => n⟩
theorem laysIns : Go.Proofs.SlLaysF0.n20 Try.prog insRen := {
  mixed := by kernel_rfl
  f20 := ⟨Try.f68.name, by decide, Try.func68.trans (congrArg some (by kernel_rfl))⟩
  t0 := Try.underlying0
  a0 := Try.isAgg0
  z0 := Try.sizeOf0
  v0 := Try.zeroValue0
  t3 := Try.underlying3
  a3 := Try.isAgg3
  z3 := Try.sizeOf3
  v3 := Try.zeroValue3
  t4 := Try.underlying4
  a4 := Try.isAgg4
  z4 := Try.sizeOf4
  v4 := Try.zeroValue4
  t22 := Try.underlying31
  a22 := Try.isAgg31
  z22 := Try.sizeOf31
  v22 := Try.zeroValue31
  t25 := Try.underlying85
  a25 := Try.isAgg85
  z25 := Try.sizeOf85
  v25 := Try.zeroValue85 }

set_option maxHeartbeats 4000000 in
set_option maxRecDepth 100000 in
theorem slotsC (x y : Sq) (W : World) :
    Calls Try.prog 40 #[.agg x.cells.toArray, .agg y.cells.toArray] W fun e w' => e = .returned (.int .i64 (Lib.compareInt x.cls y.cls)) ∧ ∃ q os', w' = grow (W.drewN q) os' := by
  have HCON := Lib.hid (fun (W' : World) => Try.cmp_Compare_int x.cls y.cls W')
  obtain ⟨x1, x2, x3, x4⟩ := x
  obtain ⟨y1, y2, y3, y4⟩ := y
  unfold Sq.cells
  go_enter Try.func40, Try.ntmps40
  go_upto_region 1 with fail
  have hG : (W.alloc (.cells #[.int .i64 x1, .int .i64 x2, .int .i64 x3, .int .i64 x4] 37)).alloc (.cells #[.int .i64 y1, .int .i64 y2, .int .i64 y3, .int .i64 y4] 37) = grow W #[.cells #[.int .i64 x1, .int .i64 x2, .int .i64 x3, .int .i64 x4] 37, .cells #[.int .i64 y1, .int .i64 y2, .int .i64 y3, .int .i64 y4] 37] := by
    rw [alloc_eq_grow, alloc_eq_grow, grow_grow]; rfl
  have b1 : ((W.alloc (.cells #[.int .i64 x1, .int .i64 x2, .int .i64 x3, .int .i64 x4] 37)).alloc (.cells #[.int .i64 y1, .int .i64 y2, .int .i64 y3, .int .i64 y4] 37)).heap[W.heap.size]? = some (.cells #[.int .i64 x1, .int .i64 x2, .int .i64 x3, .int .i64 x4] 37 (0, 0)) := (heap_alloc_old _ _ (by simp)).trans (heap_alloc_new W _)
  have b2 : ((W.alloc (.cells #[.int .i64 x1, .int .i64 x2, .int .i64 x3, .int .i64 x4] 37)).alloc (.cells #[.int .i64 y1, .int .i64 y2, .int .i64 y3, .int .i64 y4] 37)).heap[W.heap.size + 1]? = some (.cells #[.int .i64 y1, .int .i64 y2, .int .i64 y3, .int .i64 y4] 37 (0, 0)) := by
    have := heap_alloc_new (W.alloc (.cells #[.int .i64 x1, .int .i64 x2, .int .i64 x3, .int .i64 x4] 37)) (.cells #[.int .i64 y1, .int .i64 y2, .int .i64 y3, .int .i64 y4] 37)
    simpa using this
  have HG := Lib.hid hG
  clear hG
  generalize ((W.alloc (.cells #[.int .i64 x1, .int .i64 x2, .int .i64 x3, .int .i64 x4] 37)).alloc (.cells #[.int .i64 y1, .int .i64 y2, .int .i64 y3, .int .i64 y4] 37)) = W2 at *
  obtain ⟨c0, _, _, _⟩ := cells4 b1
  obtain ⟨d0, _, _, _⟩ := cells4 b2
  generalize W.heap.size = sz at *
  go_wp2_with fail
  refine (HCON.out W2).mono ?_
  rintro e w3 ⟨rfl, hw⟩
  obtain rfl := hw.symm
  clear hw
  go_wp2_with fail
  go_ret
  refine ⟨rfl, 0, _, HG.out⟩

/-- What holds of the row while it is sorted. -/
abbrev SW (w : World) (blk : Nat) (m : Nat) (d : Array Sq) (os : Array Obj) : World := sortWorldK Sq.cells 4 w blk 0 m d os
def SwPost (w : World) (blk n : Nat) : Ending → World → Prop := fun e w' => e = .returned (.tuple #[]) ∧ ∃ (m : Nat) (d : Array Sq) (os : Array Obj), d.size = n ∧ w' = SW w blk m d os
structure SwIn (w : World) (blk n : Nat) : Prop where
  d : ∃ d : Array Sq, d.size = n ∧ HoldsK Sq.cells 4 w blk 0 d
  blk : blk < w.heap.size
  sz : n ≤ 1000000

theorem SwIn.holds {w : World} {blk n : Nat} (h : SwIn w blk n) {m : Nat} {d : Array Sq} {os : Array Obj} (hd : d.size = n) : HoldsK Sq.cells 4 (SW w blk m d os) blk 0 d := by
  obtain ⟨d0, h0, hH⟩ := h.d
  exact holdsK_sortWorldK_c Sq.cells 4 w blk 0 d0 d m os hH h.blk (by rw [hd, h0])

theorem slot_cells {W : World} {blk : Nat} {d : Array Sq} {i : Nat} (h : HoldsK Sq.cells 4 W blk 0 d) (hi : i < d.size) :
    W.cell? ⟨blk, i * 4, none⟩ = some (.int .i64 d[i]!.cls) ∧ W.cell? ⟨blk, i * 4 + 1, none⟩ = some (.int .i64 d[i]!.no) ∧ W.cell? ⟨blk, i * 4 + 2, none⟩ = some (.int .i64 d[i]!.at') ∧ W.cell? ⟨blk, i * 4 + 3, none⟩ = some (.int .i64 d[i]!.gen) := by
  have key := fun c v hv => HoldsK.cells h (fun _ => rfl) (i := i) hi c v hv
  have e := fun c => (by simp [Addr.add] : (⟨blk, 0 + i * 4, none⟩ : Addr).add c = ⟨blk, i * 4 + c, none⟩)
  simp only [e] at key
  exact ⟨key 0 _ rfl, key 1 _ rfl, key 2 _ rfl, key 3 _ rfl⟩
theorem slot_at {W : World} {blk : Nat} {F : Array Value} {i : Nat} (h : Holds id W blk 0 F) (hi : i * 4 + 4 ≤ F.size) (j : Nat) (hj : j < 4) : (∃ v, W.cell? ⟨blk, i * 4 + j, none⟩ = some v) ∧ W.frozen? ⟨blk, i * 4 + j, none⟩ = false := by
  have := h (i * 4 + j) (by omega)
  rw [Nat.zero_add] at this
  exact ⟨⟨_, this.1⟩, this.2⟩
theorem slot_ats {W : World} {blk : Nat} {F : Array Value} {i : Nat} (h : Holds id W blk 0 F) (hi : i * 4 + 4 ≤ F.size) :
    ∃ u0 u1 u2 u3, W.cell? ⟨blk, i * 4, none⟩ = some u0 ∧ W.cell? ⟨blk, i * 4 + 1, none⟩ = some u1 ∧ W.cell? ⟨blk, i * 4 + 2, none⟩ = some u2 ∧ W.cell? ⟨blk, i * 4 + 3, none⟩ = some u3 ∧
      W.frozen? ⟨blk, i * 4, none⟩ = false ∧ W.frozen? ⟨blk, i * 4 + 1, none⟩ = false ∧ W.frozen? ⟨blk, i * 4 + 2, none⟩ = false ∧ W.frozen? ⟨blk, i * 4 + 3, none⟩ = false := by
  obtain ⟨⟨u0, h0⟩, f0⟩ := slot_at h hi 0 (by decide)
  obtain ⟨⟨u1, h1⟩, f1⟩ := slot_at h hi 1 (by decide)
  obtain ⟨⟨u2, h2⟩, f2⟩ := slot_at h hi 2 (by decide)
  obtain ⟨⟨u3, h3⟩, f3⟩ := slot_at h hi 3 (by decide)
  exact ⟨u0, u1, u2, u3, h0, h1, h2, h3, f0, f1, f2, f3⟩
def put4 (W : World) (blk i : Nat) (x : Sq) : World := (((W.setCell ⟨blk, i * 4, none⟩ (.int .i64 x.cls)).setCell ⟨blk, i * 4 + 1, none⟩ (.int .i64 x.no)).setCell ⟨blk, i * 4 + 2, none⟩ (.int .i64 x.at')).setCell ⟨blk, i * 4 + 3, none⟩ (.int .i64 x.gen)
theorem put4_eq (W : World) (blk i : Nat) (x : Sq) : put4 W blk i x = W.setCells blk (0 + i * 4) x.cells := by
  rw [Nat.zero_add]
  rfl
/-- Two slots of the row are exchanged: what each of the two stores wants, and what it comes to. -/
theorem swap_facts {w : World} {blk N : Nat} (h : SwIn w blk N) (m : Nat) (d : Array Sq) (os : Array Obj) (hd : d.size = N) (i j : Nat) (hi : i < N) (hj : j < N) :
    Holds id (put4 (SW w blk m d os).drew blk i d[j]!) blk 0 (setMany (flatK Sq.cells 4 d) (i * 4) d[j]!.cells) ∧ put4 (put4 (SW w blk m d os).drew blk i d[j]!) blk j d[i]! = SW w blk (m + 1) (swp d i j) os ∧ (swp d i j).size = N := by
  have HHd : HoldsK Sq.cells 4 (SW w blk m d os).drew blk 0 d := h.holds (m := m) (os := os) hd
  have bnd : i * 4 + (d[j]!.cells).length ≤ (flatK Sq.cells 4 d).size := by rw [size_flatK, hd]; show i * 4 + 4 ≤ _; omega
  refine ⟨?_, ?_, by rw [size_swp]; exact hd⟩
  · rw [put4_eq]
    exact holds_setCells_c HHd (i * 4) d[j]!.cells bnd
  · rw [put4_eq, put4_eq]
    exact sortWorldK_swp_c Sq.cells 4 w blk 0 (fun _ => rfl) m d os h.blk i j (by omega) (by omega)

set_option maxHeartbeats 4000000 in
set_option maxRecDepth 1000000 in
theorem swapR_any {w : World} {blk N : Nat} (h : SwIn w blk N) (cap : Nat) (fv : Value) (a b n m : Nat) (d : Array Sq) (os : Array Obj) (hd : d.size = N) (ha : a + n ≤ N) (hb : b + n ≤ N) :
    Calls Try.prog 74 #[.slice (some ⟨blk, 0, none⟩) N cap, .int .i64 (a : Int), .int .i64 (b : Int), .int .i64 (n : Int), fv] (SW w blk m d os) (SwPost w blk N) := by
  have HI := Lib.hid h
  have hsz := h.sz
  clear h
  go_enter Try.func74, Try.ntmps74
  go_wp2_with fail
  go_loopw [10] (fun v wr => ∃ (i m : Nat) (d : Array Sq) (os : Array Obj), v = .int .i64 (i : Int) ∧ i ≤ n ∧ d.size = N ∧ wr = SW w blk m d os) (fun v _ => n - (intOf v).toNat)
  case atStart => exact ⟨0, m, d, os, rfl, Nat.zero_le _, hd, rfl⟩
  case round =>
    obtain ⟨i, m, d, os, rfl, hi, hd, rfl⟩ := hrel
    by_cases hlt : i < n
    · have HH := HI.out.holds (m := m) (os := os) hd
      have HHd : HoldsK Sq.cells 4 (SW w blk m d os).drew blk 0 d := HH
      obtain ⟨xa, hxa⟩ : ∃ x, d[a + i]! = x := ⟨_, rfl⟩
      obtain ⟨xb, hxb⟩ : ∃ x, d[b + i]! = x := ⟨_, rfl⟩
      obtain ⟨c0, c1, c2, c3⟩ := slot_cells HH (i := b + i) (by omega)
      obtain ⟨d0, d1, d2, d3⟩ := slot_cells HH (i := a + i) (by omega)
      obtain ⟨_, _, _, _, p0, p1, p2, p3, f0, f1, f2, f3⟩ := slot_ats (F := flatK Sq.cells 4 d) HH (i := a + i) (by rw [size_flatK]; omega)
      obtain ⟨h2, DN⟩ := swap_facts HI.out m d os hd (a + i) (b + i) (by omega) (by omega)
      obtain ⟨u0, u1, u2, u3, q0, q1, q2, q3, k0, k1, k2, k3⟩ := slot_ats h2 (i := b + i) (by rw [size_setMany, size_flatK]; omega)
      rw [hxa, hxb] at DN
      rw [hxb] at q0 q1 q2 q3 k0 k1 k2 k3
      rw [hxb] at c0 c1 c2 c3
      rw [hxa] at d0 d1 d2 d3
      have DONE := Lib.hid DN
      clear DN h2 p0 p1 p2 p3
      generalize SW w blk m d os = W at *
      clear HH HHd hxa hxb hd
      have mixed : Try.prog.follows .mixedOrders = true := by kernel_rfl
      go_upto_region 3 with fail
      have S0 : (fun y : World => y = W.drew) W.drew := rfl
      have b0 : ∀ y : WIn (fun y : World => y = W.drew), y.w.cell? ⟨blk, (b + i) * 4, none⟩ = some (.int .i64 xb.cls) := fun y => by rw [y.h]; exact c0
      have b1 : ∀ y : WIn (fun y : World => y = W.drew), y.w.cell? ⟨blk, (b + i) * 4 + 1, none⟩ = some (.int .i64 xb.no) := fun y => by rw [y.h]; exact c1
      have b2 : ∀ y : WIn (fun y : World => y = W.drew), y.w.cell? ⟨blk, (b + i) * 4 + 2, none⟩ = some (.int .i64 xb.at') := fun y => by rw [y.h]; exact c2
      have b3 : ∀ y : WIn (fun y : World => y = W.drew), y.w.cell? ⟨blk, (b + i) * 4 + 3, none⟩ = some (.int .i64 xb.gen) := fun y => by rw [y.h]; exact c3
      have a0 : ∀ y : WIn (fun y : World => y = W.drew), y.w.cell? ⟨blk, (a + i) * 4, none⟩ = some (.int .i64 xa.cls) := fun y => by rw [y.h]; exact d0
      have a1 : ∀ y : WIn (fun y : World => y = W.drew), y.w.cell? ⟨blk, (a + i) * 4 + 1, none⟩ = some (.int .i64 xa.no) := fun y => by rw [y.h]; exact d1
      have a2 : ∀ y : WIn (fun y : World => y = W.drew), y.w.cell? ⟨blk, (a + i) * 4 + 2, none⟩ = some (.int .i64 xa.at') := fun y => by rw [y.h]; exact d2
      have a3 : ∀ y : WIn (fun y : World => y = W.drew), y.w.cell? ⟨blk, (a + i) * 4 + 3, none⟩ = some (.int .i64 xa.gen) := fun y => by rw [y.h]; exact d3
      haveI ne : Nonempty (WIn (fun y : World => y = W.drew)) := ⟨⟨W.drew, S0⟩⟩
      refine wp_normal ?_
      refine wp_region_plan 21 (fun y : World => y = W.drew) rfl ?_
      refine wpN_pure [0, 1, 2, 3, 4, 5, 6, 7, 8, 9, 10, 11, 12, 14, 15, 16, 17, 18] (by kernel_rfl) (by kernel_rfl) (by kernel_rfl) (fun _ _ _ _ _ h => h) (fun _ => S0) ?_
      simp only [pick, List.map_cons, List.map_nil, List.getElem?_cons_succ, List.getElem?_cons_zero, Option.getD_some]
      repeat (go_big_quiet_step (fail))
      refine wpQuiet_nil ?_
      refine wpN_segX [13, 19, 21] [13, 19] (by kernel_rfl) (by kernel_rfl) (by kernel_rfl) (by kernel_rfl) (by decide) (fun _ _ _ _ _ h => h) S0 ?_
      simp only [pick, List.map_cons, List.map_nil, List.getElem?_cons_succ, List.getElem?_cons_zero, Option.getD_some]
      repeat (go_big_quiet_step (fail))
      refine wpQuiet_nil ?_
      clear b0 b1 b2 b3 a0 a1 a2 a3 ne c0 c1 c2 c3
      refine wpN_pure [20] (by kernel_rfl) (by kernel_rfl) (by kernel_rfl) (fun _ _ _ _ _ h => h) (fun _ => S0) ?_
      simp only [pick, List.map_cons, List.map_nil, List.getElem?_cons_succ, List.getElem?_cons_zero, Option.getD_some]
      repeat (go_big_quiet_step (fail))
      refine wpQuiet_nil ?_
      refine wpN_one 21 _ (by kernel_rfl) rfl ?_
      refine NextAt.free (by kernel_rfl) ?_
      intro K hK
      go_simp
      refine hK _ _ ?_
      clear hK K
      have eX : put4 W.drew blk (a + i) xb = ((((W.setCell ⟨blk, (a + i) * 4, none⟩ (.int .i64 xb.cls)).setCell ⟨blk, (a + i) * 4 + 1, none⟩ (.int .i64 xb.no)).setCell ⟨blk, (a + i) * 4 + 2, none⟩ (.int .i64 xb.at')).setCell ⟨blk, (a + i) * 4 + 3, none⟩ (.int .i64 xb.gen)).drew := rfl
      rw [← eX]
      clear eX
      generalize put4 W.drew blk (a + i) xb = W1 at *
      clear S0 d0 d1 d2 d3 f0 f1 f2 f3
      refine wpN_pure [22] (by kernel_rfl) (by kernel_rfl) (by kernel_rfl) (fun _ _ _ _ _ h => h) (fun h => by cases h) ?_
      simp only [pick, List.map_cons, List.map_nil, List.getElem?_cons_succ, List.getElem?_cons_zero, Option.getD_some]
      repeat (go_big_quiet_step (fail))
      refine wpQuiet_nil ?_
      refine wpN_one 23 _ (by kernel_rfl) rfl ?_
      refine NextAt.free (by kernel_rfl) ?_
      intro K hK
      go_simp
      refine hK _ _ ?_
      clear hK K
      refine wpN_done (by kernel_rfl) ?_
      go_wp2_with fail
      go_roundw
      case measure => simp only [intOf]; omega
      case rel => exact ⟨i + 1, m + 1, _, os, by go_num, by omega, DONE.out.2, DONE.out.1⟩
    · go_wp2_with fail
      go_end0
      exact ⟨rfl, m, d, os, hd, rfl⟩

end Go.Proofs.Ytiaedonhbafpjaa
