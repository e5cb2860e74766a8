/-
  The blocks that lie somewhere, by address: slices.Clone, slices.SortFunc with its closures, sorted, lying. No conditions but lengths.
-/
import Derived.Test.YtjogaohnphafgaaGreatMoveRunsPal
import Derived.Shelf.SlSortCmp.QuietGrown
namespace Go.Proofs.YtjogaohnphafgaaGreat
open Go.RowKit Go.Sort
set_option linter.unusedVariables false

def OwnBlks (ls : List Blk) (w : World) : Ending → World → Prop := fun e w' =>
  ∃ v, e = .returned v ∧ w'.ownsRow w.heap.size 78 3 v ls.length (ls.flatMap Blk.cells) ∧ Below w.heap.size w w'

theorem clone_blk (v : Value) (B : Nat) (ls : List Blk) (w : World) (hr : w.ownsRow B 78 3 v ls.length (ls.flatMap Blk.cells)) (hmax : ls.length ≤ 1000000) :
    Calls Tryz.prog 49 #[v] w (OwnBlks ls w) := by
  obtain ⟨i0, hi0, hz0, hz1, hz2⟩ := info_parts infoBlk
  rcases hr.2 with ⟨rfl, h0⟩ | ⟨g, cap, cur, rfl, hb, hg, hn, hcm, hs, ht⟩
  · have hz : ls = [] := by cases ls with | nil => rfl | cons x xs => simp at h0
    subst hz
    refine (Tryz.slices_Clone_nil_f49 0 0 w).mono ?_
    rintro e w' ⟨rfl, hw⟩
    obtain rfl := hw
    exact ⟨_, rfl, World.ownsRow_nil _ _ _ _, Below.refl _ _⟩
  · have hc := hr.cells (g := g) rfl
    refine (Tryz.slices_Clone_f49 i0 _ 3 24 hi0 hz0 hz1 hz2 rfl (by decide) Tryz.sizeOf78 g 0 ls.length cap (ls.flatMap Blk.cells) w (bcells_len ls) (by unfold maxLen; omega) (by omega) (fun j u hj => by
      have := hc j u hj
      rw [Addr.add_lit] at this
      exact this) (bcells_one ls)).mono ?_
    rintro e w' ⟨v', rfl, h1, _, h2⟩
    exact ⟨v', rfl, h1, h2⟩

/-! The closures. -/
theorem grown_zero (w : World) (os : Array Obj) : grow w os = grow (w.drewN 0) os := rfl
set_option maxHeartbeats 1000000 in
set_option maxRecDepth 100000 in
theorem lying1 (x : Blk) (W : World) : Calls Tryz.prog 107 #[.agg #[.int .i64 (x.h : Int), .int .i64 (x.at' : Int), .int .i64 (x.len : Int)]] W fun e w' => e = .returned (.bool (decide (x.len = 0))) ∧ Below W.heap.size W w' := by
  obtain ⟨a1, a2, a3⟩ := x
  have FIN := Lib.hid ((Below.refl _ W).alloc (Nat.le_refl _) (.cells #[.int .i64 (a1 : Int), .int .i64 (a2 : Int), .int .i64 (a3 : Int)] 78))
  have e : ((a3 : Int) == 0) = decide (a3 = 0) := by rw [Bool.eq_iff_iff]; simp
  have HE := Lib.hid e
  clear e
  go_enter Tryz.func107, Tryz.ntmps107
  go_wp2_with fail
  go_ret
  exact ⟨by rw [← HE.out]; rfl, FIN.out⟩
set_option maxHeartbeats 1000000 in
set_option maxRecDepth 100000 in
theorem lying2 (x : Blk) (W : World) : Calls Tryz.prog 109 #[.agg #[.int .i64 (x.h : Int), .int .i64 (x.at' : Int), .int .i64 (x.len : Int)]] W fun e w' => e = .returned (.int .i64 (x.at' : Int)) ∧ w' = W.alloc (.cells #[.int .i64 (x.h : Int), .int .i64 (x.at' : Int), .int .i64 (x.len : Int)] 78) := by
  obtain ⟨a1, a2, a3⟩ := x
  go_enter Tryz.func109, Tryz.ntmps109
  go_wp2_with fail
  go_ret
  exact ⟨rfl, rfl⟩
theorem lying2_grown (x : Blk) (w : World) (n : Nat) (os : Array Obj) : Calls Tryz.prog 109 #[.agg #[.int .i64 (x.h : Int), .int .i64 (x.at' : Int), .int .i64 (x.len : Int)]] (grow (w.drewN n) os) fun e w' => e = .returned (.int .i64 (x.at' : Int)) ∧ ∃ p : GrownBy, w' = grow (w.drewN p.n) p.os :=
  Calls.grown_of ((lying2 x _).mono fun e w' ⟨h1, h2⟩ => ⟨h1, 0, #[.cells #[.int .i64 (x.h : Int), .int .i64 (x.at' : Int), .int .i64 (x.len : Int)] 78], by rw [h2, alloc_eq_grow]; rfl⟩)
theorem compare_grown (a b : Int) (w : World) (n : Nat) (os : Array Obj) : Calls Tryz.prog 103 #[.int .i64 a, .int .i64 b] (grow (w.drewN n) os) fun e w' => e = .returned (.int .i64 (Lib.compareInt a b)) ∧ ∃ p : GrownBy, w' = grow (w.drewN p.n) p.os :=
  Calls.grown_of ((Tryz.cmp_Compare_int a b _).mono fun e w' ⟨h1, h2⟩ => ⟨h1, 0, #[], by rw [h2, grow_empty]; rfl⟩)

def cmpB (x y : Blk) : Int := Lib.compareInt (x.at' : Int) (y.at' : Int)
set_option maxHeartbeats 4000000 in
set_option maxRecDepth 100000 in
theorem sorted1 (x y : Blk) (bx : Nat) (W : World) (h : W.cell? ⟨bx, 0, none⟩ = some (.func (.func 109) #[] #[])) :
    Calls Tryz.prog 115 #[.agg #[.int .i64 (x.h : Int), .int .i64 (x.at' : Int), .int .i64 (x.len : Int)], .agg #[.int .i64 (y.h : Int), .int .i64 (y.at' : Int), .int .i64 (y.len : Int)], .pointer (some ⟨bx, 0, none⟩)] W fun e w' => e = .returned (.int .i64 (cmpB x y)) ∧ ∃ q os', w' = grow (W.drewN q) os' := by
  have hlt : bx < W.heap.size := World.block_lt_of_cell? W ⟨bx, 0, none⟩ h
  have CM := Lib.hid (fun (w : World) n os => compare_grown (x.at' : Int) (y.at' : Int) w n os)
  have CX := Lib.hid (fun (w : World) n os => lying2_grown x w n os)
  have CY := Lib.hid (fun (w : World) n os => lying2_grown y w n os)
  unfold cmpB
  obtain ⟨x1, x2, x3⟩ := x
  obtain ⟨y1, y2, y3⟩ := y
  simp only at CM CX CY ⊢
  obtain ⟨W2, hW2⟩ : ∃ W2, (W.alloc (.cells #[.int .i64 (x1 : Int), .int .i64 (x2 : Int), .int .i64 (x3 : Int)] 78)).alloc (.cells #[.int .i64 (y1 : Int), .int .i64 (y2 : Int), .int .i64 (y3 : Int)] 78) = W2 := ⟨_, rfl⟩
  have b0 : W2.cell? ⟨bx, 0, none⟩ = some (.func (.func 109) #[] #[]) := by rw [← hW2]; exact Lib.cell?_alloc_some _ (Lib.cell?_alloc_some _ h)
  have b1 : W2.heap[W.heap.size]? = some (.cells #[.int .i64 (x1 : Int), .int .i64 (x2 : Int), .int .i64 (x3 : Int)] 78 (0, 0)) := by rw [← hW2]; exact (heap_alloc_old _ _ (by simp)).trans (heap_alloc_new W _)
  have b2 : W2.heap[W.heap.size + 1]? = some (.cells #[.int .i64 (y1 : Int), .int .i64 (y2 : Int), .int .i64 (y3 : Int)] 78 (0, 0)) := by
    rw [← hW2]
    have := heap_alloc_new (W.alloc (.cells #[.int .i64 (x1 : Int), .int .i64 (x2 : Int), .int .i64 (x3 : Int)] 78)) (.cells #[.int .i64 (y1 : Int), .int .i64 (y2 : Int), .int .i64 (y3 : Int)] 78)
    simpa using this
  have hG : W2 = grow W #[.cells #[.int .i64 (x1 : Int), .int .i64 (x2 : Int), .int .i64 (x3 : Int)] 78, .cells #[.int .i64 (y1 : Int), .int .i64 (y2 : Int), .int .i64 (y3 : Int)] 78] := by
    rw [← hW2, alloc_eq_grow, alloc_eq_grow, grow_grow]; rfl
  have HG := Lib.hid hG
  have l1 := lt_of b1
  have l2 := lt_of b2
  have lb : bx < W2.heap.size := by omega
  have g0 := fun n os => cell_grown (a := ⟨bx, 0, none⟩) lb b0 n os
  have p0 : ∀ n os, (grow (W2.drewN n) os).cell? ⟨W.heap.size, 0, none⟩ = some (.int .i64 (x1 : Int)) := fun n os => cell_grown (a := ⟨W.heap.size, 0, none⟩) l1 ((cell_of b1 0).trans rfl) n os
  have p1 : ∀ n os, (grow (W2.drewN n) os).cell? ⟨W.heap.size, 1, none⟩ = some (.int .i64 (x2 : Int)) := fun n os => cell_grown (a := ⟨W.heap.size, 1, none⟩) l1 ((cell_of b1 1).trans rfl) n os
  have p2 : ∀ n os, (grow (W2.drewN n) os).cell? ⟨W.heap.size, 2, none⟩ = some (.int .i64 (x3 : Int)) := fun n os => cell_grown (a := ⟨W.heap.size, 2, none⟩) l1 ((cell_of b1 2).trans rfl) n os
  have r0 : ∀ n os, (grow (W2.drewN n) os).cell? ⟨W.heap.size + 1, 0, none⟩ = some (.int .i64 (y1 : Int)) := fun n os => cell_grown (a := ⟨W.heap.size + 1, 0, none⟩) l2 ((cell_of b2 0).trans rfl) n os
  have r1 : ∀ n os, (grow (W2.drewN n) os).cell? ⟨W.heap.size + 1, 1, none⟩ = some (.int .i64 (y2 : Int)) := fun n os => cell_grown (a := ⟨W.heap.size + 1, 1, none⟩) l2 ((cell_of b2 1).trans rfl) n os
  have r2 : ∀ n os, (grow (W2.drewN n) os).cell? ⟨W.heap.size + 1, 2, none⟩ = some (.int .i64 (y3 : Int)) := fun n os => cell_grown (a := ⟨W.heap.size + 1, 2, none⟩) l2 ((cell_of b2 2).trans rfl) n os
  clear h hlt b0 b1 b2 hG l1 l2 lb
  have mixed : Tryz.prog.follows .mixedOrders = true := by kernel_rfl
  go_enter Tryz.func115, Tryz.ntmps115
  go_upto_region 1 with fail
  clear hW2
  generalize W.heap.size = sz at *
  go_quiet_grown (first | (go_at_call 103; exact CM.out _ _ _) | (go_at_call 109; first | exact CX.out _ _ _ | exact CY.out _ _ _))
  go_wp2_with fail
  go_ret
  exact ⟨rfl, nq, #[.cells #[.int .i64 (x1 : Int), .int .i64 (x2 : Int), .int .i64 (x3 : Int)] 78, .cells #[.int .i64 (y1 : Int), .int .i64 (y2 : Int), .int .i64 (y3 : Int)] 78] ++ osq, by
    rw [HG.out]
    show grow (grow (W.drewN nq) _) osq = _
    rw [grow_grow]⟩

/-! SortFunc. -/
theorem cmpB_lt (x y : Blk) : ltOf cmpB x y = decide (x.at' < y.at') := by
  show decide (cmpB x y < 0) = _
  unfold cmpB Lib.compareInt
  rcases Int.lt_trichotomy (x.at' : Int) (y.at' : Int) with h | h | h
  · rw [if_pos h]
    simpa using h
  · rw [if_neg (by omega), if_neg (by omega)]
    simp
    omega
  · rw [if_neg (by omega), if_pos (by omega)]
    simp
    omega
theorem swoB : SWO (ltOf cmpB) where
  irrefl x := by rw [cmpB_lt]; simp
  trans x y z h1 h2 := by rw [cmpB_lt] at *; simp at *; omega
  ntrans x y z h1 h2 := by rw [cmpB_lt] at *; simp at *; omega
theorem flatB (ls : List Blk) : (flatK Blk.cells 3 ls.toArray).toList = ls.flatMap Blk.cells := by
  apply List.ext_getElem?
  intro t
  have hs : (flatK Blk.cells 3 ls.toArray).toList.length = ls.length * 3 := by simp
  by_cases h : t < ls.length * 3
  · have hk : t / 3 < ls.length := by omega
    have e : t = t / 3 * 3 + t % 3 := by omega
    have h1 := bcells_get ls (t / 3) (t % 3) _ (List.getElem?_eq_getElem hk) (by omega)
    rw [← e] at h1
    rw [h1]
    have h2 := get_flatK Blk.cells 3 ls.toArray t (by simpa using h)
    rw [Array.getElem?_toList, Array.getElem?_eq_getElem (by simpa using h)]
    rw [getElem!_pos _ t (by simpa using h)] at h2
    rw [h2]
    have h3 : (ls.toArray)[t / 3]! = ls[t / 3] := by rw [getElem!_pos ls.toArray (t / 3) (by simpa using hk)]; simp
    rw [h3, getElem!_pos (ls[t / 3]).cells (t % 3) (by simp [Blk.cells]; omega), List.getElem?_eq_getElem]
  · rw [List.getElem?_eq_none (by omega), List.getElem?_eq_none (by rw [bcells_len]; omega)]
theorem sortB_of (ls : List Blk) (d' : Array Blk) (hp : PermIn 0 ls.toArray.size ls.toArray d') (hs : SortedIn (ltOf cmpB) 0 ls.toArray.size d') : d'.toList.Perm ls ∧ d'.toList.Pairwise (fun a b => a.at' ≤ b.at') := by
  have hsz : d'.size = ls.length := by simpa using hp.1
  refine ⟨?_, ?_⟩
  · have := hp.2.2
    rw [Array.toList_extract, Array.toList_extract] at this
    simp only [List.size_toArray, List.extract_eq_take_drop, Nat.sub_zero, List.drop_zero] at this
    rw [List.take_of_length_le (by simp; omega), List.take_of_length_le (by simp)] at this
    exact this
  · rw [List.pairwise_iff_getElem]
    intro i j hi hj hij
    have := hs i j (Nat.zero_le _) hij (by simp at hj ⊢; omega)
    simp at hi hj
    rw [getElem!_pos d' j hj, getElem!_pos d' i hi, cmpB_lt] at this
    simp only [Array.getElem_toList]
    simpa using this

def SortBPost (g cap : Nat) (ls : List Blk) (w : World) : Ending → World → Prop := fun e w' =>
  e = .returned (.tuple #[]) ∧ ∃ L : List Blk, L.Perm ls ∧ L.Pairwise (fun a b => a.at' ≤ b.at') ∧ w'.ownsRow g 78 3 (.slice (some ⟨g, 0, none⟩) ls.length cap) L.length (L.flatMap Blk.cells) ∧ Touch (fun k => k = g) w w'

theorem sort_blk (g cap bx : Nat) (B : Nat) (ls : List Blk) (w : World) (hr : w.ownsRow B 78 3 (.slice (some ⟨g, 0, none⟩) ls.length cap) ls.length (ls.flatMap Blk.cells)) (hbx : w.heap[bx]? = some (.cells #[.func (.func 109) #[] #[]] 138 (0, 0))) (hne : bx ≠ g) (hlen : ls.length ≤ 1000000) :
    Calls Tryz.prog 114 #[.slice (some ⟨g, 0, none⟩) ls.length cap, .func (.func 115) #[] #[.pointer (some ⟨bx, 0, none⟩)]] w (SortBPost g cap ls w) := by
  obtain ⟨g', cap', cur, hv, _, hg, hn, hcm, hs, ht⟩ := hr.2.resolve_left (by rintro ⟨h, _⟩; cases h)
  simp only [Value.slice.injEq, Option.some.injEq, Addr.mk.injEq, and_true] at hv
  obtain ⟨rfl, _, rfl⟩ := hv
  have eg : ∀ args w, (callFunc 115 args).run Tryz.prog w = .ok (.enter 115 args) w := enters_of Tryz.func115 (by kernel_rfl) rfl
  have hblk : ∀ (n : Nat) (d' : Array Blk) (os : Array Obj), ∀ k, k < w.heap.size → (sortWorldK Blk.cells 3 w g 0 n d' os).heap[k]? = (w.heap.modify g (onCells (putCells id 0 (flatK Blk.cells 3 d'))))[k]? := by
    intro n d' os k hk
    unfold sortWorldK grow putRowK putRow mapBlock
    simp only [heap_ahead]
    rw [Array.getElem?_append_left (by simpa using hk)]
  have hcx : ∀ (n : Nat) (d' : Array Blk) (os : Array Obj), (sortWorldK Blk.cells 3 w g 0 n d' os).cell? ⟨bx, 0, none⟩ = some (.func (.func 109) #[] #[]) := by
    intro n d' os
    have h1 : (sortWorldK Blk.cells 3 w g 0 n d' os).heap[bx]? = some (.cells #[.func (.func 109) #[] #[]] 138 (0, 0)) := by
      rw [hblk n d' os bx (lt_of hbx), Array.getElem?_modify, if_neg (fun e => hne e.symm)]
      exact hbx
    exact (cell_of h1 0).trans rfl
  have hH : HoldsK Blk.cells 3 w g 0 ls.toArray := by
    intro j hj
    have hj' : j < ls.length * 3 := by simpa using hj
    refine ⟨?_, free_of hg _⟩
    have h1 : (flatK Blk.cells 3 ls.toArray)[j]! = (flatK Blk.cells 3 ls.toArray)[j] := getElem!_pos _ j hj
    rw [h1, cell_of hg, Nat.zero_add]
    have h2 := congrArg (fun l : List Value => l[j]?) (flatB ls)
    simp only [Array.getElem?_toList] at h2
    rw [Array.getElem?_eq_getElem hj] at h2
    rw [← Array.getElem?_toList]
    have h3 : cur.toList[j]? = (cur.toList.take (ls.length * 3))[j]? := (List.getElem?_take_of_lt hj').symm
    rw [h3, ht, ← h2]; rfl
  have C := Tryz.slices_SortFunc 3 Tryz.isAgg78 Tryz.sizeOf78 Blk.cells (fun _ => rfl) (fun x v hv => by simp [Blk.cells] at hv; rcases hv with rfl | rfl | rfl <;> rfl) cmpB swoB 115 #[.pointer (some ⟨bx, 0, none⟩)] g 0 cap ls.toArray w eg (fun m os dk _ x y => sorted1 x y bx _ (hcx m dk os)) hH (lt_of hg) (by simp; omega)
  simp only [List.size_toArray] at C
  refine C.mono ?_
  rintro e w' ⟨rfl, d', n, os, hp, hso, rfl⟩
  obtain ⟨hd1, hd2⟩ := sortB_of ls d' (by simpa using hp) (by simpa using hso)
  have hdsz : d'.size = ls.length := by have := hp.1; simpa using this
  have hdl : d'.toList.length = ls.length := by simpa using hdsz
  refine ⟨rfl, d'.toList, hd1, hd2, ⟨bcells_len _, Or.inr ⟨g, cap, putCells id 0 (flatK Blk.cells 3 d') cur, by rw [hdl], Nat.le_refl _, ?_, by rw [hdl]; exact hn, hcm, by simp [putCells, hs], ?_⟩⟩, ?_⟩
  · rw [hblk _ _ _ g (lt_of hg), Array.getElem?_modify]
    simp [hg, onCells]
  · rw [hdl]
    have : d'.toList.flatMap Blk.cells = (flatK Blk.cells 3 d').toList := by rw [← flatB d'.toList]
    rw [this]
    apply List.ext_getElem?
    intro t
    by_cases h : t < ls.length * 3
    · rw [List.getElem?_take_of_lt h]
      simp only [Array.getElem?_toList, putCells, Array.getElem?_mapIdx]
      have hcs : t < cur.size := by rw [hs]; have := Nat.mul_le_mul_right 3 hn; omega
      rw [Array.getElem?_eq_getElem hcs]
      have hfs : t < (flatK Blk.cells 3 d').size := by simp [hdsz]; omega
      rw [Array.getElem?_eq_getElem hfs]
      simp only [Option.map_some, Nat.zero_le, Nat.zero_add, hfs, and_self, if_true, Nat.sub_zero, id]
      rw [getElem!_pos _ t hfs]
    · rw [List.getElem?_eq_none (by simp; omega), List.getElem?_eq_none (by simp [hdsz]; omega)]
  · refine ⟨rfl, rfl, rfl, ?_, ?_⟩
    · unfold sortWorldK grow putRowK putRow mapBlock
      simp
    · intro k hk hne
      rw [hblk _ _ _ k hk, Array.getElem?_modify, if_neg (fun e => hne e.symm)]

/-- The list, sorted by address. -/
def SortedL (l L : List Blk) : Prop := L.Perm l ∧ L.Pairwise (fun a b => a.at' ≤ b.at')
def OwnSorted (l : List Blk) (w : World) : Ending → World → Prop := fun e w' =>
  ∃ v L, e = .returned v ∧ SortedL l L ∧ w'.ownsRow w.heap.size 78 3 v L.length (L.flatMap Blk.cells) ∧ Below w.heap.size w w'

set_option maxHeartbeats 1000000 in
set_option maxRecDepth 100000 in
theorem sorted_any (v : Value) (B : Nat) (ls : List Blk) (w : World) (hr : w.ownsRow B 78 3 v ls.length (ls.flatMap Blk.cells)) (hlen : ls.length ≤ 1000000) :
    Calls Tryz.prog 108 #[v, .func (.func 109) #[] #[]] w (OwnSorted ls w) := by
  have B0 : Below w.heap.size w (w.alloc (.cells #[.func (.func 109) #[] #[]] 138)) := (Below.refl _ w).alloc (Nat.le_refl _) _
  have N0 := heap_alloc_new w (.cells #[.func (.func 109) #[] #[]] 138)
  have R0 := row_kept hr B0
  have C := Lib.hid (clone_blk v B ls _ R0 hlen)
  have HB0 := Lib.hid B0
  have HN0 := Lib.hid N0
  have KEY : Hid (∀ (v' : Value) (w1 : World), w1.ownsRow (w.alloc (.cells #[.func (.func 109) #[] #[]] 138)).heap.size 78 3 v' ls.length (ls.flatMap Blk.cells) → Below (w.alloc (.cells #[.func (.func 109) #[] #[]] 138)).heap.size (w.alloc (.cells #[.func (.func 109) #[] #[]] 138)) w1 →
      Calls Tryz.prog 114 #[v', .func (.func 115) #[] #[.pointer (some ⟨w.heap.size, 0, none⟩)]] w1 (fun e w2 => e = .returned (.tuple #[]) ∧ OwnSorted ls w (.returned v') w2)) := Lib.hid (by
    intro v' w1 hrow hb
    rcases Nat.eq_zero_or_pos ls.length with h0 | h0
    · have hz : ls = [] := List.length_eq_zero_iff.1 h0
      subst hz
      obtain ⟨a, cap, rfl⟩ := wrow_sh hrow
      refine (Tryz.slices_SortFunc_none (α := Blk) a cap _ w1).mono ?_
      rintro e w2 ⟨rfl, hw⟩
      obtain rfl := hw
      refine ⟨rfl, _, [], rfl, ⟨List.Perm.refl _, List.Pairwise.nil⟩, ?_, B0.trans (hb.mono B0.size)⟩
      refine ⟨hrow.1, ?_⟩
      rcases hrow.2 with h | ⟨g, cap', cur, h1, h2, h3⟩
      · exact Or.inl h
      · exact Or.inr ⟨g, cap', cur, h1, Nat.le_trans B0.size h2, h3⟩
    · obtain ⟨g, cap, cur, rfl, hge, hg, _⟩ := brow_open hrow h0
      have hx : w1.heap[w.heap.size]? = some (.cells #[.func (.func 109) #[] #[]] 138 (0, 0)) := (hb.block _ (lt_of N0)).trans N0
      have hlt := lt_of N0
      refine (sort_blk g cap w.heap.size _ ls w1 hrow hx (by omega) hlen).mono ?_
      rintro e w2 ⟨rfl, L, h1, h2, h3, h4⟩
      refine ⟨rfl, _, L, rfl, ⟨h1, h2⟩, ?_, (B0.trans (hb.mono B0.size)).trans (h4.below (Nat.le_trans B0.size hb.size) (fun k hk => by omega))⟩
      refine ⟨h3.1, ?_⟩
      rcases h3.2 with h | ⟨g, cap', cur, h1, h2, h3⟩
      · exact Or.inl h
      · exact Or.inr ⟨g, cap', cur, h1, by omega, h3⟩)
  clear hr B0 N0 R0
  go_enter Tryz.func108, Tryz.ntmps108
  go_wp2_with fail
  refine C.out.mono ?_
  rintro e w1 ⟨v', rfl, hrow, hb⟩
  have HK := Lib.hid (KEY.out v' w1 hrow hb)
  obtain ⟨a, cap, rfl⟩ := wrow_sh hrow
  clear hrow hb KEY C
  go_wp2_with fail
  refine HK.out.mono ?_
  rintro e w2 ⟨rfl, hf⟩
  have HF := Lib.hid hf
  clear hf HK
  go_wp2_with fail
  go_ret
  exact HF.out

/-- The blocks that lie somewhere. -/
def lieL (l : List Blk) : List Blk := l.filter fun y => !decide (y.len = 0)
set_option maxHeartbeats 1000000 in
set_option maxRecDepth 100000 in
theorem lyingM_any {w : World} {F : Nat → Prop} {hp bp : Nat} {S : HpSt} {vm vb vh : Value} {vhs : List Value} (m : HpMem w F hp bp S vm vb vh vhs) :
    Calls Tryz.prog 93 #[.pointer (some ⟨hp, 0, none⟩)] w (OwnSorted (lieL S.bl) w) := by
  have c7 := m.cells.2.2.2.2.2.2.2.1
  obtain ⟨a, cap, hvb⟩ := wrow_sh m.row.1
  have hfew := m.big.2.1
  have C := Lib.hid (clone_blk vb 0 S.bl w m.row.1 (by omega))
  rw [hvb] at c7 C
  have eg : ∀ args w, (callFunc 107 args).run Tryz.prog w = .ok (.enter 107 args) w := enters_of Tryz.func107 (by kernel_rfl) rfl
  have KEY : Hid (∀ (v' : Value) (w1 : World), w1.ownsRow w.heap.size 78 3 v' S.bl.length (S.bl.flatMap Blk.cells) → Below w.heap.size w w1 →
      Calls Tryz.prog 40 #[v', .func (.func 107) #[] #[]] w1 (fun e w2 => ∃ v2, e = .returned v2 ∧ w2.ownsRow w.heap.size 78 3 v2 (lieL S.bl).length ((lieL S.bl).flatMap Blk.cells) ∧ Below w.heap.size w w2)) := Lib.hid (by
    intro v' w1 hrow hb
    rcases Nat.eq_zero_or_pos S.bl.length with h0 | h0
    · have hz : S.bl = [] := List.length_eq_zero_iff.1 h0
      obtain ⟨a, cap, rfl⟩ := wrow_sh hrow
      rw [h0] at *
      refine (bdeleteFunc_none a cap _ w1).mono ?_
      rintro e w2 ⟨rfl, hw⟩
      obtain rfl := hw
      rw [hz] at hrow ⊢
      exact ⟨_, rfl, hrow, hb⟩
    · obtain ⟨g, cap, cur, rfl, hge, hg, _⟩ := brow_open hrow h0
      refine (bdeleteFunc_row _ g cap S.bl _ #[] (fun x => decide (x.len = 0)) w1 hrow h0 (by omega) eg (fun W x _ => lying1 x W)).mono ?_
      rintro e w2 ⟨n, hn, rfl, h3, h4⟩
      refine ⟨_, rfl, ?_, hb.trans (h4.below hb.size (fun k hk => by omega))⟩
      refine ⟨bcells_len _, ?_⟩
      rcases h3.2 with h | ⟨g, cap', cur, h1, h2, h3⟩
      · exact Or.inl h
      · exact Or.inr ⟨g, cap', cur, h1, by omega, h3⟩)
  have hle : (lieL S.bl).length ≤ 1000000 := Nat.le_trans (List.length_filter_le _ _) (by omega)
  have HLE := Lib.hid hle
  clear m hvb eg hfew hle
  go_enter Tryz.func93, Tryz.ntmps93
  go_wp2_with fail
  refine C.out.mono ?_
  rintro e w1 ⟨v', rfl, hrow, hb⟩
  have HK := Lib.hid (KEY.out v' w1 hrow hb)
  obtain ⟨a, cap, rfl⟩ := wrow_sh hrow
  clear hrow hb KEY C
  go_wp2_with fail
  refine HK.out.mono ?_
  rintro e w2 ⟨v2, rfl, hrow, hb⟩
  have C2 := Lib.hid (sorted_any v2 _ _ w2 hrow HLE.out)
  have HB := Lib.hid hb
  obtain ⟨a, cap, rfl⟩ := wrow_sh hrow
  clear hrow hb HK
  go_wp2_with fail
  refine C2.out.mono ?_
  rintro e w3 ⟨v3, L, rfl, hs, hrow, hb⟩
  have HF := Lib.hid (And.intro hs (And.intro hrow hb))
  obtain ⟨a, cap, rfl⟩ := wrow_sh hrow
  clear hrow hb C2 hs
  go_wp2_with fail
  go_ret
  refine ⟨_, L, rfl, HF.out.1, ⟨HF.out.2.1.1, ?_⟩, HB.out.trans (HF.out.2.2.mono HB.out.size)⟩
  have := HB.out.size
  rcases HF.out.2.1.2 with h | ⟨g, cap', cur, h1, h2, h3⟩
  · exact Or.inl h
  · exact Or.inr ⟨g, cap', cur, h1, by omega, h3⟩

end Go.Proofs.YtjogaohnphafgaaGreat
