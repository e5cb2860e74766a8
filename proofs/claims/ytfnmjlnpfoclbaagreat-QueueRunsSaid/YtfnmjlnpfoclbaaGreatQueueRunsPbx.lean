/-
  The walk of QueueRuns. No conditions. (Printed by qrw.py.)
-/
import Derived.Test.YtfnmjlnpfoclbaaGreatQueueRunsPbw
import Derived.Deep.Cut
import Derived.Deep.CutBlock
namespace Go.Proofs.YtfnmjlnpfoclbaaGreat
open Go.RowKit
set_option linter.unusedVariables false

set_option maxRecDepth 100000 in
theorem slots173 (f : Nat → Value) : slotsOf 173 f = f 0 :: f 1 :: f 2 :: f 3 :: f 4 :: f 5 :: f 6 :: f 7 :: f 8 :: f 9 :: f 10 :: f 11 :: f 12 :: f 13 :: f 14 :: f 15 :: f 16 :: f 17 :: f 18 :: f 19 :: f 20 :: f 21 :: f 22 :: f 23 :: f 24 :: f 25 :: f 26 :: f 27 :: f 28 :: f 29 :: f 30 :: f 31 :: f 32 :: f 33 :: f 34 :: f 35 :: f 36 :: f 37 :: f 38 :: f 39 :: f 40 :: f 41 :: f 42 :: f 43 :: f 44 :: f 45 :: f 46 :: f 47 :: f 48 :: f 49 :: f 50 :: f 51 :: f 52 :: f 53 :: f 54 :: f 55 :: f 56 :: f 57 :: f 58 :: f 59 :: f 60 :: f 61 :: f 62 :: f 63 :: f 64 :: f 65 :: f 66 :: f 67 :: f 68 :: f 69 :: f 70 :: f 71 :: f 72 :: f 73 :: f 74 :: f 75 :: f 76 :: f 77 :: f 78 :: f 79 :: f 80 :: f 81 :: f 82 :: f 83 :: f 84 :: f 85 :: f 86 :: f 87 :: f 88 :: f 89 :: f 90 :: f 91 :: f 92 :: f 93 :: f 94 :: f 95 :: f 96 :: f 97 :: f 98 :: f 99 :: f 100 :: f 101 :: f 102 :: f 103 :: f 104 :: f 105 :: f 106 :: f 107 :: f 108 :: f 109 :: f 110 :: f 111 :: f 112 :: f 113 :: f 114 :: f 115 :: f 116 :: f 117 :: f 118 :: f 119 :: f 120 :: f 121 :: f 122 :: f 123 :: f 124 :: f 125 :: f 126 :: f 127 :: f 128 :: f 129 :: f 130 :: f 131 :: f 132 :: f 133 :: f 134 :: f 135 :: f 136 :: f 137 :: f 138 :: f 139 :: f 140 :: f 141 :: f 142 :: f 143 :: f 144 :: f 145 :: f 146 :: f 147 :: f 148 :: f 149 :: f 150 :: f 151 :: f 152 :: f 153 :: f 154 :: f 155 :: f 156 :: f 157 :: f 158 :: f 159 :: f 160 :: f 161 :: f 162 :: f 163 :: f 164 :: f 165 :: f 166 :: f 167 :: f 168 :: f 169 :: f 170 :: f 171 :: f 172 :: [] := rfl
def OwnObj (a b : Value) : Obj := .cells #[a, b] 31 (0, 0)
def WantObj (a b : Value) : Obj := .cells #[a, b] 33 (0, 0)
def qp (r : Nat) : Value := .pointer (some ⟨r, 0, none⟩)

structure Mk (w1 : World) (o20 o21 o60 : Nat) (ow ot : Int) (x1 x2 y1 y2 : Value) (W : World) : Prop where
  bel : Below w1.heap.size w1 W
  own : W.heap[o20]? = some (OwnObj x1 x2)
  want : W.heap[o21]? = some (WantObj y1 y2)
  lst : W.heap[o60]? = some (.cells #[.int .i64 ow, .int .i64 ot] 3 (0, 0))
  ord : w1.heap.size = o20 ∧ o21 = o20 + 1 ∧ o60 = o21 + 1
section
variable {w1 W W' : World} {o20 o21 o60 : Nat} {ow ot : Int} {x1 x2 y1 y2 : Value}
theorem Mk.below (h : Mk w1 o20 o21 o60 ow ot x1 x2 y1 y2 W) (hb : Below W.heap.size W W') : Mk w1 o20 o21 o60 ow ot x1 x2 y1 y2 W' :=
  ⟨h.bel.trans (hb.mono h.bel.size), (hb.block _ (lt_of h.own)).trans h.own, (hb.block _ (lt_of h.want)).trans h.want, (hb.block _ (lt_of h.lst)).trans h.lst, h.ord⟩
theorem Mk.new (w1 : World) (ow ot : Int) : Mk w1 w1.heap.size (w1.heap.size + 1) (w1.heap.size + 1 + 1) ow ot (.pointer none) (.pointer none) (.pointer none) (.pointer none) (((w1.alloc (.cells #[.pointer none, .pointer none] 31)).alloc (.cells #[.pointer none, .pointer none] 33)).alloc (.cells #[.int .i64 ow, .int .i64 ot] 3)) := by
  obtain ⟨h1, h2, h3⟩ := three_box w1 #[.pointer none, .pointer none] #[.pointer none, .pointer none] #[.int .i64 ow, .int .i64 ot] 31 33 3
  exact ⟨by go_grown, h1, h2, h3, rfl, rfl, rfl⟩
theorem Mk.far (h : Mk w1 o20 o21 o60 ow ot x1 x2 y1 y2 W) (j : Nat) (u v : Value) {k : Nat} (hk : o60 ≤ k) : ((W.setCell ⟨o20, j, none⟩ u).setCell ⟨o21, j, none⟩ v).heap[k]? = W.heap[k]? := by
  obtain ⟨e1, e2, e3⟩ := h.ord
  exact (Below.heap_setCell _ _ _ k (fun e => by have e' : k = o21 := e; omega)).trans (Below.heap_setCell _ _ _ k (fun e => by have e' : k = o20 := e; omega))
theorem Mk.put (h : Mk w1 o20 o21 o60 ow ot x1 x2 y1 y2 W) (j : Nat) (u v : Value) : Below w1.heap.size w1 ((W.setCell ⟨o20, j, none⟩ u).setCell ⟨o21, j, none⟩ v) ∧ ((W.setCell ⟨o20, j, none⟩ u).setCell ⟨o21, j, none⟩ v).heap[o20]? = some (.cells ((#[x1, x2] : Array Value).setIfInBounds j u) 31 (0, 0)) ∧
    ((W.setCell ⟨o20, j, none⟩ u).setCell ⟨o21, j, none⟩ v).heap[o21]? = some (.cells ((#[y1, y2] : Array Value).setIfInBounds j v) 33 (0, 0)) := by
  obtain ⟨e1, e2, e3⟩ := h.ord
  refine ⟨(h.bel.setCell (p := ⟨o20, j, none⟩) (show w1.heap.size ≤ o20 by omega) u).setCell (p := ⟨o21, j, none⟩) (show w1.heap.size ≤ o21 by omega) v, ?_, ?_⟩
  · rw [Below.heap_setCell _ _ _ _ (fun e => by have e' : o20 = o21 := e; omega)]
    exact block_setCell h.own j u
  · exact block_setCell ((Below.heap_setCell _ _ _ _ (fun e => by have e' : o21 = o20 := e; omega)).trans h.want) j v
theorem Mk.put0 (h : Mk w1 o20 o21 o60 ow ot x1 x2 y1 y2 W) (u v : Value) : Mk w1 o20 o21 o60 ow ot u x2 v y2 ((W.setCell ⟨o20, 0, none⟩ u).setCell ⟨o21, 0, none⟩ v) := by
  obtain ⟨h1, h2, h3⟩ := h.put 0 u v
  exact ⟨h1, h2.trans rfl, h3.trans rfl, (h.far 0 u v (Nat.le_refl _)).trans h.lst, h.ord⟩
theorem Mk.put1 (h : Mk w1 o20 o21 o60 ow ot x1 x2 y1 y2 W) (u v : Value) : Mk w1 o20 o21 o60 ow ot x1 u y1 v ((W.setCell ⟨o20, 1, none⟩ u).setCell ⟨o21, 1, none⟩ v) := by
  obtain ⟨h1, h2, h3⟩ := h.put 1 u v
  exact ⟨h1, h2.trans rfl, h3.trans rfl, (h.far 1 u v (Nat.le_refl _)).trans h.lst, h.ord⟩
end
theorem bytes_wfQ {zs : List Int} (h : ∀ z ∈ zs, (Lit.int .u8 z).wf = true) : bytes zs := by
  intro z hz
  have := h z hz
  simp [Lit.wf] at this
  have h1 : IntKind.u8.min = 0 := rfl
  have h2 : IntKind.u8.max = 255 := rfl
  omega
def OwSt (o20 o21 r1 r2 r1' r2' : Nat) (W : World) : Prop := W.heap[o20]? = some (OwnObj (qp r1) (qp r2)) ∧ W.heap[o21]? = some (WantObj (qp r1') (qp r2'))
theorem OwSt.below {o20 o21 r1 r2 r1' r2' : Nat} {W W' : World} (h : OwSt o20 o21 r1 r2 r1' r2' W) (hb : Below W.heap.size W W') : OwSt o20 o21 r1 r2 r1' r2' W' :=
  ⟨(hb.block _ (lt_of h.1)).trans h.1, (hb.block _ (lt_of h.2)).trans h.2⟩
theorem OwSt.stay {o20 o21 r1 r2 r1' r2' : Nat} {W W' : World} (h : OwSt o20 o21 r1 r2 r1' r2' W) (hs : StayX (fun x => x = o20 ∨ x = o21) W W') : OwSt o20 o21 r1 r2 r1' r2' W' :=
  ⟨(hs _ (Or.inl rfl)).trans h.1, (hs _ (Or.inr rfl)).trans h.2⟩
theorem OwSt.cells {o20 o21 r1 r2 r1' r2' : Nat} {W : World} (h : OwSt o20 o21 r1 r2 r1' r2' W) : W.cell? ⟨o20, 0, none⟩ = some (.pointer (some ⟨r1, 0, none⟩)) ∧ W.cell? ⟨o20, 1, none⟩ = some (.pointer (some ⟨r2, 0, none⟩)) ∧ W.cell? ⟨o21, 0, none⟩ = some (.pointer (some ⟨r1', 0, none⟩)) ∧ W.cell? ⟨o21, 1, none⟩ = some (.pointer (some ⟨r2', 0, none⟩)) :=
  ⟨by rw [cell_of h.1]; rfl, by rw [cell_of h.1]; rfl, by rw [cell_of h.2]; rfl, by rw [cell_of h.2]; rfl⟩
def TwoQ (wy : World) (o21 i tr : Nat) (W : World) : Prop := BelQ wy W ∧ W.cell? ⟨o21, i, none⟩ = some (.pointer (some ⟨tr, 0, none⟩))
theorem TwoQ.of {wy W : World} {o21 i tr : Nat} (h : BelQ wy W) (hc : wy.cell? ⟨o21, i, none⟩ = some (.pointer (some ⟨tr, 0, none⟩))) : TwoQ wy o21 i tr W := ⟨h, old_cell h hc⟩
theorem index_two0 (W : World) (x y : Value) : (Instr.index 31 (.agg #[x, y]) (.int .i64 ((0 : Nat) : Int))).run Tryz.prog W = .ok x W := by kernel_rfl
theorem index_two1 (W : World) (x y : Value) : (Instr.index 31 (.agg #[x, y]) (.int .i64 ((1 : Nat) : Int))).run Tryz.prog W = .ok y W := by kernel_rfl
def OneS (q : Nat) (v : Value) (W : World) : Prop := W.cell? ⟨q, 6, none⟩ = some v
theorem ecells_getQ : ∀ (ls : List Ent) (k i : Nat) (l : Ent), ls[k]? = some l → i < 6 → (ls.flatMap Ent.cells)[k * 6 + i]? = l.cells[i]?
  | [], k, i, l, h, _ => by simp at h
  | x :: ls, 0, i, l, h, hi => by
    simp at h; subst h
    rw [List.flatMap_cons, List.getElem?_append_left (by simp [Ent.cells]; omega)]; simp
  | x :: ls, k + 1, i, l, h, hi => by
    simp at h
    rw [List.flatMap_cons, List.getElem?_append_right (by simp [Ent.cells]; omega)]
    have := ecells_getQ ls k i l h hi
    have e : (x.cells).length = 6 := rfl
    rw [e, show (k + 1) * 6 + i - 6 = k * 6 + i by omega]
    exact this
theorem entrIn_offQ {w : World} {v : Value} {ls : List Ent} (h : OffRow w 61 6 v ls.length (ls.flatMap Ent.cells)) : EntrIn w v ls := by
  obtain ⟨a, c, rfl, _, _⟩ := h.sh
  refine ⟨a, c, rfl, fun k e hk => ?_⟩
  rcases h.2 with ⟨h1, h2⟩ | ⟨g, off, cap, cur, hv, _⟩
  · have := (List.getElem?_eq_some_iff.1 hk).1
    omega
  · simp only [Value.slice.injEq, true_and] at hv
    obtain ⟨rfl, rfl⟩ := hv
    have f : ∀ i, i < 6 → w.cell? ⟨g, off + k * 6 + i, none⟩ = e.cells[i]? := fun i hi => by
      have h1 := ecells_getQ ls k i e hk hi
      obtain ⟨u, hu⟩ : ∃ u, e.cells[i]? = some u := ⟨_, List.getElem?_eq_getElem (by simp [Ent.cells]; omega)⟩
      rw [hu] at h1 ⊢
      have h2 := h.cell h1
      rw [Nat.add_assoc]; exact h2
    exact ⟨g, off, rfl, (f 0 (by omega)).trans rfl, (f 1 (by omega)).trans rfl, (f 2 (by omega)).trans rfl, (f 3 (by omega)).trans rfl, (f 4 (by omega)).trans rfl, (f 5 (by omega)).trans rfl⟩
theorem entrIn_rowQ {w : World} {B : Nat} {v : Value} {ls : List Ent} (h : w.ownsRow B 61 6 v ls.length (ls.flatMap Ent.cells)) : EntrIn w v ls := entrIn_offQ (OffRow.of_own h)

set_option maxHeartbeats 16000000 in
set_option maxRecDepth 100000 in
theorem queueRuns (bud lim ow ot pk' ps pm sz : Int) (v : Value) (L : List Cl) (v7 : Value) (z7 : List Int) (w : World)
    (_ : -9223372036854775808 ≤ bud ∧ bud ≤ 9223372036854775807) (_ : -9223372036854775808 ≤ lim ∧ lim ≤ 9223372036854775807) (_ : -9223372036854775808 ≤ ow ∧ ow ≤ 9223372036854775807) (_ : -9223372036854775808 ≤ ot ∧ ot ≤ 9223372036854775807)
    (_ : -9223372036854775808 ≤ pk' ∧ pk' ≤ 9223372036854775807) (_ : -9223372036854775808 ≤ ps ∧ ps ≤ 9223372036854775807) (_ : -9223372036854775808 ≤ pm ∧ pm ≤ 9223372036854775807) (_ : -9223372036854775808 ≤ sz ∧ sz ≤ 9223372036854775807)
    (hops : ClsIn w v L ∧ (∀ e ∈ L, e.d.length ≤ 140737488351232) ∧ ∃ a c, v = .slice a L.length c ∧ L.length ≤ c ∧ c ≤ 9223372036854775807) (h3 : RowIn w .i64 8 v7 z7) (hf3 : sliceFits v7) :
    Calls Tryz.prog 3 #[.int .i64 bud, .int .i64 lim, .int .i64 ow, .int .i64 ot, .agg #[.int .i64 pk', .int .i64 ps, .int .i64 pm], .int .i64 sz, v, v7] w (LawPost w) := by
  obtain ⟨⟨a, cap, rfl, hll, hcell⟩, hfit, a', cap', hac, hlc, hcm⟩ := hops
  simp only [Value.slice.injEq] at hac
  obtain ⟨rfl, _, rfl⟩ := hac
  have HLC := Lib.hid (And.intro hlc hcm)
  have HLL := Lib.hid hll
  have HC := Lib.hid hcell
  have HFIT := Lib.hid hfit
  have H3 := Lib.hid h3
  obtain ⟨pa, pc, hv3, _, _⟩ := h3.reads
  have HF3 := Lib.hid hf3
  have HV3 := Lib.hid hv3
  have P0 := heap_alloc_new w (.cells #[.int .i64 pk', .int .i64 ps, .int .i64 pm] 23)
  have bel0 : Below w.heap.size w (w.alloc (.cells #[.int .i64 pk', .int .i64 ps, .int .i64 pm] 23)) := (Below.refl _ _).alloc (Nat.le_refl _) _
  have HP0 := Lib.hid P0
  have HB0 := Lib.hid bel0
  clear hcell hfit hlc hcm h3 hf3 hv3 P0 bel0 hll
  by_cases hbud : 0 ≤ bud ∧ bud ≤ 10000000 ∧ 0 ≤ lim ∧ lim ≤ 10000000
  case neg =>
    have hor : bud < 0 ∨ 10000000 < bud ∨ lim < 0 ∨ 10000000 < lim := by omega
    clear hbud
    rcases hor with hh | hh | hh | hh
    all_goals
      go_enter Tryz.func3, Tryz.ntmps3
      go_wp2_with fail
      all_goals
        go_ret
        exact ⟨rfl, HB0.out⟩
  obtain ⟨hb1, hb2, hb3, hb4⟩ := hbud
  have BK := Lib.hid (fun W => books_any bud lim ⟨hb1, hb2⟩ W)
  unfold BooksPost at BK
  have n1 : ¬ bud < 0 := by omega
  have n2 : ¬ 10000000 < bud := by omega
  have n3 : ¬ lim < 0 := by omega
  have n4 : ¬ 10000000 < lim := by omega
  clear hb1 hb2 hb3 hb4
  go_enter Tryz.func3, Tryz.ntmps3
  go_wp2_with fail
  refine (BK.out _).mono ?_
  rintro e w1 ⟨p, q, st, F, G, rfl, hB, g⟩
  have hs0 := HB0.out.size
  have hs1 := hB.below.size
  have HG := Lib.hid g
  have HP1 : Hid (w1.heap[w.heap.size]? = _) := Lib.hid ((hB.below.block _ (lt_of HP0.out)).trans HP0.out)
  have HBW : Hid (Below w.heap.size w w1) := Lib.hid (HB0.out.trans (hB.below.mono hs0))
  have HBB : Hid (BothAt w w1 p q st 3 F G) := Lib.hid ⟨hB.own, hB.ref, hB.dis, hB.flt, hB.glt, fun k hk => by have := hB.flo k hk; omega, fun k hk => by have := hB.glo k hk; omega, HBW.out⟩
  clear hB g BK
  clear n1 n2 n3 n4
  go_upto_region 8 with fail
  have hsz2 : ((w1.alloc (.cells #[.pointer none, .pointer none] 31)).alloc (.cells #[.pointer none, .pointer none] 33)).heap.size = w1.heap.size + 1 + 1 := by rw [World.size_alloc, World.size_alloc]
  have MK0 : Hid (Mk w1 w1.heap.size (w1.heap.size + 1) (w1.heap.size + 1 + 1) ow ot (.pointer none) (.pointer none) (.pointer none) (.pointer none) (((w1.alloc (.cells #[.pointer none, .pointer none] 31)).alloc (.cells #[.pointer none, .pointer none] 33)).alloc (.cells #[.int .i64 ow, .int .i64 ot] 3))) := Lib.hid (Mk.new w1 ow ot)
  clear hsz2
  go_upto_block 0 with fail
  generalize (((w1.alloc (.cells #[.pointer none, .pointer none] 31)).alloc (.cells #[.pointer none, .pointer none] 33)).alloc (.cells #[.int .i64 ow, .int .i64 ot] 3)) = W3 at *
  have HPOL : Hid (∀ W, Below w1.heap.size w1 W → W.cell? ⟨w.heap.size, 0, none⟩ = some (.int .i64 pk') ∧ W.cell? ⟨w.heap.size, 1, none⟩ = some (.int .i64 ps) ∧ W.cell? ⟨w.heap.size, 2, none⟩ = some (.int .i64 pm)) := Lib.hid (fun W hW => by
    have e := (hW.block _ (lt_of HP1.out)).trans HP1.out
    exact ⟨by rw [cell_of e]; rfl, by rw [cell_of e]; rfl, by rw [cell_of e]; rfl⟩)
  have NQ : Hid (∀ W o, Below w1.heap.size w1 W → Calls Tryz.prog 5 #[.pointer (some ⟨p, 0, none⟩), .int .i64 o, .agg #[.int .i64 pk', .int .i64 ps, .int .i64 pm], .int .i64 sz] W (PtrPost (quCells p o pk' ps pm sz (.slice none 0 0)) 79 (quErr st pk' ps pm sz o) W)) := Lib.hid (fun W o hW => newQueue_any p o pk' ps pm sz W F st 3 (HBB.out.under hW).own)
  have NR : Hid (∀ W o, Below w1.heap.size w1 W → Calls Tryz.prog 6 #[.pointer (some ⟨q, 0, none⟩), .int .i64 o, .agg #[.int .i64 pk', .int .i64 ps, .int .i64 pm], .int .i64 sz] W (PtrPost (rqCells q o pk' ps pm sz (.slice none 0 0) false) 83 (quErr st pk' ps pm sz o) W)) := Lib.hid (fun W o hW => newQueueR_any q o pk' ps pm sz W G st (HBB.out.under hW).ref)
  unfold PtrPost at NQ NR
  obtain ⟨eo, heo⟩ : ∃ eo, quErr st pk' ps pm sz ow = eo := ⟨_, rfl⟩
  obtain ⟨et, het⟩ : ∃ et, quErr st pk' ps pm sz ot = et := ⟨_, rfl⟩
  have NQ1 := Lib.hid (fun W hW => NQ.out W ow hW)
  have NR1 := Lib.hid (fun W hW => NR.out W ow hW)
  have NQ2 := Lib.hid (fun W hW => NQ.out W ot hW)
  have NR2 := Lib.hid (fun W hW => NR.out W ot hW)
  rw [heo] at NQ1 NR1
  rw [het] at NQ2 NR2
  have HEO := Lib.hid heo
  clear NQ NR heo het
  generalize ho20 : w1.heap.size = o20 at MK0 ⊢
  have HO20 := Lib.hid ho20
  clear ho20
  generalize ho21 : o20 + 1 = o21 at *
  have HO21 := Lib.hid ho21
  clear ho21
  generalize ho60 : o21 + 1 = o60 at *
  have HO60 := Lib.hid ho60
  clear ho60
  refine wp_cut_framed 173 (fun f wx => f 2 = .int .i64 ow ∧ f 6 = .slice a L.length cap ∧ f 7 = v7 ∧ f 17 = .pointer (some ⟨p, 0, none⟩) ∧ f 18 = .pointer (some ⟨q, 0, none⟩) ∧ f 20 = .pointer (some ⟨o20, 0, none⟩) ∧ f 21 = .pointer (some ⟨o21, 0, none⟩) ∧
    ∃ r1 r2 r1' r2', Made2 w p q pk' ps pm sz ow ot st r1 r2 r1' r2' o60 wx ∧ Mk w1 o20 o21 o60 ow ot (qp r1) (qp r2) (qp r1') (qp r2') wx) _ _ ?_ ?_
  · skip
    intro J2 K2 hJ2 hK2
    go_wp2_with fail
    refine wp_loop_rounds 3 ?_
    rw [rounds_succ]
    have hl1 : W3.cell? ⟨o60, 0, none⟩ = some (.int .i64 ow) := by rw [cell_of MK0.out.lst]; rfl
    obtain ⟨pa1, pb1, pc1⟩ := HPOL.out W3 MK0.out.bel
    go_wp2_with fail
    refine (NQ1.out _ MK0.out.bel).mono ?_
    rintro e w4 ⟨hb4, hx⟩
    have B4 := Lib.hid (MK0.out.bel.trans (hb4.mono MK0.out.bel.size))
    have HB4 := Lib.hid hb4
    obtain ⟨qa1, qb1, qc1⟩ := HPOL.out w4 B4.out
    clear hb4 hl1 pa1 pb1 pc1
    by_cases h0 : eo = 0
    case neg =>
      have H0 := Lib.hid h0
      have h0' : (eo != 0) = true := by simpa using h0
      have h0'' : (eo == 0) = false := by simpa using h0
      rcases hx with ⟨_, rfl⟩ | ⟨hx, _⟩
      case inr => exact absurd hx h0
      clear h0
      go_wp2_with fail
      refine (NR1.out _ B4.out).mono ?_
      rintro e w5 ⟨hb5, hx⟩
      have B5 := Lib.hid (HBW.out.trans ((B4.out.trans (hb5.mono B4.out.size)).mono HBW.out.size))
      rcases hx with ⟨_, rfl⟩ | ⟨hx, _⟩
      case inr => exact absurd hx H0.out
      clear hb5
      go_wp2_with fail
      go_ret
      exact ⟨rfl, B5.out⟩
    rcases hx with ⟨hx, _⟩ | ⟨_, r1, rfl, hr1, hq1⟩
    case inl => exact absurd h0 hx
    have HQ1 := Lib.hid (And.intro hr1 hq1)
    clear hr1 hq1
    have HE1 := Lib.hid h0
    rw [h0] at NR1
    clear h0
    go_wp2_with fail
    refine (NR1.out _ B4.out).mono ?_
    rintro e w5 ⟨hb5, hx⟩
    have B5 := Lib.hid (B4.out.trans (hb5.mono B4.out.size))
    have HB5 := Lib.hid hb5
    rcases hx with ⟨hx, _⟩ | ⟨_, r1', rfl, hr1', hq1'⟩
    case inl => exact absurd rfl hx
    have HR1 := Lib.hid (And.intro hr1' hq1')
    clear hr1' hq1' hb5 qa1 qb1 qc1
    have M5 := Lib.hid ((MK0.out.below HB4.out).below HB5.out)
    have fo := free_of M5.out.own 0
    have wb : (w5.setCell ⟨o20, 0, none⟩ (.pointer (some ⟨r1, 0, none⟩))).heap[o21]? = _ := (Below.heap_setCell _ _ _ _ (fun e => by have e' : o21 = o20 := e; have := M5.out.ord; omega)).trans M5.out.want
    have fw := free_of wb 0
    have co : w5.cell? ⟨o20, 0, none⟩ = some (.pointer none) := by rw [cell_of M5.out.own]; rfl
    have cw : (w5.setCell ⟨o20, 0, none⟩ (.pointer (some ⟨r1, 0, none⟩))).cell? ⟨o21, 0, none⟩ = some (.pointer none) := by rw [cell_of wb]; rfl
    clear wb
    have K6 : Hid ((((w5.setCell ⟨o20, 0, none⟩ (.pointer (some ⟨r1, 0, none⟩))).setCell ⟨o21, 0, none⟩ (.pointer (some ⟨r1', 0, none⟩))).heap[r1]? = some (.cells (quCells p ow pk' ps pm sz (.slice none 0 0)) 79 (0, 0))) ∧ (((w5.setCell ⟨o20, 0, none⟩ (.pointer (some ⟨r1, 0, none⟩))).setCell ⟨o21, 0, none⟩ (.pointer (some ⟨r1', 0, none⟩))).heap[r1']? = some (.cells (rqCells q ow pk' ps pm sz (.slice none 0 0) false) 83 (0, 0))) ∧ o60 ≤ r1 ∧ o60 ≤ r1') := Lib.hid (by
      have l0 := lt_of MK0.out.lst
      have g1 := HQ1.out.1
      have g2 := HR1.out.1
      have g3 := HB4.out.size
      exact ⟨(M5.out.far 0 _ _ (by omega)).trans ((HB5.out.block _ (lt_of HQ1.out.2)).trans HQ1.out.2), (M5.out.far 0 _ _ (by omega)).trans HR1.out.2, by omega, by omega⟩)
    have MK1 : Hid (Mk w1 o20 o21 o60 ow ot (qp r1) (.pointer none) (qp r1') (.pointer none) ((w5.setCell ⟨o20, 0, none⟩ (.pointer (some ⟨r1, 0, none⟩))).setCell ⟨o21, 0, none⟩ (.pointer (some ⟨r1', 0, none⟩)))) := Lib.hid (M5.out.put0 (qp r1) (qp r1'))
    clear B4 HB4 M5
    go_upto_region 18 with fail
    generalize hw6 : (w5.setCell ⟨o20, 0, none⟩ (.pointer (some ⟨r1, 0, none⟩))).setCell ⟨o21, 0, none⟩ (.pointer (some ⟨r1', 0, none⟩)) = w6 at *
    clear hw6 fo fw co cw B5 HB5
    go_wp2_with fail
    rw [rounds_succ]
    have hl2 : w6.cell? ⟨o60, 1, none⟩ = some (.int .i64 ot) := by rw [cell_of MK1.out.lst]; rfl
    obtain ⟨pa2, pb2, pc2⟩ := HPOL.out w6 MK1.out.bel
    go_wp2_with fail
    refine (NQ2.out _ MK1.out.bel).mono ?_
    rintro e w4 ⟨hb4, hx⟩
    have B4 := Lib.hid (MK1.out.bel.trans (hb4.mono MK1.out.bel.size))
    have HB4 := Lib.hid hb4
    obtain ⟨qa2, qb2, qc2⟩ := HPOL.out w4 B4.out
    clear hb4 hl2 pa2 pb2 pc2
    by_cases h0 : et = 0
    case neg =>
      have H0 := Lib.hid h0
      have h0' : (et != 0) = true := by simpa using h0
      have h0'' : (et == 0) = false := by simpa using h0
      rcases hx with ⟨_, rfl⟩ | ⟨hx, _⟩
      case inr => exact absurd hx h0
      clear h0
      go_wp2_with fail
      refine (NR2.out _ B4.out).mono ?_
      rintro e w5 ⟨hb5, hx⟩
      have B5 := Lib.hid (HBW.out.trans ((B4.out.trans (hb5.mono B4.out.size)).mono HBW.out.size))
      rcases hx with ⟨_, rfl⟩ | ⟨hx, _⟩
      case inr => exact absurd hx H0.out
      clear hb5
      go_wp2_with fail
      go_ret
      exact ⟨rfl, B5.out⟩
    rcases hx with ⟨hx, _⟩ | ⟨_, r2, rfl, hr2, hq2⟩
    case inl => exact absurd h0 hx
    have HQ2 := Lib.hid (And.intro hr2 hq2)
    clear hr2 hq2
    have HE2 := Lib.hid h0
    rw [h0] at NR2
    clear h0
    go_wp2_with fail
    refine (NR2.out _ B4.out).mono ?_
    rintro e w5 ⟨hb5, hx⟩
    have B5 := Lib.hid (B4.out.trans (hb5.mono B4.out.size))
    have HB5 := Lib.hid hb5
    rcases hx with ⟨hx, _⟩ | ⟨_, r2', rfl, hr2', hq2'⟩
    case inl => exact absurd rfl hx
    have HR2 := Lib.hid (And.intro hr2' hq2')
    clear hr2' hq2' hb5 qa2 qb2 qc2
    have M5 := Lib.hid ((MK1.out.below HB4.out).below HB5.out)
    have fo := free_of M5.out.own 1
    have wb : (w5.setCell ⟨o20, 1, none⟩ (.pointer (some ⟨r2, 0, none⟩))).heap[o21]? = _ := (Below.heap_setCell _ _ _ _ (fun e => by have e' : o21 = o20 := e; have := M5.out.ord; omega)).trans M5.out.want
    have fw := free_of wb 1
    have co : w5.cell? ⟨o20, 1, none⟩ = some (.pointer none) := by rw [cell_of M5.out.own]; rfl
    have cw : (w5.setCell ⟨o20, 1, none⟩ (.pointer (some ⟨r2, 0, none⟩))).cell? ⟨o21, 1, none⟩ = some (.pointer none) := by rw [cell_of wb]; rfl
    clear wb
    have DONE : Hid (Made2 w p q pk' ps pm sz ow ot st r1 r2 r1' r2' o60 ((w5.setCell ⟨o20, 1, none⟩ (.pointer (some ⟨r2, 0, none⟩))).setCell ⟨o21, 1, none⟩ (.pointer (some ⟨r2', 0, none⟩))) ∧ Mk w1 o20 o21 o60 ow ot (qp r1) (qp r2) (qp r1') (qp r2') ((w5.setCell ⟨o20, 1, none⟩ (.pointer (some ⟨r2, 0, none⟩))).setCell ⟨o21, 1, none⟩ (.pointer (some ⟨r2', 0, none⟩)))) := Lib.hid (by
      obtain ⟨k1, k2, k3, k4⟩ := K6.out
      have l0 := lt_of MK1.out.lst
      have g1 := HQ2.out.1
      have g2 := HR2.out.1
      have g3 := HB4.out.size
      have l1 := lt_of k1
      have l2 := lt_of k2
      refine ⟨⟨(M5.out.far 1 _ _ k3).trans ((HB5.out.block _ (by omega)).trans ((HB4.out.block _ l1).trans k1)), (M5.out.far 1 _ _ (by omega)).trans ((HB5.out.block _ (lt_of HQ2.out.2)).trans HQ2.out.2), (M5.out.far 1 _ _ k4).trans ((HB5.out.block _ (by omega)).trans ((HB4.out.block _ l2).trans k2)), (M5.out.far 1 _ _ (by omega)).trans HR2.out.2, ⟨k3, by omega, k4, by omega⟩, ⟨by omega, by omega⟩, HEO.out.trans HE1.out⟩, M5.out.put1 (qp r2) (qp r2')⟩)
    clear B4 HB4 M5
    go_upto_region 18 with fail
    generalize hw6 : (w5.setCell ⟨o20, 1, none⟩ (.pointer (some ⟨r2, 0, none⟩))).setCell ⟨o21, 1, none⟩ (.pointer (some ⟨r2', 0, none⟩)) = w6 at *
    clear hw6 fo fw co cw B5 HB5
    go_wp2_with fail
    rw [rounds_succ]
    go_wp2_with fail
    exact Met.intro (hJ2 _ _ (by kernel_rfl) ⟨rfl, rfl, rfl, rfl, rfl, rfl, rfl, r1, r2, r1', r2', DONE.out.1, DONE.out.2⟩)
  intro f wx ⟨f2, f6, f7, f17, f18, f20, f21, r1, r2, r1', r2', hmd, hmk⟩
  rw [slots173]
  rw [f2, f6, f7, f17, f18, f20, f21]
  clear f2 f6 f7 f17 f18 f20 f21 MK0 NQ1 NR1 NQ2 NR2 HPOL HP0 HP1
  have hbw := hmk.bel.size
  have hord := hmk.ord
  have QI0 : Hid (QIx w ⟨r1, p, ow, pk', ps, pm, sz⟩ ⟨r2, p, ot, pk', ps, pm, sz⟩ ⟨r1', q, ow, pk', ps, pm, sz⟩ ⟨r2', q, ot, pk', ps, pm, sz⟩ wx.heap.size 0 3 (fun x => x = o20 ∨ x = o21) (wx.alloc (.cells #[.slice none 0 0, .slice none 0 0] 41))) := Lib.hid (by
    have hlo := hmd.lo
    refine hmd.start (HBB.out.under hmk.bel) HG.out (fun k hk => ?_) (by have := HBW.out.size; omega) (fun x hx => ?_)
    · have := hk.elim (HBB.out.flt k) (HBB.out.glt k); omega
    · have l1 := lt_of hmk.own
      have l2 := lt_of hmk.want
      refine ⟨fun e => ?_, ?_, ?_, ?_, ?_, ?_⟩
      · have := e.elim (HBB.out.flt x) (HBB.out.glt x)
        rcases hx with rfl | rfl <;> omega
      all_goals rcases hx with rfl | rfl <;> omega)
  have OW0 : Hid (OwSt o20 o21 r1 r2 r1' r2' (wx.alloc (.cells #[.slice none 0 0, .slice none 0 0] 41))) := Lib.hid (OwSt.below ⟨hmk.own, hmk.want⟩ ((Below.refl _ _).alloc (Nat.le_refl _) _))
  obtain ⟨I, hI⟩ : ∃ I : QuId, I = ⟨r1, p, ow, pk', ps, pm, sz⟩ := ⟨_, rfl⟩
  obtain ⟨J, hJ⟩ : ∃ J : QuId, J = ⟨r2, p, ot, pk', ps, pm, sz⟩ := ⟨_, rfl⟩
  obtain ⟨I', hI'⟩ : ∃ I : QuId, I = ⟨r1', q, ow, pk', ps, pm, sz⟩ := ⟨_, rfl⟩
  obtain ⟨J', hJ'⟩ : ∃ I : QuId, I = ⟨r2', q, ot, pk', ps, pm, sz⟩ := ⟨_, rfl⟩
  have EI : Hid (I.r = r1 ∧ J.r = r2 ∧ I'.r = r1' ∧ J'.r = r2' ∧ I.bp = p ∧ I'.bp = q) := Lib.hid (by subst hI hJ hI' hJ'; exact ⟨rfl, rfl, rfl, rfl, rfl, rfl⟩)
  rw [← hI, ← hJ, ← hI', ← hJ'] at QI0
  clear hI hJ hI' hJ' hmd hmk hbw hord HEO HO20 HO21 HO60
  go_upto_region 20 with fail
  generalize hcp : wx.heap.size = cp at *
  generalize wx.alloc (.cells #[.slice none 0 0, .slice none 0 0] 41) = W4 at *
  clear hcp
  go_wp2_with fail
  refine wp_loop_framed 173 (fun gm f wr => ∃ k : Nat, k ≤ L.length ∧ gm = L.length - k ∧ f 2 = .int .i64 ow ∧ f 7 = v7 ∧ f 17 = .pointer (some ⟨p, 0, none⟩) ∧ f 18 = .pointer (some ⟨q, 0, none⟩) ∧ f 20 = .pointer (some ⟨o20, 0, none⟩) ∧ f 21 = .pointer (some ⟨o21, 0, none⟩) ∧ f 28 = .pointer (some ⟨cp, 0, none⟩) ∧
    f 106 = .slice a L.length cap ∧ f 107 = .int .i64 (L.length : Int) ∧ f 108 = .int .i64 (k : Int) ∧ QIx w I J I' J' cp k 3 (fun x => x = o20 ∨ x = o21) wr ∧ OwSt o20 o21 r1 r2 r1' r2' wr) _ _ (by kernel_rfl) L.length
    ⟨0, Nat.zero_le _, rfl, rfl, rfl, rfl, rfl, rfl, rfl, rfl, rfl, rfl, rfl, QI0.out, OW0.out⟩ ?_
  clear QI0 OW0
  intro gm f wr ⟨k, hk, hgm, f2, f7, f17, f18, f20, f21, f28, f106, f107, f108, hQ, hO⟩ JJ KK hJJ hKK
  rw [slots173]
  rw [f2, f7, f17, f18, f20, f21, f28, f106, f107, f108]
  clear f2 f7 f17 f18 f20 f21 f28 f106 f107 f108
  have HKJ := Lib.hid (And.intro hJJ hKK)
  have HQ := Lib.hid hQ
  have HO := Lib.hid hO
  have BELR : Hid (Below w.heap.size w wr) := Lib.hid (by obtain ⟨_, _, _, hh, _⟩ := hQ.both; exact hh.below)
  clear hQ hO hJJ hKK
  by_cases hlt : k < L.length
  · --[[R
    obtain ⟨b, o, ha, c5⟩ := HC.out k hlt
    subst ha
    have HLT := Lib.hid hlt
    have c5' := c5.below BELR.out
    have c5w := c5
    obtain ⟨g0, g1, g2, g3, dv, g4, hrd, hz, hfk, hfa, hfb, hfc⟩ := c5'
    have hcl := HFIT.out (L.getD k Cl.zero) (by rw [List.getD_eq_getElem?_getD, List.getElem?_eq_getElem hlt]; simp)
    have hcd : ∀ W, Below w.heap.size w W → Reads W .u8 dv (L.getD k Cl.zero).d := fun W hW => by
      obtain ⟨_, _, _, _, dv', h4', hrd', _⟩ := c5w
      have h4 : w.cell? ⟨b, o + k * 5 + 4, none⟩ = some dv' := h4'
      have e : wr.cell? ⟨b, o + k * 5 + 4, none⟩ = some dv' := old_cell BELR.out h4
      rw [e] at g4
      simp only [Option.some.injEq] at g4
      rw [← g4]
      exact hrd'.below hW rfl
    have hzb := bytes_wfQ hz
    obtain ⟨da, dc, rfl, _, _⟩ := hrd.open
    have HCD := Lib.hid hcd
    have HZB := Lib.hid hzb
    have HF4 := Lib.hid (And.intro hfk (And.intro hfa (And.intro hfb hfc)))
    have HCL := Lib.hid hcl
    have HKN : Hid (k < 5500000000000) := Lib.hid (by have := HLL.out; omega)
    generalize L.getD k Cl.zero = cl at *
    obtain ⟨ck, ca, cb, cc, cd⟩ := cl
    simp only at g0 g1 g2 g3 g4
    generalize hdn : cd.length = dn at *
    have HDN := Lib.hid hdn
    clear hrd hz hfk hfa hfb hfc hcl hcd hzb c5 c5w hdn
    have QB := Lib.hid (HQ.out.below ((Below.refl wr.heap.size wr).alloc (Nat.le_refl _) (.cells #[.int .i64 ck, .int .i64 ca, .int .i64 cb, .int .i64 cc, .slice da dn dc] 44)))
    have OB := Lib.hid (HO.out.below ((Below.refl wr.heap.size wr).alloc (Nat.le_refl _) (.cells #[.int .i64 ck, .int .i64 ca, .int .i64 cb, .int .i64 cc, .slice da dn dc] 44)))
    have XB := Lib.hid (heap_alloc_new wr (.cells #[.int .i64 ck, .int .i64 ca, .int .i64 cb, .int .i64 cc, .slice da dn dc] 44))
    clear HQ HO
    go_upto_region 23 with fail
    generalize wr.alloc (.cells #[.int .i64 ck, .int .i64 ca, .int .i64 cb, .int .i64 cc, .slice da dn dc] 44) = W1 at *
    have n0 : W1.cell? ⟨wr.heap.size, 0, none⟩ = some (.int .i64 ck) := by rw [cell_of XB.out]; rfl
    have n1 : W1.cell? ⟨wr.heap.size, 1, none⟩ = some (.int .i64 ca) := by rw [cell_of XB.out]; rfl
    have n2 : W1.cell? ⟨wr.heap.size, 2, none⟩ = some (.int .i64 cb) := by rw [cell_of XB.out]; rfl
    have n3 : W1.cell? ⟨wr.heap.size, 3, none⟩ = some (.int .i64 cc) := by rw [cell_of XB.out]; rfl
    have n4 : W1.cell? ⟨wr.heap.size, 4, none⟩ = some (.slice da dn dc) := by rw [cell_of XB.out]; rfl
    obtain ⟨z0, z1, z2, z3⟩ := OB.out.cells
    have QCL := Lib.hid (queueCall_any w I J I' J' cp k 3 _ ck ca cb cc da dn dc cd W1 QB.out HKN.out HCD.out HZB.out (by have := HCL.out; have := HDN.out; omega) HF4.out.1 HF4.out.2.1 HF4.out.2.2.1 HF4.out.2.2.2)
    obtain ⟨ei1, ei2, ei3, ei4, _⟩ := EI.out
    rw [ei1, ei2, ei3, ei4] at QCL
    clear ei1 ei2 ei3 ei4 g0 g1 g2 g3 g4
    go_wp2_with fail
    refine QCL.out.mono ?_
    rintro e w2 ⟨rfl, q2, st2⟩
    have Q2 := Lib.hid q2
    have O2 := Lib.hid (OB.out.stay st2)
    have SB : Hid (Calls Tryz.prog 8 #[.pointer (some ⟨p, 0, none⟩), .pointer (some ⟨q, 0, none⟩), .int .i64 ow] w2 (LawPost w2)) := Lib.hid (by
      obtain ⟨st', F', G', hh, gg⟩ := q2.both
      obtain ⟨_, _, _, _, eb1, eb2⟩ := EI.out
      rw [eb1, eb2] at hh
      exact sameBook_any p q ow w w2 st' 3 F' G' hh gg)
    clear q2 st2 n0 n1 n2 n3 n4 z0 z1 z2 z3 QCL QB OB XB
    go_wp2_with fail
    refine SB.out.mono ?_
    rintro e w3 ⟨rfl, hb3⟩
    have Q3 := Lib.hid (Q2.out.below hb3)
    have O3 := Lib.hid (O2.out.below hb3)
    have SA : Hid (Calls Tryz.prog 9 #[.pointer (some ⟨cp, 0, none⟩)] w3 (SamePost w3)) := Lib.hid (by
      obtain ⟨R, prs, k1, k2, k3, _⟩ := Q3.out.cells
      exact same_any cp w.heap.size R prs w3 k1 k2 k3)
    unfold SamePost at SA
    clear hb3 SB Q2 O2
    go_wp2_with fail
    refine SA.out.mono ?_
    rintro e w4 ⟨rfl, q4, hw4⟩
    have b4 : Below w3.heap.size w3 w4 := by rw [hw4]; exact bdrewN (Below.refl _ _) q4
    have Q4 := Lib.hid (Q3.out.below b4)
    have O4 := Lib.hid (O3.out.below b4)
    clear hw4 b4 SA Q3 O3
    obtain ⟨z0, z1, z2, z3⟩ := O4.out.cells
    go_wp2_with fail
    clear z0 z1 z2 z3
    --[[I
    refine wp_loop_framed 173 (fun gm f wz => ∃ i : Nat, i ≤ 2 ∧ gm = 2 - i ∧ f 2 = .int .i64 ow ∧ f 7 = v7 ∧ f 17 = .pointer (some ⟨p, 0, none⟩) ∧ f 18 = .pointer (some ⟨q, 0, none⟩) ∧ f 20 = .pointer (some ⟨o20, 0, none⟩) ∧ f 21 = .pointer (some ⟨o21, 0, none⟩) ∧ f 28 = .pointer (some ⟨cp, 0, none⟩) ∧
      f 106 = .slice (some ⟨b, o, none⟩) L.length cap ∧ f 107 = .int .i64 (L.length : Int) ∧ f 108 = .int .i64 (k : Int) ∧ f 128 = .agg #[.pointer (some ⟨r1, 0, none⟩), .pointer (some ⟨r2, 0, none⟩)] ∧ f 129 = .int .i64 (i : Int) ∧ QIx w I J I' J' cp (k + 1) 3 (fun x => x = o20 ∨ x = o21) wz ∧ OwSt o20 o21 r1 r2 r1' r2' wz) _ _ (by kernel_rfl) 2
      ⟨0, by omega, rfl, rfl, rfl, rfl, rfl, rfl, rfl, rfl, rfl, rfl, rfl, rfl, rfl, Q4.out, O4.out⟩ ?_
    clear Q4 O4
    intro gm2 f2' wz ⟨i, hi, hgm2, f2, f7, f17, f18, f20, f21, f28, f106, f107, f108, f128, f129, hQ, hO⟩ J2 K2 hJ2 hK2
    rw [slots173]
    rw [f2, f7, f17, f18, f20, f21, f28, f106, f107, f108, f128, f129]
    clear f2 f7 f17 f18 f20 f21 f28 f106 f107 f108 f128 f129
    have HQ := Lib.hid hQ
    have HO := Lib.hid hO
    clear hQ hO
    by_cases hi2 : i < 2
    · obtain ⟨s, hs⟩ : ∃ s : Bool, (i = 0 ∧ s = false) ∨ (i = 1 ∧ s = true) := by
        rcases (show i = 0 ∨ i = 1 by omega) with e | e
        · exact ⟨false, Or.inl ⟨e, rfl⟩⟩
        · exact ⟨true, Or.inr ⟨e, rfl⟩⟩
      obtain ⟨va, vm, C, V, hva, hvm⟩ := HQ.out.view s
      have HV := Lib.hid V
      have HI := Lib.hid hi2
      obtain ⟨z0, z1, z2, z3⟩ := HO.out.cells
      have PKR : Hid ((i = 0 → (pk s I J).r = r1 ∧ (pk s I' J').r = r1') ∧ (i = 1 → (pk s I J).r = r2 ∧ (pk s I' J').r = r2')) := Lib.hid (by
        obtain ⟨ei1, ei2, ei3, ei4, _⟩ := EI.out
        rcases hs with ⟨e, rfl⟩ | ⟨e, rfl⟩
        · exact ⟨fun _ => ⟨ei1, ei3⟩, fun h => by omega⟩
        · exact ⟨fun h => by omega, fun _ => ⟨ei2, ei4⟩⟩)
      have SZ := Lib.hid (V.sz wz (Below.refl _ _))
      obtain ⟨tr, htr⟩ : ∃ tr, (pk s I J).r = tr := ⟨_, rfl⟩
      obtain ⟨tr', htr'⟩ : ∃ tr, (pk s I' J').r = tr := ⟨_, rfl⟩
      rw [htr'] at SZ
      rw [htr, htr'] at PKR
      have HTR := Lib.hid (And.intro htr htr')
      clear V hs htr htr'
      have HKJ2 := Lib.hid (And.intro hJ2 hK2)
      clear hJ2 hK2
      go_upto_region 27 with fail
      refine wp_cut_framed 173 (fun f wy => f 2 = .int .i64 ow ∧ f 7 = v7 ∧ f 17 = .pointer (some ⟨p, 0, none⟩) ∧ f 18 = .pointer (some ⟨q, 0, none⟩) ∧ f 20 = .pointer (some ⟨o20, 0, none⟩) ∧ f 21 = .pointer (some ⟨o21, 0, none⟩) ∧ f 28 = .pointer (some ⟨cp, 0, none⟩) ∧
        f 106 = .slice (some ⟨b, o, none⟩) L.length cap ∧ f 107 = .int .i64 (L.length : Int) ∧ f 108 = .int .i64 (k : Int) ∧ f 128 = .agg #[.pointer (some ⟨r1, 0, none⟩), .pointer (some ⟨r2, 0, none⟩)] ∧ f 129 = .int .i64 (i : Int) ∧ f 31 = .int .i64 (i : Int) ∧ f 32 = .pointer (some ⟨tr, 0, none⟩) ∧ wy = wz ∧ wz.cell? ⟨o21, i, none⟩ = some (.pointer (some ⟨tr', 0, none⟩))) _ _ ?_ ?_
      · intro J3 K3 hJ3 hK3
        have PK := PKR.out
        clear PKR
        have IX : ∀ W, (Instr.index 31 (.agg #[.pointer (some ⟨r1, 0, none⟩), .pointer (some ⟨r2, 0, none⟩)]) (.int .i64 (i : Int))).run Tryz.prog W = .ok (.pointer (some ⟨tr, 0, none⟩)) W := fun W => by
          rcases (show i = 0 ∨ i = 1 by omega) with e | e
          · obtain ⟨e1, e2⟩ := PK.1 e
            subst e e1 e2
            exact index_two0 W _ _
          · obtain ⟨e1, e2⟩ := PK.2 e
            subst e e1 e2
            exact index_two1 W _ _
        have hcell : wz.cell? ⟨o21, i, none⟩ = some (.pointer (some ⟨tr', 0, none⟩)) := by
          rcases (show i = 0 ∨ i = 1 by omega) with e | e
          · obtain ⟨e1, e2⟩ := PK.1 e
            subst e e1 e2
            exact z2
          · obtain ⟨e1, e2⟩ := PK.2 e
            subst e e1 e2
            exact z3
        clear PK
        go_wp2_with fail
        exact Met.intro (hJ3 _ _ (by kernel_rfl) ⟨rfl, rfl, rfl, rfl, rfl, rfl, rfl, rfl, rfl, rfl, rfl, rfl, rfl, rfl, rfl, hcell⟩)
      intro f3 wy ⟨f2, f7, f17, f18, f20, f21, f28, f106, f107, f108, f128, f129, f31, f32, hwy, hcell⟩
      subst hwy
      rw [slots173]
      rw [f2, f7, f17, f18, f20, f21, f28, f31, f32, f106, f107, f108, f128, f129]
      clear f2 f7 f17 f18 f20 f21 f28 f31 f32 f106 f107 f108 f128 f129 z0 z1 z2 z3 PKR
      go_wp2_with fail
      refine SZ.out.mono ?_
      rintro e w5 ⟨rfl, hb5⟩
      have B5 := Lib.hid hb5
      have cell5 := old_cell hb5 hcell
      have CY := Lib.hid hcell
      clear hb5 SZ hcell
      go_upto_region 29 with fail
      refine wp_cut_framed 173 (fun f wx' => f 2 = .int .i64 ow ∧ f 7 = v7 ∧ f 17 = .pointer (some ⟨p, 0, none⟩) ∧ f 18 = .pointer (some ⟨q, 0, none⟩) ∧ f 20 = .pointer (some ⟨o20, 0, none⟩) ∧ f 21 = .pointer (some ⟨o21, 0, none⟩) ∧ f 28 = .pointer (some ⟨cp, 0, none⟩) ∧
        f 106 = .slice (some ⟨b, o, none⟩) L.length cap ∧ f 107 = .int .i64 (L.length : Int) ∧ f 108 = .int .i64 (k : Int) ∧ f 128 = .agg #[.pointer (some ⟨r1, 0, none⟩), .pointer (some ⟨r2, 0, none⟩)] ∧ f 129 = .int .i64 (i : Int) ∧ f 159 = .bool false ∧ Below wy.heap.size wy wx') _ _ ?_ ?_
      · intro J3 K3 hJ3 hK3
        have S0' : BelQ wy w5.drew := bdrewN B5.out 1
        have Crm := Lib.hid (fun W hW => HV.out.room W hW)
        have Cln := Lib.hid (fun W hW => HV.out.len W hW)
        have Cck := Lib.hid (fun W hW => HV.out.ck W hW)
        have Ckr := Lib.hid (fun W hW => HV.out.ckr W hW)
        rw [HTR.out.1] at Crm Cln Cck
        rw [HTR.out.2] at Ckr
        have HFW := Lib.hid HV.out.few
        clear HV HQ HO HTR
        refine wp_normal ?_
        refine wp_region_plan 19 (TwoQ wy o21 i tr') rfl ?_
        have cy : wy.cell? ⟨o21, i, none⟩ = some (.pointer (some ⟨tr', 0, none⟩)) := CY.out
        have S0 : TwoQ wy o21 i tr' w5.drew := TwoQ.of S0' cy
        refine wpN_pure [0, 2] (by kernel_rfl) (by kernel_rfl) (by kernel_rfl) (fun _ _ _ _ _ h => h) (fun _ => S0) ?_
        simp only [pick, List.map_cons, List.map_nil, List.getElem?_cons_succ, List.getElem?_cons_zero, Option.getD_some]
        repeat (go_big_quiet_step (fail))
        refine wpQuiet_nil ?_
        refine wpN_one 1 _ (by kernel_rfl) rfl ?_
        refine NextAt.held ?_
        intro K hK
        go_simp
        refine (Crm.out _ S0').mono ?_
        rintro e x1 ⟨rfl, hb⟩
        have S1' : BelQ wy x1 := Below.trans (a := wy) S0' (hb.mono (Below.size S0'))
        have S1 : TwoQ wy o21 i tr' x1 := TwoQ.of S1' cy
        go_simp
        refine hK _ _ S1 ?_
        clear hK K hb
        refine wpN_pure [3, 4, 5, 7] (by kernel_rfl) (by kernel_rfl) (by kernel_rfl) (fun _ _ _ _ _ h => h) (fun _ => S1) ?_
        simp only [pick, List.map_cons, List.map_nil, List.getElem?_cons_succ, List.getElem?_cons_zero, Option.getD_some]
        repeat (go_big_quiet_step (fail))
        refine wpQuiet_nil ?_
        refine wpN_one 6 _ (by kernel_rfl) rfl ?_
        refine NextAt.held ?_
        intro K hK
        go_simp
        refine (Cln.out _ S1').mono ?_
        rintro e x2 ⟨rfl, hb⟩
        have S2' : BelQ wy x2 := Below.trans (a := wy) S1' (hb.mono (Below.size S1'))
        have S2 : TwoQ wy o21 i tr' x2 := TwoQ.of S2' cy
        go_simp
        refine hK _ _ S2 ?_
        clear hK K hb
        refine wpN_pure [8] (by kernel_rfl) (by kernel_rfl) (by kernel_rfl) (fun _ _ _ _ _ h => h) (fun _ => S2) ?_
        simp only [pick, List.map_cons, List.map_nil, List.getElem?_cons_succ, List.getElem?_cons_zero, Option.getD_some]
        repeat (go_big_quiet_step (fail))
        refine wpQuiet_nil ?_
        refine wpN_one 9 _ (by kernel_rfl) rfl ?_
        refine NextAt.held ?_
        intro K hK
        go_simp
        refine hK _ _ S2 ?_
        clear hK K
        refine wpN_pure [10, 11, 13, 14] (by kernel_rfl) (by kernel_rfl) (by kernel_rfl) (fun _ _ _ _ _ h => h) (fun _ => S2) ?_
        simp only [pick, List.map_cons, List.map_nil, List.getElem?_cons_succ, List.getElem?_cons_zero, Option.getD_some]
        repeat (go_big_quiet_step (fail))
        refine wpQuiet_nil ?_
        have g5 : ∀ y : WIn (TwoQ wy o21 i tr'), y.w.cell? ⟨o21, i, none⟩ = some (.pointer (some ⟨tr', 0, none⟩)) := fun y => y.h.2
        haveI ne : Nonempty (WIn (TwoQ wy o21 i tr')) := ⟨⟨_, S2⟩⟩
        refine wpN_seg [15] (by kernel_rfl) (by kernel_rfl) (by kernel_rfl) (by kernel_rfl) (by decide) (fun _ _ _ _ _ h => h) S2 ?_
        simp only [pick, List.map_cons, List.map_nil, List.getElem?_cons_succ, List.getElem?_cons_zero, Option.getD_some]
        repeat (go_big_quiet_step (fail))
        refine wpQuiet_nil ?_
        clear ne
        refine wpN_one 12 _ (by kernel_rfl) rfl ?_
        refine NextAt.held ?_
        intro K hK
        go_simp
        refine (Cck.out _ S2').mono ?_
        rintro e x3 ⟨vA, rfl, rA, hb⟩
        have S3' : BelQ wy x3 := Below.trans (a := wy) S2' (hb.mono (Below.size S2'))
        have S3 : TwoQ wy o21 i tr' x3 := TwoQ.of S3' cy
        have RA := Lib.hid rA
        obtain ⟨aA, cA, rfl⟩ := qrow_shape rA
        clear rA
        go_simp
        refine hK _ _ S3 ?_
        clear hK K hb
        refine wpN_one 16 _ (by kernel_rfl) rfl ?_
        refine NextAt.held ?_
        intro K hK
        go_simp
        refine (Ckr.out _ S3').mono ?_
        rintro e x4 ⟨vB, rfl, rB, hb⟩
        have S4' : BelQ wy x4 := Below.trans (a := wy) S3' (hb.mono (Below.size S3'))
        have S4 : TwoQ wy o21 i tr' x4 := TwoQ.of S4' cy
        have EQ := Lib.hid (eqCk_any (ownsRow_same RA.out (fun j hj => hb.block j (RA.out.lt j hj).2)) rB (by have := HFW.out; omega))
        obtain ⟨aB, cB, rfl⟩ := qrow_shape rB
        clear rB RA
        go_simp
        refine hK _ _ S4 ?_
        clear hK K hb
        refine wpN_one 17 _ (by kernel_rfl) rfl ?_
        refine NextAt.held ?_
        intro K hK
        go_simp
        refine EQ.out.mono ?_
        rintro e x5 ⟨rfl, q5, hx5⟩
        have S5' : BelQ wy x5 := by rw [hx5]; exact bdrewN S4' q5
        have S5 : TwoQ wy o21 i tr' x5 := TwoQ.of S5' cy
        clear hx5 EQ
        go_simp
        refine hK _ _ S5 ?_
        clear hK K
        refine wpN_pure [18] (by kernel_rfl) (by kernel_rfl) (by kernel_rfl) (fun _ _ _ _ _ h => h) (fun _ => S5) ?_
        simp only [pick, List.map_cons, List.map_nil, List.getElem?_cons_succ, List.getElem?_cons_zero, Option.getD_some]
        repeat (go_big_quiet_step (fail))
        refine wpQuiet_nil ?_
        refine wpN_one 19 _ (by kernel_rfl) rfl ?_
        refine NextAt.free (by kernel_rfl) ?_
        intro K hK
        go_simp
        refine hK _ _ ?_
        clear hK K
        refine wpN_done (by kernel_rfl) ?_
        go_wp2_with fail
        exact Met.intro (hJ3 _ _ (by kernel_rfl) ⟨rfl, rfl, rfl, rfl, rfl, rfl, rfl, rfl, rfl, rfl, rfl, rfl, rfl, S5'⟩)
      intro f4 wx' ⟨f2, f7, f17, f18, f20, f21, f28, f106, f107, f108, f128, f129, f159, hbx⟩
      rw [slots173]
      rw [f2, f7, f17, f18, f20, f21, f28, f106, f107, f108, f128, f129, f159]
      clear f2 f7 f17 f18 f20 f21 f28 f106 f107 f108 f128 f129 f159
      have Q6 := Lib.hid (HQ.out.below hbx)
      have O6 := Lib.hid (HO.out.below hbx)
      clear hbx
      go_wp2_with fail
      refine HKJ2.out.2 _ _ (Handed.intro (2 - (i + 1)) (by have := HI.out; omega) (HKJ2.out.1 _ _ _ (by kernel_rfl) ⟨i + 1, by have := HI.out; omega, rfl, rfl, rfl, rfl, rfl, rfl, rfl, rfl, rfl, rfl, rfl, rfl, by show Value.int .i64 _ = _; simp, Q6.out, O6.out⟩))
    · obtain rfl : i = 2 := by omega
      have hkb : (k : Int) + 1 ≤ 9223372036854775807 := by have := HLL.out; have := HLT.out; omega
      have hkb2 : k + 1 ≤ 9223372036854775807 := by omega
      go_wp2_with fail
      refine HKJ.out.2 _ _ (Handed.intro (L.length - (k + 1)) (by have := HLT.out; omega) (HKJ.out.1 _ _ _ (by kernel_rfl) ⟨k + 1, by have := HLT.out; omega, rfl, rfl, rfl, rfl, rfl, rfl, rfl, rfl, rfl, rfl, by first | (show Value.int .i64 _ = _; simp; done) | (show Value.int .i64 _ = Value.int .i64 _; go_num), HQ.out, HO.out⟩))
    --]]I
    --]]R
  · obtain rfl : k = L.length := by omega
    --[[P
    obtain ⟨R, prs, k1, k2, k3, st', F', G', hh, gg, hR⟩ := HQ.out.cells
    obtain ⟨_, _, _, _, eb1, eb2⟩ := EI.out
    rw [eb1, eb2] at hh
    have hh0 := hh
    obtain ⟨mb, lv, ev, D, hm⟩ := hh.ref
    obtain ⟨ea, ec, rfl, _, _⟩ := hm.erow.sh
    have hes : (lastE st').length ≤ 5000 := last5_len st'.entries
    have S00 : ∀ W, Touch (InR R) wr W → OneS q (.slice ea (seenE false st'.entries).length ec) W := fun W t => by
      unfold OneS
      rw [cell_of (hm.same (t.same (fun k hk _ e => (hR k e).2.1 hk))).self]; rfl
    have SP := Lib.hid S00
    have BP : Hid (∀ W, Touch (InR R) wr W → Below w.heap.size w W) := Lib.hid (fun W t => hh0.below.trans (t.below hh0.below.size (fun k e => (hR k e).2.2)))
    have PO := Lib.hid (fun q => poke2_any cp w.heap.size R prs v7 z7 (wr.drewN q) (fun W t => H3.out.reads.below (BP.out W (((Touch.refl _ wr).drewN q).then t)) rfl) HF3.out (fun z hz => range_i64 (H3.out.wf z hz)) (k1.drewN q) (k2.drewN q) k3)
    unfold PokePost2 at PO
    have EB := Lib.hid (fun W (t : Touch (InR R) wr W) => entriesB_any p W F' st' 3 (hh0.own.same (t.same (fun k hk _ e => (hR k e).1 hk))) gg)
    have ER : Hid (∀ W W2, Touch (InR R) wr W → Below W.heap.size W W2 → EntrIn W2 (.slice ea (seenE false st'.entries).length ec) (lastE st')) := Lib.hid (fun W W2 t hb => entrIn_offQ ((hm.same (t.same (fun k hk _ e => (hR k e).2.1 hk))).same (Below.same_on hb)).erow)
    generalize (seenE false st'.entries).length = sl at *
    clear hh hh0 hm k1 k2 k3 gg S00 eb1 eb2 hlt hk
    have T0 : Touch (InR R) wr wr.drew := (Touch.refl _ wr).drewN 1
    have S0 := SP.out _ T0
    go_upto_region 33 with fail
    refine wp_normal ?_
    refine wp_region_plan 11 (OneS q (.slice ea sl ec)) rfl ?_
    refine wpN_pure [0] (by kernel_rfl) (by kernel_rfl) (by kernel_rfl) (fun _ _ _ _ _ h => h) (fun _ => S0) ?_
    simp only [pick, List.map_cons, List.map_nil, List.getElem?_cons_zero, Option.getD_some]
    repeat (go_big_quiet_step (fail))
    refine wpQuiet_nil ?_
    refine wpN_one 1 _ (by kernel_rfl) rfl ?_
    refine NextAt.held ?_
    intro K hK
    go_simp
    refine (PO.out 1).mono ?_
    rintro e w5 ⟨rfl, _, _, t5, _⟩
    have T5 := T0.then t5
    have S5 := SP.out w5 T5
    have HB5 := Lib.hid (BP.out w5 T5)
    have EB5 := Lib.hid (EB.out w5 T5)
    have ER5 := Lib.hid (fun W2 hb => ER.out w5 W2 T5 hb)
    clear t5 T5 PO EB ER
    go_simp
    refine hK _ _ S5 ?_
    clear hK K
    refine wpN_pure [2, 3, 5, 6, 7] (by kernel_rfl) (by kernel_rfl) (by kernel_rfl) (fun _ _ _ _ _ h => h) (fun _ => S5) ?_
    simp only [pick, List.map_cons, List.map_nil, List.getElem?_cons_succ, List.getElem?_cons_zero, Option.getD_some]
    repeat (go_big_quiet_step (fail))
    refine wpQuiet_nil ?_
    have g8 : ∀ y : WIn (OneS q (.slice ea sl ec)), y.w.cell? ⟨q, 6, none⟩ = some (.slice ea sl ec) := fun y => y.h
    haveI ne : Nonempty (WIn (OneS q (.slice ea sl ec))) := ⟨⟨_, S5⟩⟩
    refine wpN_seg [8] (by kernel_rfl) (by kernel_rfl) (by kernel_rfl) (by kernel_rfl) (by decide) (fun _ _ _ _ _ h => h) S5 ?_
    simp only [pick, List.map_cons, List.map_nil, List.getElem?_cons_succ, List.getElem?_cons_zero, Option.getD_some]
    repeat (go_big_quiet_step (fail))
    refine wpQuiet_nil ?_
    clear ne
    refine wpN_one 4 _ (by kernel_rfl) rfl ?_
    refine NextAt.held ?_
    intro K hK
    go_simp
    refine EB5.out.mono ?_
    rintro e w6 ⟨v6, rfl, hr6, hb6⟩
    have S6 : OneS q (.slice ea sl ec) w6 := old_cell hb6 S5
    have HB6 := Lib.hid (HB5.out.trans (hb6.mono HB5.out.size))
    have EQ := Lib.hid (equal_entr _ _ (lastE st') w6 (by omega) (entrIn_rowQ hr6) (ER5.out w6 hb6))
    obtain ⟨a6, c6, rfl, _, _⟩ := ownsRow_sh hr6
    clear hr6 hb6
    go_simp
    refine hK _ _ S6 ?_
    clear hK K
    refine wpN_one 9 _ (by kernel_rfl) rfl ?_
    refine NextAt.held ?_
    intro K hK
    go_simp
    refine EQ.out.mono ?_
    rintro e w7 ⟨rfl, q7, hw7⟩
    have S7 : OneS q (.slice ea sl ec) w7 := by rw [hw7]; exact S6
    have FIN : Hid (Below w.heap.size w w7) := Lib.hid (by rw [hw7]; exact bdrewN HB6.out q7)
    clear hw7
    go_simp
    refine hK _ _ S7 ?_
    clear hK K
    refine wpN_one 10 _ (by kernel_rfl) rfl ?_
    refine NextAt.held ?_
    intro K hK
    go_simp
    refine hK _ _ S7 ?_
    clear hK K
    refine wpN_one 11 _ (by kernel_rfl) rfl ?_
    refine NextAt.free (by kernel_rfl) ?_
    intro K hK
    go_simp
    refine hK _ _ ?_
    clear hK K
    refine wpN_done (by kernel_rfl) ?_
    go_wp2_with fail
    go_ret
    exact ⟨rfl, FIN.out⟩
    --]]P

end Go.Proofs.YtfnmjlnpfoclbaaGreat
