/-
  The book's leases in memory: find, Renew, and slices.Delete over them. No conditions but lengths.
  The book's Renew and Lease: what they give. No conditions but those of the book's own state.
-/
import Derived.Test.YtljjndifmfhffaaGreatDoorLedgerChecksPay
import Derived.Test.YtljjndifmfhffaaGreatDoorLedgerChecksPaz
import Derived.Shelf.Abstract
import Derived.Lib.SliceRun

namespace Go.Proofs.YtljjndifmfhffaaGreatDoor
section
open Go.RowKit
set_option linter.unusedVariables false

theorem lcells_len (ls : List Lea) : (ls.flatMap Lea.cells).length = ls.length * 4 := by
  induction ls with
  | nil => rfl
  | cons e es ih => rw [List.flatMap_cons, List.length_append, ih, List.length_cons]; simp [Lea.cells]; omega
theorem lcells_get : ∀ (ls : List Lea) (k i : Nat) (l : Lea), ls[k]? = some l → i < 4 → (ls.flatMap Lea.cells)[k * 4 + i]? = l.cells[i]?
  | [], k, i, l, h, _ => by simp at h
  | x :: ls, 0, i, l, h, hi => by
    simp at h; subst h
    rw [List.flatMap_cons, List.getElem?_append_left (by simp [Lea.cells]; omega)]; simp
  | x :: ls, k + 1, i, l, h, hi => by
    simp at h
    rw [List.flatMap_cons, List.getElem?_append_right (by simp [Lea.cells]; omega)]
    have := lcells_get ls k i l h hi
    rw [← this]; congr 1; simp [Lea.cells]; omega
theorem lcells_take (ls : List Lea) (k : Nat) : (ls.flatMap Lea.cells).take (k * 4) = (ls.take k).flatMap Lea.cells := by
  induction ls generalizing k with
  | nil => simp
  | cons x ls ih =>
    cases k with
    | zero => simp
    | succ k =>
      rw [List.flatMap_cons, List.take_succ_cons, List.flatMap_cons, ← ih k, List.take_append]
      have : x.cells.length = 4 := rfl
      rw [List.take_of_length_le (by rw [this]; omega), this]; congr 2; omega
theorem lcells_drop (ls : List Lea) (k : Nat) : (ls.flatMap Lea.cells).drop (k * 4) = (ls.drop k).flatMap Lea.cells := by
  induction ls generalizing k with
  | nil => simp
  | cons x ls ih =>
    cases k with
    | zero => simp
    | succ k =>
      rw [List.flatMap_cons, List.drop_succ_cons, ← ih k, List.drop_append]
      have : x.cells.length = 4 := rfl
      rw [List.drop_eq_nil_of_le (by rw [this]; omega), this, List.nil_append]; congr 1; omega
theorem lcells_one (ls : List Lea) : ∀ u ∈ ls.flatMap Lea.cells, u.oneCell' = true := by
  intro u hu
  obtain ⟨e, _, he⟩ := List.mem_flatMap.1 hu
  simp [Lea.cells] at he
  rcases he with rfl | rfl | rfl | rfl <;> rfl
theorem infoLea : (Tryz.prog.info? 88).map (fun i => (i.zero, i.size, i.bytes)) = some (some (.agg #[.int .i64 0, .int .i64 0, .int .i64 0, .int .i64 0]), 4, 32) := by kernel_rfl

instance : Inhabited Lea := ⟨⟨0, 0, 0, 0⟩⟩
/-- A row of leases: the value's shape, and lease k's cells. -/
theorem lrow_open {w : World} {B : Nat} {v : Value} {ls : List Lea} (h : w.ownsRow B 88 4 v ls.length (ls.flatMap Lea.cells)) (h0 : 0 < ls.length) :
    ∃ g cap cur, v = .slice (some ⟨g, 0, none⟩) ls.length cap ∧ B ≤ g ∧ w.heap[g]? = some (.cells cur 88 (0, 0)) ∧ ls.length ≤ cap ∧ cap ≤ maxLen ∧ cur.size = cap * 4 ∧ cur.toList.take (ls.length * 4) = ls.flatMap Lea.cells ∧
      (∀ k l, ls[k]? = some l → ∀ i, i < 4 → w.cell? ⟨g, k * 4 + i, none⟩ = l.cells[i]?) := by
  rcases h.2 with ⟨_, h2⟩ | ⟨g, cap, cur, hv, hb, hg, hn, hm, hs, ht⟩
  · omega
  · refine ⟨g, cap, cur, hv, hb, hg, hn, hm, hs, ht, ?_⟩
    intro k l hk i hi
    have hkl : k < ls.length := (List.getElem?_eq_some_iff.1 hk).1
    rw [cell_of hg, ← Array.getElem?_toList, ← lcells_get ls k i l hk hi, ← ht, List.getElem?_take_of_lt (by omega)]

/-! find. -/
theorem idxBy_findL (no : Int) (x : Lea) : ∀ (ls : List Lea) (i : Nat), Lib.idxByFrom (fun _ y => decide (y.no = no)) x ls i = match findL no ls with | none => -1 | some k => ((i + k : Nat) : Int)
  | [], i => rfl
  | y :: ls, i => by
    unfold Lib.idxByFrom findL
    by_cases h : y.no = no
    · simp [h]
    · simp only [h, decide_false, if_false, Bool.false_eq_true]
      rw [idxBy_findL no x ls (i + 1)]
      cases findL no ls with
      | none => rfl
      | some k => simp only [Option.map_some]; congr 1; omega

set_option maxHeartbeats 1000000 in
set_option maxRecDepth 100000 in
theorem findW (bx : Nat) (no : Int) (x : Lea) (W : World) (h : W.cell? ⟨bx, 0, none⟩ = some (.int .i64 no)) :
    Calls Tryz.prog 80 #[.agg #[.int .i64 x.no, .int .i64 x.owner, .int .i64 x.amount, .int .i64 x.untl], .pointer (some ⟨bx, 0, none⟩)] W fun e w' => e = .returned (.bool (decide (x.no = no))) ∧ Below W.heap.size W w' := by
  obtain ⟨a1, a2, a3, a4⟩ := x
  have hlt : bx < W.heap.size := World.block_lt_of_cell? W ⟨bx, 0, none⟩ h
  have h' : (W.alloc (.cells #[.int .i64 a1, .int .i64 a2, .int .i64 a3, .int .i64 a4] 88)).cell? ⟨bx, 0, none⟩ = some (.int .i64 no) := Lib.cell?_alloc_some _ h
  clear h
  go_enter Tryz.func80, Tryz.ntmps80
  go_wp2_with fail
  go_ret
  exact ⟨ret_bool (by simp [Bool.beq_eq_decide_eq]), (Below.refl _ _).alloc (Nat.le_refl _) _⟩

def findV (st : BookSt) (no : Int) : Int := match findL no st.leases with | none => -1 | some k => (k : Int)
def SeePost (r : Int) (w : World) : Ending → World → Prop := fun e w' => e = .returned (.int .i64 r) ∧ Below w.heap.size w w'

set_option maxHeartbeats 1000000 in
set_option maxRecDepth 100000 in
/-- IndexFunc at no lease. -/
theorem index_none (a : Option Addr) (cap g : Nat) (fv : Array Value) (w : World) :
    Calls Tryz.prog 79 #[.slice a 0 cap, .func (.func g) #[] fv] w (SeePost (-1) w) := by
  go_enter Tryz.func79, Tryz.ntmps79
  go_wp2_with fail
  refine wp_loop_rounds 1 ?_
  rw [rounds_succ]
  go_wp2_with fail
  go_ret
  exact ⟨rfl, Below.refl _ _⟩

/-- IndexFunc over a row of leases. -/
theorem index_row (g cap : Nat) (ls : List Lea) (f : FuncId) (fv : Array Value) (p : Lea → Bool) (w : World) (eg : ∀ args w, (callFunc f args).run Tryz.prog w = .ok (.enter f args) w) (hg : g < w.heap.size) (hbig : ls.length ≤ 9223372036854775807)
    (hc : ∀ k l, ls[k]? = some l → ∀ i, i < 4 → w.cell? ⟨g, k * 4 + i, none⟩ = l.cells[i]?)
    (hp : ∀ (W : World) (x : Lea), Below w.heap.size w W → Calls Tryz.prog f (#[.agg #[.int .i64 x.no, .int .i64 x.owner, .int .i64 x.amount, .int .i64 x.untl]] ++ fv) W fun e w' => e = .returned (.bool (p x)) ∧ Below w.heap.size w w') :
    Calls Tryz.prog 79 #[.slice (some ⟨g, 0, none⟩) ls.length cap, .func (.func f) #[] fv] w (SeePost (Lib.idxByFrom (fun _ y => p y) default ls 0) w) := by
  have := Tryz.slices_IndexFunc 4 Tryz.isAgg88 Tryz.sizeOf88 Lea.cells (fun x => rfl) p f fv eg g 0 ls.length cap ls w (fun W x hb => hp W x hb) (Nat.le_refl _) hbig hg (fun j hj i v hv => by
    have hi : i < 4 := (List.getElem?_eq_some_iff.1 hv).1
    rw [Nat.zero_add, hc j ls[j]! (by rw [getElem!_pos ls j hj]; exact List.getElem?_eq_getElem hj) i hi]
    exact hv)
  rw [List.take_length] at this
  exact this

set_option maxHeartbeats 1000000 in
set_option maxRecDepth 100000 in
theorem find_any (p : Nat) (no : Int) (w : World) (F : Nat → Prop) (st : BookSt) (N : Nat) (hb : BookAt w F p st N) (hlen : st.leases.length ≤ 1000000) :
    Calls Tryz.prog 58 #[.pointer (some ⟨p, 0, none⟩), .int .i64 no] w (SeePost (findV st no) w) := by
  obtain ⟨mb, blk, lv, ev, D, hm⟩ := hb
  have B1 : Below w.heap.size w (w.alloc (.cells #[.int .i64 no] 3)) := (Below.refl _ _).alloc (Nat.le_refl _) _
  have hm1 := hm.same (Below.same_on B1)
  have c5 : (w.alloc (.cells #[.int .i64 no] 3)).cell? ⟨p, 5, none⟩ = some lv := by rw [cell_of hm1.self]; rfl
  have eg : ∀ args w, (callFunc 80 args).run Tryz.prog w = .ok (.enter 80 args) w := enters_of Tryz.func80 (by kernel_rfl) rfl
  have C : Calls Tryz.prog 79 #[lv, .func (.func 80) #[] #[.pointer (some ⟨w.heap.size, 0, none⟩)]] (w.alloc (.cells #[.int .i64 no] 3)) (SeePost (findV st no) (w.alloc (.cells #[.int .i64 no] 3))) := by
    rcases Nat.eq_zero_or_pos st.leases.length with h0 | h0
    · obtain ⟨a, c, rfl, _, _⟩ := ownsRow_sh hm1.lrow
      have : st.leases = [] := by cases h : st.leases with | nil => rfl | cons x xs => rw [h] at h0; simp at h0
      rw [h0]
      have hv : findV st no = -1 := by unfold findV; rw [this]; rfl
      rw [hv]
      exact index_none a c _ _ _
    · obtain ⟨g, cap, cur, rfl, _, hg, _, _, _, _, hc⟩ := lrow_open hm1.lrow h0
      have hbx : (w.alloc (.cells #[.int .i64 no] 3)).cell? ⟨w.heap.size, 0, none⟩ = some (.int .i64 no) := by rw [cell_of_row _ _ _ _ _ _ (heap_alloc_new w _)]; rfl
      have := index_row g cap st.leases 80 #[.pointer (some ⟨w.heap.size, 0, none⟩)] (fun x => decide (x.no = no)) _ eg (lt_of hg) (by omega) hc (fun W x hb => (findW w.heap.size no x W ((hb.cell (p := ⟨w.heap.size, 0, none⟩) (by simp)).trans hbx)).mono fun e w' ⟨h1, h2⟩ => ⟨h1, hb.trans (h2.mono hb.size)⟩)
      rw [idxBy_findL no default st.leases 0] at this
      have hv : findV st no = match findL no st.leases with | none => -1 | some k => ((0 + k : Nat) : Int) := by
        unfold findV; cases findL no st.leases <;> simp
      rw [hv]
      exact this
  obtain ⟨la, lc, rfl, _, _⟩ := ownsRow_sh hm1.lrow
  have HC := Lib.hid C
  have HB1 := Lib.hid B1
  clear C hm hm1 B1 eg
  go_enter Tryz.func58, Tryz.ntmps58
  go_wp2_with fail
  refine HC.out.mono ?_
  rintro e w' ⟨rfl, hb2⟩
  have HB2 := Lib.hid (HB1.out.trans (hb2.mono HB1.out.size))
  clear hb2
  go_wp2_with fail
  go_ret
  exact ⟨rfl, HB2.out⟩

end
end Go.Proofs.YtljjndifmfhffaaGreatDoor

namespace Go.Proofs.YtljjndifmfhffaaGreatDoor
section
open Go.RowKit
set_option linter.unusedVariables false

theorem findL_lt {no : Int} {ls : List Lea} {i : Nat} (h : findL no ls = some i) : i < ls.length := by
  obtain ⟨l, h1, _⟩ := findL_some h
  exact (List.getElem?_eq_some_iff.1 h1).1
theorem setUntl_cells (u : Int) : ∀ (i : Nat) (ls : List Lea), (ls.flatMap Lea.cells).set (i * 4 + 3) (.int .i64 u) = (setUntl u i ls).flatMap Lea.cells
  | _, [] => by cases ‹Nat› <;> simp [setUntl]
  | 0, x :: ls => by simp [Lea.cells, setUntl]
  | i + 1, x :: ls => by
    rw [List.flatMap_cons, List.set_append_right _ _ (by simp [Lea.cells]; omega), setUntl, List.flatMap_cons, ← setUntl_cells u i ls]
    congr 2
    simp [Lea.cells]; omega

theorem ownsRow_set {w : World} {B e size n g cap : Nat} {xs : List Value} (h : w.ownsRow B e size (.slice (some ⟨g, 0, none⟩) n cap) n xs) (j : Nat) (hj : j < n * size) (u : Value) : (w.setCell ⟨g, j, none⟩ u).ownsRow B e size (.slice (some ⟨g, 0, none⟩) n cap) n (xs.set j u) := by
  refine ⟨by rw [List.length_set]; exact h.1, ?_⟩
  rcases h.2 with ⟨h1, h2⟩ | ⟨g', cap', cur, h1, hb, hg, hn, hm, hs, ht⟩
  · cases h1
  · simp only [Value.slice.injEq, Option.some.injEq, Addr.mk.injEq, and_true] at h1
    obtain ⟨rfl, _, rfl⟩ := h1
    refine Or.inr ⟨g, cap, cur.setIfInBounds j u, rfl, hb, block_setCell hg j u, hn, hm, by simpa using hs, ?_⟩
    rw [Array.toList_setIfInBounds, List.take_set, ht]

theorem untilE_vals (st : BookSt) (u : Int) : untilE st u = 0 ∨ untilE st u = 2 ∨ untilE st u = 5 := by
  unfold untilE
  by_cases h : 0 ≤ u ∧ u ≤ 1000000
  · rw [if_pos h]; split <;> simp
  · rw [if_neg h]; simp

set_option maxHeartbeats 2000000 in
set_option maxRecDepth 100000 in
theorem renew_none (p : Nat) (no u : Int) (w : World) (F : Nat → Prop) (st : BookSt) (N : Nat) (hb : BookAt w F p st N) (g : Good st) (hf : findL no st.leases = none) :
    Calls Tryz.prog 31 #[.pointer (some ⟨p, 0, none⟩), .int .i64 no, .int .i64 u] w (OpPost 13 F p st N w) := by
  have C := find_any p no w F st N hb (by have := g.leaLen; omega)
  rw [show findV st no = -1 by unfold findV; rw [hf]] at C
  have HC := Lib.hid C
  have FIN := Lib.hid (fun W (B : Below w.heap.size w W) => bad_fin hb B)
  clear C hb g hf
  go_enter Tryz.func31, Tryz.ntmps31
  go_wp2_with fail
  refine HC.out.mono ?_
  rintro e w' ⟨rfl, hb1⟩
  have HB1 := Lib.hid hb1
  clear hb1
  go_wp2_with fail
  go_ret
  exact ⟨rfl, (FIN.out _ HB1.out).1, (FIN.out _ HB1.out).2⟩

set_option maxHeartbeats 2000000 in
set_option maxRecDepth 100000 in
theorem renew_some (p : Nat) (no u : Int) (w : World) (F : Nat → Prop) (st : BookSt) (N : Nat) (hb : BookAt w F p st N) (g : Good st) (i : Nat) (hf : findL no st.leases = some i) :
    Calls Tryz.prog 31 #[.pointer (some ⟨p, 0, none⟩), .int .i64 no, .int .i64 u] w (OpPost (renewR st no u).1 F p (renewR st no u).2 N w) := by
  have hlen := g.leaLen
  have hi := findL_lt hf
  have C := find_any p no w F st N hb (by omega)
  rw [show findV st no = i by unfold findV; rw [hf]] at C
  have HC := Lib.hid C
  have FIN := Lib.hid (fun W (B : Below w.heap.size w W) => bad_fin hb B)
  have HU := Lib.hid (fun W (B : Below w.heap.size w W) => until_any p u W F st N (hb.same (Below.same_on B)))
  have HBK := Lib.hid hb
  have hren : renewR st no u = if untilE st u = 0 then (0, ({ st with leases := setUntl u i st.leases } : BookSt).note ⟨9, 0, 0, 0, no, u⟩) else (untilE st u, st) := by unfold renewR; rw [hf]
  rw [hren]
  have hval := untilE_vals st u
  generalize untilE st u = ue at *
  have GE := g.ents
  clear C g hf hren hb
  by_cases h0 : ue = 0
  · subst h0
    rw [if_pos rfl]
    clear hval
    go_enter Tryz.func31, Tryz.ntmps31
    go_wp2_with fail
    refine HC.out.mono ?_
    rintro e w1 ⟨rfl, hb1⟩
    have HB1 := Lib.hid hb1
    clear hb1
    go_wp2_with fail
    refine (HU.out _ HB1.out).mono ?_
    rintro e w2 ⟨rfl, rfl⟩
    obtain ⟨mb, blk, lv, ev, D, hm⟩ := HBK.out.same (Below.same_on HB1.out)
    obtain ⟨gb, cap, cur, hlv, _, hg, hn, hcm, hs, ht, hc⟩ := lrow_open hm.lrow (by omega)
    have hgp : gb ≠ p := by rintro rfl; rw [hm.self] at hg; simp [bookCells] at hg
    subst hlv
    have c5 : w1.cell? ⟨p, 5, none⟩ = some (.slice (some ⟨gb, 0, none⟩) st.leases.length cap) := by rw [cell_of hm.self]; rfl
    obtain ⟨l, hl⟩ : ∃ l, st.leases[i]? = some l := ⟨_, List.getElem?_eq_getElem hi⟩
    have c3 : w1.cell? ⟨gb, i * 4 + 3, none⟩ = some (.int .i64 l.untl) := by rw [hc i l hl 3 (by omega)]; rfl
    have f3 : w1.frozen? ⟨gb, i * 4 + 3, none⟩ = false := free_of hg _
    have hm2 := hm.leasesTo (W := w1.setCell ⟨gb, i * 4 + 3, none⟩ (.int .i64 u)) (.slice (some ⟨gb, 0, none⟩) st.leases.length cap) (setUntl u i st.leases)
      ((Below.heap_setCell _ _ _ p (Ne.symm hgp)).trans hm.self) (fun k h1 h2 h3 => Below.heap_setCell _ _ _ k (fun e => h3 (by subst e; rfl)))
      (by have := ownsRow_set hm.lrow (i * 4 + 3) (by omega) (.int .i64 u); rw [setUntl_cells] at this; rw [setUntl_len]; exact this) (fun k hk => Or.inl (hm.flea k hk))
    have NT := Lib.hid (note_any p ⟨9, 0, 0, 0, no, u⟩ _ _ _ N ⟨mb, blk, _, ev, D, hm2⟩ GE)
    have TT := Lib.hid ((Touch.of_below (F := F) HB1.out).setCell (p := ⟨gb, i * 4 + 3, none⟩) (Or.inl (hm.flea gb rfl)) (.int .i64 u))
    have HS := Lib.hid HB1.out.size
    clear hm hm2 hg ht hs hc hl
    go_wp2_with fail
    refine NT.out.mono ?_
    rintro e w3 ⟨rfl, hb3, ht3⟩
    have HP := Lib.hid (OpPost.mk (err := 0) (F := F) (w := w) TT.out ht3 hb3 (fun k hk => hk.imp id (fun x => Nat.le_trans HS.out x)))
    clear hb3 ht3
    go_wp2_with fail
    go_ret
    exact HP.out
  · rw [if_neg h0]
    rcases hval with h | rfl | rfl
    · exact absurd h h0
    all_goals
      clear h0
      go_enter Tryz.func31, Tryz.ntmps31
      go_wp2_with fail
      refine HC.out.mono ?_
      rintro e w1 ⟨rfl, hb1⟩
      have HB1 := Lib.hid hb1
      clear hb1
      go_wp2_with fail
      refine (HU.out _ HB1.out).mono ?_
      rintro e w2 ⟨rfl, rfl⟩
      go_wp2_with fail
      go_ret
      exact ⟨rfl, (FIN.out _ HB1.out).1, (FIN.out _ HB1.out).2⟩
theorem renew_all (p : Nat) (no u : Int) (w : World) (F : Nat → Prop) (st : BookSt) (N : Nat) (hb : BookAt w F p st N) (g : Good st) :
    Calls Tryz.prog 31 #[.pointer (some ⟨p, 0, none⟩), .int .i64 no, .int .i64 u] w (OpPost (renewR st no u).1 F p (renewR st no u).2 N w) := by
  cases hf : findL no st.leases with
  | none =>
    have := renew_none p no u w F st N hb g hf
    unfold renewR
    rw [hf]
    exact this
  | some i => exact renew_some p no u w F st N hb g i hf

end
end Go.Proofs.YtljjndifmfhffaaGreatDoor
