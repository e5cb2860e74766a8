/-
  The book's leases in memory: find, Renew, and slices.Delete over them. No conditions but lengths.
-/
import Derived.Test.YtfgpophbgjeefaaLedgC
import Derived.Test.YtfgpophbgjeefaaShelf
import Derived.Shelf.Abstract
import Derived.Lib.SliceRun
namespace Go.Proofs.Ytfgpophbgjeefaa
open Go.RowKit
set_option linter.unusedVariables false

theorem lcells_len (ls : List Lea) : (ls.flatMap Lea.cells).length = ls.length * 4 := by
  induction ls with
  | nil => rfl
  | cons e es ih => rw [List.flatMap_cons, List.length_append, ih, List.length_cons]; simp [Lea.cells]; omega
theorem lcells_get : ∀ (ls : List Lea) (k i : Nat) (l : Lea), ls[k]? = some l → i < 4 → (ls.flatMap Lea.cells)[k * 4 + i]? = l.cells[i]?
  | [], k, i, l, h, _ => by simp at h
  | x :: ls, 0, i, l, h, hi => by
    simp at h; subst h
    rw [List.flatMap_cons, List.getElem?_append_left (by simp [Lea.cells]; omega)]; simp
  | x :: ls, k + 1, i, l, h, hi => by
    simp at h
    rw [List.flatMap_cons, List.getElem?_append_right (by simp [Lea.cells]; omega)]
    have := lcells_get ls k i l h hi
    rw [← this]; congr 1; simp [Lea.cells]; omega
theorem lcells_take (ls : List Lea) (k : Nat) : (ls.flatMap Lea.cells).take (k * 4) = (ls.take k).flatMap Lea.cells := by
  induction ls generalizing k with
  | nil => simp
  | cons x ls ih =>
    cases k with
    | zero => simp
    | succ k =>
      rw [List.flatMap_cons, List.take_succ_cons, List.flatMap_cons, ← ih k, List.take_append]
      have : x.cells.length = 4 := rfl
      rw [List.take_of_length_le (by rw [this]; omega), this]; congr 2; omega
theorem lcells_drop (ls : List Lea) (k : Nat) : (ls.flatMap Lea.cells).drop (k * 4) = (ls.drop k).flatMap Lea.cells := by
  induction ls generalizing k with
  | nil => simp
  | cons x ls ih =>
    cases k with
    | zero => simp
    | succ k =>
      rw [List.flatMap_cons, List.drop_succ_cons, ← ih k, List.drop_append]
      have : x.cells.length = 4 := rfl
      rw [List.drop_eq_nil_of_le (by rw [this]; omega), this, List.nil_append]; congr 1; omega
theorem lcells_one (ls : List Lea) : ∀ u ∈ ls.flatMap Lea.cells, u.oneCell' = true := by
  intro u hu
  obtain ⟨e, _, he⟩ := List.mem_flatMap.1 hu
  simp [Lea.cells] at he
  rcases he with rfl | rfl | rfl | rfl <;> rfl
theorem infoLea : (Try.prog.info? 42).map (fun i => (i.zero, i.size, i.bytes)) = some (some (.agg #[.int .i64 0, .int .i64 0, .int .i64 0, .int .i64 0]), 4, 32) := by kernel_rfl

instance : Inhabited Lea := ⟨⟨0, 0, 0, 0⟩⟩
/-- A row of leases: the value's shape, and lease k's cells. -/
theorem lrow_open {w : World} {B : Nat} {v : Value} {ls : List Lea} (h : w.ownsRow B 42 4 v ls.length (ls.flatMap Lea.cells)) (h0 : 0 < ls.length) :
    ∃ g cap cur, v = .slice (some ⟨g, 0, none⟩) ls.length cap ∧ B ≤ g ∧ w.heap[g]? = some (.cells cur 42 (0, 0)) ∧ ls.length ≤ cap ∧ cap ≤ maxLen ∧ cur.size = cap * 4 ∧ cur.toList.take (ls.length * 4) = ls.flatMap Lea.cells ∧
      (∀ k l, ls[k]? = some l → ∀ i, i < 4 → w.cell? ⟨g, k * 4 + i, none⟩ = l.cells[i]?) := by
  rcases h.2 with ⟨_, h2⟩ | ⟨g, cap, cur, hv, hb, hg, hn, hm, hs, ht⟩
  · omega
  · refine ⟨g, cap, cur, hv, hb, hg, hn, hm, hs, ht, ?_⟩
    intro k l hk i hi
    have hkl : k < ls.length := (List.getElem?_eq_some_iff.1 hk).1
    rw [cell_of hg, ← Array.getElem?_toList, ← lcells_get ls k i l hk hi, ← ht, List.getElem?_take_of_lt (by omega)]

/-! find. -/
theorem idxBy_findL (no : Int) (x : Lea) : ∀ (ls : List Lea) (i : Nat), Lib.idxByFrom (fun _ y => decide (y.no = no)) x ls i = match findL no ls with | none => -1 | some k => ((i + k : Nat) : Int)
  | [], i => rfl
  | y :: ls, i => by
    unfold Lib.idxByFrom findL
    by_cases h : y.no = no
    · simp [h]
    · simp only [h, decide_false, if_false, Bool.false_eq_true]
      rw [idxBy_findL no x ls (i + 1)]
      cases findL no ls with
      | none => rfl
      | some k => simp only [Option.map_some]; congr 1; omega

set_option maxHeartbeats 1000000 in
set_option maxRecDepth 100000 in
theorem findW (bx : Nat) (no : Int) (x : Lea) (W : World) (h : W.cell? ⟨bx, 0, none⟩ = some (.int .i64 no)) :
    Calls Try.prog 41 #[.agg #[.int .i64 x.no, .int .i64 x.owner, .int .i64 x.amount, .int .i64 x.untl], .pointer (some ⟨bx, 0, none⟩)] W fun e w' => e = .returned (.bool (decide (x.no = no))) ∧ Below W.heap.size W w' := by
  obtain ⟨a1, a2, a3, a4⟩ := x
  have hlt : bx < W.heap.size := World.block_lt_of_cell? W ⟨bx, 0, none⟩ h
  have h' : (W.alloc (.cells #[.int .i64 a1, .int .i64 a2, .int .i64 a3, .int .i64 a4] 42)).cell? ⟨bx, 0, none⟩ = some (.int .i64 no) := Lib.cell?_alloc_some _ h
  clear h
  go_enter Try.func41, Try.ntmps41
  go_wp2_with fail
  go_ret
  exact ⟨ret_bool (by simp [Bool.beq_eq_decide_eq]), (Below.refl _ _).alloc (Nat.le_refl _) _⟩

def findV (st : BookSt) (no : Int) : Int := match findL no st.leases with | none => -1 | some k => (k : Int)
def SeePost (r : Int) (w : World) : Ending → World → Prop := fun e w' => e = .returned (.int .i64 r) ∧ Below w.heap.size w w'

set_option maxHeartbeats 1000000 in
set_option maxRecDepth 100000 in
/-- IndexFunc at no lease. -/
theorem index_none (a : Option Addr) (cap g : Nat) (fv : Array Value) (w : World) :
    Calls Try.prog 40 #[.slice a 0 cap, .func (.func g) #[] fv] w (SeePost (-1) w) := by
  go_enter Try.func40, Try.ntmps40
  go_wp2_with fail
  refine wp_loop_rounds 1 ?_
  rw [rounds_succ]
  go_wp2_with fail
  go_ret
  exact ⟨rfl, Below.refl _ _⟩

/-- IndexFunc over a row of leases. -/
theorem index_row (g cap : Nat) (ls : List Lea) (f : FuncId) (fv : Array Value) (p : Lea → Bool) (w : World) (eg : ∀ args w, (callFunc f args).run Try.prog w = .ok (.enter f args) w) (hg : g < w.heap.size) (hbig : ls.length ≤ 9223372036854775807)
    (hc : ∀ k l, ls[k]? = some l → ∀ i, i < 4 → w.cell? ⟨g, k * 4 + i, none⟩ = l.cells[i]?)
    (hp : ∀ (W : World) (x : Lea), Below w.heap.size w W → Calls Try.prog f (#[.agg #[.int .i64 x.no, .int .i64 x.owner, .int .i64 x.amount, .int .i64 x.untl]] ++ fv) W fun e w' => e = .returned (.bool (p x)) ∧ Below w.heap.size w w') :
    Calls Try.prog 40 #[.slice (some ⟨g, 0, none⟩) ls.length cap, .func (.func f) #[] fv] w (SeePost (Lib.idxByFrom (fun _ y => p y) default ls 0) w) := by
  have := Try.slices_IndexFunc 4 Try.isAgg42 Try.sizeOf42 Lea.cells (fun x => rfl) p f fv eg g 0 ls.length cap ls w (fun W x hb => hp W x hb) (Nat.le_refl _) hbig hg (fun j hj i v hv => by
    have hi : i < 4 := (List.getElem?_eq_some_iff.1 hv).1
    rw [Nat.zero_add, hc j ls[j]! (by rw [getElem!_pos ls j hj]; exact List.getElem?_eq_getElem hj) i hi]
    exact hv)
  rw [List.take_length] at this
  exact this

set_option maxHeartbeats 1000000 in
set_option maxRecDepth 100000 in
theorem find_any (p : Nat) (no : Int) (w : World) (F : Nat → Prop) (st : BookSt) (N : Nat) (hb : BookAt w F p st N) (hlen : st.leases.length ≤ 1000000) :
    Calls Try.prog 26 #[.pointer (some ⟨p, 0, none⟩), .int .i64 no] w (SeePost (findV st no) w) := by
  obtain ⟨mb, blk, lv, ev, D, hm⟩ := hb
  have B1 : Below w.heap.size w (w.alloc (.cells #[.int .i64 no] 3)) := (Below.refl _ _).alloc (Nat.le_refl _) _
  have hm1 := hm.same (Below.same_on B1)
  have c5 : (w.alloc (.cells #[.int .i64 no] 3)).cell? ⟨p, 5, none⟩ = some lv := by rw [cell_of hm1.self]; rfl
  have eg : ∀ args w, (callFunc 41 args).run Try.prog w = .ok (.enter 41 args) w := enters_of Try.func41 (by kernel_rfl) rfl
  have C : Calls Try.prog 40 #[lv, .func (.func 41) #[] #[.pointer (some ⟨w.heap.size, 0, none⟩)]] (w.alloc (.cells #[.int .i64 no] 3)) (SeePost (findV st no) (w.alloc (.cells #[.int .i64 no] 3))) := by
    rcases Nat.eq_zero_or_pos st.leases.length with h0 | h0
    · obtain ⟨a, c, rfl, _, _⟩ := ownsRow_sh hm1.lrow
      have : st.leases = [] := by cases h : st.leases with | nil => rfl | cons x xs => rw [h] at h0; simp at h0
      rw [h0]
      have hv : findV st no = -1 := by unfold findV; rw [this]; rfl
      rw [hv]
      exact index_none a c _ _ _
    · obtain ⟨g, cap, cur, rfl, _, hg, _, _, _, _, hc⟩ := lrow_open hm1.lrow h0
      have hbx : (w.alloc (.cells #[.int .i64 no] 3)).cell? ⟨w.heap.size, 0, none⟩ = some (.int .i64 no) := by rw [cell_of_row _ _ _ _ _ _ (heap_alloc_new w _)]; rfl
      have := index_row g cap st.leases 41 #[.pointer (some ⟨w.heap.size, 0, none⟩)] (fun x => decide (x.no = no)) _ eg (lt_of hg) (by omega) hc (fun W x hb => (findW w.heap.size no x W ((hb.cell (p := ⟨w.heap.size, 0, none⟩) (by simp)).trans hbx)).mono fun e w' ⟨h1, h2⟩ => ⟨h1, hb.trans (h2.mono hb.size)⟩)
      rw [idxBy_findL no default st.leases 0] at this
      have hv : findV st no = match findL no st.leases with | none => -1 | some k => ((0 + k : Nat) : Int) := by
        unfold findV; cases findL no st.leases <;> simp
      rw [hv]
      exact this
  obtain ⟨la, lc, rfl, _, _⟩ := ownsRow_sh hm1.lrow
  have HC := Lib.hid C
  have HB1 := Lib.hid B1
  clear C hm hm1 B1 eg
  go_enter Try.func26, Try.ntmps26
  go_wp2_with fail
  refine HC.out.mono ?_
  rintro e w' ⟨rfl, hb2⟩
  have HB2 := Lib.hid (HB1.out.trans (hb2.mono HB1.out.size))
  clear hb2
  go_wp2_with fail
  go_ret
  exact ⟨rfl, HB2.out⟩

end Go.Proofs.Ytfgpophbgjeefaa
