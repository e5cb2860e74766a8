/-
  slices.Sort of a row of integers of the call's own. No conditions but the length.
  Owners of the program's book and of the reference's: the same list. No conditions but what always holds of a book.
  The program's book and the reference's, side by side: what stays when one of the two is turned. No conditions.
  form, again, the leases and the entries that a book tells. No conditions but those of the book's own state.
  The book's again: it makes the call that an entry tells. No conditions but those of the book's own state.
-/
import Derived.Test.YtfgpophbgjeefaaGreatLedgerRunsPbc
import Derived.Test.YtfgpophbgjeefaaGreatLedgerRunsPaz
import Derived.Test.YtfgpophbgjeefaaGreatLedgerRunsPbn
import Derived.Test.YtfgpophbgjeefaaGreatLedgerRunsPar
import Derived.Test.YtfgpophbgjeefaaGreatLedgerRunsPav
import Derived.Test.YtfgpophbgjeefaaGreatLedgerRunsPbl

namespace Go.Proofs.YtfgpophbgjeefaaGreat
section
open Go.RowKit Go.Sort
set_option linter.unusedVariables false

theorem sort_own (v : Value) (B : Nat) (xs : List Int) (w : World) (hr : w.ownsRow B 3 1 v xs.length (xs.map fun x => Value.int .i64 x)) (hlen : xs.length ≤ 1000000) (hB : B ≤ w.heap.size) :
    Calls Tryz.prog 191 #[v] w (fun e w' => e = .returned (.tuple #[]) ∧ w'.ownsRow B 3 1 v (xs.mergeSort fun x y => decide (x ≤ y)).length ((xs.mergeSort fun x y => decide (x ≤ y)).map fun x => Value.int .i64 x) ∧ Below B w w') := by
  rcases hr.2 with ⟨rfl, h0⟩ | ⟨g, cap, cur, rfl, hb, hg, hn, hcm, hs, ht⟩
  · have hz : xs = [] := List.eq_nil_of_length_eq_zero h0
    subst hz
    refine (Tryz.slices_Sort_int_none none 0 w).mono ?_
    rintro e w' ⟨rfl, rfl⟩
    exact ⟨rfl, by simpa using hr, Below.refl _ _⟩
  · have hcell : ∀ j, j < xs.length → cur[j]? = some (Value.int .i64 (xs.toArray[j]!)) := by
      intro j hj
      rw [← Array.getElem?_toList]
      have h1 : cur.toList[j]? = (cur.toList.take (xs.length * 1))[j]? := (List.getElem?_take_of_lt (by omega)).symm
      rw [h1, ht, List.getElem?_map, List.getElem?_eq_getElem hj, getElem!_pos xs.toArray j (by simpa using hj)]
      simp
    have hH : Holds (Value.int .i64) w g 0 xs.toArray := by
      intro j hj
      have hj' : j < xs.length := by simpa using hj
      exact ⟨by rw [Nat.zero_add, cell_of hg]; exact hcell j hj', free_of hg _⟩
    refine (Tryz.slices_Sort_int g 0 cap xs w hH (lt_of hg) (by omega)).mono ?_
    rintro e w' ⟨rfl, n, os, rfl⟩
    have hlm : (xs.mergeSort fun x y => decide (x ≤ y)).length = xs.length := List.length_mergeSort _
    generalize (xs.mergeSort fun x y => decide (x ≤ y)) = ys at *
    have hblk : ∀ k, k < w.heap.size → (grow (putRow (Value.int .i64) (Sort.ahead w n) g 0 ys.toArray) os).heap[k]? = (w.heap.modify g (onCells (putCells (Value.int .i64) 0 ys.toArray)))[k]? := by
      intro k hk
      unfold grow putRow mapBlock
      simp only [heap_ahead]
      rw [Array.getElem?_append_left (by simpa using hk)]
    refine ⟨rfl, ⟨by simp, Or.inr ⟨g, cap, putCells (Value.int .i64) 0 ys.toArray cur, by rw [hlm], hb, ?_, by omega, hcm, by simp [putCells, hs], ?_⟩⟩, ?_, ?_, ?_, ?_, ?_⟩
    · rw [hblk g (lt_of hg), Array.getElem?_modify]
      simp [hg, onCells]
    · apply List.ext_getElem?
      intro t
      by_cases h : t < ys.length
      · rw [List.getElem?_take_of_lt (by omega)]
        have hcs : t < cur.size := by omega
        have hts : t < ys.toArray.size := by simpa using h
        simp only [Array.getElem?_toList, putCells, Array.getElem?_mapIdx]
        rw [Array.getElem?_eq_getElem hcs]
        simp only [Option.map_some, Nat.zero_le, Nat.zero_add, hts, and_self, if_true, Nat.sub_zero]
        rw [getElem!_pos ys.toArray t hts, List.getElem?_map, List.getElem?_eq_getElem h]
        simp
      · rw [List.getElem?_eq_none (by simp; omega), List.getElem?_eq_none (by simp; omega)]
    · rfl
    · rfl
    · rfl
    · unfold grow putRow mapBlock
      simp
    · intro k hk
      rw [hblk k (by omega), Array.getElem?_modify, if_neg (by omega)]

end
end Go.Proofs.YtfgpophbgjeefaaGreat

namespace Go.Proofs.YtfgpophbgjeefaaGreat
section
open Go.RowKit Go.Maps
set_option linter.unusedVariables false

def OwnInts (xs : List Int) (w : World) : Ending → World → Prop := fun e w' =>
  ∃ v, e = .returned v ∧ w'.ownsRow w.heap.size 3 1 v xs.length (xs.map fun x => Value.int .i64 x) ∧ Below w.heap.size w w'

set_option maxHeartbeats 2000000 in
set_option maxRecDepth 100000 in
theorem ownersR_any (p : Nat) (w : World) (F : Nat → Prop) (st : BookSt) (wh : Bool) (hb : RB w F p st wh) :
    Calls Tryz.prog 65 #[.pointer (some ⟨p, 0, none⟩)] w (OwnInts (ownersL st) w) := by
  obtain ⟨i0, hi0, hz0, hz1, hz2⟩ := info_parts infoInt
  have HB := Lib.hid hb
  obtain ⟨mb, lv, ev, D, hm⟩ := hb
  have HM := Lib.hid hm
  clear hm
  go_enter Tryz.func65, Tryz.ntmps65
  go_wp2_with fail
  go_loopw [3, 4] (fun out i wr => ∃ k : Nat, k ≤ 40 ∧ i = .int .i64 ((k : Int) + 1) ∧ wr.ownsRow w.heap.size 3 1 out (ownK st k).length ((ownK st k).map fun x => Value.int .i64 x) ∧ Below w.heap.size w wr) (fun _ i _ => 41 - (intOf i).toNat)
  case atStart => exact ⟨0, Nat.zero_le _, by simp, World.ownsRow_nil _ _ _ _, Below.refl _ _⟩
  case round =>
    obtain ⟨k, hk, rfl, hrow, hb9⟩ := hrel
    have HB9 := Lib.hid hb9
    have hs9 := hb9.size
    by_cases hlt : k < 40
    · have hm9 := HM.out.same (Below.same_on hb9)
      have c1 : wr.cell? ⟨p, 1, none⟩ = some (.map (some mb)) := by rw [cell_of hm9.self]; rfl
      obtain ⟨x, y, LK⟩ := ref_look_ok hm9 ((k : Int) + 1) (by omega)
      have HK : Hid (ownK st (k + 1) = ownK st k ++ (if (st.acc ((k : Int) + 1)).isSome then [(k : Int) + 1] else [])) := Lib.hid rfl
      have hlen := ownK_len st k
      have HR := Lib.hid hrow
      clear hm9 hb9
      cases hsome : (st.acc ((k : Int) + 1)).isSome with
      | false =>
        rw [hsome] at LK HK
        have FIN : Hid ((wr.alloc (.cells #[.int .i64 x, .int .i64 y] 170)).ownsRow w.heap.size 3 1 u3 (ownK st (k + 1)).length ((ownK st (k + 1)).map fun x => Value.int .i64 x)) := Lib.hid (by
          rw [HK.out]; simpa using HR.out.alloc _)
        clear hsome hrow
        go_wp2_with fail
        go_roundw
        case measure => simp only [intOf]; omega
        case rel => exact ⟨k + 1, by omega, by simp, FIN.out, HB9.out.alloc HB9.out.size _⟩
      | true =>
        rw [hsome] at LK HK
        have OR : Hid ((wr.alloc (.cells #[.int .i64 x, .int .i64 y] 170)).ownsRow w.heap.size 3 1 u3 (ownK st k).length ((ownK st k).map fun x => Value.int .i64 x)) := Lib.hid (HR.out.alloc _)
        have B2 := Lib.hid (HB9.out.alloc HB9.out.size (.cells #[.int .i64 x, .int .i64 y] 170))
        have hlen2 : (ownK st k).length ≤ 40 := by omega
        clear hsome hrow hlen
        go_wp2_with (at_builtin; go_must (refine wpList_append_at rfl (.tmp 21) (.tmp 23) 25 rfl w.heap.size 3 i0 (.int .i64 0) 1 8 Tryz.underlying25 hi0 hz0 hz1 hz2 rfl (by decide) u3 (ownK st k).length ((ownK st k).map fun x => Value.int .i64 x) (wr.alloc (.cells #[.int .i64 x, .int .i64 y] 170)) _ [.int .i64 ((k : Int) + 1)] rfl OR.out (by simp [Act.eval]) rfl (by intro u hu; simp at hu; subst hu; rfl) (by unfold maxLen; omega) (by omega) (by simp; omega) ?_))
        intro gb cap w5 hown hgr hpl
        have FIN : Hid (w5.ownsRow w.heap.size 3 1 (.slice (some ⟨gb, 0, none⟩) ((ownK st k).length + 1) cap) (ownK st (k + 1)).length ((ownK st (k + 1)).map fun x => Value.int .i64 x) ∧ Below w.heap.size w w5) := Lib.hid ⟨by
          rw [HK.out]; simpa using hown, B2.out.grown hgr B2.out.size (fun j hj => (HR.out.lt j hj).1)⟩
        clear hown hgr hpl
        go_wp2_with fail
        go_roundw
        case measure => simp only [intOf]; omega
        case rel => exact ⟨k + 1, by omega, by simp, FIN.out.1, FIN.out.2⟩
    · obtain rfl : k = 40 := by omega
      have FIN : Hid (OwnInts (ownersL st) w (.returned u3) wr) := Lib.hid ⟨_, rfl, hrow, hb9⟩
      clear hrow hb9
      go_wp2_with fail
      go_ret
      exact FIN.out

/-! The program's. -/
set_option maxHeartbeats 2000000 in
set_option maxRecDepth 100000 in
theorem ownersB_any (p : Nat) (w : World) (F : Nat → Prop) (st : BookSt) (N : Nat) (hb : BookAt w F p st N) (g : GoodE st) :
    Calls Tryz.prog 64 #[.pointer (some ⟨p, 0, none⟩)] w (OwnInts (ownersL st) w) := by
  obtain ⟨i0, hi0, hz0, hz1, hz2⟩ := info_parts infoInt
  have HG := Lib.hid g
  obtain ⟨mb, blk, lv, ev, D, hm⟩ := hb
  have c4 : w.cell? ⟨p, 4, none⟩ = some (.map (some mb)) := by rw [cell_of hm.self]; rfl
  have hown := hm.map
  have HM := Lib.hid hm
  clear hm g
  go_enter Tryz.func64, Tryz.ntmps64
  go_wp2_with (first
    | (at_range; refine wpList_range_own _ rfl _ 128 rfl 3 165 intKey Tryz.underlying128 ptrElem mb N D rfl hown ?_; intro w0 hrg0 hg0 hs0)
    | fail)
  have hb0 : Below w.heap.size w w0 := (Below.refl _ w).grown hg0 (Nat.le_refl _) (fun k e => by cases e)
  go_frame
  go_loopw [3] (fun out wr => ∃ (left : Lit → Bool) (cnt : Nat) (ss : List Int), wr.ownsRow w.heap.size 3 1 out ss.length (ss.map fun x => Value.int .i64 x) ∧ wr.ranges Tryz.prog 3 ptrElem mb w.heap.size N D left cnt ∧ CameR st left ss ∧ Below w.heap.size w wr)
    (fun _ wr => wr.rangeLeft mb w.heap.size)
  case atStart =>
    exact ⟨_, _, [], World.ownsRow_nil _ _ _ _, hrg0, ⟨List.nodup_nil, fun x => by rw [HM.out.has x]; cases (st.acc x).isSome <;> simp⟩, hb0⟩
  case round =>
    obtain ⟨left, cnt, ss, hrow, hrg, hC, hbr⟩ := hrel
    have HBR := Lib.hid hbr
    have HR := Lib.hid hrow
    have hss : ss.length ≤ 40 := hC.len HG.out
    go_wp2_with (first
      | (at_next; refine wpList_next_ranges _ rfl _ rfl 3 intKey ptrElem (fun x : Int => .int .i64 x) (fun c : Option Nat => ptrOf c) (fun key kl hkey => by obtain ⟨x, rfl, _⟩ := Maps.keyOf_int_inv Tryz.underlying3 hkey; exact ⟨x, rfl⟩) (fun v y hv => ptrElem_shape hv) mb w.heap.size N D _ _ rfl hrg ?_ ?_)
      | fail)
    · intro hc0 hl0
      have HS := Lib.hid (owners_sorted HG.out hC.1 (fun o => by rw [hC.2 o, hl0]; simp))
      have SO := Lib.hid (sort_own u3 w.heap.size ss wr hrow (by omega) hbr.size)
      rw [HS.out] at SO
      obtain ⟨oa, oc, rfl, _, _⟩ := ownsRow_sh hrow
      clear hrow hrg hC hbr
      go_wp2_with fail
      refine SO.out.mono ?_
      rintro e w3 ⟨rfl, hr3, hb3⟩
      have FIN : Hid (OwnInts (ownersL st) w (.returned (.slice oa ss.length oc)) w3) := Lib.hid ⟨_, rfl, hr3, HBR.out.trans hb3⟩
      clear hr3 hb3
      go_wp2_with fail
      go_ret
      exact FIN.out
    · intro x c kl y ps w2 cnt2 hkey hlk hv hat hrg2 hlt hg2 hs2 hen
      obtain ⟨x', ex, rfl, hwx⟩ := Maps.keyOf_int_inv Tryz.underlying3 hkey
      cases ex
      have hacc : (st.acc x).isSome = true := by
        rw [← HM.out.has x]
        exact has_true_of_atKey hat
      have B2 := Lib.hid (hbr.grown hg2 hbr.size (fun k e => by cases e; exact Nat.le_refl _))
      have hC2 := hC.step (x := x) hacc hlk
      have hne : ∀ j, u3.ownBlock = some j → j ≠ w.heap.size := fun j hj e => by
        obtain ⟨cur, hc⟩ := row_block HR.out hj
        obtain ⟨o, ho, hw⟩ := hrg.iter_walk
        rw [e] at hc
        rw [hc] at ho
        cases ho
        simp [Obj.isWalk] at hw
      have OR : Hid (w2.ownsRow w.heap.size 3 1 u3 ss.length (ss.map fun x => Value.int .i64 x)) := Lib.hid (ownsRow_same hrow (fun j hj => hg2.block j (HR.out.lt j hj).2 (fun e => hne j hj (Option.some.inj e))))
      have hw2 := B2.out.size
      have HRG := Lib.hid hrg2
      have HNE := Lib.hid hne
      have HRL := Lib.hid hrg.left_eq
      have HLT := Lib.hid hlt
      have HC2 := Lib.hid hC2
      clear hs2 hat hv hacc hbr hrow hg2 hne hlk hrg2 hC hC2 hrg hlt hkey
      go_wp2_with (at_builtin; go_must (refine wpList_append_at rfl (.tmp 14) (.tmp 16) 25 rfl w.heap.size 3 i0 (.int .i64 0) 1 8 Tryz.underlying25 hi0 hz0 hz1 hz2 rfl (by decide) u3 ss.length (ss.map fun x => Value.int .i64 x) w2 _ [.int .i64 x] rfl OR.out rfl rfl (by intro u hu; simp at hu; subst hu; rfl) (by unfold maxLen; omega) (by omega) hw2 ?_))
      intro gb cap w5 hown5 hgr hpl
      have FIN : Hid (w5.ownsRow w.heap.size 3 1 (.slice (some ⟨gb, 0, none⟩) (ss.length + 1) cap) (ss ++ [x]).length ((ss ++ [x]).map fun x => Value.int .i64 x) ∧ Below w.heap.size w w5) := Lib.hid ⟨by simpa using hown5, B2.out.grown hgr B2.out.size (fun j hj => (HR.out.lt j hj).1)⟩
      have RG : Hid (w5.ranges Tryz.prog 3 ptrElem mb w.heap.size N D (fun z => left z && !z.sameKey (.int .i64 x)) cnt2) := Lib.hid (HRG.out.of_walks (KeepsWalks.of_grownBy hgr (fun j o hj ho => by
        obtain ⟨cur, hc⟩ := row_block OR.out hj
        rw [hc] at ho
        cases ho
        rfl)))
      clear hown5 hgr hpl
      go_wp2_with fail
      go_roundw
      case rel => exact ⟨_, cnt2, ss ++ [x], FIN.out.1, RG.out, HC2.out, FIN.out.2⟩
      case measure => rw [RG.out.left_eq, HRL.out]; exact HLT.out

end
end Go.Proofs.YtfgpophbgjeefaaGreat

namespace Go.Proofs.YtfgpophbgjeefaaGreat
section
open Go.RowKit
set_option linter.unusedVariables false

structure BothAt (w wr : World) (p q : Nat) (st : BookSt) (N : Nat) (F G : Nat → Prop) : Prop where
  own : BookAt wr F p st N
  ref : RB wr G q st false
  dis : ∀ k, F k → ¬ G k
  flt : ∀ k, F k → k < wr.heap.size
  glt : ∀ k, G k → k < wr.heap.size
  flo : ∀ k, F k → w.heap.size ≤ k
  glo : ∀ k, G k → w.heap.size ≤ k
  below : Below w.heap.size w wr

theorem BothAt.under {w wr w' : World} {p q : Nat} {st : BookSt} {N : Nat} {F G : Nat → Prop} (h : BothAt w wr p q st N F G) (hb : Below wr.heap.size wr w') : BothAt w w' p q st N F G :=
  ⟨h.own.same (Below.same_on hb), h.ref.same (Below.same_on hb), h.dis, fun k hk => Nat.lt_of_lt_of_le (h.flt k hk) hb.size, fun k hk => Nat.lt_of_lt_of_le (h.glt k hk) hb.size, h.flo, h.glo, h.below.trans (hb.mono h.below.size)⟩
theorem BothAt.mid {w wr w1 : World} {p q : Nat} {st : BookSt} {N : Nat} {F G : Nat → Prop} (h : BothAt w wr p q st N F G) (ht : Touch F wr w1) : RB w1 G q st false :=
  h.ref.same (ht.same (fun k hk _ hF => h.dis k hF hk))
/-- Both have made the same call. -/
theorem BothAt.step {w wr w1 w2 : World} {p q : Nat} {st st' : BookSt} {N N' : Nat} {F G : Nat → Prop} (h : BothAt w wr p q st N F G) (hb1 : BookAt w1 (fun k => F k ∨ wr.heap.size ≤ k) p st' N') (ht1 : Touch F wr w1)
    (hr2 : RB w2 (fun k => G k ∨ w1.heap.size ≤ k) q st' false) (ht2 : Touch G w1 w2) :
    BothAt w w2 p q st' N' (fun k => (F k ∨ wr.heap.size ≤ k) ∧ k < w1.heap.size) (fun k => (G k ∨ w1.heap.size ≤ k) ∧ k < w2.heap.size) := by
  have s0 := h.below.size
  have s1 := ht1.size
  have s2 := ht2.size
  refine ⟨hb1.narrow'.same (fun k hk hlt => ht2.block k hk.2 (fun hG => ?_)), RefAt.narrow' hr2, fun k hF hG => ?_, fun k hk => Nat.lt_of_lt_of_le hk.2 s2, fun k hk => hk.2, fun k hk => ?_, fun k hk => ?_, ?_⟩
  · rcases hk.1 with h1 | h1
    · exact h.dis k h1 hG
    · have := h.glt k hG; omega
  · rcases hG.1 with h2 | h2
    · rcases hF.1 with h1 | h1
      · exact h.dis k h1 h2
      · have := h.glt k h2; omega
    · omega
  · rcases hk.1 with h1 | h1
    · exact h.flo k h1
    · omega
  · rcases hk.1 with h1 | h1
    · exact h.glo k h1
    · omega
  · exact h.below.trans ((ht1.below s0 h.flo).trans (ht2.below (by omega) h.glo))

end
end Go.Proofs.YtfgpophbgjeefaaGreat

namespace Go.Proofs.YtfgpophbgjeefaaGreat
section
open Go.RowKit
set_option linter.unusedVariables false

def FormPost (b : Bool) (w : World) : Ending → World → Prop := fun e w' => e = .returned (.bool b) ∧ Below w.heap.size w w'

def DoPost (err : Int) (F : Nat → Prop) (p : Nat) (st : BookSt) (N : Nat) (w : World) : Ending → World → Prop := OpPost err F p st N w

end
end Go.Proofs.YtfgpophbgjeefaaGreat

namespace Go.Proofs.YtfgpophbgjeefaaGreat
section
open Go.RowKit
set_option linter.unusedVariables false

theorem OpPost.lift {err : Int} {F : Nat → Prop} {p : Nat} {st : BookSt} {N : Nat} {w w1 w2 : World} (h1 : Touch F w w1) {e : Ending} (h : OpPost err F p st N w1 e w2) : OpPost err F p st N w e w2 :=
  ⟨h.1, h.2.1.wider (fun k hk => hk.imp id (fun x => Nat.le_trans h1.size x)), h1.then h.2.2⟩

end
end Go.Proofs.YtfgpophbgjeefaaGreat
