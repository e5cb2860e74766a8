/-
  The reference's book: Total. No conditions but what always holds of a book.
  The reference's book: left. No conditions but what always holds of a book.
  slices.ContainsFunc over integers with a test that reads no memory; the reference's two tests. No conditions.
  The reference's book: fault. No conditions.
  The reference's book: a new one. No conditions.
  A map's bound may be its size. No conditions.
-/
import Derived.Test.YtfnmjlnpfoclbaaGreatQueueRunsPav
import Derived.Maps.RangeWalk
import Derived.Maps.OwnSet
import Derived.RangeFuncSeq
import Derived.RangeFuncBound
import Derived.Test.YtfnmjlnpfoclbaaGreatQueueRunsPab
import Derived.Shelf.Abstract

namespace Go.Proofs.YtfnmjlnpfoclbaaGreat
section
open Go.RowKit Go.Maps
set_option linter.unusedVariables false

theorem RefAt.narrow' {w : World} {F : Nat → Prop} {p : Nat} {st : BookSt} {es : List Ent} {wh : Bool} {N : Nat} (h : RefAt w F p st es wh N) : RefAt w (fun k => F k ∧ k < w.heap.size) p st es wh N := by
  obtain ⟨mb, lv, ev, D, hm⟩ := h
  refine ⟨mb, lv, ev, D, hm.self, ⟨hm.fp, lt_of hm.self⟩, hm.map, ⟨hm.fmap, hm.map.lt⟩, hm.tidy, hm.size, hm.look, hm.has, hm.lrow, fun k hk => ⟨hm.flea k hk, ?_⟩, hm.erow, fun k hk => ⟨hm.fent k hk, ?_⟩⟩
  · obtain ⟨cur, hc⟩ := row_block hm.lrow hk; exact lt_of hc
  · obtain ⟨cur, hc⟩ := hm.erow.block hk; exact lt_of hc
theorem accElem_shape {v : Value} {y : DataW Unit × List MemPlace} (e : accElem v = some y) : ∃ c : Int × Int, v = .agg #[.int .i64 c.1, .int .i64 c.2] := by
  unfold accElem at e
  split at e
  · next cs =>
    unfold accList at e
    split at e
    · next l' h' hl =>
      refine ⟨(l', h'), ?_⟩
      have : cs = #[.int .i64 l', .int .i64 h'] := by rw [← Array.toArray_toList (xs := cs), hl]
      rw [this]
    · cases e
  · cases e
theorem walks_of_below {w w' : World} (h : Below w.heap.size w w') : KeepsWalks w w' := ⟨h.size, fun k o hk _ => (h.block k (Array.getElem?_eq_some_iff.1 hk).1).trans hk⟩

/-- What has come. -/
def CameR (st : BookSt) (left : Lit → Bool) (ss : List Int) : Prop := ss.Nodup ∧ ∀ x : Int, x ∈ ss ↔ ((st.acc x).isSome = true ∧ left (.int .i64 x) = false)
theorem CameR.step {st : BookSt} {left : Lit → Bool} {ss : List Int} (h : CameR st left ss) {x : Int} (hx : (st.acc x).isSome = true) (hl : left (.int .i64 x) = true) : CameR st (fun z => left z && !z.sameKey (.int .i64 x)) (ss ++ [x]) := by
  refine ⟨?_, fun y => ?_⟩
  · refine List.nodup_append.2 ⟨h.1, by simp, ?_⟩
    intro a ha b hb
    simp at hb
    subst hb
    rintro rfl
    have := ((h.2 a).1 ha).2
    rw [hl] at this
    cases this
  · rw [List.mem_append, h.2 y]
    by_cases e : y = x
    · subst e
      simp [hx, Lit.sameKey]
    · simp [e, Lit.sameKey]
theorem GoodE.sum {st : BookSt} (g : GoodE st) {xs : List Int} (hn : xs.Nodup) (hx : ∀ o, o ∈ xs ↔ (st.acc o).isSome = true) : sumL (fun o => cntA (st.acc o)) xs = st.total := by
  rw [g.tot]
  refine sumL_all 40 xs _ hn (fun x hm => ?_) (fun x h1 h2 hm => ?_)
  · obtain ⟨⟨l, h, s⟩, ha⟩ := Option.isSome_iff_exists.1 ((hx x).1 hm)
    exact (g.own x l h s ha).1
  · have e : st.acc x = none := by
      cases e : st.acc x with
      | none => rfl
      | some a => exact absurd ((hx x).2 (by rw [e]; rfl)) hm
    show cntA (st.acc x) = 0
    rw [e]; rfl
theorem CameR.bound {st : BookSt} {left : Lit → Bool} {ss : List Int} (h : CameR st left ss) (g : GoodE st) : 0 ≤ sumL (fun o => cntA (st.acc o)) ss ∧ sumL (fun o => cntA (st.acc o)) ss ≤ 10000000 := by
  have e1 : sumL (fun o => cntA (st.acc o)) ss = sumL (fun o => if o ∈ ss then cntA (st.acc o) else 0) ss := sumL_congr ss (fun x hx => by simp [hx])
  have e2 : sumL (fun o => if o ∈ ss then cntA (st.acc o) else 0) ss = sumN (fun o => if o ∈ ss then cntA (st.acc o) else 0) 40 := sumL_all 40 ss _ h.1 (fun x hx => by
    obtain ⟨⟨l, y, s⟩, ha⟩ := Option.isSome_iff_exists.1 ((h.2 x).1 hx).1
    exact (g.own x l y s ha).1) (fun x _ _ hx => by simp [hx])
  have e3 : sumN (fun o => if o ∈ ss then cntA (st.acc o) else 0) 40 ≤ sumN (fun o => cntA (st.acc o)) 40 := sumN_le 40 (fun o _ _ => by
    have := g.cnt0 o
    show (if o ∈ ss then _ else _) ≤ _
    split <;> omega)
  have e4 : 0 ≤ sumN (fun o => if o ∈ ss then cntA (st.acc o) else 0) 40 := sumN_nonneg 40 (fun o _ _ => by
    have := g.cnt0 o
    show 0 ≤ (if o ∈ ss then _ else _)
    split <;> omega)
  have e5 : sumN (fun o => cntA (st.acc o)) 40 = st.total := g.tot.symm
  have e6 := g.totb
  have e7 := g.bud
  omega

set_option maxHeartbeats 2000000 in
set_option maxRecDepth 100000 in
theorem totalR_any (p : Nat) (w : World) (F : Nat → Prop) (st : BookSt) (es : List Ent) (wh : Bool) (N : Nat) (hb : RefAt w F p st es wh N) (g : GoodE st) :
    Calls Tryz.prog 45 #[.pointer (some ⟨p, 0, none⟩)] w (fun e w' => e = .returned (.int .i64 st.total) ∧ Below w.heap.size w w') := by
  have HN := Lib.hid hb.narrow'
  have HG := Lib.hid g
  obtain ⟨mb, lv, ev, D, hm⟩ := hb
  have c1 : w.cell? ⟨p, 1, none⟩ = some (.map (some mb)) := by rw [cell_of hm.self]; rfl
  have hown := hm.map
  have HM := Lib.hid hm
  clear hm g
  go_enter Tryz.func45, Tryz.ntmps45
  go_wp2_with (first
    | (at_range; refine wpList_range_own _ rfl _ 63 rfl 3 115 intKey Tryz.underlying63 accElem mb N D rfl hown ?_; intro w0 hrg0 hg0 hs0)
    | fail)
  have hb0 : Below w.heap.size w w0 := (Below.refl _ w).grown hg0 (Nat.le_refl _) (fun k e => by cases e)
  go_frame
  go_loopw [3] (fun s wr => ∃ (left : Lit → Bool) (cnt : Nat) (ss : List Int), s = .int .i64 (sumL (fun o => cntA (st.acc o)) ss) ∧ wr.ranges Tryz.prog 3 accElem mb w.heap.size N D left cnt ∧ CameR st left ss ∧ Below w.heap.size w wr)
    (fun _ wr => wr.rangeLeft mb w.heap.size)
  case atStart =>
    exact ⟨_, _, [], rfl, hrg0, ⟨List.nodup_nil, fun x => by rw [HM.out.has x]; cases (st.acc x).isSome <;> simp⟩, hb0⟩
  case round =>
    obtain ⟨left, cnt, ss, rfl, hrg, hC, hbr⟩ := hrel
    have HBR := Lib.hid hbr
    have hSb := hC.bound HG.out
    go_wp2_with (first
      | (at_next; refine wpList_next_ranges _ rfl _ rfl 3 intKey accElem (fun x : Int => .int .i64 x) (fun c : Int × Int => .agg #[.int .i64 c.1, .int .i64 c.2]) (fun key kl hkey => by obtain ⟨x, rfl, _⟩ := Maps.keyOf_int_inv Tryz.underlying3 hkey; exact ⟨x, rfl⟩) (fun v y hv => accElem_shape hv) mb w.heap.size N D _ _ rfl hrg ?_ ?_)
      | fail)
    · intro hc0 hl0
      have HT := Lib.hid (HG.out.sum hC.1 (fun o => by rw [hC.2 o, hl0]; simp))
      go_wp2_with fail
      go_ret
      exact ⟨by rw [← HT.out]; rfl, HBR.out⟩
    · intro x l h kl y ps w2 cnt2 hkey hlk hv hat hrg2 hlt hg2 hs2 hen
      obtain ⟨x', ex, rfl, hwx⟩ := Maps.keyOf_int_inv Tryz.underlying3 hkey
      cases ex
      have hy : y = .agg [.lit (.int .i64 l), .lit (.int .i64 h)] := by
        have : accElem (.agg #[.int .i64 l, .int .i64 h]) = some (.agg [.lit (.int .i64 l), .lit (.int .i64 h)], []) := rfl
        rw [this] at hv
        simp only [Option.some.injEq, Prod.mk.injEq] at hv
        exact hv.1.symm
      obtain ⟨s, hacc⟩ : ∃ s, st.acc x = some (l, h, s) := by
        have h1 := hat .nil
        rw [HM.out.look x, hy] at h1
        cases ha : st.acc x with
        | none => rw [ha] at h1; simp [accAt] at h1
        | some a =>
          obtain ⟨l', h', s⟩ := a
          rw [ha] at h1
          simp only [accAt, DataW.agg.injEq, List.cons.injEq, DataW.lit.injEq, Lit.int.injEq, true_and, and_true] at h1
          obtain ⟨rfl, rfl⟩ := h1
          exact ⟨s, rfl⟩
      have B2 := Lib.hid (hbr.grown hg2 hbr.size (fun k e => by cases e; exact Nat.le_refl _))
      have CN := Lib.hid (countsR_any p x l h s w2 _ st es wh N (HN.out.same (fun k hk hlt' => (hg2.block k (Nat.lt_of_lt_of_le hlt' hbr.size) (fun e => by cases e; exact Nat.lt_irrefl _ hk.2)).trans (hbr.block k hlt'))) HG.out (HG.out.own x l h s hacc).1 hacc)
      have hC2 := hC.step (x := x) (by rw [hacc]; rfl) hlk
      have hcb := (HG.out.own x l h s hacc).2
      have hs0 := HG.out.s0 hacc
      have hst : sumL (fun o => cntA (st.acc o)) (ss ++ [x]) = sumL (fun o => cntA (st.acc o)) ss + (h + s) := by
        rw [sumL_snoc, hacc]; rfl
      have HST := Lib.hid hst
      have hB2 := B2.out.size
      obtain ⟨q1, q2, q3, q4⟩ := hcb
      clear q4
      clear hs2 hst hat hv hy hkey hacc hbr
      go_wp2_with fail
      refine CN.out.mono ?_
      rintro e w3 ⟨rfl, hb3⟩
      have hrg3 := hrg2.of_walks (walks_of_below hb3)
      have B3 := Lib.hid (B2.out.trans (hb3.mono hB2))
      clear hb3 hen
      go_wp2_with fail
      go_roundw
      case rel => exact ⟨_, cnt2, ss ++ [x], by rw [HST.out], hrg3, hC2, B3.out⟩
      case measure => rw [hrg3.left_eq, hrg.left_eq]; exact hlt

end
end Go.Proofs.YtfnmjlnpfoclbaaGreat

namespace Go.Proofs.YtfnmjlnpfoclbaaGreat
section
open Go.RowKit Go.Maps
set_option linter.unusedVariables false

/-- What left reads of the world. -/
def LftS (p mb : Nat) (o l h bu : Int) : World → Prop := fun W => W.cell? ⟨p, 1, none⟩ = some (.map (some mb)) ∧ W.cell? ⟨p, 0, none⟩ = some (.int .i64 bu) ∧
  (Instr.lookup 63 (.map (some mb)) (.int .i64 o) false).run Tryz.prog W = .ok (.agg #[.int .i64 l, .int .i64 h]) W

set_option maxHeartbeats 2000000 in
set_option maxRecDepth 100000 in
theorem leftR_any (p : Nat) (o l h s : Int) (w : World) (F : Nat → Prop) (st : BookSt) (es : List Ent) (wh : Bool) (N : Nat) (hb : RefAt w F p st es wh N) (g : GoodE st) (ho : 1 ≤ o ∧ o ≤ 40) (ha : st.acc o = some (l, h, s)) :
    Calls Tryz.prog 82 #[.pointer (some ⟨p, 0, none⟩), .int .i64 o] w (fun e w' => e = .returned (.int .i64 (min (l - (h + s)) (st.budget - st.total))) ∧ Below w.heap.size w w') := by
  have HB := Lib.hid hb.narrow'
  have HG := Lib.hid g
  have CN : Hid (∀ W, Below w.heap.size w W → Calls Tryz.prog 83 #[.pointer (some ⟨p, 0, none⟩), .int .i64 o] W (fun e w' => e = .returned (.int .i64 (h + s)) ∧ Below W.heap.size W w')) :=
    Lib.hid (fun W hW => countsR_any p o l h s W _ st es wh N (HB.out.same (fun k hk h' => hW.block k hk.2)) HG.out ho ha)
  have TT : Hid (∀ W, Below w.heap.size w W → Calls Tryz.prog 45 #[.pointer (some ⟨p, 0, none⟩)] W (fun e w' => e = .returned (.int .i64 st.total) ∧ Below W.heap.size W w')) :=
    Lib.hid (fun W hW => totalR_any p W _ st es wh N (HB.out.same (fun k hk h' => hW.block k hk.2)) HG.out)
  have hb1 := (g.own o l h s ha).2
  have hs0 := g.s0 ha
  have ht0 := g.tot0
  have ht1 := g.totb
  have hbu := g.bud
  obtain ⟨q1, q2, q3, q4⟩ := hb1
  clear q4
  obtain ⟨mb, lv, ev, D, hm⟩ := hb
  have c1 : w.cell? ⟨p, 1, none⟩ = some (.map (some mb)) := by rw [cell_of hm.self]; rfl
  have c0 : w.cell? ⟨p, 0, none⟩ = some (.int .i64 st.budget) := by rw [cell_of hm.self]; rfl
  have HM := Lib.hid hm
  have HS : Hid (∀ W, Below w.heap.size w W → LftS p mb o l h st.budget W) := Lib.hid (fun W hW => ⟨old_cell hW c1, old_cell hW c0, ref_lookup (HM.out.same (Below.same_on hW)) o ho ha⟩)
  have FD := fun W => accField0 l h W
  generalize st.budget = bu at *
  generalize st.total = tt at *
  have s1 : ∀ y : WIn (LftS p mb o l h bu), y.w.cell? ⟨p, 1, none⟩ = some (.map (some mb)) := fun y => y.h.1
  have s2 : ∀ y : WIn (LftS p mb o l h bu), y.w.cell? ⟨p, 0, none⟩ = some (.int .i64 bu) := fun y => y.h.2.1
  have s3 : ∀ y : WIn (LftS p mb o l h bu), (Instr.lookup 63 (.map (some mb)) (.int .i64 o) false).run Tryz.prog y.w = .ok (.agg #[.int .i64 l, .int .i64 h]) y.w := fun y => y.h.2.2
  have S0 : LftS p mb o l h bu w.drew := HS.out (w.drewN 1) (bdrewN (Below.refl _ w) 1)
  haveI ne : Nonempty (WIn (LftS p mb o l h bu)) := ⟨⟨w.drew, S0⟩⟩
  clear hm
  go_enter Tryz.func82, Tryz.ntmps82
  go_upto_region 1 with fail
  refine wp_normal ?_
  refine wp_region_plan 19 (LftS p mb o l h bu) rfl ?_
  refine wpN_seg [0, 1, 2, 3, 4, 5, 6, 7, 8, 11, 12, 13, 14, 15] (by kernel_rfl) (by kernel_rfl) (by kernel_rfl) (by kernel_rfl) (by decide) (fun _ _ _ _ _ h => h) S0 ?_
  simp only [pick, List.map_cons, List.map_nil, List.getElem?_cons_succ, List.getElem?_cons_zero, Option.getD_some]
  repeat (go_big_quiet_step (fail))
  refine wpQuiet_nil ?_
  refine wpN_one 9 _ (by kernel_rfl) rfl ?_
  refine NextAt.held ?_
  intro K hK
  go_simp
  have B0 := Lib.hid (show Below w.heap.size w w.drew from bdrewN (Below.refl _ w) 1)
  refine (CN.out _ B0.out).mono ?_
  rintro e w1 ⟨rfl, hb1'⟩
  have B1 := Lib.hid (B0.out.trans hb1')
  have S1 := HS.out w1 B1.out
  clear hb1'
  go_simp
  refine hK _ _ S1 ?_
  clear hK K
  refine wpN_seg [10] (by kernel_rfl) (by kernel_rfl) (by kernel_rfl) (by kernel_rfl) (by decide) (fun _ _ _ _ _ h => h) S1 ?_
  simp only [pick, List.map_cons, List.map_nil, List.getElem?_cons_succ, List.getElem?_cons_zero, Option.getD_some]
  repeat (go_big_quiet_step (fail))
  refine wpQuiet_nil ?_
  refine wpN_one 16 _ (by kernel_rfl) rfl ?_
  refine NextAt.held ?_
  intro K hK
  go_simp
  refine (TT.out _ B1.out).mono ?_
  rintro e w2 ⟨rfl, hb2'⟩
  have B2 := Lib.hid (B1.out.trans (hb2'.mono B1.out.size))
  have S2 := HS.out w2 B2.out
  clear hb2'
  go_simp
  refine hK _ _ S2 ?_
  clear hK K
  refine wpN_pure [17, 18] (by kernel_rfl) (by kernel_rfl) (by kernel_rfl) (fun _ _ _ _ _ h => h) (fun _ => S2) ?_
  simp only [pick, List.map_cons, List.map_nil, List.getElem?_cons_succ, List.getElem?_cons_zero, Option.getD_some]
  repeat (go_big_quiet_step (fail))
  all_goals
    refine wpQuiet_nil ?_
    refine wpN_one 19 _ (by kernel_rfl) rfl ?_
    refine NextAt.free (by kernel_rfl) ?_
    intro K hK
    go_simp
    refine hK _ _ ?_
    clear hK K
    refine wpN_done (by kernel_rfl) ?_
    go_wp2_with fail
    all_goals
      go_ret
      exact ⟨ret_int (by omega), B2.out⟩

end
end Go.Proofs.YtfnmjlnpfoclbaaGreat

namespace Go.Proofs.YtfnmjlnpfoclbaaGreat
section
open Go.RowKit
set_option linter.unusedVariables false

def ownBad (o : Int) : Bool := decide (o < 1) || decide (40 < o)
def numBad (n : Int) : Bool := !(decide (0 ≤ n ∧ n ≤ 10000000))

set_option maxRecDepth 100000 in
theorem ownTest_any (o : Int) (w : World) : Calls Tryz.prog 62 #[.int .i64 o] w (fun e w' => e = .returned (.bool (ownBad o)) ∧ w = w') := by
  by_cases h1 : o < 1
  · have e : ownBad o = true := by simp [ownBad, h1]
    rw [e]
    clear e
    go_enter Tryz.func62, Tryz.ntmps62
    go_wp2_with fail
    go_ret
    exact ⟨rfl, rfl⟩
  · by_cases h2 : 40 < o
    · have e : ownBad o = true := by simp [ownBad, h2]
      rw [e]
      clear e
      go_enter Tryz.func62, Tryz.ntmps62
      go_wp2_with fail
      go_ret
      exact ⟨rfl, rfl⟩
    · have e : ownBad o = false := by simp [ownBad, h1, h2]
      rw [e]
      clear e
      go_enter Tryz.func62, Tryz.ntmps62
      go_wp2_with fail
      go_ret
      exact ⟨rfl, rfl⟩

set_option maxRecDepth 100000 in
theorem numTest_any (n : Int) (w : World) : Calls Tryz.prog 63 #[.int .i64 n] w (fun e w' => e = .returned (.bool (numBad n)) ∧ w = w') := by
  have T := Lib.hid (inBudgetR_any n w)
  have e : numBad n = !(decide (0 ≤ n ∧ n ≤ 10000000)) := rfl
  rw [e]
  generalize decide (0 ≤ n ∧ n ≤ 10000000) = b at *
  clear e
  go_enter Tryz.func63, Tryz.ntmps63
  go_wp2_with fail
  refine T.out.mono ?_
  rintro e w' ⟨rfl, rfl⟩
  go_wp2_with fail
  go_ret
  exact ⟨rfl, rfl⟩

def IdxPost (t : Int → Bool) (zs : List Int) (w : World) : Ending → World → Prop := fun e w' => w = w' ∧ ∃ r : Int, e = .returned (.int .i64 r) ∧ ((r = -1 ∧ zs.any t = false) ∨ (0 ≤ r ∧ r ≤ 9223372036854775807 ∧ zs.any t = true))

set_option maxHeartbeats 1000000 in
set_option maxRecDepth 100000 in
theorem idxInts_any (f : FuncId) (t : Int → Bool) (v : Value) (zs : List Int) (w : World) (eg : ∀ args w, (callFunc f args).run Tryz.prog w = .ok (.enter f args) w) (ht : ∀ z w, Calls Tryz.prog f #[.int .i64 z] w (fun e w' => e = .returned (.bool (t z)) ∧ w = w')) (hr : Reads w .i64 v zs) :
    Calls Tryz.prog 86 #[v, .func (.func f) #[] #[]] w (IdxPost t zs w) := by
  obtain ⟨a, cap, rfl, hl, hc⟩ := hr.open
  have HC := Lib.hid hc
  have HT := Lib.hid ht
  clear hc hr ht
  go_enter Tryz.func86, Tryz.ntmps86
  go_wp2_with fail
  go_loop [5, 8] (fun _ i => ∃ k : Nat, k ≤ zs.length ∧ i = .int .i64 k ∧ (zs.take k).any t = false) (fun _ i => zs.length - (intOf i).toNat)
  case atStart => exact ⟨0, Nat.zero_le _, rfl, by simp⟩
  case round =>
    obtain ⟨k, hk, rfl, hno⟩ := hrel
    have HNO := Lib.hid hno
    clear hno
    by_cases hlt : k < zs.length
    · obtain ⟨b, o, rfl, g⟩ := HC.out k hlt
      have HG := Lib.hid (show zs[k]? = some (zs.getD k 0) by rw [List.getD_eq_getElem?_getD, List.getElem?_eq_getElem hlt]; rfl)
      generalize zs.getD k 0 = z at *
      go_wp2_with fail
      refine (HT.out z w).mono ?_
      rintro e w' ⟨rfl, rfl⟩
      cases htz : t z with
      | true =>
        have FIN : Hid (IdxPost t zs w (.returned (.int .i64 k)) w) := Lib.hid ⟨rfl, _, rfl, Or.inr ⟨by omega, by omega, List.any_eq_true.2 ⟨z, List.mem_of_getElem? HG.out, htz⟩⟩⟩
        go_wp2_with fail
        go_ret
        exact FIN.out
      | false =>
        have FIN : Hid ((zs.take (k + 1)).any t = false) := Lib.hid (by rw [List.take_add_one, List.any_append, HNO.out, HG.out]; simp [htz])
        go_wp2_with fail
        go_round
        case rel => exact ⟨k + 1, by omega, by go_num, FIN.out⟩
        case measure => simp [intOf]; omega
    · obtain rfl : k = zs.length := by omega
      have FIN : Hid (IdxPost t zs w (.returned (.int .i64 (-1))) w) := Lib.hid ⟨rfl, _, rfl, Or.inl ⟨rfl, by have := HNO.out; rwa [List.take_length] at this⟩⟩
      clear hlt hk
      go_wp2_with fail
      go_ret
      exact FIN.out

set_option maxRecDepth 100000 in
theorem containsInts_any (f : FuncId) (t : Int → Bool) (v : Value) (zs : List Int) (w : World) (eg : ∀ args w, (callFunc f args).run Tryz.prog w = .ok (.enter f args) w) (ht : ∀ z w, Calls Tryz.prog f #[.int .i64 z] w (fun e w' => e = .returned (.bool (t z)) ∧ w = w')) (hr : Reads w .i64 v zs) :
    Calls Tryz.prog 61 #[v, .func (.func f) #[] #[]] w (fun e w' => e = .returned (.bool (zs.any t)) ∧ w = w') := by
  have T := Lib.hid (idxInts_any f t v zs w eg ht hr)
  clear hr ht eg
  go_enter Tryz.func61, Tryz.ntmps61
  go_wp2_with fail
  refine T.out.mono ?_
  rintro e w' ⟨rfl, r, rfl, ⟨rfl, h⟩ | ⟨h1, h2, h⟩⟩
  · have HH := Lib.hid h
    clear h
    go_wp2_with fail
    go_ret
    exact ⟨by rw [HH.out]; rfl, rfl⟩
  · have HH := Lib.hid h
    clear h
    go_wp2_with fail
    go_ret
    exact ⟨by rw [HH.out]; rfl, rfl⟩

end
end Go.Proofs.YtfnmjlnpfoclbaaGreat

namespace Go.Proofs.YtfnmjlnpfoclbaaGreat
section
open Go.RowKit Go.Maps
set_option linter.unusedVariables false

def faultE (st : BookSt) (os ns : List Int) : Int := if os.any ownBad || ns.any numBad then 2 else if os.all (fun o => (st.acc o).isSome) then 0 else 7

theorem ref_look_ok {w : World} {F : Nat → Prop} {p : Nat} {st : BookSt} {es : List Ent} {wh : Bool} {N mb : Nat} {lv ev : Value} {D : DataW Unit} (h : RefMem w F p st es wh N mb lv ev D) (o : Int) (ho : 1 ≤ o ∧ o ≤ 40) :
    ∃ a b : Int, (Instr.lookup 63 (.map (some mb)) (.int .i64 o) true).run Tryz.prog w = .ok (.tuple #[.agg #[.int .i64 a, .int .i64 b], .bool (st.acc o).isSome]) w := by
  have hwf : (Lit.int .i64 o).wf = true := WalkArith.wf_i64 (by omega)
  obtain ⟨v, ps, hrun, hv⟩ := h.map.look_ok intKey Tryz.underlying63 (z := .agg #[.int .i64 0, .int .i64 0]) (by kernel_rfl) (zd := accZero) (zp := []) rfl (Maps.keyOf_int_mk Tryz.underlying3 hwf)
  obtain ⟨c, rfl⟩ := accElem_shape hv
  exact ⟨c.1, c.2, by rw [hrun, h.has o]⟩

set_option maxHeartbeats 2000000 in
set_option maxRecDepth 100000 in
theorem faultR_any (p : Nat) (vo vn : Value) (os ns : List Int) (w : World) (F : Nat → Prop) (st : BookSt) (es : List Ent) (wh : Bool) (N : Nat) (hb : RefAt w F p st es wh N) (ho : Reads w .i64 vo os) (hn : Reads w .i64 vn ns) :
    Calls Tryz.prog 27 #[.pointer (some ⟨p, 0, none⟩), vo, vn] w (fun e w' => e = .returned (.int .i64 (faultE st os ns)) ∧ Below w.heap.size w w') := by
  have C1 := Lib.hid (containsInts_any 62 ownBad vo os w (enters_of Tryz.func62 (by kernel_rfl) rfl) ownTest_any ho)
  have C2 := Lib.hid (containsInts_any 63 numBad vn ns w (enters_of Tryz.func63 (by kernel_rfl) rfl) numTest_any hn)
  obtain ⟨a, cap, rfl, hl, hc⟩ := ho.open
  obtain ⟨a2, cap2, rfl, hl2, _⟩ := hn.open
  have HC := Lib.hid hc
  obtain ⟨mb, lv, ev, D, hm⟩ := hb
  have HM := Lib.hid hm
  have c1 : w.cell? ⟨p, 1, none⟩ = some (.map (some mb)) := by rw [cell_of hm.self]; rfl
  clear hm hc ho hn
  have HE : Hid (∀ r, faultE st os ns = r → faultE st os ns = r) := Lib.hid (fun _ h => h)
  by_cases hb1 : os.any ownBad = true
  · have hf : Hid (faultE st os ns = 2) := Lib.hid (by unfold faultE; rw [hb1]; rfl)
    rw [hb1] at C1
    clear hb1
    go_enter Tryz.func27, Tryz.ntmps27
    go_wp2_with fail
    refine C1.out.mono ?_
    rintro e w' ⟨rfl, rfl⟩
    go_wp2_with fail
    go_ret
    exact ⟨by rw [hf.out]; rfl, Below.refl _ _⟩
  have hb1 : os.any ownBad = false := by simpa using hb1
  by_cases hb2 : ns.any numBad = true
  · have hf : Hid (faultE st os ns = 2) := Lib.hid (by unfold faultE; rw [hb2, Bool.or_true]; rfl)
    rw [hb1] at C1
    rw [hb2] at C2
    clear hb1 hb2
    go_enter Tryz.func27, Tryz.ntmps27
    go_wp2_with fail
    refine C1.out.mono ?_
    rintro e w' ⟨rfl, rfl⟩
    go_wp2_with fail
    refine C2.out.mono ?_
    rintro e w' ⟨rfl, rfl⟩
    go_wp2_with fail
    go_ret
    exact ⟨by rw [hf.out]; rfl, Below.refl _ _⟩
  have hb2 : ns.any numBad = false := by simpa using hb2
  have HF : Hid (faultE st os ns = if os.all (fun o => (st.acc o).isSome) then 0 else 7) := Lib.hid (by unfold faultE; rw [hb1, hb2]; rfl)
  have HB := Lib.hid hb1
  rw [hb1] at C1
  rw [hb2] at C2
  clear hb1 hb2
  go_enter Tryz.func27, Tryz.ntmps27
  go_wp2_with fail
  refine C1.out.mono ?_
  rintro e w' ⟨rfl, rfl⟩
  go_wp2_with fail
  refine C2.out.mono ?_
  rintro e w' ⟨rfl, rfl⟩
  go_wp2_with fail
  go_loopw [19] (fun i wr => ∃ k : Nat, k ≤ os.length ∧ i = .int .i64 k ∧ (os.take k).all (fun o => (st.acc o).isSome) = true ∧ Below w.heap.size w wr) (fun i _ => os.length - (intOf i).toNat)
  case atStart => exact ⟨0, Nat.zero_le _, rfl, by simp, Below.refl _ _⟩
  case round =>
    obtain ⟨k, hk, rfl, hall, hbr⟩ := hrel
    have HAL := Lib.hid hall
    have HBR := Lib.hid hbr
    by_cases hlt : k < os.length
    · obtain ⟨b, o, rfl, g⟩ := HC.out k hlt
      have g' := old_cell hbr g
      have c1' := old_cell hbr c1
      have HG := Lib.hid (show os[k]? = some (os.getD k 0) by rw [List.getD_eq_getElem?_getD, List.getElem?_eq_getElem hlt]; rfl)
      generalize os.getD k 0 = z at *
      have hz : ownBad z = false := by
        have := List.any_eq_false.1 HB.out z (List.mem_of_getElem? HG.out)
        simpa using this
      have hz' : 1 ≤ z ∧ z ≤ 40 := by unfold ownBad at hz; simp at hz; omega
      obtain ⟨x, y, LK⟩ := ref_look_ok (HM.out.same (Below.same_on hbr)) z hz'
      clear g c1 hz hall hbr
      cases hsome : (st.acc z).isSome with
      | true =>
        rw [hsome] at LK
        have FIN : Hid ((os.take (k + 1)).all (fun o => (st.acc o).isSome) = true) := Lib.hid (by rw [List.take_add_one, List.all_append, HAL.out, HG.out]; simp [hsome])
        clear hsome
        go_wp2_with fail
        go_roundw
        case measure => simp only [intOf]; omega
        case rel => exact ⟨k + 1, by omega, by simp, FIN.out, HBR.out.alloc HBR.out.size _⟩
      | false =>
        rw [hsome] at LK
        have FIN : Hid (faultE st os ns = 7) := Lib.hid (by
          rw [HF.out, if_neg]
          intro h
          have := List.all_eq_true.1 h z (List.mem_of_getElem? HG.out)
          rw [hsome] at this; cases this)
        clear hsome
        go_wp2_with fail
        go_ret
        exact ⟨by rw [FIN.out]; rfl, HBR.out.alloc HBR.out.size _⟩
    · obtain rfl : k = os.length := by omega
      have FIN : Hid (faultE st os ns = 0) := Lib.hid (by rw [HF.out, if_pos]; have := HAL.out; rwa [List.take_length] at this)
      clear hall hbr
      go_wp2_with fail
      go_ret
      exact ⟨by rw [FIN.out]; rfl, HBR.out⟩

end
end Go.Proofs.YtfnmjlnpfoclbaaGreat

namespace Go.Proofs.YtfnmjlnpfoclbaaGreat
section
open Go.RowKit Go.Maps
set_option linter.unusedVariables false

def RefNew (b : Int) (w : World) : Ending → World → Prop := fun e w' =>
  ∃ p, e = .returned (.tuple #[.pointer (some ⟨p, 0, none⟩), .int .i64 0]) ∧ RefAt w' (fun k => w.heap.size ≤ k) p (newSt b) [] false 0 ∧ Below w.heap.size w w'

theorem refNew_mem (b : Int) (w : World) : RefAt ((w.alloc (Obj.map #[] 0)).alloc (Obj.cells #[.int .i64 b, .map (some w.heap.size), .slice none 0 0, .int .i64 0, .int .i64 0, .bool false, .slice none 0 0] 66))
    (fun k => w.heap.size ≤ k) (w.heap.size + 1) (newSt b) [] false 0 := by
  refine ⟨w.heap.size, .slice none 0 0, .slice none 0 0, .map [], ?_, by simp, (World.ownsMap_made w _ _ _).alloc _, Nat.le_refl _, tidy_empty, by simp [newSt, accCnt, accOne, sumN, Maps.size], fun o z => rfl, fun o => rfl, World.ownsRow_nil _ _ _ _, fun k hk => by simp [Value.ownBlock] at hk, OffRow.nil _ _ _, fun k hk => by simp [Value.ownBlock] at hk⟩
  have := heap_alloc_new (w.alloc (Obj.map #[] 0)) (Obj.cells #[.int .i64 b, .map (some w.heap.size), .slice none 0 0, .int .i64 0, .int .i64 0, .bool false, .slice none 0 0] 66)
  simpa [refCells, newSt] using this

set_option maxHeartbeats 1000000 in
set_option maxRecDepth 100000 in
theorem refNew_ok (b : Int) (w : World) (h : 0 ≤ b ∧ b ≤ 10000000) : Calls Tryz.prog 20 #[.int .i64 b] w (RefNew b w) := by
  have T := Lib.hid (inBudgetR_any b w)
  rw [show decide (0 ≤ b ∧ b ≤ 10000000) = true from decide_eq_true h] at T
  have hmm := @run_makeMap Tryz.prog
  clear h
  go_enter Tryz.func20, Tryz.ntmps20
  go_wp2_with fail
  refine T.out.mono ?_
  rintro e w' ⟨rfl, rfl⟩
  go_wp2_with fail
  go_ret2
  exact ⟨_, rfl, refNew_mem b w, ((Below.refl _ w).alloc (Nat.le_refl _) _).alloc (by simp) _⟩

set_option maxRecDepth 100000 in
theorem refNew_bad (b : Int) (w : World) (h : ¬ (0 ≤ b ∧ b ≤ 10000000)) : Calls Tryz.prog 20 #[.int .i64 b] w (fun e w' => e = .returned (.tuple #[.pointer none, .int .i64 2]) ∧ w = w') := by
  have T := Lib.hid (inBudgetR_any b w)
  rw [show decide (0 ≤ b ∧ b ≤ 10000000) = false from decide_eq_false h] at T
  clear h
  go_enter Tryz.func20, Tryz.ntmps20
  go_wp2_with fail
  refine T.out.mono ?_
  rintro e w' ⟨rfl, rfl⟩
  go_wp2_with fail
  go_ret2
  exact ⟨rfl, rfl⟩

end
end Go.Proofs.YtfnmjlnpfoclbaaGreat

namespace Go.Proofs.YtfnmjlnpfoclbaaGreat
section
open Go.RowKit Go.Maps
set_option linter.unusedVariables false

theorem ownsMap_tight {w : World} {k : TypeId} {R : Value → Option (DataW Unit × List MemPlace)} {b n : Nat} {D : DataW Unit} (h : w.ownsMap Tryz.prog k R b n D) : w.ownsMap Tryz.prog k R b (Maps.size D) D := by
  obtain ⟨es, clock, hb, F, hs, hD⟩ := h
  refine ⟨es, clock, hb, F, ?_, hD⟩
  subst hD
  have e1 : Maps.size (DataW.map (List.foldr DataW.insert [] (List.map (WideElems.rg Tryz.prog k R) es.toList))) = es.size := by simp [Maps.size, length_sorted]
  rw [e1]
  exact Nat.le_refl _

end
end Go.Proofs.YtfnmjlnpfoclbaaGreat
