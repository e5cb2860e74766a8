/-
  The reference's book: what is leased, what counts. No conditions but what always holds of a book.
  Sums over a list without twins. No conditions.
  The reference's book: Total. No conditions but what always holds of a book.
-/
import Derived.Test.YtfgpophbgjeefaaGreatLedgerRunsPao
import Derived.Test.YtfgpophbgjeefaaGreatLedgerRunsPah
import Derived.Test.YtfgpophbgjeefaaGreatLedgerRunsPap
import Derived.Test.YtfgpophbgjeefaaGreatLedgerRunsPaq
import Derived.Deep.Cut
import Derived.Test.YtfgpophbgjeefaaGreatLedgerRunsPak
import Derived.Maps.RangeWalk
import Derived.Maps.OwnSet
import Derived.RangeFuncSeq
import Derived.RangeFuncBound

namespace Go.Proofs.YtfgpophbgjeefaaGreat
section
open Go.RowKit Go.Maps
set_option linter.unusedVariables false

theorem leasedOf_le (o : Int) : ∀ a : List Lea, (∀ l ∈ a, 0 ≤ l.amount ∧ l.amount ≤ 10000000) → leasedOf o a ≤ 10000000 * a.length
  | [], _ => by simp [leasedOf]
  | x :: a, h => by
    have h1 := leasedOf_le o a (fun l hl => h l (List.mem_cons_of_mem _ hl))
    have h2 := h x List.mem_cons_self
    simp only [leasedOf, List.length_cons]
    split <;> omega
theorem leasedOf_take (o : Int) (a : List Lea) (k : Nat) (l : Lea) (h : a[k]? = some l) : leasedOf o (a.take (k + 1)) = leasedOf o (a.take k) + (if l.owner = o then l.amount else 0) := by
  rw [List.take_add_one, leasedOf_append, h]
  simp [leasedOf]

/-- A row of leases: the value's shape, and lease k's cells. -/
theorem leacells_get : ∀ (ls : List Lea) (k i : Nat) (l : Lea), ls[k]? = some l → i < 4 → (ls.flatMap Lea.cells)[k * 4 + i]? = l.cells[i]?
  | [], k, i, l, h, _ => by simp at h
  | x :: ls, 0, i, l, h, hi => by
    simp at h; subst h
    rw [List.flatMap_cons, List.getElem?_append_left (by simp [Lea.cells]; omega)]; simp
  | x :: ls, k + 1, i, l, h, hi => by
    simp at h
    rw [List.flatMap_cons, List.getElem?_append_right (by simp [Lea.cells]; omega)]
    have := leacells_get ls k i l h hi
    rw [← this]; congr 1; simp [Lea.cells]; omega
theorem leaRow_cell {w : World} {B : Nat} {v : Value} {ls : List Lea} (h : w.ownsRow B 121 4 v ls.length (ls.flatMap Lea.cells)) (h0 : 0 < ls.length) :
    ∃ g cap, v = .slice (some ⟨g, 0, none⟩) ls.length cap ∧ ∀ k l, ls[k]? = some l → ∀ i, i < 4 → w.cell? ⟨g, k * 4 + i, none⟩ = l.cells[i]? := by
  rcases h.2 with ⟨_, h2⟩ | ⟨g, cap, cur, hv, hb, hg, hn, hm, hs, ht⟩
  · omega
  · refine ⟨g, cap, hv, ?_⟩
    intro k l hk i hi
    have hkl : k < ls.length := (List.getElem?_eq_some_iff.1 hk).1
    rw [cell_of hg, ← Array.getElem?_toList, ← leacells_get ls k i l hk hi, ← ht, List.getElem?_take_of_lt (by omega)]

set_option maxHeartbeats 1000000 in
set_option maxRecDepth 100000 in
theorem leasedR_any (p : Nat) (o : Int) (w : World) (F : Nat → Prop) (st : BookSt) (es : List Ent) (wh : Bool) (N : Nat) (hb : RefAt w F p st es wh N) (g : GoodE st) :
    Calls Tryz.prog 188 #[.pointer (some ⟨p, 0, none⟩), .int .i64 o] w (fun e w' => e = .returned (.int .i64 (leasedOf o st.leases)) ∧ Below w.heap.size w w') := by
  obtain ⟨mb, lv, ev, D, hm⟩ := hb
  have c2 : w.cell? ⟨p, 2, none⟩ = some lv := by rw [cell_of hm.self]; rfl
  have hll := g.leaLen
  obtain ⟨va, vc, rfl, _, _⟩ := ownsRow_sh hm.lrow
  have HROW := Lib.hid hm.lrow
  have HG := Lib.hid g
  clear hm g
  go_enter Tryz.func188, Tryz.ntmps188
  go_wp2_with fail
  go_loopw [5, 13] (fun s i wr => ∃ k : Nat, k ≤ st.leases.length ∧ i = .int .i64 k ∧ s = .int .i64 (leasedOf o (st.leases.take k)) ∧ Below w.heap.size w wr) (fun _ i _ => st.leases.length - (intOf i).toNat)
  case atStart => exact ⟨0, Nat.zero_le _, rfl, rfl, Below.refl _ _⟩
  case round =>
    obtain ⟨k, hk, rfl, rfl, hb9⟩ := hrel
    have HB9 := Lib.hid hb9
    by_cases hlt : k < st.leases.length
    case pos =>
      obtain ⟨l, hl⟩ : ∃ l, st.leases[k]? = some l := ⟨_, List.getElem?_eq_getElem hlt⟩
      obtain ⟨gb, cap, hv, hcell⟩ := leaRow_cell HROW.out (by omega)
      simp only [Value.slice.injEq] at hv
      obtain ⟨rfl, _, rfl⟩ := hv
      have x0 : wr.cell? ⟨gb, k * 4, none⟩ = some (.int .i64 l.no) := old_cell hb9 ((hcell k l hl 0 (by omega)).trans rfl)
      have x1 : wr.cell? ⟨gb, k * 4 + 1, none⟩ = some (.int .i64 l.owner) := old_cell hb9 ((hcell k l hl 1 (by omega)).trans rfl)
      have x2 : wr.cell? ⟨gb, k * 4 + 2, none⟩ = some (.int .i64 l.amount) := old_cell hb9 ((hcell k l hl 2 (by omega)).trans rfl)
      have x3 : wr.cell? ⟨gb, k * 4 + 3, none⟩ = some (.int .i64 l.untl) := old_cell hb9 ((hcell k l hl 3 (by omega)).trans rfl)
      have HT := Lib.hid (leasedOf_take o st.leases k l hl)
      have hs0 := leasedOf_nonneg o (st.leases.take k) (fun y hy => (HG.out.lea y (List.mem_of_mem_take hy)).2.2.1.1)
      have hs1 := leasedOf_le o (st.leases.take k) (fun y hy => (HG.out.lea y (List.mem_of_mem_take hy)).2.2.1)
      have hs2 : ((st.leases.take k).length : Int) ≤ 200 := by rw [List.length_take]; omega
      have ha := (HG.out.lea l (List.mem_of_getElem? hl)).2.2.1
      obtain ⟨l1, l2, l3, l4⟩ := l
      simp only at x0 x1 x2 x3 ha
      generalize leasedOf o (st.leases.take k) = S at *
      have hsb : S ≤ 2000000000 := by omega
      clear hcell hl hb9 hs1 hs2
      by_cases ho : l2 = o
      · subst ho
        go_wp2_with fail
        go_roundw
        case measure => simp only [intOf]; omega
        case rel => exact ⟨k + 1, by omega, by simp, by rw [HT.out]; simp, HB9.out.alloc HB9.out.size _⟩
      · have ho' : (l2 == o) = false := by simpa using ho
        go_wp2_with fail
        go_roundw
        case measure => simp only [intOf]; omega
        case rel => exact ⟨k + 1, by omega, by simp, by rw [HT.out]; simp [ho], HB9.out.alloc HB9.out.size _⟩
    case neg =>
      obtain rfl : k = st.leases.length := by omega
      go_wp2_with fail
      go_ret
      exact ⟨by rw [List.take_length]; rfl, HB9.out⟩

set_option maxRecDepth 100000 in
theorem inBudgetR_any (n : Int) (w : World) : Calls Tryz.prog 147 #[.int .i64 n] w (fun e w' => e = .returned (.bool (decide (0 ≤ n ∧ n ≤ 10000000))) ∧ w = w') := by
  by_cases h1 : 0 ≤ n
  · by_cases h2 : n ≤ 10000000
    · have e : decide (0 ≤ n ∧ n ≤ 10000000) = true := by simp [h1, h2]
      rw [e]
      clear e
      go_enter Tryz.func147, Tryz.ntmps147
      go_wp2_with fail
      go_ret
      exact ⟨rfl, rfl⟩
    · have e : decide (0 ≤ n ∧ n ≤ 10000000) = false := by simp [h2]
      rw [e]
      clear e
      go_enter Tryz.func147, Tryz.ntmps147
      go_wp2_with fail
      go_ret
      exact ⟨rfl, rfl⟩
  · have e : decide (0 ≤ n ∧ n ≤ 10000000) = false := by simp [h1]
    rw [e]
    clear e
    go_enter Tryz.func147, Tryz.ntmps147
    go_wp2_with fail
    go_ret
    exact ⟨rfl, rfl⟩

theorem accField0 (l h : Int) (W : World) : (Instr.field 170 (.agg #[.int .i64 l, .int .i64 h]) 0).run Tryz.prog W = .ok (.int .i64 l) W := by kernel_rfl
theorem accField1 (l h : Int) (W : World) : (Instr.field 170 (.agg #[.int .i64 l, .int .i64 h]) 1).run Tryz.prog W = .ok (.int .i64 h) W := by kernel_rfl

/-- What counts reads of the world. -/
def CntS (p mb : Nat) (o l h : Int) : World → Prop := fun W => W.cell? ⟨p, 1, none⟩ = some (.map (some mb)) ∧
  (Instr.lookup 63 (.map (some mb)) (.int .i64 o) false).run Tryz.prog W = .ok (.agg #[.int .i64 l, .int .i64 h]) W

set_option maxHeartbeats 1000000 in
set_option maxRecDepth 100000 in
theorem countsR_any (p : Nat) (o l h s : Int) (w : World) (F : Nat → Prop) (st : BookSt) (es : List Ent) (wh : Bool) (N : Nat) (hb : RefAt w F p st es wh N) (g : GoodE st) (ho : 1 ≤ o ∧ o ≤ 40) (ha : st.acc o = some (l, h, s)) :
    Calls Tryz.prog 190 #[.pointer (some ⟨p, 0, none⟩), .int .i64 o] w (fun e w' => e = .returned (.int .i64 (h + s)) ∧ Below w.heap.size w w') := by
  have LE := Lib.hid (fun m => leasedR_any p o (w.drewN m) F st es wh N (hb.same (fun k _ _ => rfl)) g)
  have hs := (g.own o l h s ha).2.2.2.2
  have HSL := Lib.hid hs
  have hb1 := g.own o l h s ha
  have hs0 := g.s0 ha
  obtain ⟨mb, lv, ev, D, hm⟩ := hb
  have c1 : w.cell? ⟨p, 1, none⟩ = some (.map (some mb)) := by rw [cell_of hm.self]; rfl
  have LK := fun m => ref_lookup (hm.same (w' := w.drewN m) (fun k _ _ => rfl)) o ho ha
  have FD := fun W => accField1 l h W
  have HM := Lib.hid hm
  clear hm hs
  go_enter Tryz.func190, Tryz.ntmps190
  have s1 : ∀ y : WIn (CntS p mb o l h), y.w.cell? ⟨p, 1, none⟩ = some (.map (some mb)) := fun y => y.h.1
  have s2 : ∀ y : WIn (CntS p mb o l h), (Instr.lookup 63 (.map (some mb)) (.int .i64 o) false).run Tryz.prog y.w = .ok (.agg #[.int .i64 l, .int .i64 h]) y.w := fun y => y.h.2
  have S0 : CntS p mb o l h w.drew := ⟨c1, LK 1⟩
  haveI ne : Nonempty (WIn (CntS p mb o l h)) := ⟨⟨w.drew, S0⟩⟩
  have HS : Hid (∀ W, Below w.heap.size w W → CntS p mb o l h W) := Lib.hid (fun W hW => ⟨old_cell hW c1, ref_lookup (HM.out.same (Below.same_on hW)) o ho ha⟩)
  clear LK
  go_upto_region 1 with fail
  refine wp_normal ?_
  refine wp_region_plan 11 (CntS p mb o l h) rfl ?_
  refine wpN_seg [0, 1, 2, 3, 4, 5, 6, 7, 8] (by kernel_rfl) (by kernel_rfl) (by kernel_rfl) (by kernel_rfl) (by decide) (fun _ _ _ _ _ h => h) S0 ?_
  simp only [pick, List.map_cons, List.map_nil, List.getElem?_cons_succ, List.getElem?_cons_zero, Option.getD_some]
  repeat (go_big_quiet_step (fail))
  refine wpQuiet_nil ?_
  refine wpN_one 9 _ (by kernel_rfl) rfl ?_
  refine NextAt.held ?_
  intro K hK
  go_simp
  refine (LE.out _).mono ?_
  rintro e w1 ⟨rfl, hb1'⟩
  have B1 := Lib.hid (show Below w.heap.size w w1 from (bdrewN (Below.refl _ w) 1).trans hb1')
  have S1 : CntS p mb o l h w1 := HS.out w1 B1.out
  clear hb1'
  go_simp
  refine hK _ _ S1 ?_
  clear hK K
  refine wpN_pure [10] (by kernel_rfl) (by kernel_rfl) (by kernel_rfl) (fun _ _ _ _ _ h => h) (fun _ => S1) ?_
  simp only [pick, List.map_cons, List.map_nil, List.getElem?_cons_succ, List.getElem?_cons_zero, Option.getD_some]
  repeat (go_big_quiet_step (fail))
  refine wpQuiet_nil ?_
  refine wpN_one 11 _ (by kernel_rfl) rfl ?_
  refine NextAt.free (by kernel_rfl) ?_
  intro K hK
  go_simp
  refine hK _ _ ?_
  clear hK K
  refine wpN_done (by kernel_rfl) ?_
  go_wp2_with fail
  go_ret
  exact ⟨by rw [HSL.out]; rfl, B1.out⟩

end
end Go.Proofs.YtfgpophbgjeefaaGreat

namespace Go.Proofs.YtfgpophbgjeefaaGreat
section
set_option linter.unusedVariables false

/-! The sum over the accounts. -/
def sumL (f : Int → Int) : List Int → Int
  | [] => 0
  | x :: xs => f x + sumL f xs
theorem sumL_snoc (f : Int → Int) (x : Int) : ∀ xs : List Int, sumL f (xs ++ [x]) = sumL f xs + f x
  | [] => by simp [sumL]
  | y :: ys => by simp only [List.cons_append, sumL]; rw [sumL_snoc f x ys]; omega
theorem sumL_congr {f g : Int → Int} : ∀ xs : List Int, (∀ x ∈ xs, f x = g x) → sumL f xs = sumL g xs
  | [], _ => rfl
  | y :: ys, h => by simp only [sumL]; rw [h y (by simp), sumL_congr ys (fun x hx => h x (by simp [hx]))]
theorem sumL_all (n : Nat) : ∀ (xs : List Int) (f : Int → Int), xs.Nodup → (∀ x ∈ xs, 1 ≤ x ∧ x ≤ n) → (∀ x : Int, 1 ≤ x → x ≤ n → x ∉ xs → f x = 0) → sumL f xs = sumN f n
  | [], f, _, _, h0 => by
    have : sumN f n = sumN (fun _ => 0) n := sumN_congr n (fun o h1 h2 => h0 o h1 h2 (by simp))
    rw [this]
    have z : ∀ m : Nat, sumN (fun _ => 0) m = 0 := by
      intro m; induction m with
      | zero => rfl
      | succ m ih => simp [sumN, ih]
    rw [z]; rfl
  | y :: ys, f, hn, hin, h0 => by
    obtain ⟨hy, hys⟩ := List.nodup_cons.1 hn
    have hy1 := hin y (by simp)
    have e := sumN_upd f y 0 n hy1.1 hy1.2
    have ih := sumL_all n ys (fun x => if x = y then 0 else f x) hys (fun x hx => hin x (by simp [hx])) (fun x h1 h2 hx => by
      by_cases e : x = y
      · simp [e]
      · simp only [if_neg e]; exact h0 x h1 h2 (by simp [e, hx]))
    have c : sumL (fun x => if x = y then 0 else f x) ys = sumL f ys := sumL_congr ys (fun x hx => by
      have : x ≠ y := fun e => hy (e ▸ hx)
      simp [this])
    simp only [sumL]
    omega
theorem sumL_bound {f : Int → Int} {M : Int} (h0 : 0 ≤ M) : ∀ xs : List Int, (∀ x ∈ xs, 0 ≤ f x ∧ f x ≤ M) → 0 ≤ sumL f xs ∧ sumL f xs ≤ M * xs.length
  | [], _ => by simp [sumL]
  | y :: ys, h => by
    have h1 := h y (by simp)
    have h2 := sumL_bound h0 ys (fun x hx => h x (by simp [hx]))
    simp only [sumL, List.length_cons]
    rw [Int.natCast_add, Int.mul_add]
    omega

end
end Go.Proofs.YtfgpophbgjeefaaGreat

namespace Go.Proofs.YtfgpophbgjeefaaGreat
section
open Go.RowKit Go.Maps
set_option linter.unusedVariables false

theorem RefAt.narrow' {w : World} {F : Nat → Prop} {p : Nat} {st : BookSt} {es : List Ent} {wh : Bool} {N : Nat} (h : RefAt w F p st es wh N) : RefAt w (fun k => F k ∧ k < w.heap.size) p st es wh N := by
  obtain ⟨mb, lv, ev, D, hm⟩ := h
  refine ⟨mb, lv, ev, D, hm.self, ⟨hm.fp, lt_of hm.self⟩, hm.map, ⟨hm.fmap, hm.map.lt⟩, hm.tidy, hm.size, hm.look, hm.has, hm.lrow, fun k hk => ⟨hm.flea k hk, ?_⟩, hm.erow, fun k hk => ⟨hm.fent k hk, ?_⟩⟩
  · obtain ⟨cur, hc⟩ := row_block hm.lrow hk; exact lt_of hc
  · obtain ⟨cur, hc⟩ := hm.erow.block hk; exact lt_of hc
theorem accElem_shape {v : Value} {y : DataW Unit × List MemPlace} (e : accElem v = some y) : ∃ c : Int × Int, v = .agg #[.int .i64 c.1, .int .i64 c.2] := by
  unfold accElem at e
  split at e
  · next cs =>
    unfold accList at e
    split at e
    · next l' h' hl =>
      refine ⟨(l', h'), ?_⟩
      have : cs = #[.int .i64 l', .int .i64 h'] := by rw [← Array.toArray_toList (xs := cs), hl]
      rw [this]
    · cases e
  · cases e
theorem walks_of_below {w w' : World} (h : Below w.heap.size w w') : KeepsWalks w w' := ⟨h.size, fun k o hk _ => (h.block k (Array.getElem?_eq_some_iff.1 hk).1).trans hk⟩

/-- What has come. -/
def CameR (st : BookSt) (left : Lit → Bool) (ss : List Int) : Prop := ss.Nodup ∧ ∀ x : Int, x ∈ ss ↔ ((st.acc x).isSome = true ∧ left (.int .i64 x) = false)
theorem CameR.step {st : BookSt} {left : Lit → Bool} {ss : List Int} (h : CameR st left ss) {x : Int} (hx : (st.acc x).isSome = true) (hl : left (.int .i64 x) = true) : CameR st (fun z => left z && !z.sameKey (.int .i64 x)) (ss ++ [x]) := by
  refine ⟨?_, fun y => ?_⟩
  · refine List.nodup_append.2 ⟨h.1, by simp, ?_⟩
    intro a ha b hb
    simp at hb
    subst hb
    rintro rfl
    have := ((h.2 a).1 ha).2
    rw [hl] at this
    cases this
  · rw [List.mem_append, h.2 y]
    by_cases e : y = x
    · subst e
      simp [hx, Lit.sameKey]
    · simp [e, Lit.sameKey]
theorem GoodE.sum {st : BookSt} (g : GoodE st) {xs : List Int} (hn : xs.Nodup) (hx : ∀ o, o ∈ xs ↔ (st.acc o).isSome = true) : sumL (fun o => cntA (st.acc o)) xs = st.total := by
  rw [g.tot]
  refine sumL_all 40 xs _ hn (fun x hm => ?_) (fun x h1 h2 hm => ?_)
  · obtain ⟨⟨l, h, s⟩, ha⟩ := Option.isSome_iff_exists.1 ((hx x).1 hm)
    exact (g.own x l h s ha).1
  · have e : st.acc x = none := by
      cases e : st.acc x with
      | none => rfl
      | some a => exact absurd ((hx x).2 (by rw [e]; rfl)) hm
    show cntA (st.acc x) = 0
    rw [e]; rfl
theorem CameR.bound {st : BookSt} {left : Lit → Bool} {ss : List Int} (h : CameR st left ss) (g : GoodE st) : 0 ≤ sumL (fun o => cntA (st.acc o)) ss ∧ sumL (fun o => cntA (st.acc o)) ss ≤ 10000000 := by
  have e1 : sumL (fun o => cntA (st.acc o)) ss = sumL (fun o => if o ∈ ss then cntA (st.acc o) else 0) ss := sumL_congr ss (fun x hx => by simp [hx])
  have e2 : sumL (fun o => if o ∈ ss then cntA (st.acc o) else 0) ss = sumN (fun o => if o ∈ ss then cntA (st.acc o) else 0) 40 := sumL_all 40 ss _ h.1 (fun x hx => by
    obtain ⟨⟨l, y, s⟩, ha⟩ := Option.isSome_iff_exists.1 ((h.2 x).1 hx).1
    exact (g.own x l y s ha).1) (fun x _ _ hx => by simp [hx])
  have e3 : sumN (fun o => if o ∈ ss then cntA (st.acc o) else 0) 40 ≤ sumN (fun o => cntA (st.acc o)) 40 := sumN_le 40 (fun o _ _ => by
    have := g.cnt0 o
    show (if o ∈ ss then _ else _) ≤ _
    split <;> omega)
  have e4 : 0 ≤ sumN (fun o => if o ∈ ss then cntA (st.acc o) else 0) 40 := sumN_nonneg 40 (fun o _ _ => by
    have := g.cnt0 o
    show 0 ≤ (if o ∈ ss then _ else _)
    split <;> omega)
  have e5 : sumN (fun o => cntA (st.acc o)) 40 = st.total := g.tot.symm
  have e6 := g.totb
  have e7 := g.bud
  omega

set_option maxHeartbeats 2000000 in
set_option maxRecDepth 100000 in
theorem totalR_any (p : Nat) (w : World) (F : Nat → Prop) (st : BookSt) (es : List Ent) (wh : Bool) (N : Nat) (hb : RefAt w F p st es wh N) (g : GoodE st) :
    Calls Tryz.prog 62 #[.pointer (some ⟨p, 0, none⟩)] w (fun e w' => e = .returned (.int .i64 st.total) ∧ Below w.heap.size w w') := by
  have HN := Lib.hid hb.narrow'
  have HG := Lib.hid g
  obtain ⟨mb, lv, ev, D, hm⟩ := hb
  have c1 : w.cell? ⟨p, 1, none⟩ = some (.map (some mb)) := by rw [cell_of hm.self]; rfl
  have hown := hm.map
  have HM := Lib.hid hm
  clear hm g
  go_enter Tryz.func62, Tryz.ntmps62
  go_wp2_with (first
    | (at_range; refine wpList_range_own _ rfl _ 63 rfl 3 170 intKey Tryz.underlying63 accElem mb N D rfl hown ?_; intro w0 hrg0 hg0 hs0)
    | fail)
  have hb0 : Below w.heap.size w w0 := (Below.refl _ w).grown hg0 (Nat.le_refl _) (fun k e => by cases e)
  go_frame
  go_loopw [3] (fun s wr => ∃ (left : Lit → Bool) (cnt : Nat) (ss : List Int), s = .int .i64 (sumL (fun o => cntA (st.acc o)) ss) ∧ wr.ranges Tryz.prog 3 accElem mb w.heap.size N D left cnt ∧ CameR st left ss ∧ Below w.heap.size w wr)
    (fun _ wr => wr.rangeLeft mb w.heap.size)
  case atStart =>
    exact ⟨_, _, [], rfl, hrg0, ⟨List.nodup_nil, fun x => by rw [HM.out.has x]; cases (st.acc x).isSome <;> simp⟩, hb0⟩
  case round =>
    obtain ⟨left, cnt, ss, rfl, hrg, hC, hbr⟩ := hrel
    have HBR := Lib.hid hbr
    have hSb := hC.bound HG.out
    go_wp2_with (first
      | (at_next; refine wpList_next_ranges _ rfl _ rfl 3 intKey accElem (fun x : Int => .int .i64 x) (fun c : Int × Int => .agg #[.int .i64 c.1, .int .i64 c.2]) (fun key kl hkey => by obtain ⟨x, rfl, _⟩ := Maps.keyOf_int_inv Tryz.underlying3 hkey; exact ⟨x, rfl⟩) (fun v y hv => accElem_shape hv) mb w.heap.size N D _ _ rfl hrg ?_ ?_)
      | fail)
    · intro hc0 hl0
      have HT := Lib.hid (HG.out.sum hC.1 (fun o => by rw [hC.2 o, hl0]; simp))
      go_wp2_with fail
      go_ret
      exact ⟨by rw [← HT.out]; rfl, HBR.out⟩
    · intro x l h kl y ps w2 cnt2 hkey hlk hv hat hrg2 hlt hg2 hs2 hen
      obtain ⟨x', ex, rfl, hwx⟩ := Maps.keyOf_int_inv Tryz.underlying3 hkey
      cases ex
      have hy : y = .agg [.lit (.int .i64 l), .lit (.int .i64 h)] := by
        have : accElem (.agg #[.int .i64 l, .int .i64 h]) = some (.agg [.lit (.int .i64 l), .lit (.int .i64 h)], []) := rfl
        rw [this] at hv
        simp only [Option.some.injEq, Prod.mk.injEq] at hv
        exact hv.1.symm
      obtain ⟨s, hacc⟩ : ∃ s, st.acc x = some (l, h, s) := by
        have h1 := hat .nil
        rw [HM.out.look x, hy] at h1
        cases ha : st.acc x with
        | none => rw [ha] at h1; simp [accAt] at h1
        | some a =>
          obtain ⟨l', h', s⟩ := a
          rw [ha] at h1
          simp only [accAt, DataW.agg.injEq, List.cons.injEq, DataW.lit.injEq, Lit.int.injEq, true_and, and_true] at h1
          obtain ⟨rfl, rfl⟩ := h1
          exact ⟨s, rfl⟩
      have B2 := Lib.hid (hbr.grown hg2 hbr.size (fun k e => by cases e; exact Nat.le_refl _))
      have CN := Lib.hid (countsR_any p x l h s w2 _ st es wh N (HN.out.same (fun k hk hlt' => (hg2.block k (Nat.lt_of_lt_of_le hlt' hbr.size) (fun e => by cases e; exact Nat.lt_irrefl _ hk.2)).trans (hbr.block k hlt'))) HG.out (HG.out.own x l h s hacc).1 hacc)
      have hC2 := hC.step (x := x) (by rw [hacc]; rfl) hlk
      have hcb := (HG.out.own x l h s hacc).2
      have hs0 := HG.out.s0 hacc
      have hst : sumL (fun o => cntA (st.acc o)) (ss ++ [x]) = sumL (fun o => cntA (st.acc o)) ss + (h + s) := by
        rw [sumL_snoc, hacc]; rfl
      have HST := Lib.hid hst
      have hB2 := B2.out.size
      obtain ⟨q1, q2, q3, q4⟩ := hcb
      clear q4
      clear hs2 hst hat hv hy hkey hacc hbr
      go_wp2_with fail
      refine CN.out.mono ?_
      rintro e w3 ⟨rfl, hb3⟩
      have hrg3 := hrg2.of_walks (walks_of_below hb3)
      have B3 := Lib.hid (B2.out.trans (hb3.mono hB2))
      clear hb3 hen
      go_wp2_with fail
      go_roundw
      case rel => exact ⟨_, cnt2, ss ++ [x], by rw [HST.out], hrg3, hC2, B3.out⟩
      case measure => rw [hrg3.left_eq, hrg.left_eq]; exact hlt

end
end Go.Proofs.YtfgpophbgjeefaaGreat
