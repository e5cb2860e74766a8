/-
  The reference's book: what is leased, what counts. No conditions but what always holds of a book.
  Sums over a list without twins. No conditions.
-/
import Derived.Test.YtljjndifmfhffaaGreatDoorLedgerChecksPak
import Derived.Test.YtljjndifmfhffaaGreatDoorLedgerChecksPaf
import Derived.Test.YtljjndifmfhffaaGreatDoorLedgerChecksPal
import Derived.Test.YtljjndifmfhffaaGreatDoorLedgerChecksPam
import Derived.Deep.Cut
import Derived.Test.YtljjndifmfhffaaGreatDoorLedgerChecksPai

namespace Go.Proofs.YtljjndifmfhffaaGreatDoor
section
open Go.RowKit Go.Maps
set_option linter.unusedVariables false

theorem leasedOf_le (o : Int) : ∀ a : List Lea, (∀ l ∈ a, 0 ≤ l.amount ∧ l.amount ≤ 10000000) → leasedOf o a ≤ 10000000 * a.length
  | [], _ => by simp [leasedOf]
  | x :: a, h => by
    have h1 := leasedOf_le o a (fun l hl => h l (List.mem_cons_of_mem _ hl))
    have h2 := h x List.mem_cons_self
    simp only [leasedOf, List.length_cons]
    split <;> omega
theorem leasedOf_take (o : Int) (a : List Lea) (k : Nat) (l : Lea) (h : a[k]? = some l) : leasedOf o (a.take (k + 1)) = leasedOf o (a.take k) + (if l.owner = o then l.amount else 0) := by
  rw [List.take_add_one, leasedOf_append, h]
  simp [leasedOf]

/-- A row of leases: the value's shape, and lease k's cells. -/
theorem leacells_get : ∀ (ls : List Lea) (k i : Nat) (l : Lea), ls[k]? = some l → i < 4 → (ls.flatMap Lea.cells)[k * 4 + i]? = l.cells[i]?
  | [], k, i, l, h, _ => by simp at h
  | x :: ls, 0, i, l, h, hi => by
    simp at h; subst h
    rw [List.flatMap_cons, List.getElem?_append_left (by simp [Lea.cells]; omega)]; simp
  | x :: ls, k + 1, i, l, h, hi => by
    simp at h
    rw [List.flatMap_cons, List.getElem?_append_right (by simp [Lea.cells]; omega)]
    have := leacells_get ls k i l h hi
    rw [← this]; congr 1; simp [Lea.cells]; omega
theorem leaRow_cell {w : World} {B : Nat} {v : Value} {ls : List Lea} (h : w.ownsRow B 88 4 v ls.length (ls.flatMap Lea.cells)) (h0 : 0 < ls.length) :
    ∃ g cap, v = .slice (some ⟨g, 0, none⟩) ls.length cap ∧ ∀ k l, ls[k]? = some l → ∀ i, i < 4 → w.cell? ⟨g, k * 4 + i, none⟩ = l.cells[i]? := by
  rcases h.2 with ⟨_, h2⟩ | ⟨g, cap, cur, hv, hb, hg, hn, hm, hs, ht⟩
  · omega
  · refine ⟨g, cap, hv, ?_⟩
    intro k l hk i hi
    have hkl : k < ls.length := (List.getElem?_eq_some_iff.1 hk).1
    rw [cell_of hg, ← Array.getElem?_toList, ← leacells_get ls k i l hk hi, ← ht, List.getElem?_take_of_lt (by omega)]

set_option maxHeartbeats 1000000 in
set_option maxRecDepth 100000 in
theorem leasedR_any (p : Nat) (o : Int) (w : World) (F : Nat → Prop) (st : BookSt) (es : List Ent) (wh : Bool) (N : Nat) (hb : RefAt w F p st es wh N) (g : GoodE st) :
    Calls Tryz.prog 74 #[.pointer (some ⟨p, 0, none⟩), .int .i64 o] w (fun e w' => e = .returned (.int .i64 (leasedOf o st.leases)) ∧ Below w.heap.size w w') := by
  obtain ⟨mb, lv, ev, D, hm⟩ := hb
  have c2 : w.cell? ⟨p, 2, none⟩ = some lv := by rw [cell_of hm.self]; rfl
  have hll := g.leaLen
  obtain ⟨va, vc, rfl, _, _⟩ := ownsRow_sh hm.lrow
  have HROW := Lib.hid hm.lrow
  have HG := Lib.hid g
  clear hm g
  go_enter Tryz.func74, Tryz.ntmps74
  go_wp2_with fail
  go_loopw [5, 13] (fun s i wr => ∃ k : Nat, k ≤ st.leases.length ∧ i = .int .i64 k ∧ s = .int .i64 (leasedOf o (st.leases.take k)) ∧ Below w.heap.size w wr) (fun _ i _ => st.leases.length - (intOf i).toNat)
  case atStart => exact ⟨0, Nat.zero_le _, rfl, rfl, Below.refl _ _⟩
  case round =>
    obtain ⟨k, hk, rfl, rfl, hb9⟩ := hrel
    have HB9 := Lib.hid hb9
    by_cases hlt : k < st.leases.length
    case pos =>
      obtain ⟨l, hl⟩ : ∃ l, st.leases[k]? = some l := ⟨_, List.getElem?_eq_getElem hlt⟩
      obtain ⟨gb, cap, hv, hcell⟩ := leaRow_cell HROW.out (by omega)
      simp only [Value.slice.injEq] at hv
      obtain ⟨rfl, _, rfl⟩ := hv
      have x0 : wr.cell? ⟨gb, k * 4, none⟩ = some (.int .i64 l.no) := old_cell hb9 ((hcell k l hl 0 (by omega)).trans rfl)
      have x1 : wr.cell? ⟨gb, k * 4 + 1, none⟩ = some (.int .i64 l.owner) := old_cell hb9 ((hcell k l hl 1 (by omega)).trans rfl)
      have x2 : wr.cell? ⟨gb, k * 4 + 2, none⟩ = some (.int .i64 l.amount) := old_cell hb9 ((hcell k l hl 2 (by omega)).trans rfl)
      have x3 : wr.cell? ⟨gb, k * 4 + 3, none⟩ = some (.int .i64 l.untl) := old_cell hb9 ((hcell k l hl 3 (by omega)).trans rfl)
      have HT := Lib.hid (leasedOf_take o st.leases k l hl)
      have hs0 := leasedOf_nonneg o (st.leases.take k) (fun y hy => (HG.out.lea y (List.mem_of_mem_take hy)).2.2.1.1)
      have hs1 := leasedOf_le o (st.leases.take k) (fun y hy => (HG.out.lea y (List.mem_of_mem_take hy)).2.2.1)
      have hs2 : ((st.leases.take k).length : Int) ≤ 200 := by rw [List.length_take]; omega
      have ha := (HG.out.lea l (List.mem_of_getElem? hl)).2.2.1
      obtain ⟨l1, l2, l3, l4⟩ := l
      simp only at x0 x1 x2 x3 ha
      generalize leasedOf o (st.leases.take k) = S at *
      have hsb : S ≤ 2000000000 := by omega
      clear hcell hl hb9 hs1 hs2
      by_cases ho : l2 = o
      · subst ho
        go_wp2_with fail
        go_roundw
        case measure => simp only [intOf]; omega
        case rel => exact ⟨k + 1, by omega, by simp, by rw [HT.out]; simp, HB9.out.alloc HB9.out.size _⟩
      · have ho' : (l2 == o) = false := by simpa using ho
        go_wp2_with fail
        go_roundw
        case measure => simp only [intOf]; omega
        case rel => exact ⟨k + 1, by omega, by simp, by rw [HT.out]; simp [ho], HB9.out.alloc HB9.out.size _⟩
    case neg =>
      obtain rfl : k = st.leases.length := by omega
      go_wp2_with fail
      go_ret
      exact ⟨by rw [List.take_length]; rfl, HB9.out⟩

set_option maxRecDepth 100000 in
theorem inBudgetR_any (n : Int) (w : World) : Calls Tryz.prog 34 #[.int .i64 n] w (fun e w' => e = .returned (.bool (decide (0 ≤ n ∧ n ≤ 10000000))) ∧ w = w') := by
  by_cases h1 : 0 ≤ n
  · by_cases h2 : n ≤ 10000000
    · have e : decide (0 ≤ n ∧ n ≤ 10000000) = true := by simp [h1, h2]
      rw [e]
      clear e
      go_enter Tryz.func34, Tryz.ntmps34
      go_wp2_with fail
      go_ret
      exact ⟨rfl, rfl⟩
    · have e : decide (0 ≤ n ∧ n ≤ 10000000) = false := by simp [h2]
      rw [e]
      clear e
      go_enter Tryz.func34, Tryz.ntmps34
      go_wp2_with fail
      go_ret
      exact ⟨rfl, rfl⟩
  · have e : decide (0 ≤ n ∧ n ≤ 10000000) = false := by simp [h1]
    rw [e]
    clear e
    go_enter Tryz.func34, Tryz.ntmps34
    go_wp2_with fail
    go_ret
    exact ⟨rfl, rfl⟩

theorem accField0 (l h : Int) (W : World) : (Instr.field 99 (.agg #[.int .i64 l, .int .i64 h]) 0).run Tryz.prog W = .ok (.int .i64 l) W := by kernel_rfl
theorem accField1 (l h : Int) (W : World) : (Instr.field 99 (.agg #[.int .i64 l, .int .i64 h]) 1).run Tryz.prog W = .ok (.int .i64 h) W := by kernel_rfl

/-- What counts reads of the world. -/
def CntS (p mb : Nat) (o l h : Int) : World → Prop := fun W => W.cell? ⟨p, 1, none⟩ = some (.map (some mb)) ∧
  (Instr.lookup 44 (.map (some mb)) (.int .i64 o) false).run Tryz.prog W = .ok (.agg #[.int .i64 l, .int .i64 h]) W

set_option maxHeartbeats 1000000 in
set_option maxRecDepth 100000 in
theorem countsR_any (p : Nat) (o l h s : Int) (w : World) (F : Nat → Prop) (st : BookSt) (es : List Ent) (wh : Bool) (N : Nat) (hb : RefAt w F p st es wh N) (g : GoodE st) (ho : 1 ≤ o ∧ o ≤ 40) (ha : st.acc o = some (l, h, s)) :
    Calls Tryz.prog 46 #[.pointer (some ⟨p, 0, none⟩), .int .i64 o] w (fun e w' => e = .returned (.int .i64 (h + s)) ∧ Below w.heap.size w w') := by
  have LE := Lib.hid (fun m => leasedR_any p o (w.drewN m) F st es wh N (hb.same (fun k _ _ => rfl)) g)
  have hs := (g.own o l h s ha).2.2.2.2
  have HSL := Lib.hid hs
  have hb1 := g.own o l h s ha
  have hs0 := g.s0 ha
  obtain ⟨mb, lv, ev, D, hm⟩ := hb
  have c1 : w.cell? ⟨p, 1, none⟩ = some (.map (some mb)) := by rw [cell_of hm.self]; rfl
  have LK := fun m => ref_lookup (hm.same (w' := w.drewN m) (fun k _ _ => rfl)) o ho ha
  have FD := fun W => accField1 l h W
  have HM := Lib.hid hm
  clear hm hs
  go_enter Tryz.func46, Tryz.ntmps46
  have s1 : ∀ y : WIn (CntS p mb o l h), y.w.cell? ⟨p, 1, none⟩ = some (.map (some mb)) := fun y => y.h.1
  have s2 : ∀ y : WIn (CntS p mb o l h), (Instr.lookup 44 (.map (some mb)) (.int .i64 o) false).run Tryz.prog y.w = .ok (.agg #[.int .i64 l, .int .i64 h]) y.w := fun y => y.h.2
  have S0 : CntS p mb o l h w.drew := ⟨c1, LK 1⟩
  haveI ne : Nonempty (WIn (CntS p mb o l h)) := ⟨⟨w.drew, S0⟩⟩
  have HS : Hid (∀ W, Below w.heap.size w W → CntS p mb o l h W) := Lib.hid (fun W hW => ⟨old_cell hW c1, ref_lookup (HM.out.same (Below.same_on hW)) o ho ha⟩)
  clear LK
  go_upto_region 1 with fail
  refine wp_normal ?_
  refine wp_region_plan 11 (CntS p mb o l h) rfl ?_
  refine wpN_seg [0, 1, 2, 3, 4, 5, 6, 7, 8] (by kernel_rfl) (by kernel_rfl) (by kernel_rfl) (by kernel_rfl) (by decide) (fun _ _ _ _ _ h => h) S0 ?_
  simp only [pick, List.map_cons, List.map_nil, List.getElem?_cons_succ, List.getElem?_cons_zero, Option.getD_some]
  repeat (go_big_quiet_step (fail))
  refine wpQuiet_nil ?_
  refine wpN_one 9 _ (by kernel_rfl) rfl ?_
  refine NextAt.held ?_
  intro K hK
  go_simp
  refine (LE.out _).mono ?_
  rintro e w1 ⟨rfl, hb1'⟩
  have B1 := Lib.hid (show Below w.heap.size w w1 from (bdrewN (Below.refl _ w) 1).trans hb1')
  have S1 : CntS p mb o l h w1 := HS.out w1 B1.out
  clear hb1'
  go_simp
  refine hK _ _ S1 ?_
  clear hK K
  refine wpN_pure [10] (by kernel_rfl) (by kernel_rfl) (by kernel_rfl) (fun _ _ _ _ _ h => h) (fun _ => S1) ?_
  simp only [pick, List.map_cons, List.map_nil, List.getElem?_cons_succ, List.getElem?_cons_zero, Option.getD_some]
  repeat (go_big_quiet_step (fail))
  refine wpQuiet_nil ?_
  refine wpN_one 11 _ (by kernel_rfl) rfl ?_
  refine NextAt.free (by kernel_rfl) ?_
  intro K hK
  go_simp
  refine hK _ _ ?_
  clear hK K
  refine wpN_done (by kernel_rfl) ?_
  go_wp2_with fail
  go_ret
  exact ⟨by rw [HSL.out]; rfl, B1.out⟩

end
end Go.Proofs.YtljjndifmfhffaaGreatDoor

namespace Go.Proofs.YtljjndifmfhffaaGreatDoor
section
set_option linter.unusedVariables false

/-! The sum over the accounts. -/
def sumL (f : Int → Int) : List Int → Int
  | [] => 0
  | x :: xs => f x + sumL f xs
theorem sumL_snoc (f : Int → Int) (x : Int) : ∀ xs : List Int, sumL f (xs ++ [x]) = sumL f xs + f x
  | [] => by simp [sumL]
  | y :: ys => by simp only [List.cons_append, sumL]; rw [sumL_snoc f x ys]; omega
theorem sumL_congr {f g : Int → Int} : ∀ xs : List Int, (∀ x ∈ xs, f x = g x) → sumL f xs = sumL g xs
  | [], _ => rfl
  | y :: ys, h => by simp only [sumL]; rw [h y (by simp), sumL_congr ys (fun x hx => h x (by simp [hx]))]
theorem sumL_all (n : Nat) : ∀ (xs : List Int) (f : Int → Int), xs.Nodup → (∀ x ∈ xs, 1 ≤ x ∧ x ≤ n) → (∀ x : Int, 1 ≤ x → x ≤ n → x ∉ xs → f x = 0) → sumL f xs = sumN f n
  | [], f, _, _, h0 => by
    have : sumN f n = sumN (fun _ => 0) n := sumN_congr n (fun o h1 h2 => h0 o h1 h2 (by simp))
    rw [this]
    have z : ∀ m : Nat, sumN (fun _ => 0) m = 0 := by
      intro m; induction m with
      | zero => rfl
      | succ m ih => simp [sumN, ih]
    rw [z]; rfl
  | y :: ys, f, hn, hin, h0 => by
    obtain ⟨hy, hys⟩ := List.nodup_cons.1 hn
    have hy1 := hin y (by simp)
    have e := sumN_upd f y 0 n hy1.1 hy1.2
    have ih := sumL_all n ys (fun x => if x = y then 0 else f x) hys (fun x hx => hin x (by simp [hx])) (fun x h1 h2 hx => by
      by_cases e : x = y
      · simp [e]
      · simp only [if_neg e]; exact h0 x h1 h2 (by simp [e, hx]))
    have c : sumL (fun x => if x = y then 0 else f x) ys = sumL f ys := sumL_congr ys (fun x hx => by
      have : x ≠ y := fun e => hy (e ▸ hx)
      simp [this])
    simp only [sumL]
    omega
theorem sumL_bound {f : Int → Int} {M : Int} (h0 : 0 ≤ M) : ∀ xs : List Int, (∀ x ∈ xs, 0 ≤ f x ∧ f x ≤ M) → 0 ≤ sumL f xs ∧ sumL f xs ≤ M * xs.length
  | [], _ => by simp [sumL]
  | y :: ys, h => by
    have h1 := h y (by simp)
    have h2 := sumL_bound h0 ys (fun x hx => h x (by simp [hx]))
    simp only [sumL, List.length_cons]
    rw [Int.natCast_add, Int.mul_add]
    omega

end
end Go.Proofs.YtljjndifmfhffaaGreatDoor
