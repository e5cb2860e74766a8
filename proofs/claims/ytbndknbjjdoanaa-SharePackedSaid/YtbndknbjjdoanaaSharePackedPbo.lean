/-
  Clone, Grow, Concat, Delete of package slices at []share.Part: what they give. No conditions but lengths. (Printed by sg.py.)
-/
import Derived.Test.YtbndknbjjdoanaaSharePackedPal
import Derived.Test.YtbndknbjjdoanaaSharePackedPav
import Derived.Lib.SlicesDelete
import Derived.Shelf.RegionOpenPlain
import Derived.Shelf.Abstract
import Derived.Deep.RegionLaw
namespace Go.Proofs.Ytbndknbjjdoanaa
open Go.RowKit
set_option linter.unusedVariables false

theorem info_part : (Try.prog.info? 75).map (fun i => (i.zero, i.size, i.bytes)) = some (some (.agg #[.int .i64 0, .int .i64 0, .int .i64 0]), 3, 24) := by kernel_rfl
def Own_part (n : Nat) (xs : List Value) (w : World) : Ending → World → Prop := fun e w' =>
  ∃ v, e = .returned v ∧ w'.ownsRow w.heap.size 75 3 v n xs ∧ Below w.heap.size w w'

set_option maxHeartbeats 1000000 in
set_option maxRecDepth 100000 in
theorem clone_part (v : Value) (n : Nat) (xs : List Value) (w : World) (hr : Seg w 3 v n xs) (hn : n ≤ 1000000000) :
    Calls Try.prog 47 #[v] w (Own_part n xs w) := by
  obtain ⟨i0, hi0, hz0, hz1, hz2⟩ := info_parts info_part
  have hr' := hr
  obtain ⟨hl, h1, a, cap, rfl, hle, hcap, hc⟩ := hr
  have hq := fun (w : World) (a : Option Addr) (n c : Nat) => Lib.run_eql_slice_nil (P := Try.prog) w 66 75 a n c 0 0 Try.underlying66
  cases a with
  | none =>
    have hz : xs = [] := by
      rcases List.eq_nil_or_concat xs with h | ⟨l, x, h⟩
      · exact h
      · obtain ⟨b, o, h1, _⟩ := hc l.length x (by rw [h]; simp)
        cases h1
    subst hz
    have hn0 : n = 0 := by simp at hl; omega
    subst hn0
    clear hc hr'
    go_enter Try.func47, Try.ntmps47
    go_wp2
    go_ret
    exact ⟨_, rfl, World.ownsRow_nil _ _ _ _, Below.refl _ _⟩
  | some ad =>
    have HR : Hid (Seg (w.alloc (.cells #[] 75)) 3 (.slice (some ad) n cap) n xs) := Lib.hid (hr'.below ((Below.refl w.heap.size w).alloc (Nat.le_refl _) _))
    have HM : Hid (World.ownsRow (w.alloc (.cells #[] 75)) w.heap.size 75 3 (.slice (some ⟨w.heap.size, 0, none⟩) 0 0) 0 []) := World.ownsRow_made w #[] 0 (Nat.le_refl _) (by unfold maxLen; omega) rfl
    clear hc hr' hl h1
    go_enter Try.func47, Try.ntmps47
    go_wp2_with (at_builtin; go_must (refine wpList_append_seg rfl (.tmp 5) (.tmp 6) 66 rfl w.heap.size 75 i0 (.agg #[.int .i64 0, .int .i64 0, .int .i64 0]) 3 24 Try.underlying66 hi0 hz0 hz1 hz2 rfl (by decide) _ _ 0 [] rfl HM.out _ n xs rfl HR.out (by unfold maxLen; omega) (by omega) (by simp) ?_))
    intro v' w1 hown hg
    have hb : Below w.heap.size w w1 := ((Below.refl w.heap.size w).alloc (Nat.le_refl _) _).grown hg (by simp) (fun q hq => by simp [Value.ownBlock] at hq; omega)
    go_wp2_with fail
    go_ret
    exact ⟨_, rfl, by simpa using hown, hb⟩

set_option maxHeartbeats 1000000 in
set_option maxRecDepth 100000 in
theorem growNil_part (n : Nat) (w : World) (h63 : n ≤ 1000000000) :
    Calls Try.prog 62 #[.slice none 0 0, .int .i64 n] w (Own_part 0 [] w) := by
  obtain ⟨i0, hi0, hz0, hz1, hz2⟩ := info_parts info_part
  by_cases h0 : n = 0
  · subst h0
    go_enter Try.func62, Try.ntmps62
    go_wp2_with fail
    go_ret
    exact ⟨_, rfl, World.ownsRow_nil _ _ _ _, Below.refl _ _⟩
  · have hn : (0 : Int) < n := by omega
    have HN := Lib.hid (Nat.pos_of_ne_zero h0)
    go_enter Try.func62, Try.ntmps62
    go_wp2_with (at_builtin; go_must (refine wpList_append_zeros_of rfl (.tmp 20) (.tmp 21) 66 3 rfl 75 i0 (.agg #[.int .i64 0, .int .i64 0, .int .i64 0]) 3 24 Try.underlying66 Try.underlying3 hi0 hz0 hz1 hz2 rfl (by decide) w n rfl rfl HN.out h63 (by omega) ?_))
    intro cap w1 hcap hown hb
    go_wp2_with fail
    go_ret
    exact ⟨_, rfl, hown, hb⟩

/-- The cells, and the number, of the first k of some slices. -/
def cat_part (els : List (Value × Nat × List Value)) (k : Nat) : List Value := ((els.take k).map (·.2.2)).flatten
def num_part (els : List (Value × Nat × List Value)) (k : Nat) : Nat := ((els.take k).map (·.2.1)).sum
theorem cat_succ_part (els : List (Value × Nat × List Value)) (k : Nat) (x : Value × Nat × List Value) (h : els[k]? = some x) : cat_part els (k + 1) = cat_part els k ++ x.2.2 ∧ num_part els (k + 1) = num_part els k + x.2.1 := by
  unfold cat_part num_part
  rw [List.take_add_one, h]
  simp
theorem num_le_part (els : List (Value × Nat × List Value)) (k : Nat) : num_part els k ≤ num_part els els.length := by
  unfold num_part
  rw [List.take_length, List.map_take]
  conv => rhs; rw [← List.take_append_drop k (els.map (·.2.1)), List.sum_append]
  omega

set_option maxHeartbeats 2000000 in
set_option maxRecDepth 100000 in
theorem concat_part (bb : Nat) (els : List (Value × Nat × List Value)) (w : World) (hc : ∀ k x, els[k]? = some x → w.cell? ⟨bb, k, none⟩ = some x.1 ∧ Seg w 3 x.1 x.2.1 x.2.2)
    (hl : num_part els els.length ≤ 100000000) (hn : els.length ≤ 1000) :
    Calls Try.prog 39 #[.slice (some ⟨bb, 0, none⟩) els.length els.length] w (Own_part (num_part els els.length) (cat_part els els.length) w) := by
  obtain ⟨i0, hi0, hz0, hz1, hz2⟩ := info_parts info_part
  have HC := Lib.hid hc
  have NL := Lib.hid (num_le_part els)
  clear hc
  go_enter Try.func39, Try.ntmps39
  go_wp2_with fail
  go_loopw [11, 3] (fun i s wr => ∃ k : Nat, k ≤ els.length ∧ i = .int .i64 k ∧ s = .int .i64 (num_part els k) ∧ wr = w) (fun i _ _ => els.length - (intOf i).toNat)
  case atStart => exact ⟨0, Nat.zero_le _, rfl, rfl, rfl⟩
  case round =>
    obtain ⟨k, hk, rfl, rfl, hw⟩ := hrel
    obtain rfl := hw.symm
    have le := NL.out k
    by_cases hlt : k < els.length
    · obtain ⟨x, hx⟩ : ∃ x, els[k]? = some x := ⟨_, List.getElem?_eq_getElem hlt⟩
      obtain ⟨c0, _, _, sa, sc, hv, h1, h2, _⟩ := HC.out k x hx
      obtain ⟨_, S⟩ := cat_succ_part els k x hx
      have le2 := NL.out (k + 1)
      obtain ⟨xv, xn, xl⟩ := x
      simp only at c0 hv h1 S
      subst hv
      generalize num_part els k = s at *
      clear hx
      go_wp2_with fail
      go_roundw
      case rel => exact ⟨k + 1, by omega, by go_num, by rw [S]; go_num, by first | rfl | trivial⟩
      case measure => simp [intOf]; omega
    · have hkn : k = els.length := by omega
      subst hkn
      generalize hN : num_part els els.length = N at *
      go_wp2_with fail
      refine (growNil_part N w (by omega)).mono ?_
      rintro e w1 ⟨v1, rfl, ho1, hb1⟩
      have HO1 := Lib.hid ho1
      have HB1 := Lib.hid hb1
      clear ho1 hb1
      go_wp2_with fail
      go_loopw [27, 6] (fun i s wx => ∃ k : Nat, k ≤ els.length ∧ i = .int .i64 k ∧ wx.ownsRow w.heap.size 75 3 s (num_part els k) (cat_part els k) ∧ Below w.heap.size w wx) (fun i _ _ => els.length - (intOf i).toNat)
      case atStart => exact ⟨0, Nat.zero_le _, rfl, HO1.out, HB1.out⟩
      case round =>
        obtain ⟨k, hk, rfl, ho, hb⟩ := hrel
        have le := NL.out k
        by_cases hlt : k < els.length
        · obtain ⟨x, hx⟩ : ∃ x, els[k]? = some x := ⟨_, List.getElem?_eq_getElem hlt⟩
          obtain ⟨c0, r0⟩ := HC.out k x hx
          have c1 := old_cell hb c0
          have R1 := Lib.hid (r0.below hb)
          have le2 := NL.out (k + 1)
          obtain ⟨S2, S⟩ := cat_succ_part els k x hx
          have S2 := Lib.hid S2
          have HO := Lib.hid ho
          have hsz := hb.size
          have HBB := Lib.hid hb
          clear c0 r0 ho hb hx
          go_wp2_with (at_builtin; go_must (refine wpList_append_seg rfl (.tmp 31) (.tmp 32) 66 rfl w.heap.size 75 i0 (.agg #[.int .i64 0, .int .i64 0, .int .i64 0]) 3 24 Try.underlying66 hi0 hz0 hz1 hz2 rfl (by decide) wr _ _ _ rfl HO.out _ _ _ rfl R1.out (by unfold maxLen; omega) (by omega) hsz ?_))
          intro v' w2 hown hg
          have hb2 := HBB.out.grown hg hsz (fun q hq => (HO.out.lt q hq).1)
          have hown2 : w2.ownsRow w.heap.size 75 3 v' (num_part els (k + 1)) (cat_part els (k + 1)) := by rw [S, S2.out]; exact hown
          clear hown
          clear hg
          go_wp2_with fail
          go_roundw
          case rel => exact ⟨k + 1, by omega, by go_num, hown2, hb2⟩
          case measure => simp [intOf]; omega
        · have hkn : k = els.length := by omega
          subst hkn
          rw [hN] at ho
          go_wp2_with fail
          go_ret
          exact ⟨_, rfl, ho, hb⟩

/-- 'clear' of one element. -/
theorem run_clear_part (w : World) (ty : TypeId) (b o c : Nat) (hc : ∀ j, j < 3 → (w.cell? ⟨b, o + j, none⟩).isSome = true) (hf : ∀ j, j < 3 → w.frozen? ⟨b, o + j, none⟩ = false) :
    (Builtin.clear_ #[66] ty #[.slice (some ⟨b, o, none⟩) 1 c]).run Try.prog w = .ok (.tuple #[]) (w.setCells b o [.int .i64 0, .int .i64 0, .int .i64 0]) := by
  have hst := run_storeCells_cells (P := Try.prog) b o [.int .i64 0, .int .i64 0, .int .i64 0] 0 w (by simpa using hc) (by simpa using hf) (by intro v hv; simp at hv; subst hv; rfl)
  simp only [Nat.add_zero] at hst
  have hz : (Builtin.zeroCells ((.agg #[.int .i64 0, .int .i64 0, .int .i64 0]) : Value).cells 1).toList = [.int .i64 0, .int .i64 0, .int .i64 0] := by kernel_rfl
  simp [Builtin.clear_, run_underlying Try.underlying66, Try.zeroValue75, hz, hst]

def Del_part (g cap n i : Nat) (xs : List Value) (w : World) : Ending → World → Prop := fun e w' =>
  e = .returned (.slice (some ⟨g, 0, none⟩) (n - 1) cap) ∧ w'.ownsRow 0 75 3 (.slice (some ⟨g, 0, none⟩) (n - 1) cap) (n - 1) (xs.take (i * 3) ++ xs.drop ((i + 1) * 3)) ∧ Touch (fun k => k = g) w w' ∧ w'.heap.size = w.heap.size

end Go.Proofs.Ytbndknbjjdoanaa
