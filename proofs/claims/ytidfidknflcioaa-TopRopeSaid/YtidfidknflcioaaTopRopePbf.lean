/-
  Clone, Grow, Concat, Delete of package slices at [][]uint8: what they give. No conditions but lengths. (Printed by sg.py.)
-/
import Derived.Test.YtidfidknflcioaaTopRopePaw
import Derived.Test.YtidfidknflcioaaTopRopePan
import Derived.Lib.SlicesDelete
import Derived.Shelf.RegionOpenPlain
import Derived.Shelf.Abstract
import Derived.Deep.RegionLaw
namespace Go.Proofs.Ytidfidknflcioaa
open Go.RowKit
set_option linter.unusedVariables false

theorem info_row : (Try.prog.info? 32).map (fun i => (i.zero, i.size, i.bytes)) = some (some (.slice none 0 0), 1, 24) := by kernel_rfl
def Own_row (n : Nat) (xs : List Value) (w : World) : Ending → World → Prop := fun e w' =>
  ∃ v, e = .returned v ∧ w'.ownsRow w.heap.size 32 1 v n xs ∧ Below w.heap.size w w'

set_option maxHeartbeats 1000000 in
set_option maxRecDepth 100000 in
theorem clone_row (v : Value) (n : Nat) (xs : List Value) (w : World) (hr : Seg w 1 v n xs) (hn : n ≤ 1000000000) :
    Calls Try.prog 45 #[v] w (Own_row n xs w) := by
  obtain ⟨i0, hi0, hz0, hz1, hz2⟩ := info_parts info_row
  have hr' := hr
  obtain ⟨hl, h1, a, cap, rfl, hle, hcap, hc⟩ := hr
  have hq := fun (w : World) (a : Option Addr) (n c : Nat) => Lib.run_eql_slice_nil (P := Try.prog) w 66 32 a n c 0 0 Try.underlying66
  cases a with
  | none =>
    have hz : xs = [] := by
      rcases List.eq_nil_or_concat xs with h | ⟨l, x, h⟩
      · exact h
      · obtain ⟨b, o, h1, _⟩ := hc l.length x (by rw [h]; simp)
        cases h1
    subst hz
    have hn0 : n = 0 := by simp at hl; omega
    subst hn0
    clear hc hr'
    go_enter Try.func45, Try.ntmps45
    go_wp2
    go_ret
    exact ⟨_, rfl, World.ownsRow_nil _ _ _ _, Below.refl _ _⟩
  | some ad =>
    have HR : Hid (Seg (w.alloc (.cells #[] 32)) 1 (.slice (some ad) n cap) n xs) := Lib.hid (hr'.below ((Below.refl w.heap.size w).alloc (Nat.le_refl _) _))
    have HM : Hid (World.ownsRow (w.alloc (.cells #[] 32)) w.heap.size 32 1 (.slice (some ⟨w.heap.size, 0, none⟩) 0 0) 0 []) := World.ownsRow_made w #[] 0 (Nat.le_refl _) (by unfold maxLen; omega) rfl
    clear hc hr' hl h1
    go_enter Try.func45, Try.ntmps45
    go_wp2_with (at_builtin; go_must (refine wpList_append_seg rfl (.tmp 5) (.tmp 6) 66 rfl w.heap.size 32 i0 (.slice none 0 0) 1 24 Try.underlying66 hi0 hz0 hz1 hz2 rfl (by decide) _ _ 0 [] rfl HM.out _ n xs rfl HR.out (by unfold maxLen; omega) (by omega) (by simp) ?_))
    intro v' w1 hown hg
    have hb : Below w.heap.size w w1 := ((Below.refl w.heap.size w).alloc (Nat.le_refl _) _).grown hg (by simp) (fun q hq => by simp [Value.ownBlock] at hq; omega)
    go_wp2_with fail
    go_ret
    exact ⟨_, rfl, by simpa using hown, hb⟩

set_option maxHeartbeats 1000000 in
set_option maxRecDepth 100000 in
theorem growNil_row (n : Nat) (w : World) (h63 : n ≤ 1000000000) :
    Calls Try.prog 78 #[.slice none 0 0, .int .i64 n] w (Own_row 0 [] w) := by
  obtain ⟨i0, hi0, hz0, hz1, hz2⟩ := info_parts info_row
  by_cases h0 : n = 0
  · subst h0
    go_enter Try.func78, Try.ntmps78
    go_wp2_with fail
    go_ret
    exact ⟨_, rfl, World.ownsRow_nil _ _ _ _, Below.refl _ _⟩
  · have hn : (0 : Int) < n := by omega
    have HN := Lib.hid (Nat.pos_of_ne_zero h0)
    go_enter Try.func78, Try.ntmps78
    go_wp2_with (at_builtin; go_must (refine wpList_append_zeros_of rfl (.tmp 20) (.tmp 21) 66 3 rfl 32 i0 (.slice none 0 0) 1 24 Try.underlying66 Try.underlying3 hi0 hz0 hz1 hz2 rfl (by decide) w n rfl rfl HN.out h63 (by omega) ?_))
    intro cap w1 hcap hown hb
    go_wp2_with fail
    go_ret
    exact ⟨_, rfl, hown, hb⟩

/-- The cells, and the number, of the first k of some slices. -/
def cat_row (els : List (Value × Nat × List Value)) (k : Nat) : List Value := ((els.take k).map (·.2.2)).flatten
def num_row (els : List (Value × Nat × List Value)) (k : Nat) : Nat := ((els.take k).map (·.2.1)).sum
theorem cat_succ_row (els : List (Value × Nat × List Value)) (k : Nat) (x : Value × Nat × List Value) (h : els[k]? = some x) : cat_row els (k + 1) = cat_row els k ++ x.2.2 ∧ num_row els (k + 1) = num_row els k + x.2.1 := by
  unfold cat_row num_row
  rw [List.take_add_one, h]
  simp
theorem num_le_row (els : List (Value × Nat × List Value)) (k : Nat) : num_row els k ≤ num_row els els.length := by
  unfold num_row
  rw [List.take_length, List.map_take]
  conv => rhs; rw [← List.take_append_drop k (els.map (·.2.1)), List.sum_append]
  omega

set_option maxHeartbeats 2000000 in
set_option maxRecDepth 100000 in
theorem concat_row (bb : Nat) (els : List (Value × Nat × List Value)) (w : World) (hc : ∀ k x, els[k]? = some x → w.cell? ⟨bb, k, none⟩ = some x.1 ∧ Seg w 1 x.1 x.2.1 x.2.2)
    (hl : num_row els els.length ≤ 100000000) (hn : els.length ≤ 1000) :
    Calls Try.prog 51 #[.slice (some ⟨bb, 0, none⟩) els.length els.length] w (Own_row (num_row els els.length) (cat_row els els.length) w) := by
  obtain ⟨i0, hi0, hz0, hz1, hz2⟩ := info_parts info_row
  have HC := Lib.hid hc
  have NL := Lib.hid (num_le_row els)
  clear hc
  go_enter Try.func51, Try.ntmps51
  go_wp2_with fail
  go_loopw [11, 3] (fun i s wr => ∃ k : Nat, k ≤ els.length ∧ i = .int .i64 k ∧ s = .int .i64 (num_row els k) ∧ wr = w) (fun i _ _ => els.length - (intOf i).toNat)
  case atStart => exact ⟨0, Nat.zero_le _, rfl, rfl, rfl⟩
  case round =>
    obtain ⟨k, hk, rfl, rfl, hw⟩ := hrel
    obtain rfl := hw.symm
    have le := NL.out k
    by_cases hlt : k < els.length
    · obtain ⟨x, hx⟩ : ∃ x, els[k]? = some x := ⟨_, List.getElem?_eq_getElem hlt⟩
      obtain ⟨c0, _, _, sa, sc, hv, h1, h2, _⟩ := HC.out k x hx
      obtain ⟨_, S⟩ := cat_succ_row els k x hx
      have le2 := NL.out (k + 1)
      obtain ⟨xv, xn, xl⟩ := x
      simp only at c0 hv h1 S
      subst hv
      generalize num_row els k = s at *
      clear hx
      go_wp2_with fail
      go_roundw
      case rel => exact ⟨k + 1, by omega, by go_num, by rw [S]; go_num, by first | rfl | trivial⟩
      case measure => simp [intOf]; omega
    · have hkn : k = els.length := by omega
      subst hkn
      generalize hN : num_row els els.length = N at *
      go_wp2_with fail
      refine (growNil_row N w (by omega)).mono ?_
      rintro e w1 ⟨v1, rfl, ho1, hb1⟩
      have HO1 := Lib.hid ho1
      have HB1 := Lib.hid hb1
      clear ho1 hb1
      go_wp2_with fail
      go_loopw [27, 6] (fun i s wx => ∃ k : Nat, k ≤ els.length ∧ i = .int .i64 k ∧ wx.ownsRow w.heap.size 32 1 s (num_row els k) (cat_row els k) ∧ Below w.heap.size w wx) (fun i _ _ => els.length - (intOf i).toNat)
      case atStart => exact ⟨0, Nat.zero_le _, rfl, HO1.out, HB1.out⟩
      case round =>
        obtain ⟨k, hk, rfl, ho, hb⟩ := hrel
        have le := NL.out k
        by_cases hlt : k < els.length
        · obtain ⟨x, hx⟩ : ∃ x, els[k]? = some x := ⟨_, List.getElem?_eq_getElem hlt⟩
          obtain ⟨c0, r0⟩ := HC.out k x hx
          have c1 := old_cell hb c0
          have R1 := Lib.hid (r0.below hb)
          have le2 := NL.out (k + 1)
          obtain ⟨S2, S⟩ := cat_succ_row els k x hx
          have S2 := Lib.hid S2
          have HO := Lib.hid ho
          have hsz := hb.size
          have HBB := Lib.hid hb
          clear c0 r0 ho hb hx
          go_wp2_with (at_builtin; go_must (refine wpList_append_seg rfl (.tmp 31) (.tmp 32) 66 rfl w.heap.size 32 i0 (.slice none 0 0) 1 24 Try.underlying66 hi0 hz0 hz1 hz2 rfl (by decide) wr _ _ _ rfl HO.out _ _ _ rfl R1.out (by unfold maxLen; omega) (by omega) hsz ?_))
          intro v' w2 hown hg
          have hb2 := HBB.out.grown hg hsz (fun q hq => (HO.out.lt q hq).1)
          have hown2 : w2.ownsRow w.heap.size 32 1 v' (num_row els (k + 1)) (cat_row els (k + 1)) := by rw [S, S2.out]; exact hown
          clear hown
          clear hg
          go_wp2_with fail
          go_roundw
          case rel => exact ⟨k + 1, by omega, by go_num, hown2, hb2⟩
          case measure => simp [intOf]; omega
        · have hkn : k = els.length := by omega
          subst hkn
          rw [hN] at ho
          go_wp2_with fail
          go_ret
          exact ⟨_, rfl, ho, hb⟩

/-- 'clear' of one element. -/
theorem run_clear_row (w : World) (ty : TypeId) (b o c : Nat) (hc : ∀ j, j < 1 → (w.cell? ⟨b, o + j, none⟩).isSome = true) (hf : ∀ j, j < 1 → w.frozen? ⟨b, o + j, none⟩ = false) :
    (Builtin.clear_ #[66] ty #[.slice (some ⟨b, o, none⟩) 1 c]).run Try.prog w = .ok (.tuple #[]) (w.setCells b o [.slice none 0 0]) := by
  have hst := run_storeCells_cells (P := Try.prog) b o [.slice none 0 0] 0 w (by simpa using hc) (by simpa using hf) (by intro v hv; simp at hv; subst hv; rfl)
  simp only [Nat.add_zero] at hst
  have hz : (Builtin.zeroCells ((.slice none 0 0) : Value).cells 1).toList = [.slice none 0 0] := by kernel_rfl
  simp [Builtin.clear_, run_underlying Try.underlying66, Try.zeroValue32, hz, hst]

def Del_row (g cap n i : Nat) (xs : List Value) (w : World) : Ending → World → Prop := fun e w' =>
  e = .returned (.slice (some ⟨g, 0, none⟩) (n - 1) cap) ∧ w'.ownsRow 0 32 1 (.slice (some ⟨g, 0, none⟩) (n - 1) cap) (n - 1) (xs.take (i * 1) ++ xs.drop ((i + 1) * 1)) ∧ Touch (fun k => k = g) w w' ∧ w'.heap.size = w.heap.size

set_option maxHeartbeats 4000000 in
set_option maxRecDepth 1000000 in
theorem delete_row (g cap n : Nat) (i j : Nat) (xs : List Value) (w : World) (hr : w.ownsRow 0 32 1 (.slice (some ⟨g, 0, none⟩) n cap) n xs) (h1 : ∀ u ∈ xs, u.oneCell' = true)
    (hi : i < n) (hj : j = i + 1) (hlen : n ≤ 1000000) :
    Calls Try.prog 71 #[.slice (some ⟨g, 0, none⟩) n cap, .int .i64 i, .int .i64 j] w (Del_row g cap n i xs w) := by
  obtain ⟨i0, hi0, hz0, hz1, hz2⟩ := info_parts info_row
  obtain ⟨hxl, hr⟩ := hr
  rcases hr with ⟨hv, _⟩ | ⟨g', cap', cur, hv, _, hg, hn, hcm, hs, ht⟩
  · cases hv
  simp only [Value.slice.injEq, Option.some.injEq, Addr.mk.injEq, and_true, true_and] at hv
  obtain ⟨rfl, rfl⟩ := hv
  have hcm' : cap ≤ 9223372036854775807 := by unfold maxLen at hcm; omega
  have hcell : ∀ t u, xs[t]? = some u → w.drew.cell? ⟨g, t, none⟩ = some u := by
    intro t u hu
    have : w.drew.cell? ⟨g, t, none⟩ = cur[t]? := cell_of (w := w.drew) hg t
    rw [this, ← Array.getElem?_toList]
    rw [← ht] at hu
    have hlt := (List.getElem?_eq_some_iff.1 hu).1
    rw [List.length_take] at hlt
    rw [List.getElem?_take_of_lt (by omega)] at hu
    exact hu
  obtain ⟨news, hnews⟩ : ∃ news, news = xs.drop (j * 1) := ⟨_, rfl⟩
  have hlen2 : news.length = (n - j) * 1 := by rw [hnews, List.length_drop, hxl, Nat.sub_mul]
  obtain ⟨A, hA, hsrc⟩ : ∃ A : Addr, (if cap = j then some (⟨g, 0, none⟩ : Addr) else some ⟨g, j, none⟩) = some A ∧ Hid (∀ t u, news[t]? = some u → w.drew.cell? (A.add t) = some u) := by
    by_cases h : cap = j
    · refine ⟨⟨g, 0, none⟩, by simp [h], Lib.hid fun t u hu => ?_⟩
      have h0 : news.length = 0 := by rw [hlen2]; have : n - j = 0 := by omega
                                      rw [this]
      rw [List.length_eq_zero_iff.1 h0] at hu
      simp at hu
    · refine ⟨⟨g, j, none⟩, by simp [h], Lib.hid fun t u hu => ?_⟩
      rw [Addr.add_lit]
      refine hcell _ _ ?_
      rw [hnews, List.getElem?_drop] at hu
      simpa using hu
  have s1 : Hid (news.length = (n - j) * 1) := Lib.hid hlen2
  have s2 : Hid (∀ u ∈ news, u.oneCell' = true) := Lib.hid (by rw [hnews]; exact fun u hu => h1 u (List.mem_of_mem_drop hu))
  have s3 : Hid (∀ t, t < news.length → (w.drew.cell? ⟨g, 0 + i * 1 + t, none⟩).isSome = true ∧ w.drew.frozen? ⟨g, 0 + i * 1 + t, none⟩ = false) := Lib.hid (by
    intro t ht'
    have : w.drew.cell? ⟨g, 0 + i * 1 + t, none⟩ = cur[0 + i * 1 + t]? := cell_of (w := w.drew) hg _
    refine ⟨?_, free_of (w := w.drew) hg _⟩
    rw [this, Array.getElem?_eq_getElem (by rw [hlen2] at ht'; omega)]
    rfl)
  obtain ⟨W1, hW1⟩ : ∃ W1, W1 = w.drew.setCells g (0 + i * 1) news := ⟨_, rfl⟩
  obtain ⟨cur1, k1, k2, k3⟩ := block_setCells news (0 + i * 1) w.drew cur hg (by rw [hlen2]; omega)
  rw [← hW1] at k1
  have hcl : ∀ ty, (Builtin.clear_ #[66] ty #[.slice (some ⟨g, n - 1, none⟩) 1 (cap - (n - 1))]).run Try.prog W1 = .ok (.tuple #[]) (W1.setCells g (n - 1) [.slice none 0 0]) := fun ty => by
    have h := run_clear_row W1 ty g (n - 1) (cap - (n - 1)) (fun t ht' => by
      rw [cell_of k1, Array.getElem?_eq_getElem (by rw [k2]; omega)]; rfl) (fun t ht' => free_of k1 _)
    simpa using h
  obtain ⟨cur2, m1, m2, m3⟩ := block_setCells [.slice none 0 0] (n - 1) W1 cur1 k1 (by rw [k2]; simp; omega)
  have FIN : Hid (Del_row g cap n i xs w (.returned (.slice (some ⟨g, 0, none⟩) (n - 1) cap)) (W1.setCells g (n - 1) [.slice none 0 0])) := Lib.hid (by
    have e2 : cur.toList.take (0 + i * 1) = xs.take (i * 1) := by
      rw [← ht, List.take_take]; congr 1; omega
    have e4 : (xs.take (i * 1) ++ news).length = n - 1 := by
      rw [List.length_append, List.length_take, hlen2, hxl]; omega
    refine ⟨rfl, ⟨?_, Or.inr ⟨g, cap, cur2, rfl, Nat.zero_le _, m1, by omega, hcm, by rw [m2, k2, hs], ?_⟩⟩, ?_, ?_⟩
    · rw [← hj, ← hnews, e4]; omega
    · rw [Nat.mul_one]; rw [m3, k3, e2, List.take_left' e4, ← hj, ← hnews, ← e4]
      exact (List.append_assoc _ _ _ ▸ List.take_left)
    · refine ⟨?_, ?_, ?_, ?_, ?_⟩
      · rw [(setCells_rest g _ _ W1).1, hW1, (setCells_rest g _ _ _).1]; rfl
      · rw [(setCells_rest g _ _ W1).2.1, hW1, (setCells_rest g _ _ _).2.1]; rfl
      · rw [(setCells_rest g _ _ W1).2.2, hW1, (setCells_rest g _ _ _).2.2]; rfl
      · rw [size_setCells, hW1, size_setCells]; exact Nat.le_refl _
      · intro k hk hne
        rw [heap_setCells_other g _ _ _ k hne, hW1, heap_setCells_other g _ _ _ k hne]; rfl
    · rw [size_setCells, hW1, size_setCells]; rfl)
  have hW : Hid (W1 = w.drew.setCells g (0 + i * 1) news) := Lib.hid hW1
  have hic : i ≤ cap := by omega
  have hjc : j ≤ cap := by omega
  have e3 : Hid (i + (n - j) = n - 1) := Lib.hid (by omega)
  have hcl2 : ∀ ty, (Builtin.clear_ #[66] ty #[.slice (some ⟨g, i + (n - j), none⟩) (n - (i + (n - j))) (cap - (i + (n - j)))]).run Try.prog W1 = .ok (.tuple #[]) (W1.setCells g (n - 1) [.slice none 0 0]) := fun ty => by
    rw [show i + (n - j) = n - 1 by omega, show n - (n - 1) = 1 by omega]; exact hcl ty
  have hne : ((i : Int) == (j : Int)) = false := by simp; omega
  have hjl : j ≤ n := by omega
  have hij : i ≤ j := by omega
  have hcne : ¬ (cap = i + (n - j)) := by omega
  have HJ := Lib.hid hj
  have H1 := Lib.hid h1
  clear hcl hW1 hcell hnews hlen2 k1 k2 k3 m1 m2 m3 hs ht hg hj hxl h1
  go_enter Try.func71, Try.ntmps71
  go_wp2_with fail
  have mixed : Try.prog.follows Departure.mixedOrders = true := by kernel_rfl
  go_region_law_o (refine step_append_room rfl (.tmp 22) (.tmp 25) 66 rfl 32 i0 1 Try.underlying66 hi0 hz1 g 0 i cap (by simp [Act.eval, Act.put]) A (n - j) (cap - j) news (by simp [Act.eval, Act.put]) s1.out hsrc.out s2.out (by omega) s3.out ?_; rw [← hW.out])
  go_wp2_with fail
  go_ret
  have h := FIN.out
  rw [← e3.out] at h
  rw [← e3.out]
  exact h

end Go.Proofs.Ytidfidknflcioaa
