/-
  A slice of octets of one's own, wherever it begins in its block: read, cut, appended to. Conditions: numbers in their bounds.
-/
import Derived.Deep.AppendSrc
import Derived.Deep.Upon
import Derived.Test.YtfolidedcejafaaTopRingPbb
import Derived.Test.YtfolidedcejafaaTopRingPbn
namespace Go.Proofs.Ytfolidedcejafaa
open Go Go.RowKit
set_option linter.unusedVariables false

def OwnW (w : World) (B : Nat) (v : Value) (xs : List Int) : Prop :=
  (v = .slice none 0 0 ∧ xs = []) ∨ ∃ g o cap all, v = .slice (some ⟨g, o, none⟩) xs.length cap ∧ B ≤ g ∧ byteRow w g all ∧ o + cap ≤ all.length ∧ xs.length ≤ cap ∧ (all.drop o).take xs.length = xs ∧ cap ≤ maxLen

theorem OwnW.nil (w : World) (B : Nat) : OwnW w B (.slice none 0 0) [] := Or.inl ⟨rfl, rfl⟩
theorem OwnW.block {w : World} {B : Nat} {v : Value} {xs : List Int} (h : OwnW w B v xs) {g : Nat} (hg : v.ownBlock = some g) : B ≤ g ∧ g < w.heap.size := by
  rcases h with ⟨rfl, _⟩ | ⟨g', o, cap, all, rfl, hB, hr, _⟩
  · cases hg
  · cases hg
    exact ⟨hB, lt_of hr⟩
theorem OwnW.same {w w' : World} {B : Nat} {v : Value} {xs : List Int} (h : OwnW w B v xs) (hs : ∀ g, v.ownBlock = some g → w'.heap[g]? = w.heap[g]?) : OwnW w' B v xs := by
  rcases h with h | ⟨g, o, cap, all, rfl, hB, hr, h⟩
  · exact Or.inl h
  · exact Or.inr ⟨g, o, cap, all, rfl, hB, (hs g rfl).trans hr, h⟩
theorem OwnW.touch {w w' : World} {F : Nat → Prop} {B : Nat} {v : Value} {xs : List Int} (h : OwnW w B v xs) (ht : Touch F w w') (hF : ∀ g, v.ownBlock = some g → ¬ F g) : OwnW w' B v xs :=
  h.same (fun g hg => ht.block g (h.block hg).2 (hF g hg))
theorem OwnW.sh {w : World} {B : Nat} {v : Value} {xs : List Int} (h : OwnW w B v xs) : ∃ p cap, v = .slice p xs.length cap ∧ xs.length ≤ cap ∧ cap ≤ maxLen := by
  rcases h with ⟨rfl, rfl⟩ | ⟨g, o, cap, all, rfl, _, _, _, h1, _, h2⟩
  · exact ⟨_, _, rfl, Nat.le_refl _, Nat.zero_le _⟩
  · exact ⟨_, _, rfl, h1, h2⟩
theorem OwnW.reads {w : World} {B : Nat} {v : Value} {xs : List Int} (h : OwnW w B v xs) : Reads w .u8 v xs := by
  rcases h with ⟨rfl, rfl⟩ | ⟨g, o, cap, all, rfl, hB, hr, h1, h2, h3, h4⟩
  · exact ⟨none, 0, rfl, by simp, fun h => absurd rfl h⟩
  · refine ⟨_, cap, rfl, by unfold maxLen at h4; omega, fun _ => ⟨g, o, rfl, fun j hj => ?_⟩⟩
    rw [hr.cell (o + j) (by omega)]
    conv => rhs; rw [← h3]
    simp [List.getD_eq_getElem?_getD, hj, List.getElem?_drop]
/-- s[k:] -/
theorem OwnW.cut {w : World} {B : Nat} {p : Option Addr} {n cap k : Nat} {xs : List Int} (h : OwnW w B (.slice p n cap) xs) (hk : k ≤ xs.length) : n = xs.length ∧
    OwnW w B (.slice (if cap = k then p else Option.map (fun x : Addr => x.add k) p) (n - k) (cap - k)) (xs.drop k) := by
  rcases h with ⟨he, rfl⟩ | ⟨g, o, c, all, he, hB, hr, h1, h2, h3, h4⟩
  · simp only [Value.slice.injEq] at he
    obtain ⟨rfl, rfl, rfl⟩ := he
    obtain rfl : k = 0 := by simpa using hk
    exact ⟨rfl, Or.inl ⟨rfl, rfl⟩⟩
  · simp only [Value.slice.injEq] at he
    obtain ⟨rfl, rfl, rfl⟩ := he
    refine ⟨rfl, Or.inr ?_⟩
    have hl : (xs.drop k).length = xs.length - k := List.length_drop
    rw [hl]
    by_cases hc : cap = k
    · rw [if_pos hc]
      have e : xs.drop k = [] := List.drop_of_length_le (by omega)
      refine ⟨g, o, cap - k, all, rfl, hB, hr, by omega, by omega, ?_, by omega⟩
      rw [e, show xs.length - k = 0 by omega, List.take_zero]
    · rw [if_neg hc]
      refine ⟨g, o + k, cap - k, all, ?_, hB, hr, by omega, by omega, ?_, by omega⟩
      · show Value.slice (some (Addr.add _ _)) _ _ = _
        unfold Addr.add
        split <;> simp_all
      · conv => rhs; rw [← h3]
        rw [List.drop_take, List.drop_drop]
theorem zero_cells (m : Nat) : Builtin.zeroCells (Value.cells (.int .u8 0)) m = ((zeros m).map (Value.int .u8)).toArray := by
  apply Array.ext
  · simp [Builtin.zeroCells, zeros, Value.cells]
  · intro i h1 h2
    simp [Builtin.zeroCells, Value.cells, zeros, Nat.mod_one]

theorem win_touch (b : Nat) : ∀ (vs : List Value) (w : World) (o : Nat), Touch (fun k => k = b) w (w.setCells b o vs)
  | [], w, o => Touch.refl _ _
  | v :: vs, w, o => ((Touch.refl (fun k => k = b) w).setCell (p := ⟨b, o, none⟩) (Or.inl rfl) v).then (win_touch b vs _ _)
theorem splice_step (cs zs : List Int) (o : Nat) (z : Int) (h : o + (zs.length + 1) ≤ cs.length) : splice (cs.set o z) (o + 1) zs = splice cs o (z :: zs) := by
  apply List.ext_getElem?
  intro j
  rw [splice_get _ _ _ _ (by simp; omega), splice_get _ _ _ _ (by simp; omega), List.length_cons]
  by_cases h1 : j < o
  · rw [if_pos (by omega), if_pos h1, List.getElem?_set_ne (by omega)]
  · by_cases h2 : j = o
    · subst h2
      rw [if_pos (by omega), if_neg (by omega), if_pos (by omega), List.getElem?_set_self (by omega)]
      simp
    · rw [if_neg (by omega), if_neg h1]
      by_cases h3 : j < o + 1 + zs.length
      · rw [if_pos h3, if_pos (by omega), show j - o = (j - (o + 1)) + 1 by omega, List.getElem?_cons_succ]
      · rw [if_neg h3, if_neg (by omega), List.getElem?_set_ne (by omega)]
theorem setCells_bytes (b : Nat) : ∀ (zs : List Int) (w : World) (cs : List Int) (o : Nat), byteRow w b cs → o + zs.length ≤ cs.length → byteRow (w.setCells b o (zs.map (Value.int .u8))) b (splice cs o zs)
  | [], w, cs, o, h, _ => by simpa [splice, World.setCells] using h
  | z :: zs, w, cs, o, h, hl => by
    rw [List.length_cons] at hl
    rw [List.map_cons, World.setCells, ← splice_step cs zs o z hl]
    exact setCells_bytes b zs _ _ (o + 1) (h.set o z) (by simp; omega)

/-- append(s, x...) -/
theorem run_append_win (w : World) (B : Nat) (ty : TypeId) (v : Value) (xs : List Int) (h : OwnW w B v xs) (sv : Value) (zs : List Int) (hr : Reads w .u8 sv zs) (h63 : xs.length + zs.length ≤ 140737488355328) (hB : B ≤ w.heap.size) :
    ∃ v' w', (Builtin.append_ #[46, 46] ty #[v, sv]).run Try.prog w = .ok v' w' ∧ OwnW w' B v' (xs ++ zs) ∧ Touch (fun k => v.ownBlock = some k) w w' ∧ (∀ k, v'.ownBlock = some k → v.ownBlock = some k ∨ w.heap.size ≤ k) := by
  obtain ⟨i0, hi, hz0, hz1, hz2⟩ := info_parts infoB1
  have hu := Try.underlying46
  have hsrc : Src Try.prog 1 46 sv zs.length (zs.map (Value.int .u8)) w := by
    have hr' := hr
    obtain ⟨p, c, rfl, hl, hc⟩ := hr
    cases p with
    | none =>
      have hz : zs = [] := by
        rcases List.eq_nil_or_concat zs with h' | ⟨l, y, h'⟩
        · exact h'
        · obtain ⟨b, o, h1, _⟩ := hc (by rw [h']; simp)
          cases h1
      subst hz
      exact Src.ofNil w hu _
    | some ad =>
      exact Src.ofSlice w hu ad zs.length c (zs.map (Value.int .u8)) (by simp) (hr'.cells rfl _ rfl) (by intro u hu; obtain ⟨z, _, rfl⟩ := List.mem_map.1 hu; rfl)
  by_cases h0 : zs = []
  · subst h0
    have hn : ∃ p n c, v = .slice p n c ∧ n ≤ c ∧ n = xs.length := by
      obtain ⟨p, c, e, h1, _⟩ := h.sh
      exact ⟨p, _, c, e, h1, rfl⟩
    obtain ⟨p, n, c, rfl, h1, rfl⟩ := hn
    refine ⟨_, w, run_append_nothing (P := Try.prog) w 46 46 ty 5 i0 hu hi p _ c h1 sv (by rw [hz1]; exact hsrc), by rw [List.append_nil]; exact h, Touch.refl _ _, fun k hk => Or.inl hk⟩
  · have hpos : 0 < zs.length := by cases zs with | nil => exact absurd rfl h0 | cons => simp
    rcases h with ⟨rfl, rfl⟩ | ⟨g, o, cap, all, rfl, hgB, hrow, h1, h2, h3, h4⟩
    · have hfit := growslice_fits (need := 0 + zs.length) (old := 0) (bytes := 1) (by omega) (by omega)
      have hrun := run_append_grow_src (P := Try.prog) w 46 46 ty 5 i0 (.int .u8 0) hu hi hz0 none 0 0 [] (run_firstCells_none w.drew _ 0 0 0) sv zs.length _ (by rw [hz1]; exact hsrc) (by omega) (by omega) (by rw [hz2]; exact hfit)
      have hge := grownCap_ge w (0 + zs.length) 0 5
      have hle := grownCap_le_maxLen w (0 + zs.length) 0 5 (by unfold maxLen; omega)
      refine ⟨_, _, hrun, Or.inr ⟨w.heap.size, 0, grownCap w (0 + zs.length) 0 5, zs ++ zeros (grownCap w (0 + zs.length) 0 5 - (0 + zs.length)), by rw [List.nil_append, Nat.zero_add], hB, ?_, ?_, by rw [List.nil_append]; omega, ?_, hle⟩, ((Touch.refl _ w).drew).alloc _, fun k hk => ?_⟩
      · unfold byteRow
        have := heap_alloc_new w.drew (.cells ((([] : List Value) ++ zs.map (Value.int .u8)).toArray ++ Builtin.zeroCells (Value.cells (.int .u8 0)) (grownCap w (0 + zs.length) 0 5 - (0 + zs.length))) 5)
        rw [zero_cells] at this ⊢
        rw [List.map_append]
        simpa using this
      · simp [zeros]; omega
      · simp
      · simp only [Value.ownBlock, Option.some.injEq] at hk
        exact Or.inr (by omega)
    · by_cases hroom : xs.length + zs.length ≤ cap
      · have hcell : ∀ j, j < (zs.map (Value.int .u8)).length → w.cell? ⟨g, o + xs.length * i0.size + j, none⟩ = some (.int .u8 (all.getD (o + xs.length + j) 0)) := fun j hj => by
          rw [hz1, Nat.mul_one]
          rw [List.length_map] at hj
          exact hrow.cell _ (by omega)
        have hrun := run_append_room_src (P := Try.prog) w 46 46 ty 5 i0 hu hi g o xs.length cap sv zs.length _ (by rw [hz1]; exact hsrc) hroom (fun j hj => by rw [hcell j hj]; rfl) (fun j _ => free_of hrow _)
        rw [hz1, Nat.mul_one] at hrun
        have hS := setCells_bytes g zs w all (o + xs.length) hrow (by omega)
        have hsl : (splice all (o + xs.length) zs).length = all.length := splice_len _ _ _ (by omega)
        refine ⟨_, _, hrun, Or.inr ⟨g, o, cap, splice all (o + xs.length) zs, by rw [List.length_append], hgB, hS, by rw [hsl]; exact h1, by rw [List.length_append]; exact hroom, ?_, h4⟩, (win_touch g _ w _).mono (fun k e => by rw [e]; rfl), fun k hk => Or.inl hk⟩
        apply List.ext_getElem?
        intro j
        rw [List.getElem?_take, List.getElem?_drop, splice_get _ _ _ _ (by omega), List.length_append]
        by_cases hj : j < xs.length
        · rw [if_pos (by omega), if_pos (by omega), List.getElem?_append_left hj]
          conv => rhs; rw [← h3]
          rw [List.getElem?_take, if_pos hj, List.getElem?_drop]
        · rw [List.getElem?_append_right (by omega)]
          by_cases hj2 : j < xs.length + zs.length
          · rw [if_pos hj2, if_neg (by omega), if_pos (by omega), show o + j - (o + xs.length) = j - xs.length by omega]
          · rw [if_neg hj2, List.getElem?_eq_none (by omega)]
      · have hfit := growslice_fits (need := xs.length + zs.length) (old := cap) (bytes := 1) (by omega) (by omega)
        have hold : (Builtin.firstCells i0.size xs.length (.slice (some ⟨g, o, none⟩) xs.length cap)).run Try.prog w.drew = .ok (xs.map (Value.int .u8)).toArray w.drew := by
          refine run_firstCells_some w.drew i0.size xs.length ⟨g, o, none⟩ xs.length cap (xs.map (Value.int .u8)) (by rw [hz1]; simp) (fun j u hj => ?_)
          have hjl : j < xs.length := by
            rcases Nat.lt_or_ge j xs.length with h | h
            · exact h
            · rw [List.getElem?_eq_none (by simpa using h)] at hj; cases hj
          have e1 : (⟨g, o, none⟩ : Addr).add j = ⟨g, o + j, none⟩ := by unfold Addr.add; split <;> simp_all
          rw [e1]
          show w.cell? _ = _
          rw [hrow.cell (o + j) (by omega), ← hj]
          conv => rhs; rw [← h3]
          simp [List.getD_eq_getElem?_getD, hjl, List.getElem?_drop, List.getElem?_eq_getElem (show o + j < all.length by omega)]
        have hrun := run_append_grow_src (P := Try.prog) w 46 46 ty 5 i0 (.int .u8 0) hu hi hz0 (some ⟨g, o, none⟩) xs.length cap _ hold sv zs.length _ (by rw [hz1]; exact hsrc) (by omega) (by omega) (by rw [hz2]; exact hfit)
        have hge := grownCap_ge w (xs.length + zs.length) cap 5
        have hle := grownCap_le_maxLen w (xs.length + zs.length) cap 5 (by unfold maxLen; omega)
        refine ⟨_, _, hrun, Or.inr ⟨w.heap.size, 0, grownCap w (xs.length + zs.length) cap 5, xs ++ zs ++ zeros (grownCap w (xs.length + zs.length) cap 5 - (xs.length + zs.length)), by rw [List.length_append], hB, ?_, ?_, by rw [List.length_append]; omega, ?_, hle⟩, ((Touch.refl _ w).drew).alloc _, fun k hk => ?_⟩
        · unfold byteRow
          have := heap_alloc_new w.drew (.cells ((xs.map (Value.int .u8) ++ zs.map (Value.int .u8)).toArray ++ Builtin.zeroCells (Value.cells (.int .u8 0)) (grownCap w (xs.length + zs.length) cap 5 - (xs.length + zs.length))) 5)
          rw [zero_cells] at this ⊢
          rw [List.map_append, List.map_append]
          simpa using this
        · simp [zeros]; omega
        · rw [List.drop_zero, List.take_append_of_le_length (Nat.le_refl _), List.take_length]
        · simp only [Value.ownBlock, Option.some.injEq] at hk
          exact Or.inr (by omega)

end Go.Proofs.Ytfolidedcejafaa
