/-
  What the calls on a heap do to blocks and octets: the plain part of TopCompact. No conditions.
-/
import Derived.Test.YtjogaohnphafgaaTopCompactPbs
import Derived.Test.YtjogaohnphafgaaTopCompactPbt
namespace Go.Proofs.Ytjogaohnphafgaa
open Go.RowKit
set_option linter.unusedVariables false

/-! A place is apart from all blocks. -/
theorem place_plain {S : HpSt} {M n : Nat} {way : Int} {at' : Nat} {mem1 : List Int} (h : PlOk S M n way at' mem1) (h0 : 0 < n) (ha : S.bl.Pairwise apartB) (hi : ∀ x ∈ S.bl, x.at' + x.len ≤ S.mem.length) :
    (∀ x ∈ S.bl, x.len ≠ 0 → x.at' + x.len ≤ at' ∨ at' + n ≤ x.at') ∧ ∀ j, j < S.mem.length → mem1[j]? = S.mem[j]? := by
  obtain ⟨L, L', hs, hs', ⟨g, hg, rfl, rfl⟩ | ⟨hg, h1, h2, rfl, z, hz, hz2, z1, z2, z3, rfl⟩⟩ := h
  · obtain ⟨g1, g2⟩ := gapSel_in hg
    have hc := chain_of hs ha
    obtain ⟨_, _, k3⟩ := gapsG_apart L 0 S.mem.length hc (fun x hx => ⟨Nat.zero_le _, hi x (hs.mem hx).1⟩) (Nat.zero_le _) g g1
    refine ⟨fun x hx hx0 => ?_, fun j _ => rfl⟩
    rcases k3 x (hs.mem' hx hx0) with h | h
    · exact Or.inl h
    · exact Or.inr (by omega)
  · have hc := chain_of hs' ha
    refine ⟨fun x hx hx0 => Or.inl (endL_ge L' hc x (hs'.mem' hx hx0)), fun j hj => reM_at _ _ _ hj (by omega)⟩
theorem oct_of {m m' : List Int} {x : Blk} {N : Nat} (hx : x.at' + x.len ≤ N) (h : ∀ j, j < N → x.len ≠ 0 → x.at' ≤ j → j < x.at' + x.len → m'[j]? = m[j]?) : octB m' x = octB m x := by
  by_cases h0 : x.len = 0
  · unfold octB
    rw [h0]
    rfl
  · exact octB_same (fun j h1 h2 => h j (by omega) h0 h1 h2)
theorem alloc_plain {S : HpSt} {M n : Nat} {way : Int} {at' : Nat} {mem2 : List Int} (ha : S.bl.Pairwise apartB) (hi : ∀ x ∈ S.bl, x.at' + x.len ≤ S.mem.length)
    (h : (n = 0 ∧ at' = 0 ∧ mem2 = S.mem) ∨ (0 < n ∧ ∃ mem1, PlOk S M n way at' mem1 ∧ S.mem.length ≤ mem1.length ∧ mem2 = fill 0 mem1 at' n)) (hl : at' + n ≤ mem2.length) (hh : Nat) :
    (S.bl ++ [(⟨hh, at', n⟩ : Blk)]).Pairwise apartB ∧ (∀ x ∈ S.bl, octB mem2 x = octB S.mem x) ∧ octB mem2 ⟨hh, at', n⟩ = zeros n := by
  rcases h with ⟨rfl, rfl, rfl⟩ | ⟨h0, mem1, hp, hle, rfl⟩
  · refine ⟨List.pairwise_append.2 ⟨ha, List.pairwise_singleton _ _, fun a _ b hb => ?_⟩, fun x _ => rfl, rfl⟩
    rw [List.mem_singleton] at hb
    subst hb
    exact Or.inr (Or.inl rfl)
  · rw [fill_len] at hl
    obtain ⟨h1, h2⟩ := place_plain hp h0 ha hi
    refine ⟨List.pairwise_append.2 ⟨ha, List.pairwise_singleton _ _, fun a haa b hb => ?_⟩, fun x hx => oct_of (hi x hx) (fun j j1 j2 j3 j4 => ?_), ?_⟩
    · rw [List.mem_singleton] at hb
      subst hb
      by_cases hz : a.len = 0
      · exact Or.inl hz
      · rcases h1 a haa hz with h | h
        · exact Or.inr (Or.inr (Or.inl h))
        · exact Or.inr (Or.inr (Or.inr h))
    · rw [fill_at 0 n mem1 at' j hl, if_neg (by have := h1 x hx j2; omega), h2 j j1]
    · show ((fill 0 mem1 at' n).drop at').take n = zeros n
      rw [fill_self 0 mem1 at' n hl]
      rfl
/-- Octets of another number. -/
def rsO (o : List Int) (n : Nat) : List Int := o.take n ++ zeros (n - o.length)
theorem rsO_len (o : List Int) (n : Nat) : (rsO o n).length = n := by
  unfold rsO zeros
  rw [List.length_append, List.length_take, List.length_replicate]
  omega
theorem rsO_get (o : List Int) (n j : Nat) : (rsO o n)[j]? = if j < n then (if j < o.length then o[j]? else some 0) else none := by
  unfold rsO zeros
  by_cases h1 : j < n
  · rw [if_pos h1]
    by_cases h2 : j < o.length
    · rw [if_pos h2, List.getElem?_append_left (by rw [List.length_take]; omega), List.getElem?_take_of_lt h1]
    · rw [if_neg h2, List.getElem?_append_right (by rw [List.length_take]; omega), List.getElem?_replicate, if_pos (by rw [List.length_take]; omega)]
  · rw [if_neg h1, List.getElem?_eq_none (by rw [List.length_append, List.length_take, List.length_replicate]; omega)]
theorem octB_get (m : List Int) (x : Blk) (j : Nat) : (octB m x)[j]? = if j < x.len then m[x.at' + j]? else none := by
  unfold octB
  rw [List.getElem?_take]
  split
  · rw [List.getElem?_drop]
  · rfl
theorem apart_set {l : List Blk} {i : Nat} {x y : Blk} (ha : l.Pairwise apartB) (hx : l[i]? = some x) (hy : ∀ (j : Nat) (z : Blk), l[j]? = some z → j ≠ i → apartB z y) : (l.set i y).Pairwise apartB := by
  rw [List.pairwise_iff_getElem] at ha ⊢
  intro p q hp hq hpq
  rw [List.getElem_set, List.getElem_set]
  rw [List.length_set] at hp hq
  have base := ha p q hp hq hpq
  split
  · next e1 =>
    split
    · omega
    · next e2 => exact apartB_symm (hy q _ (List.getElem?_eq_getElem hq) (fun e => e2 e.symm))
  · next e1 =>
    split
    · next e2 => exact hy p _ (List.getElem?_eq_getElem hp) (fun e => e1 e.symm)
    · exact base
theorem apart_at {l : List Blk} (ha : l.Pairwise apartB) {i j : Nat} {x z : Blk} (hx : l[i]? = some x) (hz : l[j]? = some z) (hne : j ≠ i) : apartB z x := by
  rw [List.pairwise_iff_getElem] at ha
  obtain ⟨h1, e1⟩ := List.getElem?_eq_some_iff.1 hx
  obtain ⟨h2, e2⟩ := List.getElem?_eq_some_iff.1 hz
  rcases Nat.lt_or_gt_of_ne hne with h | h
  · have := ha j i h2 h1 h
    rw [e1, e2] at this
    exact this
  · have := ha i j h1 h2 h
    rw [e1, e2] at this
    exact apartB_symm this
theorem resize_plain {S : HpSt} {M n i : Nat} {x y : Blk} {mem2 : List Int} (ha : S.bl.Pairwise apartB) (hi : ∀ x ∈ S.bl, x.at' + x.len ≤ S.mem.length) (hx : S.bl[i]? = some x) (h : RzOk S M x n y mem2) :
    (S.bl.set i y).Pairwise apartB ∧ (∀ (j : Nat) (z : Blk), S.bl[j]? = some z → j ≠ i → octB mem2 z = octB S.mem z) ∧ octB mem2 y = rsO (octB S.mem x) n ∧ y.h = x.h ∧ y.len = n := by
  have hxi := hi x (List.mem_of_getElem? hx)
  have hol : (octB S.mem x).length = x.len := octB_len hxi
  rcases h with ⟨hn, rfl, rfl⟩ | ⟨hn, hx0, ⟨L, hs, hany⟩, rfl, rfl⟩ | ⟨hn, _, at', mem1, hp, hle, hle2, rfl, rfl⟩
  · refine ⟨apart_set ha hx (fun j z hz hne => ?_), fun j z _ _ => rfl, ?_, rfl, rfl⟩
    · have := apart_at ha hx hz hne
      unfold apartB at this ⊢
      show z.len = 0 ∨ n = 0 ∨ z.at' + z.len ≤ (if n = 0 then 0 else x.at') ∨ (if n = 0 then 0 else x.at') + n ≤ z.at'
      split
      · next h => exact Or.inr (Or.inl h)
      · omega
    · refine List.ext_getElem? (fun j => ?_)
      rw [octB_get, rsO_get]
      show (if j < n then S.mem[(if n = 0 then 0 else x.at') + j]? else none) = _
      by_cases hj : j < n
      · rw [if_pos hj, if_pos hj, if_neg (by omega), if_pos (by rw [hol]; omega), octB_get, if_pos (by omega)]
      · rw [if_neg hj, if_neg hj]
  · obtain ⟨g, hg, hst⟩ := List.any_eq_true.1 hany
    unfold stB at hst
    simp only [Bool.and_eq_true, decide_eq_true_eq] at hst
    have hc := chain_of hs ha
    obtain ⟨_, k2, k3⟩ := gapsG_apart L 0 S.mem.length hc (fun x hx => ⟨Nat.zero_le _, hi x (hs.mem hx).1⟩) (Nat.zero_le _) g hg
    have hin : x.at' + n ≤ S.mem.length := by omega
    have oth : ∀ (j : Nat) (z : Blk), S.bl[j]? = some z → j ≠ i → z.len ≠ 0 → z.at' + z.len ≤ x.at' ∨ x.at' + n ≤ z.at' := fun j z hz hne hz0 => by
      have h1 := apart_at ha hx hz hne
      have h2 := k3 z (hs.mem' (List.mem_of_getElem? hz) hz0)
      unfold apartB at h1
      omega
    have hl2 : x.at' + x.len + (n - x.len) ≤ S.mem.length := by omega
    refine ⟨apart_set ha hx (fun j z hz hne => ?_), fun j z hz hne => oct_of (hi z (List.mem_of_getElem? hz)) (fun t t1 t2 t3 t4 => ?_), ?_, rfl, rfl⟩
    · by_cases hz0 : z.len = 0
      · exact Or.inl hz0
      · have := oth j z hz hne hz0
        unfold apartB
        show _ ∨ n = 0 ∨ z.at' + z.len ≤ x.at' ∨ x.at' + n ≤ z.at'
        omega
    · have := oth j z hz hne t2
      rw [fill_at 0 _ _ _ _ hl2, if_neg (by omega)]
    · refine List.ext_getElem? (fun j => ?_)
      rw [octB_get, rsO_get]
      show (if j < n then (fill 0 S.mem (x.at' + x.len) (n - x.len))[x.at' + j]? else none) = _
      by_cases hj : j < n
      · rw [if_pos hj, if_pos hj, fill_at 0 _ _ _ _ hl2, hol]
        by_cases hj2 : j < x.len
        · rw [if_neg (by omega), if_pos hj2, octB_get, if_pos hj2]
        · rw [if_pos (by omega), if_neg hj2]
      · rw [if_neg hj, if_neg hj]
  · obtain ⟨p1, p2⟩ := place_plain hp (by omega) ha hi
    have e1 : octB mem1 x = octB S.mem x := octB_same (fun j h1 h2 => p2 j (by omega))
    rw [e1]
    have hsl : at' + (octB S.mem x).length ≤ mem1.length := by rw [hol]; omega
    have hsl2 := splice_ln hsl
    have hl2 : at' + x.len + (n - x.len) ≤ (splice mem1 at' (octB S.mem x)).length := by rw [hsl2]; omega
    refine ⟨apart_set ha hx (fun j z hz hne => ?_), fun j z hz hne => oct_of (hi z (List.mem_of_getElem? hz)) (fun t t1 t2 t3 t4 => ?_), ?_, rfl, rfl⟩
    · by_cases hz0 : z.len = 0
      · exact Or.inl hz0
      · have := p1 z (List.mem_of_getElem? hz) hz0
        unfold apartB
        show _ ∨ n = 0 ∨ z.at' + z.len ≤ at' ∨ at' + n ≤ z.at'
        omega
    · have := p1 z (List.mem_of_getElem? hz) t2
      rw [fill_at 0 _ _ _ _ hl2, if_neg (by omega), splice_get hsl, if_neg (by rw [hol]; omega), p2 t t1]
    · refine List.ext_getElem? (fun j => ?_)
      rw [octB_get, rsO_get]
      show (if j < n then (fill 0 (splice mem1 at' (octB S.mem x)) (at' + x.len) (n - x.len))[at' + j]? else none) = _
      by_cases hj : j < n
      · rw [if_pos hj, if_pos hj, fill_at 0 _ _ _ _ hl2, hol]
        by_cases hj2 : j < x.len
        · rw [if_neg (by omega), if_pos hj2, splice_get hsl, if_pos (by rw [hol]; omega), Nat.add_sub_cancel_left]
        · rw [if_pos (by omega), if_neg hj2]
      · rw [if_neg hj, if_neg hj]

/-! The plain map beside the blocks. -/
def ConB (S : HpSt) (R : RowsL) : Prop := R.map (fun p => (p.1, p.2.2)) = S.bl.map (fun x => (x.h, octB S.mem x))
theorem con_keys {S : HpSt} {R : RowsL} (h : ConB S R) : R.map Prod.fst = S.bl.map Blk.h := by
  have := congrArg (List.map Prod.fst) h
  rw [List.map_map, List.map_map] at this
  exact this
theorem con_look {S : HpSt} {R : RowsL} (h : ConB S R) (k : Int) : match findB S.bl k with
    | none => lookN R k = none
    | some (i, x) => ∃ o, lookN R k = some (o, octB S.mem x) ∧ R[i]? = some (x.h, o, octB S.mem x) := by
  unfold ConB at h
  generalize hc : (fun x : Blk => octB S.mem x) = c at *
  have hc' : ∀ x, octB S.mem x = c x := fun x => congrFun hc x
  simp only [hc'] at h ⊢
  clear hc hc'
  generalize S.bl = l at *
  induction l generalizing R with
  | nil =>
    cases R with
    | nil => rfl
    | cons p R => simp at h
  | cons x l ih =>
    cases R with
    | nil => simp at h
    | cons p R =>
      rw [List.map_cons, List.map_cons, List.cons.injEq, Prod.mk.injEq] at h
      obtain ⟨⟨h1, h2⟩, h3⟩ := h
      have ih := ih h3
      unfold findB
      by_cases hk : (x.h : Int) = k
      · rw [if_pos hk]
        refine ⟨p.2.1, ?_, ?_⟩
        · unfold lookN
          rw [List.find?_cons]
          have : (p.1 : Int) = k := by omega
          simp only [this, decide_true, Option.map_some]
          rw [← h2]
        · show some p = _
          rw [← h1, ← h2]
      · rw [if_neg hk]
        have e : lookN (p :: R) k = lookN R k := by
          unfold lookN
          rw [List.find?_cons]
          have : ¬ (p.1 : Int) = k := by omega
          simp only [this, decide_false]
        rw [e]
        cases hf : findB l k with
        | none => rw [hf] at ih; exact ih
        | some q =>
          rw [hf] at ih
          obtain ⟨o, i1, i2⟩ := ih
          exact ⟨o, i1, by simpa using i2⟩
theorem con_sum {S : HpSt} {R : RowsL} (h : ConB S R) (hi : ∀ x ∈ S.bl, x.at' + x.len ≤ S.mem.length) : (R.map fun p => p.2.2.length).sum = sumB S.bl := by
  have h1 := congrArg (List.map fun q : Nat × List Int => q.2.length) h
  rw [List.map_map, List.map_map] at h1
  have h2 : S.bl.map ((fun q : Nat × List Int => q.2.length) ∘ fun x => (x.h, octB S.mem x)) = S.bl.map Blk.len := List.map_congr_left (fun x hx => octB_len (hi x hx))
  rw [h2] at h1
  show (R.map ((fun q : Nat × List Int => q.2.length) ∘ fun p => (p.1, p.2.2))).sum = _
  rw [h1]
  rfl
theorem findB_none_of {l : List Blk} {k : Int} (h : ∀ x ∈ l, (x.h : Int) ≠ k) : findB l k = none := by
  induction l with
  | nil => rfl
  | cons x l ih =>
    unfold findB
    rw [if_neg (h x List.mem_cons_self), ih (fun y hy => h y (List.mem_cons_of_mem _ hy))]
    rfl
theorem findB_none {l : List Blk} {k : Int} (h : findB l k = none) : ∀ x ∈ l, (x.h : Int) ≠ k := by
  induction l with
  | nil => intro x hx; cases hx
  | cons y l ih =>
    unfold findB at h
    split at h
    · cases h
    · next hy =>
      intro x hx
      rcases List.mem_cons.1 hx with rfl | hx
      · exact hy
      · refine ih ?_ x hx
        cases hf : findB l k with
        | none => rfl
        | some q => rw [hf] at h; cases h
/-- find's error beside the map. -/
theorem fnd_iff {S : HpSt} {R : RowsL} (h : ConB S R) (hc : S.closed = false) (hr : ∀ x ∈ S.bl, 1 ≤ x.h ∧ x.h ≤ S.last) (k : Int) : (fndE S k = 0 ↔ (lookN R k).isSome = true) ∧ (1 ≤ k → k ≤ (S.last : Int) → (lookN R k).isSome = false → fndE S k = 13) := by
  have hl := con_look h k
  unfold fndE
  rw [hc, if_neg (by simp)]
  cases hf : findB S.bl k with
  | none =>
    rw [hf] at hl
    rw [hl]
    refine ⟨⟨fun h => ?_, fun h => by cases h⟩, fun h1 h2 _ => by rw [if_neg (by simp; omega)]⟩
    split at h <;> cases h
  | some q =>
    obtain ⟨i, x⟩ := q
    rw [hf] at hl
    obtain ⟨o, h1, _⟩ := hl
    obtain ⟨hx, hk⟩ := findB_at hf
    have := hr x (List.mem_of_getElem? hx)
    rw [h1, if_neg (by omega)]
    exact ⟨⟨fun _ => rfl, fun _ => rfl⟩, fun _ _ h => by cases h⟩
/-- Trace, after a compaction, of the blocks before it. -/
theorem find_only {l : List Blk} {p : Blk → Bool} {x : Blk} (hx : x ∈ l) (hp : p x = true) (h : ∀ y ∈ l, p y = true → y = x) : l.find? p = some x := by
  cases hf : l.find? p with
  | none => exact absurd hp (List.find?_eq_none.1 hf x hx)
  | some y => rw [h y (List.mem_of_find?_eq_some hf) (List.find?_some hf)]
theorem hit_only {l : List Blk} (ha : l.Pairwise apartB) {x : Blk} (hx : x ∈ l) (h0 : x.len ≠ 0) : l.find? (hitB ((x.at' + x.len : Nat) - 1 : Int)) = some x := by
  refine find_only hx ?_ (fun y hy hp => ?_)
  · unfold hitB
    simp
    omega
  · unfold hitB at hp
    simp at hp
    obtain ⟨i, hi⟩ := List.mem_iff_getElem?.1 hx
    obtain ⟨j, hj⟩ := List.mem_iff_getElem?.1 hy
    by_cases e : j = i
    · subst e
      rw [hi] at hj
      simpa using hj.symm
    · have := apart_at ha hi hj e
      unfold apartB at this
      omega

end Go.Proofs.Ytjogaohnphafgaa
