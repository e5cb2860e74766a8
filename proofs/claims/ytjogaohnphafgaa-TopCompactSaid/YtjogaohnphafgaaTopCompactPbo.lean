/-
  Blocks moved together: the plain part. No conditions.
-/
import Derived.Test.YtjogaohnphafgaaTopCompactPbn
namespace Go.Proofs.Ytjogaohnphafgaa
open Go.RowKit
set_option linter.unusedVariables false

/-- What holds while blocks are moved together: those in l are still to be moved, all others lie below a. -/
structure CpI (S0 S : HpSt) (a : Nat) (l : List Blk) : Prop where
  st : S = { S0 with mem := S.mem, bl := S.bl }
  len : S.mem.length = S0.mem.length
  con : S.bl.map (fun x => (x.h, octB S.mem x)) = S0.bl.map (fun x => (x.h, octB S0.mem x))
  ln : S.bl.map (fun x => (x.h, x.len)) = S0.bl.map (fun x => (x.h, x.len))
  nd : (S.bl.map Blk.h).Nodup
  ap : S.bl.Pairwise apartB
  ch : Chain l
  sub : ∀ x ∈ l, x ∈ S.bl ∧ x.len ≠ 0 ∧ a ≤ x.at'
  don : ∀ x ∈ S.bl, x.len ≠ 0 → x ∈ l ∨ x.at' + x.len ≤ a
  sm : a + sumB l = sumB S.bl
  inn : ∀ x ∈ S.bl, x.at' + x.len ≤ S.mem.length
theorem CpI.start {S : HpSt} {L : List Blk} (hs : SortedL (lieL S.bl) L) (ha : S.bl.Pairwise apartB) (hn : (S.bl.map Blk.h).Nodup) (hi : ∀ x ∈ S.bl, x.at' + x.len ≤ S.mem.length) : CpI S S 0 L :=
  ⟨rfl, rfl, rfl, rfl, hn, ha, chain_of hs ha, fun x hx => ⟨(hs.mem hx).1, (hs.mem hx).2, Nat.zero_le _⟩, fun x hx h0 => Or.inl (hs.mem' hx h0), by rw [hs.sum]; omega, hi⟩
theorem CpI.skip {S0 S : HpSt} {a : Nat} {x : Blk} {l : List Blk} (h : CpI S0 S a (x :: l)) (hx : x.at' = a) : CpI S0 S (a + x.len) l := by
  obtain ⟨c1, c2⟩ := chain_cons h.ch
  refine ⟨h.st, h.len, h.con, h.ln, h.nd, h.ap, c2, fun y hy => ?_, fun y hy h0 => ?_, ?_, h.inn⟩
  · have := h.sub y (List.mem_cons_of_mem _ hy)
    exact ⟨this.1, this.2.1, by rw [← hx]; exact c1 y hy⟩
  · rcases h.don y hy h0 with h1 | h1
    · rcases List.mem_cons.1 h1 with rfl | h1
      · exact Or.inr (by omega)
      · exact Or.inl h1
    · exact Or.inr (by omega)
  · have := h.sm
    rw [sumB_cons] at this
    omega
theorem CpI.norm {S0 S : HpSt} : ∀ (l : List Blk) {a : Nat}, CpI S0 S a l → ∃ a' l', shiftsG a l = shiftsG a' l' ∧ CpI S0 S a' l' ∧ (l' = [] ∨ ∃ x l'', l' = x :: l'' ∧ x.at' ≠ a')
  | [], a, h => ⟨a, [], rfl, h, Or.inl rfl⟩
  | x :: l, a, h => by
    by_cases hx : x.at' = a
    · obtain ⟨a', l', h1, h2, h3⟩ := CpI.norm l (h.skip hx)
      refine ⟨a', l', ?_, h2, h3⟩
      rw [← h1]
      show (if x.at' = a then [] else _) ++ _ = _
      rw [if_pos hx]
      rfl
    · exact ⟨a, x :: l, rfl, h, Or.inr ⟨x, l, rfl, hx⟩⟩
theorem findB_of_mem : ∀ {l : List Blk} {x : Blk}, (l.map Blk.h).Nodup → x ∈ l → ∃ i, findB l (x.h : Int) = some (i, x)
  | y :: l, x, hn, hx => by
    rw [List.map_cons, List.nodup_cons] at hn
    unfold findB
    rcases List.mem_cons.1 hx with rfl | hx
    · exact ⟨0, by rw [if_pos rfl]⟩
    · have hne : ¬ ((y.h : Int) = (x.h : Int)) := fun e => hn.1 (by
        have e' : y.h = x.h := by omega
        rw [e']
        exact List.mem_map_of_mem hx)
      obtain ⟨i, hi⟩ := findB_of_mem hn.2 hx
      exact ⟨i + 1, by rw [if_neg hne, hi]; rfl⟩
/-- Octets where a block was written elsewhere. -/
theorem splice_get {m cs : List Int} {o j : Nat} (h : o + cs.length ≤ m.length) : (splice m o cs)[j]? = if o ≤ j ∧ j < o + cs.length then cs[j - o]? else m[j]? := by
  unfold splice
  have e1 : (m.take o).length = o := by rw [List.length_take]; omega
  by_cases h1 : j < o
  · rw [List.getElem?_append_left (by omega), List.getElem?_take_of_lt h1, if_neg (by omega)]
  · rw [List.getElem?_append_right (by omega), e1]
    by_cases h2 : j < o + cs.length
    · rw [List.getElem?_append_left (by omega), if_pos ⟨by omega, h2⟩]
    · rw [List.getElem?_append_right (by omega), List.getElem?_drop, if_neg (by omega)]
      congr 1
      omega
theorem splice_ln {m cs : List Int} {o : Nat} (h : o + cs.length ≤ m.length) : (splice m o cs).length = m.length := by
  unfold splice
  simp
  omega
theorem CpI.step {S0 S : HpSt} {a i : Nat} {x : Blk} {l : List Blk} (h : CpI S0 S a (x :: l)) (hf : findB S.bl (x.h : Int) = some (i, x)) :
    CpI S0 { S with mem := splice S.mem a (octB S.mem x), bl := S.bl.set i ⟨x.h, a, x.len⟩ } (a + x.len) l := by
  obtain ⟨c1, c2⟩ := chain_cons h.ch
  obtain ⟨hx, hx0, hxa⟩ := h.sub x List.mem_cons_self
  have hix := (findB_at hf).1
  have hil := (List.getElem?_eq_some_iff.1 hix).1
  have hin := h.inn x hx
  have hol : (octB S.mem x).length = x.len := octB_len hin
  have hle : a + (octB S.mem x).length ≤ S.mem.length := by rw [hol]; omega
  have hsl := splice_ln hle
  -- the others
  have oth : ∀ j y, S.bl[j]? = some y → j ≠ i → y ≠ x := fun j y hj hne e => hne (by
    have h1 : (S.bl.map Blk.h)[j]? = some x.h := by rw [List.getElem?_map, hj, e]; rfl
    have h2 : (S.bl.map Blk.h)[i]? = some x.h := by rw [List.getElem?_map, hix]; rfl
    exact ((List.getElem?_inj (by rw [List.length_map]; exact (List.getElem?_eq_some_iff.1 hj).1) h.nd).1 (h1.trans h2.symm)))
  have apx : ∀ y ∈ S.bl, y ≠ x → y.len ≠ 0 → y.at' + y.len ≤ a ∨ x.at' + x.len ≤ y.at' := fun y hy hne h0 => by
    rcases h.don y hy h0 with h1 | h1
    · rcases List.mem_cons.1 h1 with e | h1
      · exact absurd e hne
      · exact Or.inr (c1 y h1)
    · exact Or.inl h1
  have con1 : ∀ j y, S.bl[j]? = some y → j ≠ i → octB (splice S.mem a (octB S.mem x)) y = octB S.mem y := fun j y hj hne => by
    refine octB_same (fun t ht1 ht2 => ?_)
    have := apx y (List.mem_of_getElem? hj) (oth j y hj hne) (by omega)
    rw [splice_get hle, if_neg (by rw [hol]; omega)]
  have conx : octB (splice S.mem a (octB S.mem x)) ⟨x.h, a, x.len⟩ = octB S.mem x := by
    show ((splice S.mem a (octB S.mem x)).drop a).take x.len = _
    refine List.ext_getElem? (fun t => ?_)
    rw [List.getElem?_take]
    split
    · next ht => rw [List.getElem?_drop, splice_get hle, if_pos (by rw [hol]; omega)]; congr 1; omega
    · next ht => rw [List.getElem?_eq_none (by rw [hol]; omega)]
  have memb : ∀ y, y ∈ S.bl.set i ⟨x.h, a, x.len⟩ → y = ⟨x.h, a, x.len⟩ ∨ (y ∈ S.bl ∧ y ≠ x) := fun y hy => by
    obtain ⟨j, hj⟩ := List.mem_iff_getElem?.1 hy
    rw [List.getElem?_set] at hj
    split at hj
    · exact Or.inl (by simpa using hj.symm)
    · next hne => exact Or.inr ⟨List.mem_of_getElem? hj, oth j y hj (fun e => hne e.symm)⟩
  refine ⟨?_, ?_, ?_, ?_, ?_, ?_, c2, fun y hy => ?_, fun y hy h0 => ?_, ?_, fun y hy => ?_⟩
  · have := h.st
    rw [this]
  · exact hsl.trans h.len
  · rw [← h.con]
    refine List.ext_getElem? (fun j => ?_)
    rw [List.getElem?_map, List.getElem?_map, List.getElem?_set]
    by_cases e : i = j
    · subst e
      rw [if_pos rfl, if_pos hil, hix]
      simp only [Option.map_some]
      rw [conx]
    · rw [if_neg e]
      cases hj : S.bl[j]? with
      | none => rfl
      | some y =>
        simp only [Option.map_some]
        rw [con1 j y hj (fun e' => e e'.symm)]
  · rw [← h.ln]
    refine List.ext_getElem? (fun j => ?_)
    rw [List.getElem?_map, List.getElem?_map, List.getElem?_set]
    by_cases e : i = j
    · subst e
      rw [if_pos rfl, if_pos hil, hix]
      rfl
    · rw [if_neg e]
  · show ((S.bl.set i ⟨x.h, a, x.len⟩).map Blk.h).Nodup
    rw [set_map_h (y := ⟨x.h, a, x.len⟩) hix rfl]
    exact h.nd
  · show (S.bl.set i ⟨x.h, a, x.len⟩).Pairwise apartB
    have key : ∀ y ∈ S.bl, y ≠ x → apartB y ⟨x.h, a, x.len⟩ := fun y hy hne => by
      by_cases h0 : y.len = 0
      · exact Or.inl h0
      · have := apx y hy hne h0
        unfold apartB
        simp only
        omega
    rw [List.pairwise_iff_getElem]
    intro p q hp hq hpq
    rw [List.getElem_set, List.getElem_set]
    rw [List.length_set] at hp hq
    have base := (List.pairwise_iff_getElem.1 h.ap) p q hp hq hpq
    split
    · next e1 =>
      split
      · omega
      · next e2 => exact apartB_symm (key _ (List.getElem_mem hq) (oth q _ (List.getElem?_eq_getElem hq) (fun e => e2 e.symm)))
    · next e1 =>
      split
      · next e2 => exact key _ (List.getElem_mem hp) (oth p _ (List.getElem?_eq_getElem hp) (fun e => e1 e.symm))
      · exact base
  · obtain ⟨h1, h2, h3⟩ := h.sub y (List.mem_cons_of_mem _ hy)
    have h4 := c1 y hy
    refine ⟨?_, h2, by omega⟩
    obtain ⟨j, hj⟩ := List.mem_iff_getElem?.1 h1
    refine List.mem_iff_getElem?.2 ⟨j, ?_⟩
    rw [List.getElem?_set, if_neg (fun e => ?_)]
    · exact hj
    · subst e
      rw [hix] at hj
      simp only [Option.some.injEq] at hj
      subst hj
      omega
  · rcases memb y hy with rfl | ⟨h1, h2⟩
    · exact Or.inr (Nat.le_refl _)
    · rcases h.don y h1 h0 with h3 | h3
      · rcases List.mem_cons.1 h3 with e | h3
        · exact absurd e h2
        · exact Or.inl h3
      · exact Or.inr (by omega)
  · have h1 := h.sm
    rw [sumB_cons] at h1
    have h2 : sumB (S.bl.set i ⟨x.h, a, x.len⟩) = sumB S.bl := by
      unfold sumB
      congr 1
      refine List.ext_getElem? (fun j => ?_)
      rw [List.getElem?_map, List.getElem?_map, List.getElem?_set]
      by_cases e : i = j
      · subst e
        rw [if_pos rfl, if_pos hil, hix]
        rfl
      · rw [if_neg e]
    show a + x.len + sumB l = sumB (S.bl.set i ⟨x.h, a, x.len⟩)
    omega
  · show y.at' + y.len ≤ (splice S.mem a (octB S.mem x)).length
    rw [hsl]
    rcases memb y hy with rfl | ⟨h1, h2⟩
    · show a + x.len ≤ _
      omega
    · exact h.inn y h1

end Go.Proofs.Ytjogaohnphafgaa
