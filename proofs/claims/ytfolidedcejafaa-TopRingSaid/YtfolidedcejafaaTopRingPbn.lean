/-
  What a ring holds, behind reads and writes: plain laws. Conditions: numbers in their bounds.
-/
import Derived.Test.YtfolidedcejafaaTopRingPav
namespace Go.Proofs.Ytfolidedcejafaa
set_option linter.unusedVariables false

theorem cellN_wrap {st R n : Nat} (hs : st < R) (hn : n ≤ R) : cellN st R n = if st + n < R then st + n else st + n - R := by
  unfold cellN
  rw [if_neg (by omega)]
  split
  · rename_i h; exact Nat.mod_eq_of_lt h
  · rename_i h; rw [Nat.mod_eq_sub_mod (by omega), Nat.mod_eq_of_lt (by omega)]
theorem cellN_zero {st R : Nat} (hs : st < R ∨ (st = 0 ∧ R = 0)) : cellN st R 0 = st := by
  rcases hs with h | ⟨rfl, rfl⟩
  · rw [cellN_wrap h (by omega), if_pos (by omega)]; omega
  · rfl
theorem octL_get {cs : List Int} {c n : Nat} (hc : c < cs.length) (hn : n ≤ cs.length) (i : Nat) (hi : i < n) : (octL cs c n)[i]? = cs[if c + i < cs.length then c + i else c + i - cs.length]? := by
  unfold octL
  have hl : ((cs.drop c).take (min (c + n) cs.length - c)).length = min (c + n) cs.length - c := by rw [List.length_take, List.length_drop]; omega
  by_cases h : c + i < cs.length
  · rw [if_pos h, List.getElem?_append_left (by omega), List.getElem?_take, if_pos (by omega), List.getElem?_drop]
  · rw [if_neg h, List.getElem?_append_right (by omega), hl, List.getElem?_take, if_pos (by omega)]
    congr 1
    omega
theorem splice_get (cs xs : List Int) (c j : Nat) (hc : c + xs.length ≤ cs.length) : (splice cs c xs)[j]? = if j < c then cs[j]? else if j < c + xs.length then xs[j - c]? else cs[j]? := by
  unfold splice
  have hl : (cs.take c).length = c := by rw [List.length_take]; omega
  by_cases h1 : j < c
  · simp only [h1, if_true]
    rw [List.getElem?_append_left (by omega), List.getElem?_take, if_pos h1]
  · simp only [h1, if_false]
    rw [List.getElem?_append_right (by omega), hl]
    by_cases h2 : j < c + xs.length
    · rw [if_pos h2, List.getElem?_append_left (by omega)]
    · rw [if_neg h2, List.getElem?_append_right (by omega), List.getElem?_drop]
      congr 1
      omega
theorem putL_get {cs zs : List Int} {c : Nat} (hc : c < cs.length) (hn : zs.length ≤ cs.length) (j : Nat) (hj : j < cs.length) :
    (putL cs c zs)[j]? = if c ≤ j ∧ j < c + zs.length then zs[j - c]? else if j + cs.length < c + zs.length then zs[j + cs.length - c]? else cs[j]? := by
  unfold putL
  have hd : putD cs.length c zs.length = min (c + zs.length) cs.length - c := rfl
  generalize putD cs.length c zs.length = d at *
  have l1 : (zs.take d).length = d := by rw [List.length_take]; omega
  have l2 : (zs.drop d).length = zs.length - d := List.length_drop
  rw [splice_get _ _ _ _ (by rw [splice_len _ _ _ (by rw [l1]; omega), l2]; omega), splice_get _ _ _ _ (by rw [l1]; omega), l1, l2]
  simp only [Nat.not_lt_zero, if_false, Nat.zero_add, Nat.sub_zero]
  by_cases h1 : j < zs.length - d
  · rw [if_pos h1, if_neg (by omega), if_pos (by omega), List.getElem?_drop]
    congr 1
    omega
  · rw [if_neg h1]
    by_cases h2 : j < c
    · rw [if_pos h2, if_neg (by omega), if_neg (by omega)]
    · rw [if_neg h2]
      by_cases h3 : j < c + d
      · rw [if_pos h3, if_pos (by omega), List.getElem?_take, if_pos (by omega)]
      · rw [if_neg h3, if_neg (by omega), if_neg (by omega)]

def ringOk (cs : List Int) (st R len : Nat) : Prop := cs.length = R ∧ len ≤ R ∧ (st < R ∨ (st = 0 ∧ R = 0))
theorem octL_take {cs : List Int} {st R len n : Nat} (h : ringOk cs st R len) (hn : n ≤ len) : octL cs st n = (octL cs st len).take n := by
  obtain ⟨h1, h2, h3⟩ := h
  rcases h3 with h3 | ⟨rfl, rfl⟩
  · have la := octL_len cs st n (by omega) (by omega)
    have lb := octL_len cs st len (by omega) (by omega)
    apply List.ext_getElem?
    intro i
    by_cases hi : i < n
    · rw [List.getElem?_take, if_pos hi, octL_get (by omega) (by omega) i hi, octL_get (by omega) (by omega) i (by omega)]
    · rw [List.getElem?_eq_none (by omega), List.getElem?_eq_none (by rw [List.length_take]; omega)]
  · obtain rfl : cs = [] := List.eq_nil_of_length_eq_zero h1
    simp [octL]
theorem octL_drop {cs : List Int} {st R len n : Nat} (h : ringOk cs st R len) (hn : n ≤ len) : octL cs (cellN st R n) (len - n) = (octL cs st len).drop n ∧ ringOk cs (cellN st R n) R (len - n) := by
  obtain ⟨h1, h2, h3⟩ := h
  rcases h3 with h3 | ⟨rfl, rfl⟩
  · have hw := cellN_wrap h3 (show n ≤ R by omega)
    have hc : cellN st R n < R := by rw [hw]; split <;> omega
    refine ⟨?_, h1, by omega, Or.inl hc⟩
    have la := octL_len cs (cellN st R n) (len - n) (by omega) (by omega)
    have lb := octL_len cs st len (by omega) (by omega)
    apply List.ext_getElem?
    intro i
    by_cases hi : i < len - n
    · rw [List.getElem?_drop, octL_get (by omega) (by omega) i hi, octL_get (by omega) (by omega) (n + i) (by omega), hw]
      congr 1
      split <;> split <;> split <;> omega
    · rw [List.getElem?_eq_none (by omega), List.getElem?_eq_none (by rw [List.length_drop]; omega)]
  · obtain rfl : cs = [] := List.eq_nil_of_length_eq_zero h1
    have : len = 0 := by omega
    subst this
    have : n = 0 := by omega
    subst this
    simp [octL, ringOk, cellN]
theorem octL_put {cs zs : List Int} {st R len : Nat} (h : ringOk cs st R len) (hn : len + zs.length ≤ R) : octL (putL cs (cellN st R len) zs) st (len + zs.length) = octL cs st len ++ zs ∧ ringOk (putL cs (cellN st R len) zs) st R (len + zs.length) := by
  obtain ⟨h1, h2, h3⟩ := h
  rcases h3 with h3 | ⟨rfl, rfl⟩
  · have hw := cellN_wrap h3 (show len ≤ R by omega)
    have hc : cellN st R len < R := by rw [hw]; split <;> omega
    have hp := putL_len cs (cellN st R len) zs (by omega) (by omega)
    refine ⟨?_, by omega, by omega, Or.inl h3⟩
    have la := octL_len (putL cs (cellN st R len) zs) st (len + zs.length) (by omega) (by omega)
    have lb := octL_len cs st len (by omega) (by omega)
    apply List.ext_getElem?
    intro i
    by_cases hi : i < len + zs.length
    · rw [octL_get (by omega) (by omega) i hi, hp, putL_get (by omega) (by omega) _ (by split <;> omega)]
      by_cases hl : i < len
      · rw [List.getElem?_append_left (by omega), octL_get (by omega) (by omega) i hl, if_neg (by rw [hw]; split <;> split <;> omega), if_neg (by rw [hw]; split <;> split <;> omega)]
      · rw [List.getElem?_append_right (by omega), lb, hw]
        by_cases ha : st + len < R
        · simp only [if_pos ha]
          by_cases hb : st + i < cs.length
          · simp only [if_pos hb]
            rw [if_pos (by omega)]; congr 1; omega
          · simp only [if_neg hb]
            rw [if_neg (by omega), if_pos (by omega)]; congr 1; omega
        · simp only [if_neg ha]
          have hb : ¬ st + i < cs.length := by omega
          simp only [if_neg hb]
          rw [if_pos (by omega)]; congr 1; omega
    · rw [List.getElem?_eq_none (by omega), List.getElem?_eq_none (by rw [List.length_append]; omega)]
  · obtain rfl : cs = [] := List.eq_nil_of_length_eq_zero h1
    have : len = 0 := by omega
    subst this
    obtain rfl : zs = [] := List.eq_nil_of_length_eq_zero (by omega)
    simp [octL, ringOk, putL, splice]
theorem octL_zeros {os : List Int} {len V : Nat} (hl : os.length = len) (hV : len ≤ V) : octL (os ++ zeros (V - len)) 0 len = os ∧ ringOk (os ++ zeros (V - len)) 0 V len := by
  have hz : (os ++ zeros (V - len)).length = V := by rw [List.length_append, hl]; simp [zeros]; omega
  refine ⟨?_, hz, hV, by omega⟩
  unfold octL
  rw [hz, Nat.zero_add, Nat.min_eq_left hV, List.drop_zero, Nat.sub_zero, Nat.sub_self, List.take_zero, List.append_nil, List.take_append_of_le_length (by omega), List.take_of_length_le (by omega)]

end Go.Proofs.Ytfolidedcejafaa
