/-
  What a ring holds, behind reads and writes: plain laws. Conditions: numbers in their bounds.
  Set of a pool: the plain part. No conditions.
  Set of a pool: the map of the parts that get a block of their own; what holds between the rounds. No conditions but bounds.
-/
import Derived.Test.YtbndknbjjdoanaaTopSharedPbh
import Derived.Test.YtbndknbjjdoanaaTopSharedPbg

namespace Go.Proofs.Ytbndknbjjdoanaa
section
set_option linter.unusedVariables false

theorem cellN_wrap {st R n : Nat} (hs : st < R) (hn : n ≤ R) : cellN st R n = if st + n < R then st + n else st + n - R := by
  unfold cellN
  rw [if_neg (by omega)]
  split
  · rename_i h; exact Nat.mod_eq_of_lt h
  · rename_i h; rw [Nat.mod_eq_sub_mod (by omega), Nat.mod_eq_of_lt (by omega)]
theorem cellN_zero {st R : Nat} (hs : st < R ∨ (st = 0 ∧ R = 0)) : cellN st R 0 = st := by
  rcases hs with h | ⟨rfl, rfl⟩
  · rw [cellN_wrap h (by omega), if_pos (by omega)]; omega
  · rfl
theorem octL_get {cs : List Int} {c n : Nat} (hc : c < cs.length) (hn : n ≤ cs.length) (i : Nat) (hi : i < n) : (octL cs c n)[i]? = cs[if c + i < cs.length then c + i else c + i - cs.length]? := by
  unfold octL
  have hl : ((cs.drop c).take (min (c + n) cs.length - c)).length = min (c + n) cs.length - c := by rw [List.length_take, List.length_drop]; omega
  by_cases h : c + i < cs.length
  · rw [if_pos h, List.getElem?_append_left (by omega), List.getElem?_take, if_pos (by omega), List.getElem?_drop]
  · rw [if_neg h, List.getElem?_append_right (by omega), hl, List.getElem?_take, if_pos (by omega)]
    congr 1
    omega
theorem splice_get (cs xs : List Int) (c j : Nat) (hc : c + xs.length ≤ cs.length) : (splice cs c xs)[j]? = if j < c then cs[j]? else if j < c + xs.length then xs[j - c]? else cs[j]? := by
  unfold splice
  have hl : (cs.take c).length = c := by rw [List.length_take]; omega
  by_cases h1 : j < c
  · simp only [h1, if_true]
    rw [List.getElem?_append_left (by omega), List.getElem?_take, if_pos h1]
  · simp only [h1, if_false]
    rw [List.getElem?_append_right (by omega), hl]
    by_cases h2 : j < c + xs.length
    · rw [if_pos h2, List.getElem?_append_left (by omega)]
    · rw [if_neg h2, List.getElem?_append_right (by omega), List.getElem?_drop]
      congr 1
      omega
theorem putL_get {cs zs : List Int} {c : Nat} (hc : c < cs.length) (hn : zs.length ≤ cs.length) (j : Nat) (hj : j < cs.length) :
    (putL cs c zs)[j]? = if c ≤ j ∧ j < c + zs.length then zs[j - c]? else if j + cs.length < c + zs.length then zs[j + cs.length - c]? else cs[j]? := by
  unfold putL
  have hd : putD cs.length c zs.length = min (c + zs.length) cs.length - c := rfl
  generalize putD cs.length c zs.length = d at *
  have l1 : (zs.take d).length = d := by rw [List.length_take]; omega
  have l2 : (zs.drop d).length = zs.length - d := List.length_drop
  rw [splice_get _ _ _ _ (by rw [splice_len _ _ _ (by rw [l1]; omega), l2]; omega), splice_get _ _ _ _ (by rw [l1]; omega), l1, l2]
  simp only [Nat.not_lt_zero, if_false, Nat.zero_add, Nat.sub_zero]
  by_cases h1 : j < zs.length - d
  · rw [if_pos h1, if_neg (by omega), if_pos (by omega), List.getElem?_drop]
    congr 1
    omega
  · rw [if_neg h1]
    by_cases h2 : j < c
    · rw [if_pos h2, if_neg (by omega), if_neg (by omega)]
    · rw [if_neg h2]
      by_cases h3 : j < c + d
      · rw [if_pos h3, if_pos (by omega), List.getElem?_take, if_pos (by omega)]
      · rw [if_neg h3, if_neg (by omega), if_neg (by omega)]

def ringOk (cs : List Int) (st R len : Nat) : Prop := cs.length = R ∧ len ≤ R ∧ (st < R ∨ (st = 0 ∧ R = 0))
theorem octL_take {cs : List Int} {st R len n : Nat} (h : ringOk cs st R len) (hn : n ≤ len) : octL cs st n = (octL cs st len).take n := by
  obtain ⟨h1, h2, h3⟩ := h
  rcases h3 with h3 | ⟨rfl, rfl⟩
  · have la := octL_len cs st n (by omega) (by omega)
    have lb := octL_len cs st len (by omega) (by omega)
    apply List.ext_getElem?
    intro i
    by_cases hi : i < n
    · rw [List.getElem?_take, if_pos hi, octL_get (by omega) (by omega) i hi, octL_get (by omega) (by omega) i (by omega)]
    · rw [List.getElem?_eq_none (by omega), List.getElem?_eq_none (by rw [List.length_take]; omega)]
  · obtain rfl : cs = [] := List.eq_nil_of_length_eq_zero h1
    simp [octL]
theorem octL_drop {cs : List Int} {st R len n : Nat} (h : ringOk cs st R len) (hn : n ≤ len) : octL cs (cellN st R n) (len - n) = (octL cs st len).drop n ∧ ringOk cs (cellN st R n) R (len - n) := by
  obtain ⟨h1, h2, h3⟩ := h
  rcases h3 with h3 | ⟨rfl, rfl⟩
  · have hw := cellN_wrap h3 (show n ≤ R by omega)
    have hc : cellN st R n < R := by rw [hw]; split <;> omega
    refine ⟨?_, h1, by omega, Or.inl hc⟩
    have la := octL_len cs (cellN st R n) (len - n) (by omega) (by omega)
    have lb := octL_len cs st len (by omega) (by omega)
    apply List.ext_getElem?
    intro i
    by_cases hi : i < len - n
    · rw [List.getElem?_drop, octL_get (by omega) (by omega) i hi, octL_get (by omega) (by omega) (n + i) (by omega), hw]
      congr 1
      split <;> split <;> split <;> omega
    · rw [List.getElem?_eq_none (by omega), List.getElem?_eq_none (by rw [List.length_drop]; omega)]
  · obtain rfl : cs = [] := List.eq_nil_of_length_eq_zero h1
    have : len = 0 := by omega
    subst this
    have : n = 0 := by omega
    subst this
    simp [octL, ringOk, cellN]
theorem octL_put {cs zs : List Int} {st R len : Nat} (h : ringOk cs st R len) (hn : len + zs.length ≤ R) : octL (putL cs (cellN st R len) zs) st (len + zs.length) = octL cs st len ++ zs ∧ ringOk (putL cs (cellN st R len) zs) st R (len + zs.length) := by
  obtain ⟨h1, h2, h3⟩ := h
  rcases h3 with h3 | ⟨rfl, rfl⟩
  · have hw := cellN_wrap h3 (show len ≤ R by omega)
    have hc : cellN st R len < R := by rw [hw]; split <;> omega
    have hp := putL_len cs (cellN st R len) zs (by omega) (by omega)
    refine ⟨?_, by omega, by omega, Or.inl h3⟩
    have la := octL_len (putL cs (cellN st R len) zs) st (len + zs.length) (by omega) (by omega)
    have lb := octL_len cs st len (by omega) (by omega)
    apply List.ext_getElem?
    intro i
    by_cases hi : i < len + zs.length
    · rw [octL_get (by omega) (by omega) i hi, hp, putL_get (by omega) (by omega) _ (by split <;> omega)]
      by_cases hl : i < len
      · rw [List.getElem?_append_left (by omega), octL_get (by omega) (by omega) i hl, if_neg (by rw [hw]; split <;> split <;> omega), if_neg (by rw [hw]; split <;> split <;> omega)]
      · rw [List.getElem?_append_right (by omega), lb, hw]
        by_cases ha : st + len < R
        · simp only [if_pos ha]
          by_cases hb : st + i < cs.length
          · simp only [if_pos hb]
            rw [if_pos (by omega)]; congr 1; omega
          · simp only [if_neg hb]
            rw [if_neg (by omega), if_pos (by omega)]; congr 1; omega
        · simp only [if_neg ha]
          have hb : ¬ st + i < cs.length := by omega
          simp only [if_neg hb]
          rw [if_pos (by omega)]; congr 1; omega
    · rw [List.getElem?_eq_none (by omega), List.getElem?_eq_none (by rw [List.length_append]; omega)]
  · obtain rfl : cs = [] := List.eq_nil_of_length_eq_zero h1
    have : len = 0 := by omega
    subst this
    obtain rfl : zs = [] := List.eq_nil_of_length_eq_zero (by omega)
    simp [octL, ringOk, putL, splice]
theorem octL_zeros {os : List Int} {len V : Nat} (hl : os.length = len) (hV : len ≤ V) : octL (os ++ zeros (V - len)) 0 len = os ∧ ringOk (os ++ zeros (V - len)) 0 V len := by
  have hz : (os ++ zeros (V - len)).length = V := by rw [List.length_append, hl]; simp [zeros]; omega
  refine ⟨?_, hz, hV, by omega⟩
  unfold octL
  rw [hz, Nat.zero_add, Nat.min_eq_left hV, List.drop_zero, Nat.sub_zero, Nat.sub_self, List.take_zero, List.append_nil, List.take_append_of_le_length (by omega), List.take_of_length_le (by omega)]

end
end Go.Proofs.Ytbndknbjjdoanaa

namespace Go.Proofs.Ytbndknbjjdoanaa
section
open Go.RowKit
set_option linter.unusedVariables false

def ptW (x : Wr) : Pt := ⟨x.b, x.f.toNat, x.t.toNat⟩
open Classical in
/-- Which of the first k parts get a block of their own. -/
noncomputable def ownS (P : PoolSt) (s : Nat) (wr : List Wr) : Nat → List Nat
  | 0 => []
  | k + 1 => ownS P s wr k ++ (match wr[k]? with
    | none => []
    | some x => if x.f < x.t ∧ HitS P (ptW x) (s : Int) (k : Int) (fun s' j => decide (s' = s ∧ j ∈ ownS P s wr k)) then [k] else [])
theorem ownS_lt (P : PoolSt) (s : Nat) (wr : List Wr) : ∀ (k i : Nat), i ∈ ownS P s wr k → i < k
  | 0, i, h => by simp [ownS] at h
  | k + 1, i, h => by
    unfold ownS at h
    rcases List.mem_append.1 h with h | h
    · have := ownS_lt P s wr k i h; omega
    · split at h
      · simp at h
      · split at h
        · simp at h; omega
        · simp at h
theorem ownS_len (P : PoolSt) (s : Nat) (wr : List Wr) : ∀ k : Nat, (ownS P s wr k).length ≤ k
  | 0 => Nat.le_refl _
  | k + 1 => by
    have := ownS_len P s wr k
    unfold ownS
    rw [List.length_append]
    split
    · simp; omega
    · split <;> simp <;> omega
theorem ownS_later (P : PoolSt) (s : Nat) (wr : List Wr) : ∀ (m k i : Nat), k ≤ m → i < k → (i ∈ ownS P s wr m ↔ i ∈ ownS P s wr k)
  | 0, k, i, h, hi => by omega
  | m + 1, k, i, h, hi => by
    rcases Nat.lt_or_ge m k with h1 | h1
    · rw [show m + 1 = k by omega]
    · rw [← ownS_later P s wr m k i h1 hi]
      conv => lhs; unfold ownS
      rw [List.mem_append]
      constructor
      · rintro (h2 | h2)
        · exact h2
        · split at h2
          · simp at h2
          · split at h2
            · simp at h2; omega
            · simp at h2
      · exact Or.inl
theorem ownS_step (P : PoolSt) (s : Nat) (wr : List Wr) {k : Nat} {x : Wr} (hx : wr[k]? = some x) : (ownS P s wr (k + 1) = ownS P s wr k ++ [k] ∧ x.f < x.t ∧ HitS P (ptW x) (s : Int) (k : Int) (fun s' j => decide (s' = s ∧ j ∈ ownS P s wr k))) ∨ (ownS P s wr (k + 1) = ownS P s wr k ∧ ¬ (x.f < x.t ∧ HitS P (ptW x) (s : Int) (k : Int) (fun s' j => decide (s' = s ∧ j ∈ ownS P s wr k)))) := by
  by_cases h : x.f < x.t ∧ HitS P (ptW x) (s : Int) (k : Int) (fun s' j => decide (s' = s ∧ j ∈ ownS P s wr k))
  · left
    refine ⟨?_, h⟩
    conv => lhs; rw [ownS]
    rw [hx]
    simp only
    rw [if_pos h]
  · right
    refine ⟨?_, h⟩
    conv => lhs; rw [ownS]
    rw [hx]
    simp only
    rw [if_neg h, List.append_nil]

/-- What a part of the target is. -/
def tgt (T : List Int) (l : List Pt) (i : Nat) (x : Pt) : List Int := (T.drop (lenP (l.take i))).take x.n
theorem splice_at {α : Type} (cs xs : List α) (c j : Nat) (hc : c + xs.length ≤ cs.length) : (splice cs c xs)[j]? = if j < c then cs[j]? else if j < c + xs.length then xs[j - c]? else cs[j]? := by
  unfold splice
  have e1 : (cs.take c).length = c := by rw [List.length_take]; omega
  by_cases h1 : j < c
  · rw [if_pos h1, List.getElem?_append_left (by omega), List.getElem?_take_of_lt h1]
  · rw [if_neg h1, List.getElem?_append_right (by omega), e1]
    by_cases h2 : j < c + xs.length
    · rw [if_pos h2, List.getElem?_append_left (by omega)]
    · rw [if_neg h2, List.getElem?_append_right (by omega), List.getElem?_drop]
      congr 1
      omega
theorem octP_part {M : Nat → List Int} {l : List Pt} (hok : ∀ x ∈ l, x.ok M) {i : Nat} {x : Pt} (hx : l[i]? = some x) (j : Nat) (hj : j < x.n) : (octP M l)[lenP (l.take i) + j]? = (octPt M x)[j]? := by
  have e : l = l.take i ++ x :: l.drop (i + 1) := by rw [← drop_at hx, List.take_append_drop]
  have hl : (octP M (l.take i)).length = lenP (l.take i) := octP_len (fun y hy => hok y (List.mem_of_mem_take hy))
  have hxl : (octPt M x).length = x.n := octPt_len (hok x (List.mem_of_getElem? hx))
  have e2 : octP M l = octP M (l.take i) ++ (octPt M x ++ octP M (l.drop (i + 1))) := by
    conv => lhs; rw [e]
    rw [octP_app, octP_cons]
  rw [e2, List.getElem?_append_right (by omega), hl, show lenP (l.take i) + j - lenP (l.take i) = j by omega, List.getElem?_append_left (by omega)]
theorem lenP_part {l : List Pt} {i : Nat} {x : Pt} (hx : l[i]? = some x) : lenP (l.take i) + x.n ≤ lenP l := by
  have h1 := lenP_take hx
  have h2 : lenP l = lenP (l.take (i + 1)) + lenP (l.drop (i + 1)) := by rw [← lenP_app, List.take_append_drop]
  omega
/-- A part that is not written. -/
theorem tgt_skip {M : Nat → List Int} {l : List Pt} (hok : ∀ x ∈ l, x.ok M) {os : List Int} {at' : Nat} (hat : at' + os.length ≤ lenP l) {i : Nat} {x : Pt} (hx : l[i]? = some x) (hw : lenP (l.take i) + x.n ≤ at' ∨ at' + os.length ≤ lenP (l.take i) ∨ os.length = 0 ∨ x.n = 0) : tgt (splice (octP M l) at' os) l i x = octPt M x := by
  have hxl : (octPt M x).length = x.n := octPt_len (hok x (List.mem_of_getElem? hx))
  have hL : (octP M l).length = lenP l := octP_len hok
  apply List.ext_getElem?
  intro j
  unfold tgt
  by_cases hj : j < x.n
  · rw [List.getElem?_take_of_lt hj, List.getElem?_drop, splice_at _ _ _ _ (by omega)]
    have := octP_part hok hx j hj
    rcases hw with h | h | h | h
    · rw [if_pos (by omega), this]
    · rw [if_neg (by omega), if_neg (by omega), this]
    · rw [this]
      split
      · rfl
      · rw [if_neg (by omega)]
    · omega
  · rw [List.getElem?_eq_none (by rw [List.length_take]; omega), List.getElem?_eq_none (by omega)]
/-- A part that is written from f on, t - f octets. -/
theorem tgt_write {M : Nat → List Int} {l : List Pt} (hok : ∀ x ∈ l, x.ok M) {os : List Int} {at' : Nat} (hat : at' + os.length ≤ lenP l) {i : Nat} {x : Pt} (hx : l[i]? = some x) {f t : Nat} (hf : (f : Int) = max ((at' : Int) - lenP (l.take i)) 0) (ht : (t : Int) = min ((at' : Int) + os.length - lenP (l.take i)) (x.n : Int)) (hft : f < t) :
    tgt (splice (octP M l) at' os) l i x = splice (octPt M x) f ((os.drop (lenP (l.take i) + f - at')).take (t - f)) := by
  have hxl : (octPt M x).length = x.n := octPt_len (hok x (List.mem_of_getElem? hx))
  have hL : (octP M l).length = lenP l := octP_len hok
  have hlen : ((os.drop (lenP (l.take i) + f - at')).take (t - f)).length = t - f := by rw [List.length_take, List.length_drop]; omega
  apply List.ext_getElem?
  intro j
  unfold tgt
  by_cases hj : j < x.n
  · rw [List.getElem?_take_of_lt hj, List.getElem?_drop, splice_at _ _ _ _ (by omega), splice_at _ _ _ _ (by rw [hlen]; omega), hlen]
    have := octP_part hok hx j hj
    by_cases h1 : j < f
    · rw [if_pos h1]
      by_cases h2 : lenP (l.take i) + j < at'
      · rw [if_pos h2, this]
      · omega
    · rw [if_neg h1, if_neg (by omega)]
      by_cases h2 : j < f + (t - f)
      · rw [if_pos h2, if_pos (by omega), List.getElem?_take_of_lt (by omega), List.getElem?_drop]
        congr 1
        omega
      · rw [if_neg h2, if_neg (by omega), this]
  · rw [List.getElem?_eq_none (by rw [List.length_take]; omega), List.getElem?_eq_none (by rw [splice_len _ _ _ (by rw [hlen]; omega)]; omega)]
/-- The parts of the target, all of them. -/
theorem tgt_all {M : Nat → List Int} (T : List Int) : ∀ (l' l : List Pt), l'.length = l.length → T.length = lenP l → (∀ i x x', l[i]? = some x → l'[i]? = some x' → octPt M x' = tgt T l i x) → octP M l' = T
  | [], [], _, hT, _ => by
    have e : T = [] := List.eq_nil_of_length_eq_zero (by rw [hT]; rfl)
    rw [e]
    rfl
  | [], _ :: _, h, _, _ => by simp at h
  | _ :: _, [], h, _, _ => by simp at h
  | x' :: l', x :: l, h, hT, hp => by
    have e : lenP (x :: l) = x.n + lenP l := by simp [lenP]
    have h0 := hp 0 x x' rfl rfl
    have e0 : tgt T (x :: l) 0 x = T.take x.n := by unfold tgt; simp [lenP]
    rw [octP_cons, h0, e0]
    have ih := tgt_all (M := M) (T.drop x.n) l' l (by simpa using h) (by rw [List.length_drop, hT, e]; omega) (fun i y y' hy hy' => by
      rw [hp (i + 1) y y' (by simpa using hy) (by simpa using hy')]
      unfold tgt
      rw [List.take_succ_cons, List.drop_drop]
      congr 2)
    rw [ih, List.take_append_drop]

end
end Go.Proofs.Ytbndknbjjdoanaa

namespace Go.Proofs.Ytbndknbjjdoanaa
section
open Go.RowKit
set_option linter.unusedVariables false

def placeLit (s i : Nat) : Lit := .string (keyBytes [.int .i64 (s : Int), .int .i64 (i : Int)])
theorem placeKey {s i : Nat} (hs : s ≤ 1000000000) (hi : i ≤ 1000) : keyOf Try.prog 88 (.agg #[.int .i64 (s : Int), .int .i64 (i : Int)]) = some (placeLit s i) := place_key s i (by omega) (by omega)
theorem placeLit_inj {s i s' i' : Nat} (hs : s ≤ 1000000000) (hi : i ≤ 1000) (hs' : s' ≤ 1000000000) (hi' : i' ≤ 1000) (h : placeLit s i = placeLit s' i') : s = s' ∧ i = i' := by
  have e := placeLaw.inj (placeKey hs hi) (h ▸ placeKey hs' hi')
  simp only [Value.agg.injEq, Array.mk.injEq, List.cons.injEq, Value.int.injEq, true_and, and_true] at e
  omega
/-- The map of the parts of string s. -/
def OwnM (w : World) (b s : Nat) (S : List Nat) : Prop := ∃ D : DataW Unit, w.ownsMap Try.prog 88 (plainElem Try.prog 4) b S.length D ∧ Maps.size D = S.length ∧ ∀ s' i : Nat, s' ≤ 1000000000 → i ≤ 1000 → ∀ z, D.atKey (placeLit s' i) z = if s' = s ∧ i ∈ S then .lit (.bool true) else z
theorem OwnM.same {w w' : World} {b s : Nat} {S : List Nat} (h : OwnM w b s S) (hs : w'.heap[b]? = w.heap[b]?) : OwnM w' b s S := by
  obtain ⟨D, h1, h2, h3⟩ := h
  exact ⟨D, ownsMap_same h1 hs, h2, h3⟩
theorem OwnM.lt {w : World} {b s : Nat} {S : List Nat} (h : OwnM w b s S) : b < w.heap.size := by
  obtain ⟨D, h1, _⟩ := h
  exact h1.lt
theorem OwnM.new (w : World) (s : Nat) : OwnM (w.alloc (.map #[] 0)) w.heap.size s [] := by
  refine ⟨.map [], World.ownsMap_made (H := Unit) w Try.prog 88 (plainElem Try.prog 4), rfl, fun s' i _ _ z => ?_⟩
  rw [if_neg (by simp)]
  rfl
theorem OwnM.put {w : World} {b s : Nat} {S : List Nat} (h : OwnM w b s S) (hs : s ≤ 1000000000) (k : Nat) (hk : k ≤ 1000) (hn : k ∉ S) (hS : S.length ≤ 1000) :
    ∃ w', (Instr.mapUpdate 86 (.map (some b)) (.agg #[.int .i64 (s : Int), .int .i64 (k : Int)]) (.bool true)).run Try.prog w = .ok () w' ∧ OwnM w' b s (S ++ [k]) ∧ w.grownBy w' (some b) := by
  obtain ⟨D, h1, h2, h3⟩ := h
  have K := Maps.Keyed.of_law placeLaw
  have key := placeKey hs hk
  have hkl : WideAt.IsKeyLit (placeLit s k) := K.key key
  obtain ⟨w', hrun, hown, hgr⟩ := h1.update K Try.underlying86 (by unfold maxLen; omega) key (val := .bool true) (plainElem_bool Try.underlying4 true)
  have htidy := h1.tidy K
  have hno : Maps.has D (placeLit s k) = false := Maps.has_false_of_atKey (fun z => by rw [h3 s k hs hk, if_neg (fun e => hn e.2)])
  have hsz := Maps.size_put (k := placeLit s k) htidy (.lit (.bool true))
  rw [hno] at hsz
  refine ⟨w', hrun, ⟨_, by rw [List.length_append]; exact hown, by rw [hsz, h2, List.length_append]; rfl, fun s' i a1 a2 z => ?_⟩, hgr⟩
  by_cases e : s' = s ∧ i = k
  · obtain ⟨rfl, rfl⟩ := e
    rw [Maps.atKey_put_same htidy.isMap hkl, if_pos ⟨rfl, by simp⟩]
  · rw [Maps.atKey_put_other (fun h => e (placeLit_inj a1 a2 hs hk h)), h3 s' i a1 a2]
    have : (s' = s ∧ i ∈ S) ↔ (s' = s ∧ i ∈ S ++ [k]) := by
      constructor
      · rintro ⟨x1, x2⟩
        exact ⟨x1, by simp [x2]⟩
      · rintro ⟨x1, x2⟩
        rcases List.mem_append.1 x2 with x2 | x2
        · exact ⟨x1, x2⟩
        · exact absurd ⟨x1, by simpa using x2⟩ e
    simp only [this]
set_option maxRecDepth 100000 in
theorem OwnM.look {w : World} {b s : Nat} {S : List Nat} (h : OwnM w b s S) (s' i : Nat) (hs : s' ≤ 1000000000) (hi : i ≤ 1000) :
    (Instr.lookup 86 (.map (some b)) (.agg #[.int .i64 (s' : Int), .int .i64 (i : Int)]) false).run Try.prog w = .ok (.bool (decide (s' = s ∧ i ∈ S))) w := by
  obtain ⟨D, h1, _, h3⟩ := h
  have hz : (zeroValue 4).run Try.prog w = .ok (.bool false) w := by kernel_rfl
  obtain ⟨v, ps, hrun, hv⟩ := h1.lookup (Maps.Keyed.of_law placeLaw) Try.underlying86 hz (zd := .lit (.bool false)) (zp := []) (plainElem_bool Try.underlying4 false) (placeKey hs hi)
  rw [h3 s' i hs hi] at hv
  have hb : v = .bool (decide (s' = s ∧ i ∈ S)) := by
    unfold plainElem at hv
    rw [Try.underlying4] at hv
    cases v <;> simp at hv
    rename_i x
    have h4 := hv.1
    by_cases e : s' = s ∧ i ∈ S
    · rw [if_pos e] at h4
      simp at h4
      simp [h4, e]
    · rw [if_neg e] at h4
      simp at h4
      simp [h4, e]
  rw [hrun, hb]
theorem OwnM.len {w : World} {b s : Nat} {S : List Nat} (h : OwnM w b s S) : ∃ D : DataW Unit, w.ownsMap Try.prog 88 (plainElem Try.prog 4) b S.length D ∧ Maps.size D = S.length := by
  obtain ⟨D, h1, h2, _⟩ := h
  exact ⟨D, h1, h2⟩

/-- Between two rounds of the writing: P, l: as they came; S: the parts that get blocks of their own; T: the string as it shall be. -/
structure SetI (P : PoolSt) (s : Nat) (l : List Pt) (S : List Nat) (T : List Int) (k : Nat) (Q : PoolSt) (m : List Pt) : Prop where
  st : Q.st = P.st
  ls : Q.lastS = P.lastS
  sz : Q.size = P.size
  lb : Q.lastB ≤ P.lastB + k ∧ P.lastB ≤ Q.lastB
  bl : Q.bl.length = P.bl.length + (S.filter fun i => decide (i < k)).length
  nb : ∀ p ∈ Q.bl, p.1 ≤ Q.lastB
  old : ∀ (b : Int) (y : Bk), lookN P.bl b = some y → ∃ y', lookN Q.bl b = some y' ∧ y'.a = y.a ∧ y'.g = y.g ∧ y'.used = y.used ∧ y'.pin = y.pin
  len : m.length = l.length
  later : ∀ i, k ≤ i → m[i]? = l[i]?
  pts : PtsOf Q m
  num : ∀ (i : Nat) (x x' : Pt), l[i]? = some x → m[i]? = some x' → x'.n = x.n
  own : ∀ (i : Nat) (x' : Pt), i < k → m[i]? = some x' → (i ∈ S → P.lastB < x'.b) ∧ (i ∉ S → l[i]? = some x')
  did : ∀ (i : Nat) (x x' : Pt), i < k → l[i]? = some x → m[i]? = some x' → octPt Q.oct x' = tgt T l i x
  left : ∀ (i : Nat) (x : Pt), k ≤ i → l[i]? = some x → octPt Q.oct x = octPt P.oct x
  rest : ∀ q ∈ P.st, q.1 ≠ s → ∀ x ∈ q.2.2, octPt Q.oct x = octPt P.oct x

end
end Go.Proofs.Ytbndknbjjdoanaa
