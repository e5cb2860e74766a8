/-
  GrowOf beside Grow: both are the functions growV and growE. No conditions.
  A rope's leaves, plainly: their sizes, their octets, what an edit makes of them. No conditions but bounds.
-/
import Derived.Test.YtidfidknflcioaaTopRopePaf
import Derived.Test.YtidfidknflcioaaTopRopePad

namespace Go.Proofs.Ytidfidknflcioaa
section
open Go.RowKit

/-- What a policy gives for arguments that are right. -/
def gV (k s m room need : Int) : Int := if need ≤ room then room else if m < need then 0 else min (wishI k s room need) m
def gE (m room need : Int) : Int := if need ≤ room then 0 else if m < need then 12 else 0
/-- What Grow gives. -/
def growV (k s m room need : Int) : Int := if polErr k s m = 0 ∧ (0 ≤ room ∧ room ≤ 100000) ∧ (0 ≤ need ∧ need ≤ 100000) then gV k s m room need else 0
def growE (k s m room need : Int) : Int := if polErr k s m = 0 then (if (0 ≤ room ∧ room ≤ 100000) ∧ (0 ≤ need ∧ need ≤ 100000) then gE m room need else 2) else polErr k s m

theorem gE_cases (k s m room need : Int) : gE m room need = 0 ∨ (gE m room need = 12 ∧ gV k s m room need = 0) := by
  unfold gE gV
  by_cases h3 : need ≤ room
  · rw [if_pos h3]; exact Or.inl rfl
  · rw [if_neg h3, if_neg h3]
    by_cases h4 : m < need
    · rw [if_pos h4, if_pos h4]; exact Or.inr ⟨rfl, rfl⟩
    · rw [if_neg h4]; exact Or.inl rfl

theorem grow_valid (k s m room need : Int) (w : World) (h : polErr k s m = 0) (h1 : 0 ≤ room ∧ room ≤ 100000) (h2 : 0 ≤ need ∧ need ≤ 100000) :
    Calls Try.prog 79 #[.agg #[.int .i64 k, .int .i64 s, .int .i64 m], .int .i64 room, .int .i64 need] w (RetInt (gV k s m room need) (gE m room need) w) := by
  unfold gV gE
  by_cases h3 : need ≤ room
  · rw [if_pos h3, if_pos h3]; exact grow_has k s m room need w h h1 h2 h3
  · rw [if_neg h3, if_neg h3]
    by_cases h4 : m < need
    · rw [if_pos h4, if_pos h4]; exact grow_full k s m room need w h h1 h2 (by omega) h4
    · rw [if_neg h4, if_neg h4]; exact grow_new k s m room need w h h1 h2 (by omega) (by omega)

theorem grow_any (k s m room need : Int) (w : World) :
    Calls Try.prog 79 #[.agg #[.int .i64 k, .int .i64 s, .int .i64 m], .int .i64 room, .int .i64 need] w (RetInt (growV k s m room need) (growE k s m room need) w) := by
  unfold growV growE
  by_cases h : polErr k s m = 0
  · by_cases hr : (0 ≤ room ∧ room ≤ 100000) ∧ (0 ≤ need ∧ need ≤ 100000)
    · rw [if_pos ⟨h, hr⟩, if_pos h, if_pos hr]; exact grow_valid k s m room need w h hr.1 hr.2
    · rw [if_neg (fun x => hr x.2), if_pos h, if_neg hr]; exact grow_range k s m room need w h hr
  · rw [if_neg (fun x => h x.1), if_neg h]; exact grow_pol k s m room need w h

end
end Go.Proofs.Ytidfidknflcioaa

namespace Go.Proofs.Ytidfidknflcioaa
section
open Go.RowKit
set_option linter.unusedVariables false

/-- A leaf's length and room. -/
abbrev Sz := Nat × Nat
/-- A policy, and the leaves' size. -/
structure RPar where
  k : Int
  s : Int
  m : Int
  leaf : Nat
def RPar.gr (p : RPar) (room need : Nat) : Nat := (growV p.k p.s p.m room need).toNat
def manyN (n leaf : Nat) : Nat := (n + leaf - 1) / leaf
def pcsN (n leaf : Nat) : List Nat := (List.range (manyN n leaf)).map fun i => n / manyN n leaf + if i < n % manyN n leaf then 1 else 0
theorem pcsN_pcs (n leaf : Nat) : pcs (n : Int) (manyN n leaf : Nat) (manyN n leaf) = (pcsN n leaf).map fun j : Nat => (j : Int) := by
  unfold pcs pcsN
  rw [List.map_map]
  apply List.map_congr_left
  intro i _
  simp only [Function.comp]
  split <;> split <;> omega
def piecesS (p : RPar) (n : Nat) : List Sz := (pcsN n p.leaf).map fun j => (j, p.gr 0 j)
def totS (l : List Sz) : Nat × Nat := ((l.map (·.1)).sum, (l.map (·.2)).sum)
def endsS : List Sz → Nat → Nat × Nat
  | [], a => (0, a)
  | x :: l, a => if x.1 < a then ((endsS l (a - x.1)).1 + 1, (endsS l (a - x.1)).2) else (0, a)
def insS (p : RPar) (l : List Sz) (a n : Nat) : List Sz :=
  if n = 0 then l else if l = [] then piecesS p n else
    if (l.getD (endsS l a).1 (0, 0)).1 + n ≤ p.leaf then l.set (endsS l a).1 ((l.getD (endsS l a).1 (0, 0)).1 + n, p.gr (l.getD (endsS l a).1 (0, 0)).2 ((l.getD (endsS l a).1 (0, 0)).1 + n))
    else l.take (endsS l a).1 ++ piecesS p ((l.getD (endsS l a).1 (0, 0)).1 + n) ++ l.drop ((endsS l a).1 + 1)
/-- A leaf passed: what is kept, where it ends, the last leaf that has octets ahead of f. -/
def rmF (f t : Nat) (st : List Sz × Nat × Int) (x : Sz) : List Sz × Nat × Int :=
  (if min (t - st.2.1) x.1 - (f - st.2.1) < x.1 then st.1 ++ [(x.1 - (min (t - st.2.1) x.1 - (f - st.2.1)), x.2)] else st.1, st.2.1 + x.1, if st.2.1 < f then (st.1.length : Int) else st.2.2)
def rmA (f t : Nat) (l : List Sz) : List Sz × Nat × Int := l.foldl (rmF f t) ([], 0, -1)
def joinsS (p : RPar) (l : List Sz) (a : Int) (f : Nat) : Bool :=
  decide (0 ≤ a ∧ a + 1 < l.length) && (decide ((totS (l.take (a.toNat + 1))).1 = f) && decide ((l.getD a.toNat (0, 0)).1 + (l.getD (a.toNat + 1) (0, 0)).1 ≤ p.leaf / 2))
def joinS (p : RPar) (l : List Sz) (a : Int) (f : Nat) : List Sz :=
  if joinsS p l a f then (l.set a.toNat ((l.getD a.toNat (0, 0)).1 + (l.getD (a.toNat + 1) (0, 0)).1, p.gr (l.getD a.toNat (0, 0)).2 ((l.getD a.toNat (0, 0)).1 + (l.getD (a.toNat + 1) (0, 0)).1))).eraseIdx (a.toNat + 1) else l
def rmS (p : RPar) (l : List Sz) (f t : Nat) : List Sz := if f = t then l else joinS p (rmA f t l).1 (rmA f t l).2.2 f

/-! With octets. -/
abbrev Lc := List Int × Nat
def szC (x : Lc) : Sz := (x.1.length, x.2)
def cutC (p : RPar) : List Nat → List Int → List Lc
  | [], _ => []
  | j :: js, os => (os.take j, p.gr 0 j) :: cutC p js (os.drop j)
def madeC (p : RPar) (os : List Int) : List Lc := cutC p (pcsN os.length p.leaf) os
def octC (l : List Lc) : List Int := l.flatMap (·.1)
def insC (p : RPar) (l : List Lc) (a : Nat) (os : List Int) : List Lc :=
  if os = [] then l else if l = [] then madeC p os else
    let i := (endsS (l.map szC) a).1
    let b := (endsS (l.map szC) a).2
    let x := l.getD i ([], 0)
    if x.1.length + os.length ≤ p.leaf then l.set i (x.1.take b ++ os ++ x.1.drop b, p.gr x.2 (x.1.length + os.length))
    else l.take i ++ madeC p (x.1.take b ++ os ++ x.1.drop b) ++ l.drop (i + 1)
def delX (f t start : Nat) (x : Lc) : Lc := if f - start < min (t - start) x.1.length then (x.1.take (f - start) ++ x.1.drop (min (t - start) x.1.length), x.2) else x
def delF (f t : Nat) (st : List Lc × Nat × Int) (x : Lc) : List Lc × Nat × Int :=
  (if 0 < (delX f t st.2.1 x).1.length then st.1 ++ [delX f t st.2.1 x] else st.1, st.2.1 + x.1.length, if st.2.1 < f then (st.1.length : Int) else st.2.2)
def delA (f t : Nat) (l : List Lc) : List Lc × Nat × Int := l.foldl (delF f t) ([], 0, -1)
def joinC (p : RPar) (l : List Lc) (a : Int) (f : Nat) : List Lc :=
  if joinsS p (l.map szC) a f then (l.set a.toNat ((l.getD a.toNat ([], 0)).1 ++ (l.getD (a.toNat + 1) ([], 0)).1, p.gr (l.getD a.toNat ([], 0)).2 ((l.getD a.toNat ([], 0)).1.length + (l.getD (a.toNat + 1) ([], 0)).1.length))).eraseIdx (a.toNat + 1) else l
def delC (p : RPar) (l : List Lc) (f t : Nat) : List Lc := if f = t then l else joinC p (delA f t l).1 (delA f t l).2.2 f
def replC (p : RPar) (l : List Lc) (f t : Nat) (os : List Int) : List Lc := insC p (delC p l f t) f os

/-! Sizes go along. -/
theorem getD_sz (l : List Lc) (i : Nat) : (l.map szC).getD i (0, 0) = szC (l.getD i ([], 0)) := by
  rw [List.getD_eq_getElem?_getD, List.getD_eq_getElem?_getD, List.getElem?_map]
  cases l[i]? <;> rfl
theorem delX_len (f t start : Nat) (x : Lc) : (delX f t start x).1.length = x.1.length - (min (t - start) x.1.length - (f - start)) := by
  unfold delX
  split
  · simp only [List.length_append, List.length_take, List.length_drop]; omega
  · omega
theorem delX_room (f t start : Nat) (x : Lc) : (delX f t start x).2 = x.2 := by unfold delX; split <;> rfl
theorem delF_sz (f t : Nat) (st : List Lc × Nat × Int) (x : Lc) : ((delF f t st x).1.map szC, (delF f t st x).2) = rmF f t (st.1.map szC, st.2) (szC x) := by
  have e : rmF f t (st.1.map szC, st.2) (szC x) = (if min (t - st.2.1) x.1.length - (f - st.2.1) < x.1.length then st.1.map szC ++ [(x.1.length - (min (t - st.2.1) x.1.length - (f - st.2.1)), x.2)] else st.1.map szC, st.2.1 + x.1.length, if st.2.1 < f then ((st.1.map szC).length : Int) else st.2.2) := rfl
  rw [e]
  unfold delF
  have h1 := delX_len f t st.2.1 x
  have h2 := delX_room f t st.2.1 x
  by_cases h : 0 < (delX f t st.2.1 x).1.length
  · have c1 : min (t - st.2.1) x.1.length - (f - st.2.1) < x.1.length := by omega
    simp only [if_pos h, if_pos c1, List.map_append, List.length_map]
    simp [szC, h1, h2]
  · have c1 : ¬ min (t - st.2.1) x.1.length - (f - st.2.1) < x.1.length := by omega
    simp only [if_neg h, if_neg c1, List.length_map]
theorem map_erase {α β : Type} (f : α → β) : ∀ (l : List α) (i : Nat), (l.eraseIdx i).map f = (l.map f).eraseIdx i
  | [], _ => rfl
  | x :: l, 0 => rfl
  | x :: l, i + 1 => by simp [map_erase f l i]
theorem delA_sz (f t : Nat) (l : List Lc) : ((delA f t l).1.map szC, (delA f t l).2) = rmA f t (l.map szC) := by
  unfold delA rmA
  suffices ∀ (st : List Lc × Nat × Int), ((l.foldl (delF f t) st).1.map szC, (l.foldl (delF f t) st).2) = (l.map szC).foldl (rmF f t) (st.1.map szC, st.2) by exact this _
  induction l with
  | nil => intro st; rfl
  | cons x l ih => intro st; rw [List.foldl_cons, List.map_cons, List.foldl_cons, ih, delF_sz]
theorem joinC_sz (p : RPar) (l : List Lc) (a : Int) (f : Nat) : (joinC p l a f).map szC = joinS p (l.map szC) a f := by
  unfold joinC joinS
  split
  · rw [map_erase, List.map_set, getD_sz, getD_sz]
    simp [szC]
  · rfl
theorem delC_sz (p : RPar) (l : List Lc) (f t : Nat) : (delC p l f t).map szC = rmS p (l.map szC) f t := by
  unfold delC rmS
  split
  · rfl
  · rw [joinC_sz, ← delA_sz]
theorem sum_range_add (f g : Nat → Nat) (n : Nat) : ((List.range n).map fun i => f i + g i).sum = ((List.range n).map f).sum + ((List.range n).map g).sum := by
  induction n with
  | zero => rfl
  | succ n ih => simp only [List.range_succ, List.map_append, List.sum_append, ih]; simp; omega
theorem sum_range_lt (M r : Nat) (h : r ≤ M) : ((List.range M).map fun i => if i < r then 1 else 0).sum = r := by
  induction M generalizing r with
  | zero => have : r = 0 := by omega
            subst this; rfl
  | succ M ih =>
    rw [List.range_succ, List.map_append, List.sum_append]
    by_cases e : r = M + 1
    · subst e
      have : ((List.range M).map fun i => if i < M + 1 then 1 else 0) = (List.range M).map fun i => if i < M then 1 else 0 := List.map_congr_left (fun i hi => by
        have := List.mem_range.1 hi
        rw [if_pos (by omega), if_pos this])
      rw [this, ih M (Nat.le_refl _)]
      simp
    · rw [ih r (by omega)]
      have : ¬ M < r := by omega
      simp [this]
theorem sum_range_const (c M : Nat) : ((List.range M).map fun _ => c).sum = M * c := by
  induction M with
  | zero => simp
  | succ M ih => rw [List.range_succ, List.map_append, List.sum_append, ih, Nat.succ_mul]; simp
theorem pcsN_sum (n leaf : Nat) (h : 1 ≤ leaf) : (pcsN n leaf).sum = n := by
  unfold pcsN
  rw [sum_range_add (fun _ => n / manyN n leaf) (fun i => if i < n % manyN n leaf then 1 else 0), sum_range_const]
  by_cases h0 : manyN n leaf = 0
  · have : n = 0 := by
      unfold manyN at h0
      rcases Nat.eq_zero_or_pos n with e | e
      · exact e
      · have := Nat.div_pos (a := n + leaf - 1) (b := leaf) (by omega) (by omega)
        omega
    subst this
    rw [h0]
    simp
  · rw [sum_range_lt _ _ (Nat.le_of_lt (Nat.mod_lt _ (by omega)))]
    exact Nat.div_add_mod _ _
theorem pcsN_le {n leaf j : Nat} (h : 1 ≤ leaf) (hj : j ∈ pcsN n leaf) : 1 ≤ j ∧ j ≤ leaf := by
  unfold pcsN at hj
  obtain ⟨i, hi, rfl⟩ := List.mem_map.1 hj
  have hM := List.mem_range.1 hi
  generalize hm : manyN n leaf = M at *
  have hM0 : 0 < M := by omega
  unfold manyN at hm
  have h1 : M * leaf ≤ n + leaf - 1 := by rw [← hm]; exact Nat.div_mul_le_self _ _
  have h2 : n + leaf - 1 < (M + 1) * leaf := by rw [← hm]; exact Nat.lt_succ_mul_of_div_lt (by omega) (by rw [hm]; omega)
  have h3 : M ≤ n := by
    have : M - 1 ≤ (M - 1) * leaf := Nat.le_mul_of_pos_right _ (by omega)
    have h4 : (M - 1) * leaf + leaf = M * leaf := by rw [← Nat.succ_mul]; congr 1; omega
    omega
  have h5 : 1 ≤ n / M := Nat.div_pos h3 hM0
  have h6 : n ≤ M * leaf := by
    have h4 : (M + 1) * leaf = M * leaf + leaf := Nat.succ_mul _ _
    omega
  have h7 : n / M ≤ leaf := Nat.div_le_of_le_mul h6
  refine ⟨by omega, ?_⟩
  split
  · next hlt =>
    have h8 : n / M < leaf := by
      rcases Nat.lt_or_ge (n / M) leaf with e | e
      · exact e
      · exfalso
        have e2 : n / M = leaf := by omega
        have h9 := Nat.div_add_mod n M
        rw [e2] at h9
        omega
    omega
  · omega
where
  Nat.lt_succ_mul_of_div_lt {a b c : Nat} (hb : 0 < b) (h : a / b < c + 1) : a < (c + 1) * b := by
    rwa [Nat.div_lt_iff_lt_mul hb] at h
theorem cutC_sz (p : RPar) : ∀ (js : List Nat) (os : List Int), js.sum = os.length → (cutC p js os).map szC = js.map fun j => (j, p.gr 0 j)
  | [], _, _ => rfl
  | j :: js, os, h => by
    simp only [List.sum_cons] at h
    unfold cutC
    rw [List.map_cons, List.map_cons, cutC_sz p js (os.drop j) (by rw [List.length_drop]; omega)]
    simp [szC]
    omega
theorem madeC_sz (p : RPar) (os : List Int) (h : 1 ≤ p.leaf) : (madeC p os).map szC = piecesS p os.length := by
  unfold madeC piecesS
  exact cutC_sz p _ _ (pcsN_sum _ _ h)
theorem insC_sz (p : RPar) (l : List Lc) (a : Nat) (os : List Int) (h : 1 ≤ p.leaf) (hk : ∀ x, l.getD (endsS (l.map szC) a).1 ([], 0) = x → (endsS (l.map szC) a).2 ≤ x.1.length) : (insC p l a os).map szC = insS p (l.map szC) a os.length := by
  unfold insC insS
  by_cases h0 : os = []
  · subst h0; simp
  · rw [if_neg h0, if_neg (fun e => h0 (List.eq_nil_of_length_eq_zero e))]
    by_cases h1 : l = []
    · subst h1
      simp only [List.map_nil, if_true]
      exact madeC_sz p os h
    · rw [if_neg h1, if_neg (fun e => h1 (List.map_eq_nil_iff.1 e))]
      have hk' := hk _ rfl
      simp only [getD_sz]
      generalize (endsS (l.map szC) a).1 = i at *
      generalize (endsS (l.map szC) a).2 = b at *
      generalize l.getD i ([], 0) = x at *
      have hlen : (x.1.take b ++ os ++ x.1.drop b).length = x.1.length + os.length := by
        simp only [List.length_append, List.length_take, List.length_drop]; omega
      by_cases h2 : x.1.length + os.length ≤ p.leaf
      · rw [if_pos h2, if_pos (show (szC x).1 + os.length ≤ p.leaf from h2), List.map_set]
        simp only [szC, hlen]
      · rw [if_neg h2, if_neg (show ¬ (szC x).1 + os.length ≤ p.leaf from h2), List.map_append, List.map_append, List.map_take, List.map_drop, madeC_sz _ _ h, hlen]
        rfl

/-- The leaf that gets an insert, and the place in it. -/
theorem endsS_in : ∀ (l : List Sz) (a : Nat), a ≤ (totS l).1 → l ≠ [] → (endsS l a).1 < l.length ∧ (endsS l a).2 ≤ (l.getD (endsS l a).1 (0, 0)).1
  | [], a, _, h => absurd rfl h
  | x :: l, a, ha, _ => by
    unfold endsS
    have e : (totS (x :: l)).1 = x.1 + (totS l).1 := by simp [totS]
    by_cases h : x.1 < a
    · rw [if_pos h]
      have hl : l ≠ [] := fun e' => by subst e'; simp [totS] at ha; omega
      have := endsS_in l (a - x.1) (by omega) hl
      simp only [List.length_cons, List.getD_cons_succ]
      exact ⟨by omega, this.2⟩
    · rw [if_neg h]
      simp
      omega

end
end Go.Proofs.Ytidfidknflcioaa
