/-
  Strings as parts of blocks: the plain law. No conditions.
  How a row reads as a map's element. No conditions.
  Contracts of the small tests: within, inRoom, inBudget. No conditions.
-/
import Derived.Test.YtbndknbjjdoanaaSharePackedPaa
import Derived.Maps.Own

namespace Go.Proofs.Ytbndknbjjdoanaa
section
open Go.RowKit
set_option linter.unusedVariables false

/-- A part of a string: octets of a block. -/
structure Pt where
  b : Nat
  f : Nat
  t : Nat
def Pt.n (x : Pt) : Nat := x.t - x.f
def lenP (l : List Pt) : Nat := (l.map Pt.n).sum
/-- The octets of a part, of parts. -/
def octPt (M : Nat → List Int) (x : Pt) : List Int := ((M x.b).take x.t).drop x.f
def octP (M : Nat → List Int) (l : List Pt) : List Int := l.flatMap (octPt M)
def Pt.ok (M : Nat → List Int) (x : Pt) : Prop := x.f ≤ x.t ∧ x.t ≤ (M x.b).length
theorem octPt_len {M : Nat → List Int} {x : Pt} (h : x.ok M) : (octPt M x).length = x.n := by
  unfold octPt Pt.n
  rw [List.length_drop, List.length_take, Nat.min_eq_left h.2]
theorem octP_nil (M : Nat → List Int) : octP M [] = [] := rfl
theorem octP_cons (M : Nat → List Int) (x : Pt) (l : List Pt) : octP M (x :: l) = octPt M x ++ octP M l := rfl
theorem octP_app (M : Nat → List Int) (a b : List Pt) : octP M (a ++ b) = octP M a ++ octP M b := by unfold octP; rw [List.flatMap_append]
theorem octP_len {M : Nat → List Int} : ∀ {l : List Pt}, (∀ x ∈ l, x.ok M) → (octP M l).length = lenP l
  | [], _ => rfl
  | x :: l, h => by
    rw [octP_cons, List.length_append, octPt_len (h x (by simp)), octP_len (fun y hy => h y (by simp [hy]))]
    simp [lenP]
theorem octP_same {M M' : Nat → List Int} {l : List Pt} (h : ∀ x ∈ l, M' x.b = M x.b) : octP M' l = octP M l := by
  induction l with
  | nil => rfl
  | cons x l ih =>
    rw [octP_cons, octP_cons, ih (fun y hy => h y (by simp [hy]))]
    unfold octPt
    rw [h x (by simp)]

/-- Parts cut at both ends. -/
def cutP : List Pt → Int → Int → List Pt
  | [], _, _ => []
  | x :: l, f, t => (if max f 0 < min t ((x.t : Int) - x.f) then [⟨x.b, x.f + (max f 0).toNat, x.f + (min t ((x.t : Int) - x.f)).toNat⟩] else []) ++ cutP l (f - ((x.t : Int) - x.f)) (t - ((x.t : Int) - x.f))
theorem cutP_len : ∀ (l : List Pt) (f t : Int), (cutP l f t).length ≤ l.length
  | [], _, _ => Nat.le_refl _
  | x :: l, f, t => by
    unfold cutP
    rw [List.length_append]
    have := cutP_len l (f - ((x.t : Int) - x.f)) (t - ((x.t : Int) - x.f))
    split <;> simp only [List.length_cons, List.length_nil] <;> omega
theorem cutP_ok {M : Nat → List Int} : ∀ {l : List Pt} {f t : Int}, (∀ x ∈ l, x.ok M) → ∀ y ∈ cutP l f t, y.ok M ∧ y.f < y.t ∧ ∃ x ∈ l, x.b = y.b
  | [], _, _, _, y, hy => by simp [cutP] at hy
  | x :: l, f, t, h, y, hy => by
    unfold cutP at hy
    rcases List.mem_append.1 hy with hy | hy
    · have hx := h x (by simp)
      obtain ⟨h1, h2⟩ := hx
      split at hy
      · rename_i hc
        have e : y = ⟨x.b, x.f + (max f 0).toNat, x.f + (min t ((x.t : Int) - x.f)).toNat⟩ := by simpa using hy
        subst e
        refine ⟨⟨?_, ?_⟩, ?_, x, by simp, rfl⟩ <;> simp only <;> omega
      · simp at hy
    · obtain ⟨a, b, z, hz, e⟩ := cutP_ok (fun z hz => h z (by simp [hz])) y hy
      exact ⟨a, b, z, by simp [hz], e⟩
theorem cut_two (a b : List Int) (F T : Nat) : ((a ++ b).take T).drop F = (a.take T).drop F ++ (b.take (T - a.length)).drop (F - a.length) := by
  rw [List.take_append, List.drop_append, List.length_take]
  congr 1
  rcases Nat.le_total a.length T with h | h
  · rw [Nat.min_eq_right h]
  · rw [Nat.sub_eq_zero_of_le h, List.take_zero, List.drop_nil, List.drop_nil]
theorem cutP_oct {M : Nat → List Int} : ∀ {l : List Pt} {f t : Int}, (∀ x ∈ l, x.ok M) → octP M (cutP l f t) = ((octP M l).take t.toNat).drop f.toNat
  | [], f, t, _ => by simp [cutP, octP_nil]
  | x :: l, f, t, h => by
    obtain ⟨h1, h2⟩ := h x (by simp)
    have hl : (octPt M x).length = x.t - x.f := octPt_len (h x (by simp))
    unfold cutP
    rw [octP_app, cutP_oct (fun z hz => h z (by simp [hz])), octP_cons, cut_two, hl]
    have e1 : (f - ((x.t : Int) - x.f)).toNat = f.toNat - (x.t - x.f) := by omega
    have e2 : (t - ((x.t : Int) - x.f)).toNat = t.toNat - (x.t - x.f) := by omega
    rw [e1, e2]
    congr 1
    split
    · rename_i hc
      rw [octP_cons, octP_nil, List.append_nil]
      unfold octPt
      simp only
      have e3 : (min t ((x.t : Int) - x.f)).toNat = min t.toNat (x.t - x.f) := by omega
      have e4 : (max f 0).toNat = f.toNat := by omega
      rw [e3, e4, List.take_drop, List.take_take, ← List.drop_drop]
      congr 2
      congr 1
      omega
    · rename_i hc
      rw [octP_nil]
      symm
      apply List.drop_eq_nil_of_le
      rw [List.length_take, hl]
      omega
theorem lenP_app (a b : List Pt) : lenP (a ++ b) = lenP a + lenP b := by simp [lenP]

/-- How many blocks so many octets fill. -/
def manyP (size n : Nat) : Nat := (n + size - 1) / size
theorem manyP_zero {size : Nat} (h : 1 ≤ size) : manyP size 0 = 0 := by
  unfold manyP
  exact Nat.div_eq_of_lt (by omega)
theorem manyP_step {size n : Nat} (h : 1 ≤ size) (hn : 1 ≤ n) : manyP size n = manyP size (n - size) + 1 := by
  unfold manyP
  rcases Nat.lt_or_ge size n with h1 | h1
  · have e : n + size - 1 = (n - size + size - 1) + size := by omega
    rw [e, Nat.add_div_right _ (by omega)]
  · have e : n - size = 0 := by omega
    rw [e, Nat.div_eq_of_lt (show 0 + size - 1 < size by omega)]
    exact Nat.div_eq_of_lt_le (by omega) (by omega)

end
end Go.Proofs.Ytbndknbjjdoanaa

namespace Go.Proofs.Ytbndknbjjdoanaa
section
open Go.RowKit
set_option linter.unusedVariables false

/-! How a row reads as a map's element. -/
def rowElem : Value → Option (DataW Unit × List MemPlace)
  | .slice none 0 0 => some (.nil, [])
  | .slice (some ⟨g, 0, none⟩) n c => some (.agg [.lit (.int .i64 g), .lit (.int .i64 n), .lit (.int .i64 c)], [])
  | _ => none
def rowD : Option (Nat × Nat × Nat) → DataW Unit
  | none => .nil
  | some (g, n, c) => .agg [.lit (.int .i64 g), .lit (.int .i64 n), .lit (.int .i64 c)]
def rowOf : Option (Nat × Nat × Nat) → Value
  | none => .slice none 0 0
  | some (g, n, c) => .slice (some ⟨g, 0, none⟩) n c
theorem rowElem_of (o : Option (Nat × Nat × Nat)) : rowElem (rowOf o) = some (rowD o, []) := by
  rcases o with _ | ⟨g, n, c⟩ <;> rfl
theorem rowElem_inv {v : Value} {o : Option (Nat × Nat × Nat)} {ps : List MemPlace} (h : rowElem v = some (rowD o, ps)) : v = rowOf o := by
  unfold rowElem at h
  split at h
  · rcases o with _ | ⟨g, n, c⟩
    · rfl
    · simp [rowD] at h
  · next g' n' c' =>
    rcases o with _ | ⟨g, n, c⟩
    · simp [rowD] at h
    · simp only [rowD, Option.some.injEq, Prod.mk.injEq, DataW.agg.injEq, List.cons.injEq, DataW.lit.injEq, Lit.int.injEq, true_and, and_true] at h
      obtain ⟨⟨h1, h2, h3⟩, _⟩ := h
      have e1 : g' = g := by omega
      have e2 : n' = n := by omega
      have e3 : c' = c := by omega
      subst e1; subst e2; subst e3
      rfl
  · cases h

/-- What is read of a key, beside what stands for none. -/
def rowZ (o : Option (Option (Nat × Nat × Nat))) (z : DataW Unit) : DataW Unit := match o with
  | none => z
  | some o => rowD o

end
end Go.Proofs.Ytbndknbjjdoanaa

namespace Go.Proofs.Ytbndknbjjdoanaa
section
open Go.RowKit

theorem within_room_yes (n lo hi : Int) (w : World) (h1 : lo ≤ n) (h2 : n ≤ hi) :
    Calls Try.prog 53 #[.int .i64 n, .int .i64 lo, .int .i64 hi] w fun e w' => e = .returned (.bool true) ∧ w = w' := by
  go_enter Try.func53, Try.ntmps53
  go_wp2
  go_ret
  exact ⟨rfl, rfl⟩
theorem within_room_no (n lo hi : Int) (w : World) (h : ¬ (lo ≤ n ∧ n ≤ hi)) :
    Calls Try.prog 53 #[.int .i64 n, .int .i64 lo, .int .i64 hi] w fun e w' => e = .returned (.bool false) ∧ w = w' := by
  by_cases h1 : lo ≤ n
  · have h2 : hi < n := by omega
    clear h
    go_enter Try.func53, Try.ntmps53
    go_wp2
    go_ret
    first | exact ⟨rfl, rfl⟩ | exact ⟨ret_bool (decide_eq_false (by omega)), rfl⟩
  · have h2 : n < lo := by omega
    clear h h1
    go_enter Try.func53, Try.ntmps53
    go_wp2
    go_ret
    first | exact ⟨rfl, rfl⟩ | exact ⟨ret_bool (decide_eq_false (by omega)), rfl⟩

theorem within_ledger_yes (n lo hi : Int) (w : World) (h1 : lo ≤ n) (h2 : n ≤ hi) :
    Calls Try.prog 56 #[.int .i64 n, .int .i64 lo, .int .i64 hi] w fun e w' => e = .returned (.bool true) ∧ w = w' := by
  go_enter Try.func56, Try.ntmps56
  go_wp2
  go_ret
  exact ⟨rfl, rfl⟩
theorem within_ledger_no (n lo hi : Int) (w : World) (h : ¬ (lo ≤ n ∧ n ≤ hi)) :
    Calls Try.prog 56 #[.int .i64 n, .int .i64 lo, .int .i64 hi] w fun e w' => e = .returned (.bool false) ∧ w = w' := by
  by_cases h1 : lo ≤ n
  · have h2 : hi < n := by omega
    clear h
    go_enter Try.func56, Try.ntmps56
    go_wp2
    go_ret
    first | exact ⟨rfl, rfl⟩ | exact ⟨ret_bool (decide_eq_false (by omega)), rfl⟩
  · have h2 : n < lo := by omega
    clear h h1
    go_enter Try.func56, Try.ntmps56
    go_wp2
    go_ret
    first | exact ⟨rfl, rfl⟩ | exact ⟨ret_bool (decide_eq_false (by omega)), rfl⟩

end
end Go.Proofs.Ytbndknbjjdoanaa
