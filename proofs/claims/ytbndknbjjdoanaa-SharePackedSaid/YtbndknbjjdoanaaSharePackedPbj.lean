/-
  What sweep keeps: the map of what is kept; the plain part. No conditions.
-/
import Derived.Test.YtbndknbjjdoanaaSharePackedPbi
import Derived.Maps.RangeWalk
namespace Go.Proofs.Ytbndknbjjdoanaa
open Go.RowKit
set_option linter.unusedVariables false

/-- A map of ints to whether. -/
def KpM (w : World) (b n : Nat) (K : Int → Bool) : Prop := ∃ D : DataW Unit, w.ownsMap Try.prog 3 (plainElem Try.prog 4) b n D ∧ ∀ k : Int, D.atKey (.int .i64 k) (.lit (.bool false)) = .lit (.bool (K k))
theorem KpM.same {w w' : World} {b n : Nat} {K : Int → Bool} (h : KpM w b n K) (hs : w'.heap[b]? = w.heap[b]?) : KpM w' b n K := by
  obtain ⟨D, ⟨es, clock, h1, h2⟩, h3⟩ := h
  exact ⟨D, ⟨es, clock, hs.trans h1, h2⟩, h3⟩
theorem KpM.lt {w : World} {b n : Nat} {K : Int → Bool} (h : KpM w b n K) : b < w.heap.size := by
  obtain ⟨D, h1, _⟩ := h
  exact h1.lt
theorem KpM.notCells {w : World} {b n : Nat} {K : Int → Bool} (h : KpM w b n K) : ∃ es c, w.heap[b]? = some (.map es c) := by
  obtain ⟨D, ⟨es, clock, h1, h2⟩, h3⟩ := h
  exact ⟨es, clock, h1⟩
theorem KpM.new (w : World) : KpM (w.alloc (.map #[] 0)) w.heap.size 0 (fun _ => false) := by
  refine ⟨.map [], World.ownsMap_made (H := Unit) w Try.prog 3 (plainElem Try.prog 4), fun k => rfl⟩
theorem KpM.put {w : World} {b n : Nat} {K : Int → Bool} (h : KpM w b n K) (x : Int) (hx : -9223372036854775808 ≤ x ∧ x ≤ 9223372036854775807) (hn : n < 1000000000) :
    ∃ w', (Instr.mapUpdate 115 (.map (some b)) (.int .i64 x) (.bool true)).run Try.prog w = .ok () w' ∧ KpM w' b (n + 1) (fun k => K k || decide (k = x)) ∧ w.grownBy w' (some b) := by
  obtain ⟨D, h1, h3⟩ := h
  have hkey := Maps.keyOf_int_mk (P := Try.prog) (k := 3) Try.underlying3 (a := x) (WalkArith.wf_i64 hx)
  have ismap := h1.isMap
  obtain ⟨w', hrun, hm, hg⟩ := h1.update (Maps.int_keyed Try.underlying3) Try.underlying115 (by unfold maxLen; omega) hkey (val := .bool true) (plainElem_bool Try.underlying4 true)
  refine ⟨w', hrun, ⟨_, hm, fun k => ?_⟩, hg⟩
  by_cases e : x = k
  · subst e
    rw [Maps.atKey_put_same ismap (by simp [WideAt.IsKeyLit])]
    simp
  · rw [Maps.atKey_put_other (by simp; omega), h3 k]
    have e' : ¬ k = x := fun h => e h.symm
    simp [e']
set_option maxRecDepth 100000 in
theorem KpM.look {w : World} {b n : Nat} {K : Int → Bool} (h : KpM w b n K) (x : Int) (hx : -9223372036854775808 ≤ x ∧ x ≤ 9223372036854775807) :
    (Instr.lookup 115 (.map (some b)) (.int .i64 x) false).run Try.prog w = .ok (.bool (K x)) w := by
  obtain ⟨D, h1, h3⟩ := h
  have hz : (zeroValue 4).run Try.prog w = .ok (.bool false) w := by kernel_rfl
  obtain ⟨v, ps, hrun, hv⟩ := h1.lookup (Maps.int_keyed Try.underlying3) Try.underlying115 hz (zd := .lit (.bool false)) (zp := []) (plainElem_bool Try.underlying4 false) (Maps.keyOf_int_mk Try.underlying3 (WalkArith.wf_i64 hx))
  rw [h3 x] at hv
  have hb : v = .bool (K x) := by
    unfold plainElem at hv
    rw [Try.underlying4] at hv
    cases v <;> simp at hv
    rw [hv.1]
  rw [hrun, hb]

theorem ptrElem_shapeB {v : Value} {y : DataW Unit × List MemPlace} (e : ptrElem v = some y) : ∃ c : Option Nat, v = ptrOf c := by
  unfold ptrElem at e
  split at e
  · exact ⟨none, rfl⟩
  · next b => exact ⟨some b, rfl⟩
  · cases e
theorem rowElem_shape {v : Value} {y : DataW Unit × List MemPlace} (e : rowElem v = some y) : ∃ c : Option (Nat × Nat × Nat), v = rowOf c := by
  unfold rowElem at e
  split at e
  · exact ⟨none, rfl⟩
  · next g n c => exact ⟨some (g, n, c), rfl⟩
  · cases e

theorem lookN_of_mem {α : Type} : ∀ {l : List (Nat × α)} {n : Nat} {x : α}, (l.map Prod.fst).Nodup → (n, x) ∈ l → lookN l (n : Int) = some x
  | [], _, _, _, h => by simp at h
  | p :: l, n, x, hn, h => by
    rw [List.map_cons, List.nodup_cons] at hn
    unfold lookN
    rw [List.find?_cons]
    rcases List.mem_cons.1 h with rfl | h
    · simp
    · have hne : ¬ ((p.1 : Int) = (n : Int)) := fun e => hn.1 (by
        have e' : p.1 = n := by omega
        rw [e']
        exact List.mem_map.2 ⟨_, h, rfl⟩)
      simp only [hne, decide_false]
      exact lookN_of_mem hn.2 h
theorem lookN_filter {α : Type} (q : Int → Bool) : ∀ (l : List (Nat × α)) (k : Int), lookN (l.filter fun p => q (p.1 : Int)) k = if q k then lookN l k else none
  | [], k => by simp [lookN]
  | p :: l, k => by
    have ih := lookN_filter q l k
    rw [List.filter_cons]
    by_cases hp : q (p.1 : Int) = true
    · rw [if_pos hp]
      unfold lookN at *
      rw [List.find?_cons, List.find?_cons]
      by_cases e : (p.1 : Int) = k
      · simp only [e, decide_true, Option.map_some]
        rw [← e, hp, if_pos rfl]
      · simp only [e, decide_false]
        exact ih
    · rw [if_neg hp, ih]
      by_cases e : (p.1 : Int) = k
      · rw [← e, if_neg hp, if_neg hp]
      · have e2 : lookN (p :: l) k = lookN l k := by
          unfold lookN
          rw [List.find?_cons]
          simp only [e, decide_false]
        rw [e2]
/-- One less. -/
theorem filter_less {α : Type} {q q' : Int → Bool} {n : Nat} (hq : q (n : Int) = true) (hq' : q' (n : Int) = false) (ho : ∀ k : Int, k ≠ n → q' k = q k) : ∀ {l : List (Nat × α)}, (l.map Prod.fst).Nodup → (∃ x, (n, x) ∈ l) → (l.filter fun p => q' (p.1 : Int)).length + 1 = (l.filter fun p => q (p.1 : Int)).length
  | [], _, h => by obtain ⟨x, h⟩ := h; simp at h
  | p :: l, hn, h => by
    rw [List.map_cons, List.nodup_cons] at hn
    rw [List.filter_cons, List.filter_cons]
    by_cases e : p.1 = n
    · have e1 : (l.filter fun p => q' (p.1 : Int)) = l.filter fun p => q (p.1 : Int) := List.filter_congr (fun r hr => ho _ (fun e2 => hn.1 (List.mem_map.2 ⟨r, hr, by omega⟩)))
      rw [e, hq, hq', if_pos rfl, e1]
      simp
    · obtain ⟨x, hx⟩ := h
      have hx' : (n, x) ∈ l := by
        rcases List.mem_cons.1 hx with e2 | e2
        · exact absurd (by rw [← e2]) e
        · exact e2
      have ih := filter_less hq hq' ho hn.2 ⟨x, hx'⟩
      rw [ho (p.1 : Int) (by omega)]
      split
      · simp only [List.length_cons]; omega
      · exact ih

/-- A block that a string has. -/
def PoolSt.keeps (P : PoolSt) (k : Int) : Bool := P.st.any fun s => s.2.2.any fun x => decide ((x.b : Int) = k)
def PoolSt.swept (P : PoolSt) : PoolSt := { P with bl := P.bl.filter fun p => P.keeps (p.1 : Int) }
/-- What is marked while the strings are gone through. -/
def Marks (P : PoolSt) (left : Lit → Bool) (K : Int → Bool) : Prop := ∀ k : Int, K k = true ↔ ∃ p ∈ P.st, left (.int .i64 (p.1 : Int)) = false ∧ ∃ x ∈ p.2.2, (x.b : Int) = k
theorem Marks.all {P : PoolSt} {left : Lit → Bool} {K : Int → Bool} (h : Marks P left K) (hl : ∀ kl, left kl = false) : K = P.keeps := by
  funext k
  have h1 := h k
  unfold PoolSt.keeps
  rw [Bool.eq_iff_iff, h1, List.any_eq_true]
  constructor
  · rintro ⟨p, hp, _, x, hx, e⟩
    exact ⟨p, hp, List.any_eq_true.2 ⟨x, hx, by simp [e]⟩⟩
  · rintro ⟨p, hp, hx⟩
    obtain ⟨x, hx, e⟩ := List.any_eq_true.1 hx
    exact ⟨p, hp, hl _, x, hx, by simpa using e⟩
theorem Marks.step {P : PoolSt} {left : Lit → Bool} {K : Int → Bool} {s : Nat} {o : Option (Nat × Nat × Nat)} {l : List Pt} (h : Marks P left K) (hk : (P.st.map Prod.fst).Nodup) (hm : (s, o, l) ∈ P.st) (hl : left (.int .i64 (s : Int)) = true) : Marks P (fun z => left z && !z.sameKey (.int .i64 (s : Int))) (fun k => K k || l.any fun x => decide ((x.b : Int) = k)) := fun k => by
  have h1 := h k
  rw [Bool.or_eq_true, h1, List.any_eq_true]
  constructor
  · rintro (⟨p, hp, hlp, x, hx, e⟩ | ⟨x, hx, e⟩)
    · refine ⟨p, hp, ?_, x, hx, e⟩
      simp [hlp]
    · exact ⟨(s, o, l), hm, by simp [Lit.sameKey], x, hx, by simpa using e⟩
  · rintro ⟨p, hp, hlp, x, hx, e⟩
    by_cases e2 : p.1 = s
    · right
      have : p.2 = (o, l) := by
        have a1 := lookN_of_mem hk (show (p.1, p.2) ∈ P.st from hp)
        have a2 := lookN_of_mem hk hm
        rw [e2, a2] at a1
        exact (Option.some.inj a1).symm
      rw [this] at hx
      exact ⟨x, hx, by simp [e]⟩
    · left
      refine ⟨p, hp, ?_, x, hx, e⟩
      have e3 : ¬ ((p.1 : Int) = (s : Int)) := by omega
      simpa [Lit.sameKey, e3] using hlp

end Go.Proofs.Ytbndknbjjdoanaa
