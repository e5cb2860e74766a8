/-
  What the statement keeps of a cache: slots in use with their octets, slots that are gone. Plain Lean over the cache's state. No program.
-/
import Derived.Test.YtiaedonhbafpjaaTopSlabPbn
namespace Go.Proofs.Ytiaedonhbafpjaa
open Go.RowKit
set_option linter.unusedVariables false

def Hold (S : CaSt) (s : Sq) (o : List Int) : Prop := ∃ x an y, InUse S x an y s.cls s.no s.at' s.gen ∧ 1 ≤ s.gen ∧ y.len = o.length ∧ y.len ≤ clsN S.classes x.cls ∧ octOf S x an y.len = o
def Dead (S : CaSt) (s : Sq) : Prop := s.no ≤ (S.last : Int) ∧ ∀ x, slabOf S.sl s.no = some x → ∃ an y, s.at' = (an : Nat) ∧ x.cl[an]? = some y ∧ s.gen < (y.gen : Int)

theorem Dead.val {S : CaSt} {s : Sq} (h : Dead S s) : valE S s.cls s.no s.at' s.gen ≠ 0 := by
  intro h0
  obtain ⟨x, an, y, u⟩ := valE_zero h0
  obtain ⟨an2, y2, h1, h2, h3⟩ := h.2 x u.no
  have h4 := u.at'
  have h5 : an = an2 := by omega
  subst h5
  have h6 := u.cel
  rw [h2] at h6
  cases h6
  have := u.gen
  omega
theorem slabOf_put (S : CaSt) (z : Sl) (no : Int) : slabOf (S.put z).sl no = (slabOf S.sl no).map (fun y => if y.no = z.no then z else y) := by
  unfold slabOf CaSt.put
  simp only [List.find?_map]
  congr 2
  funext y
  simp only [Function.comp]
  split
  · next h => rw [h]
  · rfl
theorem slabOf_put_ne {S : CaSt} {z : Sl} {no : Int} (h : no ≠ (z.no : Int)) : slabOf (S.put z).sl no = slabOf S.sl no := by
  rw [slabOf_put]
  cases hs : slabOf S.sl no with
  | none => rfl
  | some y =>
    have := (slabOf_some hs).2
    simp only [Option.map_some]
    rw [if_neg (by omega)]
theorem slabOf_put_eq {S : CaSt} {z x : Sl} {no : Int} (h : slabOf S.sl no = some x) (hn : x.no = z.no) : slabOf (S.put z).sl no = some z := by
  rw [slabOf_put, h]
  simp [hn]
theorem slabOf_add {S : CaSt} {cls p g q : Nat} {no : Int} {x : Sl} (h : slabOf S.sl no = some x) : slabOf (S.add cls p g q).sl no = some x := by
  unfold slabOf CaSt.add at *
  simp only [List.find?_append, h]
  rfl
theorem slabOf_add_old {S : CaSt} {cls p g q : Nat} {no : Int} {x : Sl} (h : slabOf (S.add cls p g q).sl no = some x) (hn : no ≤ (S.last : Int)) : slabOf S.sl no = some x := by
  unfold slabOf CaSt.add at *
  simp only [List.find?_append] at h
  cases hs : List.find? (fun x => decide ((x.no : Int) = no)) S.sl with
  | some y => rw [hs] at h; exact h
  | none =>
    rw [hs] at h
    simp [newSl] at h
    omega

theorem Hold.put {S : CaSt} {s : Sq} {o : List Int} (h : Hold S s o) {x z : Sl} (hn : z.no = x.no) (hc : z.cls = x.cls) (hx : slabOf S.sl (x.no : Int) = some x)
    (keep : s.no = (x.no : Int) → ∀ an : Nat, s.at' = (an : Int) → z.cl[an]? = x.cl[an]? ∧ ∀ n, n ≤ clsN S.classes x.cls → octOf S z an n = octOf S x an n) : Hold (S.put z) s o := by
  obtain ⟨x1, an, y, u, h1, h2, h3, h4⟩ := h
  by_cases e : s.no = (x.no : Int)
  · have hx1 : x1 = x := by have := u.no; rw [e, hx] at this; exact (Option.some.inj this).symm
    subst hx1
    obtain ⟨k1, k2⟩ := keep e an u.at'
    exact ⟨z, an, y, ⟨by rw [hc]; exact u.cls, slabOf_put_eq u.no hn.symm, u.at', by rw [k1]; exact u.cel, u.gen, u.used⟩, h1, h2, by rw [hc]; exact h3, by
      have := k2 y.len h3
      rw [← h4, ← this]
      rfl⟩
  · exact ⟨x1, an, y, ⟨u.cls, by rw [slabOf_put_ne (by rw [hn]; exact e)]; exact u.no, u.at', u.cel, u.gen, u.used⟩, h1, h2, h3, h4⟩
theorem Dead.put {S : CaSt} {s : Sq} (h : Dead S s) {x z : Sl} (hn : z.no = x.no) (hx : slabOf S.sl (x.no : Int) = some x) (keep : ∀ (an : Nat) y, x.cl[an]? = some y → ∃ y' : Cel, z.cl[an]? = some y' ∧ y.gen ≤ y'.gen) : Dead (S.put z) s := by
  refine ⟨h.1, fun x1 hx1 => ?_⟩
  by_cases e : s.no = (x.no : Int)
  · rw [e, slabOf_put_eq hx hn.symm] at hx1
    cases hx1
    obtain ⟨an, y, h1, h2, h3⟩ := h.2 x (by rw [e]; exact hx)
    obtain ⟨y', h4, h5⟩ := keep an y h2
    exact ⟨an, y', h1, h4, by omega⟩
  · rw [slabOf_put_ne (by rw [hn]; exact e)] at hx1
    exact h.2 x1 hx1
theorem Hold.add {S : CaSt} {s : Sq} {o : List Int} (h : Hold S s o) (cls p g q : Nat) : Hold (S.add cls p g q) s o := by
  obtain ⟨x1, an, y, u, h1, h2, h3, h4⟩ := h
  exact ⟨x1, an, y, ⟨u.cls, slabOf_add u.no, u.at', u.cel, u.gen, u.used⟩, h1, h2, h3, h4⟩
theorem Dead.add {S : CaSt} {s : Sq} (h : Dead S s) (cls p g q : Nat) : Dead (S.add cls p g q) s := by
  refine ⟨by show s.no ≤ ((S.last + 1 : Nat) : Int); have := h.1; omega, fun x hx => h.2 x (slabOf_add_old hx h.1)⟩

/-! How many are in use. -/
theorem usedN_set : ∀ {l : List Cel} {an : Nat} {y : Cel} (y' : Cel), l[an]? = some y → usedN (l.set an y') + (if y.used then 1 else 0) = usedN l + (if y'.used then 1 else 0)
  | [], an, y, y', h => by simp at h
  | z :: l, 0, y, y', h => by
    simp at h
    subst h
    unfold usedN
    rw [List.set_cons_zero]
    cases h1 : z.used <;> cases h2 : y'.used <;> simp [h1, h2]
  | z :: l, an + 1, y, y', h => by
    have ih := usedN_set (l := l) (an := an) (y := y) y' (by simpa using h)
    unfold usedN at *
    rw [List.set_cons_succ]
    cases h1 : z.used <;> simp only [List.filter_cons, h1, if_true, if_false, Bool.false_eq_true, List.length_cons] <;> omega
theorem usedAll_put {S : CaSt} (hn : (S.sl.map Sl.no).Pairwise (· < ·)) {x z : Sl} (hx : x ∈ S.sl) (hz : z.no = x.no) : usedAll (S.put z).sl + usedN x.cl = usedAll S.sl + usedN z.cl := by
  unfold CaSt.put
  simp only
  generalize S.sl = l at *
  induction l with
  | nil => simp at hx
  | cons y l ih =>
    rw [List.map_cons, List.pairwise_cons] at hn
    rw [List.map_cons]
    have e : ∀ (a : Sl) (l : List Sl), usedAll (a :: l) = usedN a.cl + usedAll l := fun a l => by simp [usedAll]
    rw [e, e]
    rcases List.mem_cons.1 hx with rfl | hx
    · rw [if_pos hz.symm]
      have e2 : (l.map fun y => if y.no = z.no then z else y) = l := by
        conv => rhs; rw [← List.map_id l]
        refine List.map_congr_left (fun w hw => ?_)
        have := hn.1 w.no (List.mem_map_of_mem hw)
        rw [if_neg (by omega)]
        rfl
      rw [e2]
      omega
    · have := hn.1 x.no (List.mem_map_of_mem hx)
      rw [if_neg (by omega)]
      have := ih hn.2 hx
      omega
theorem usedAll_add (S : CaSt) (cls p g q : Nat) : usedAll (S.add cls p g q).sl = usedAll S.sl := by
  show usedAll (S.sl ++ [_]) = _
  unfold usedAll
  rw [List.map_append, List.sum_append]
  have : usedN (newSl S cls (S.last + 1) p g q).cl = 0 := by
    unfold usedN newSl
    simp
  simp [this]
theorem usedAll_busy (l : List Sl) : usedAll (busy l) = usedAll l := by
  induction l with
  | nil => rfl
  | cons x l ih =>
    have e : ∀ (a : Sl) (l : List Sl), usedAll (a :: l) = usedN a.cl + usedAll l := fun a l => by simp [usedAll]
    unfold busy at *
    rw [List.filter_cons]
    cases h : idle x with
    | true =>
      simp only [Bool.not_true, Bool.false_eq_true, if_false]
      rw [ih, e]
      have : usedN x.cl = 0 := by unfold idle at h; simpa using h
      omega
    | false =>
      simp only [Bool.not_false, if_true]
      rw [e, e, ih]

/-! The room of all slabs. -/
theorem tot_put (S : CaSt) (hn : (S.sl.map Sl.no).Pairwise (· < ·)) {x z : Sl} (hx : x ∈ S.sl) (hz : z.no = x.no) (hc : z.cls = x.cls) : (S.put z).tot = S.tot := by
  have e := put_maps (fun x => S.room x.cls) hn hx hz (by simp only [hc])
  unfold CaSt.tot roomsOf
  exact congrArg List.sum e
theorem tot_add (S : CaSt) (cls p g q : Nat) : (S.add cls p g q).tot = S.tot + S.room cls := by
  unfold CaSt.tot roomsOf CaSt.add
  simp only [List.map_append, List.sum_append, List.map_cons, List.map_nil, List.sum_cons, List.sum_nil, Nat.add_zero]
  rfl
theorem tot_trim (S : CaSt) : S.trim.tot = S.tot - idleN S S.sl := by
  have := idle_busy S S.sl
  have e : S.trim.tot = roomsOf S (busy S.sl) := rfl
  rw [e]
  unfold CaSt.tot
  omega

/-! Octets of slots. -/
theorem oct_eq {S : CaSt} {x z : Sl} {an n : Nat} (hc : z.cls = x.cls) (hn : n ≤ clsN S.classes x.cls) (h : ∀ j, an * clsN S.classes x.cls ≤ j → j < an * clsN S.classes x.cls + clsN S.classes x.cls → z.cs[j]? = x.cs[j]?) : octOf S z an n = octOf S x an n := by
  unfold octOf
  rw [hc]
  refine List.ext_getElem? (fun j => ?_)
  by_cases hj : j < n
  · rw [List.getElem?_take_of_lt hj, List.getElem?_take_of_lt hj, List.getElem?_drop, List.getElem?_drop]
    exact h _ (Nat.le_add_right _ _) (by omega)
  · rw [List.getElem?_eq_none (by rw [List.length_take]; omega), List.getElem?_eq_none (by rw [List.length_take]; omega)]
/-- Two slots of a slab lie apart. -/
theorem slots_apart {a b sz j : Nat} (hne : a ≠ b) (h1 : a * sz ≤ j) (h2 : j < a * sz + sz) : j < b * sz ∨ b * sz + sz ≤ j := by
  rcases Nat.lt_or_gt_of_ne hne with h | h
  · left
    have := Nat.mul_le_mul_right sz (show a + 1 ≤ b from h)
    rw [Nat.succ_mul] at this
    omega
  · right
    have := Nat.mul_le_mul_right sz (show b + 1 ≤ a from h)
    rw [Nat.succ_mul] at this
    omega

end Go.Proofs.Ytiaedonhbafpjaa
