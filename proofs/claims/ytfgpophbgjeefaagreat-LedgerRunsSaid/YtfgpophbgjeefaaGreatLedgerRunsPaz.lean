/-
  The book's Change and Left for all arguments; the reference's Ask. No conditions but what always holds of a book.
  The owners of a book: the list, and what a sorted list of the map's keys is. No conditions.
  A range over a map that is under way stays while other blocks are turned. No conditions.
-/
import Derived.Test.YtfgpophbgjeefaaGreatLedgerRunsPam
import Derived.Test.YtfgpophbgjeefaaGreatLedgerRunsPay
import Derived.Test.YtfgpophbgjeefaaGreatLedgerRunsPar

namespace Go.Proofs.YtfgpophbgjeefaaGreat
section
open Go.RowKit
set_option linter.unusedVariables false

set_option maxHeartbeats 1000000 in
set_option maxRecDepth 100000 in
theorem change_err (p : Nat) (o n t : Int) (w : World) (F : Nat → Prop) (st : BookSt) (N : Nat) (hb : BookAt w F p st N) (e : Int) (he : BadAcc st o [n, t] e) :
    Calls Tryz.prog 155 #[.pointer (some ⟨p, 0, none⟩), .int .i64 o, .int .i64 n, .int .i64 t] w (OpPost e F p st N w) := by
  have B1 : Below w.heap.size w (w.alloc (.cells #[.int .i64 n, .int .i64 t] 3)) := (Below.refl _ _).alloc (Nat.le_refl _) _
  have C := Lib.hid (account_bad p o _ [n, t] _ F st N (reads_two w n t) (hb.same (Below.same_on B1)) e he)
  have FIN := Lib.hid (bad_fin hb B1)
  have hv := he.vals
  clear hb he B1
  rcases hv with rfl | rfl
  all_goals
    go_enter Tryz.func155, Tryz.ntmps155
    go_wp2_with fail
    refine C.out.mono ?_
    rintro e w1 ⟨rfl, rfl⟩
    unfold ptrOf
    go_wp2_with fail
    go_ret
    exact ⟨rfl, FIN.out.1, FIN.out.2⟩
theorem change_all (p : Nat) (o n t : Int) (w : World) (F : Nat → Prop) (st : BookSt) (N : Nat) (hb : BookAt w F p st N) (g : Good st) :
    Calls Tryz.prog 155 #[.pointer (some ⟨p, 0, none⟩), .int .i64 o, .int .i64 n, .int .i64 t] w (OpPost (changeR st o n t).1 F p (changeR st o n t).2 N w) := by
  unfold changeR
  rcases chkE_vals o [n, t] with hc | hc
  · rw [if_pos hc]
    cases ha : st.acc o with
    | none => exact change_err p o n t w F st N hb 7 (Or.inr ⟨hc, ha, rfl⟩)
    | some a =>
      obtain ⟨l, h, s⟩ := a
      obtain ⟨a1, a2, a3, a4, a5⟩ := g.own o l h s ha
      have h1 := g.s0 ha
      have h2 := g.tot0
      have h3 := g.totb
      have h4 := g.bud
      have h5 := (chkE_zero hc).2 n (by simp)
      have h6 := (chkE_zero hc).2 t (by simp)
      exact change_any p o n t l h s w F st N hb ha a1 h5 h6 (by omega) (by omega) (by omega) (by omega) (by omega) g.ents
  · rw [if_neg (by rw [hc]; decide)]
    exact change_err p o n t w F st N hb 2 (Or.inl ⟨hc, rfl⟩)

def leftV (st : BookSt) (o : Int) : Int := if 1 ≤ o ∧ o ≤ 40 then (match st.acc o with | some (l, h, s) => min (l - (h + s)) (st.budget - st.total) | none => 0) else 0
def SeePost2 (r err : Int) (w : World) : Ending → World → Prop := fun e w' => e = .returned (.tuple #[.int .i64 r, .int .i64 err]) ∧ Below w.heap.size w w'

set_option maxHeartbeats 1000000 in
set_option maxRecDepth 100000 in
theorem leftB_any (p : Nat) (o : Int) (w : World) (F : Nat → Prop) (st : BookSt) (N : Nat) (hb : BookAt w F p st N) (g : Good st) :
    Calls Tryz.prog 59 #[.pointer (some ⟨p, 0, none⟩), .int .i64 o] w (SeePost2 (leftV st o) (heldE st o) w) := by
  by_cases ho : 1 ≤ o ∧ o ≤ 40
  · have he : chkE o [] = 0 := by unfold chkE; rw [if_pos ⟨ho, by simp⟩]
    obtain ⟨mb, blk, lv, ev, D, hm⟩ := hb
    have C := account_any p o _ [] w F st N mb blk lv ev D (reads_nil w) he hm
    cases hk : blk o with
    | none =>
      have hv : leftV st o = 0 := by unfold leftV; rw [if_pos ho, (hm.anone o).1 hk]
      have hee : heldE st o = 7 := by unfold heldE; rw [if_pos ho, (hm.anone o).1 hk]
      rw [hv, hee]
      rw [hk] at C
      have HC := Lib.hid C
      clear C hm he hv hee hk ho
      go_enter Tryz.func59, Tryz.ntmps59
      go_wp2_with fail
      refine HC.out.mono ?_
      rintro e w' ⟨rfl, rfl⟩
      go_wp2_with fail
      go_ret2
      exact ⟨rfl, Below.refl _ _⟩
    | some ab =>
      obtain ⟨l, h, s, h1, h2, h3⟩ := hm.asome o ab hk
      have hv : leftV st o = min (l - (h + s)) (st.budget - st.total) := by unfold leftV; rw [if_pos ho, h1]
      have hee : heldE st o = 0 := by unfold heldE; rw [if_pos ho, h1]
      rw [hv, hee]
      rw [hk] at C
      obtain ⟨a1, a2, a3, a4, a5⟩ := g.own o l h s h1
      have s0 := g.s0 h1
      have t0 := g.tot0
      have t1 := g.totb
      have t2 := g.bud
      have HL := Lib.hid (left_any p ab st mb lv ev l h s w hm.self h2 (by omega) (by omega) (by omega) (by omega) (by omega))
      generalize min (l - (h + s)) (st.budget - st.total) = m at *
      have HC := Lib.hid C
      clear C hm he hv hee hk ho h1 h2 h3 g a5
      go_enter Tryz.func59, Tryz.ntmps59
      go_wp2_with fail
      refine HC.out.mono ?_
      rintro e w' ⟨rfl, rfl⟩
      unfold ptrOf
      go_wp2_with fail
      refine HL.out.mono ?_
      rintro e w3 ⟨rfl, q, rfl⟩
      go_wp2_with fail
      go_ret2
      exact ⟨rfl, bdrewN (Below.refl _ _) q⟩
  · have he : chkE o [] = 2 := by unfold chkE; rw [if_neg (fun h => ho h.1)]
    have HC := Lib.hid (account_bad p o _ [] w F st N (reads_nil w) hb 2 (Or.inl ⟨he, rfl⟩))
    have hv : leftV st o = 0 := by unfold leftV; rw [if_neg ho]
    have hee : heldE st o = 2 := by unfold heldE; rw [if_neg ho]
    rw [hv, hee]
    clear hb g he hv hee ho
    go_enter Tryz.func59, Tryz.ntmps59
    go_wp2_with fail
    refine HC.out.mono ?_
    rintro e w' ⟨rfl, rfl⟩
    unfold ptrOf
    go_wp2_with fail
    go_ret2
    exact ⟨rfl, Below.refl _ _⟩

/-- The reference's Ask. -/
theorem askR_all (p : Nat) (o : Int) (w : World) (F : Nat → Prop) (st : BookSt) (wh : Bool) (hb : RB w F p st wh) (g : GoodE st) :
    Calls Tryz.prog 60 #[.pointer (some ⟨p, 0, none⟩), .int .i64 o] w (fun x w' => x = .returned (.tuple #[.int .i64 (heldV st o), .int .i64 (leasedV st o), .int .i64 (leftV st o), .int .i64 (heldE st o)]) ∧ Below w.heap.size w w') := by
  unfold heldV leasedV leftV heldE
  rcases fault_cases st o [] with ⟨h1, h2⟩ | ⟨h1, h2, h3⟩ | ⟨h1, h2, l, h, s, h3⟩
  · have ho : ¬ (1 ≤ o ∧ o ≤ 40) := fun ho => by
      have : chkE o [] = 0 := by unfold chkE; rw [if_pos ⟨ho, by simp⟩]
      rw [h2] at this; cases this
    rw [if_neg ho, if_neg ho, if_neg ho, if_neg ho]
    exact askR_err p o w F st wh hb 2 h1 (Or.inl rfl)
  · have ho := (chkE_zero h2).1
    rw [if_pos ho, if_pos ho, if_pos ho, if_pos ho, h3]
    exact askR_err p o w F st wh hb 7 h1 (Or.inr rfl)
  · have ho := (chkE_zero h2).1
    rw [if_pos ho, if_pos ho, if_pos ho, if_pos ho, h3]
    exact askR_ok p o l h s w F st wh hb g h1 h2 h3

end
end Go.Proofs.YtfgpophbgjeefaaGreat

namespace Go.Proofs.YtfgpophbgjeefaaGreat
section
open Go.RowKit Go.Maps
set_option linter.unusedVariables false

theorem BookMem.has {w : World} {F : Nat → Prop} {p : Nat} {st : BookSt} {N mb : Nat} {blk : Int → Option Nat} {lv ev : Value} {D : DataW Unit} (h : BookMem w F p st N mb blk lv ev D) (o : Int) : Maps.has D (.int .i64 o) = (st.acc o).isSome := by
  cases hb : blk o with
  | none =>
    rw [(h.anone o).1 hb]
    exact has_false_of_atKey (fun z => by rw [h.look o z, hb]; rfl)
  | some b =>
    obtain ⟨l, x, s, h1, _, _⟩ := h.asome o b hb
    rw [h1]
    exact has_true_of_atKey (y := .lit (.int .i64 b)) (fun z => by rw [h.look o z, hb]; rfl)

/-- The owners up to one. -/
def ownK (st : BookSt) : Nat → List Int
  | 0 => []
  | k + 1 => ownK st k ++ (if (st.acc ((k : Int) + 1)).isSome then [(k : Int) + 1] else [])
theorem ownK_mem (st : BookSt) (x : Int) : ∀ k : Nat, x ∈ ownK st k ↔ (1 ≤ x ∧ x ≤ k ∧ (st.acc x).isSome = true)
  | 0 => by simp [ownK]; omega
  | k + 1 => by
    simp only [ownK, List.mem_append, ownK_mem st x k]
    by_cases hs : (st.acc ((k : Int) + 1)).isSome = true
    · rw [if_pos hs]
      by_cases e : x = (k : Int) + 1
      · subst e; simp [hs]; omega
      · simp only [List.mem_singleton, e, or_false, Int.natCast_add, Int.natCast_one]
        constructor
        · rintro ⟨h1, h2, h3⟩; exact ⟨h1, by omega, h3⟩
        · rintro ⟨h1, h2, h3⟩; exact ⟨h1, by omega, h3⟩
    · rw [if_neg hs]
      simp only [List.not_mem_nil, or_false, Int.natCast_add, Int.natCast_one]
      constructor
      · rintro ⟨h1, h2, h3⟩; exact ⟨h1, by omega, h3⟩
      · rintro ⟨h1, h2, h3⟩
        refine ⟨h1, ?_, h3⟩
        by_cases e : x = (k : Int) + 1
        · subst e; exact absurd h3 hs
        · omega
theorem ownK_sorted (st : BookSt) : ∀ k : Nat, (ownK st k).Pairwise (· < ·)
  | 0 => List.Pairwise.nil
  | k + 1 => by
    simp only [ownK]
    refine List.pairwise_append.2 ⟨ownK_sorted st k, by split <;> simp, fun a ha b hb => ?_⟩
    have h1 := ((ownK_mem st a k).1 ha).2.1
    split at hb
    · simp at hb; omega
    · simp at hb
theorem ownK_len (st : BookSt) : ∀ k : Nat, (ownK st k).length ≤ k
  | 0 => Nat.le_refl _
  | k + 1 => by
    have := ownK_len st k
    simp only [ownK, List.length_append]
    split <;> simp <;> omega
def ownersL (st : BookSt) : List Int := ownK st 40
theorem owners_sorted {st : BookSt} (g : GoodE st) {ss : List Int} (hn : ss.Nodup) (hx : ∀ x : Int, x ∈ ss ↔ (st.acc x).isSome = true) : ss.mergeSort (fun x y => decide (x ≤ y)) = ownersL st := by
  have hlt := ownK_sorted st 40
  have hp : ss.Perm (ownersL st) := by
    refine (List.perm_ext_iff_of_nodup hn (hlt.imp (fun h => Int.ne_of_lt h))).2 (fun a => ?_)
    rw [hx a]
    rw [ownK_mem]
    constructor
    · intro h
      obtain ⟨⟨l, x, s⟩, ha⟩ := Option.isSome_iff_exists.1 h
      have := (g.own a l x s ha).1
      exact ⟨this.1, by omega, h⟩
    · exact fun h => h.2.2
  refine List.Perm.eq_of_pairwise (le := fun a b => a ≤ b) ?_ ?_ (hlt.imp (fun h => Int.le_of_lt h)) ((List.mergeSort_perm ss _).trans hp)
  · intro a b _ _ h1 h2; omega
  · have := List.pairwise_mergeSort (le := fun x y : Int => decide (x ≤ y)) (by intro a b c h1 h2; simp at *; omega) (by intro a b; simp; omega) ss
    exact this.imp (fun h => by simpa using h)

theorem CameR.len {st : BookSt} {left : Lit → Bool} {ss : List Int} (h : CameR st left ss) (g : GoodE st) : ss.length ≤ 40 := by
  have hsub : ∀ x ∈ ss, x ∈ ownersL st := fun x hx => by
    have h1 := ((h.2 x).1 hx).1
    obtain ⟨⟨l, y, s⟩, ha⟩ := Option.isSome_iff_exists.1 h1
    have := (g.own x l y s ha).1
    exact (ownK_mem st x 40).2 ⟨this.1, by omega, h1⟩
  have := List.Nodup.length_le_of_subset h.1 hsub
  exact Nat.le_trans this (ownK_len st 40)
theorem ptrElem_shape {v : Value} {y : DataW Unit × List MemPlace} (e : ptrElem v = some y) : ∃ c : Option Nat, v = ptrOf c := by
  unfold ptrElem at e
  split at e
  · exact ⟨none, rfl⟩
  · next b => exact ⟨some b, rfl⟩
  · cases e

end
end Go.Proofs.YtfgpophbgjeefaaGreat

namespace Go.Proofs.YtfgpophbgjeefaaGreat
section
open Go.RowKit Go.Maps
set_option linter.unusedVariables false

theorem ranges_same {k : TypeId} {R : Value → Option (DataW Unit × List MemPlace)} {w w' : World} {b r n : Nat} {D : DataW Unit} {left : Lit → Bool} {cnt : Nat}
    (h : w.ranges Tryz.prog k R b r n D left cnt) (hb : w'.heap[b]? = w.heap[b]?) (hr : w'.heap[r]? = w.heap[r]?) : w'.ranges Tryz.prog k R b r n D left cnt := by
  obtain ⟨es, clock, since, seen, c0, h1, F, hs, hD, h2, rest⟩ := h
  exact ⟨es, clock, since, seen, c0, hb.trans h1, F, hs, hD, hr.trans h2, rest⟩
theorem ranges_lt {k : TypeId} {R : Value → Option (DataW Unit × List MemPlace)} {w : World} {b r n : Nat} {D : DataW Unit} {left : Lit → Bool} {cnt : Nat}
    (h : w.ranges Tryz.prog k R b r n D left cnt) : b < w.heap.size ∧ r < w.heap.size := by
  obtain ⟨es, clock, since, seen, c0, h1, F, hs, hD, h2, rest⟩ := h
  exact ⟨lt_of h1, lt_of h2⟩

/-- The accounts of some owners alone. -/
def accIn (st : BookSt) (ss : List Int) : Int → Option (Int × Int × Int) := fun o => if o ∈ ss then st.acc o else none
theorem accIn_snoc (st : BookSt) (ss : List Int) (x : Int) : accIn st (ss ++ [x]) = fun o => if o = x then st.acc x else accIn st ss o := by
  funext o
  unfold accIn
  by_cases h : o = x
  · subst h; simp
  · simp [h]
theorem accIn_all (st : BookSt) (ss : List Int) (h : ∀ x, (st.acc x).isSome = true → x ∈ ss) : accIn st ss = st.acc := by
  funext o
  unfold accIn
  by_cases ho : o ∈ ss
  · rw [if_pos ho]
  · rw [if_neg ho]
    cases e : st.acc o with
    | none => rfl
    | some a => exact absurd (h o (by rw [e]; rfl)) ho

end
end Go.Proofs.YtfgpophbgjeefaaGreat
