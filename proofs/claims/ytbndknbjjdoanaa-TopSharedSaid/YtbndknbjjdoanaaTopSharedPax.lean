/-
  shared: the plain part. No conditions.
-/
import Derived.Test.YtbndknbjjdoanaaTopSharedPaw
namespace Go.Proofs.Ytbndknbjjdoanaa
open Go.RowKit
set_option linter.unusedVariables false

theorem PB.far {w w' : World} {h bp : Nat} {P : PoolSt} {mb ms N1 N2 : Nat} {D1 D2 : DataW Unit} {F G : Nat → Prop} {b : BookSt} {n : Nat} (p : PB w h bp P mb ms N1 N2 D1 D2 F G b n) (hz : ∀ k, F k ∨ G k → k < w.heap.size → w'.heap[k]? = w.heap[k]?) (hs : w.heap.size ≤ w'.heap.size) : PB w' h bp P mb ms N1 N2 D1 D2 F G b n :=
  ⟨p.pm.same (fun k hk h2 => hz k (Or.inl hk) h2), p.bk.same (fun k hk h2 => hz k (Or.inr hk) h2), p.dis, fun k hk => Nat.lt_of_lt_of_le (p.fl k hk) hs, fun k hk => Nat.lt_of_lt_of_le (p.gl k hk) hs, p.acc, p.bud, p.tot, p.ent, p.room⟩

/-- Whether a part's block is pinned. -/
def pinAt (P : PoolSt) (x : Pt) : Bool := match lookN P.bl x.b with
  | some y => y.pin
  | none => false
theorem pinAt_of {P : PoolSt} {x : Pt} {y : Bk} (h : lookN P.bl x.b = some y) : pinAt P x = y.pin := by unfold pinAt; rw [h]
def pinsN (P : PoolSt) (l : List Pt) : Nat := (l.filter (pinAt P)).length
theorem pinsN_le (P : PoolSt) (l : List Pt) : pinsN P l ≤ l.length := List.length_filter_le _ _
theorem pinsN_take {P : PoolSt} {l : List Pt} {k : Nat} {x : Pt} (h : l[k]? = some x) : pinsN P (l.take (k + 1)) = pinsN P (l.take k) + (if pinAt P x then 1 else 0) := by
  unfold pinsN
  rw [List.take_add_one, h, List.filter_append, List.length_append]
  congr 1
  simp only [Option.toList_some, List.filter_cons, List.filter_nil]
  split <;> rfl
theorem pinsN_take_le (P : PoolSt) (l : List Pt) (k : Nat) : pinsN P (l.take k) ≤ pinsN P l := by
  have h : pinsN P l = pinsN P (l.take k) + pinsN P (l.drop k) := by
    unfold pinsN
    conv => lhs; rw [← List.take_append_drop k l]
    rw [List.filter_append, List.length_append]
  omega
/-- The parts, those in pinned blocks in blocks of their own. -/
def shareL (P : PoolSt) : List Pt → Nat → List Pt
  | [], _ => []
  | x :: l, j => (if pinAt P x then ⟨P.lastB + 1 + j, 0, x.n⟩ else x) :: shareL P l (if pinAt P x then j + 1 else j)
theorem shareL_len (P : PoolSt) : ∀ (l : List Pt) (j : Nat), (shareL P l j).length = l.length
  | [], _ => rfl
  | x :: l, j => by unfold shareL; rw [List.length_cons, List.length_cons, shareL_len P l]
theorem shareL_snoc (P : PoolSt) : ∀ (l : List Pt) (x : Pt) (j : Nat), shareL P (l ++ [x]) j = shareL P l j ++ [if pinAt P x then ⟨P.lastB + 1 + (j + pinsN P l), 0, x.n⟩ else x]
  | [], x, j => by simp [shareL, pinsN]
  | y :: l, x, j => by
    rw [List.cons_append]
    unfold shareL
    rw [shareL_snoc P l x, List.cons_append]
    have e : (if pinAt P y then j + 1 else j) + pinsN P l = j + pinsN P (y :: l) := by
      unfold pinsN
      rw [List.filter_cons]
      split
      · rw [List.length_cons]; omega
      · rfl
    rw [e]
theorem shareL_none {P : PoolSt} : ∀ {l : List Pt} (j : Nat), (∀ x ∈ l, pinAt P x = false) → shareL P l j = l
  | [], _, _ => rfl
  | x :: l, j, h => by
    unfold shareL
    rw [h x (by simp), if_neg (by simp), if_neg (by simp), shareL_none j (fun y hy => h y (by simp [hy]))]
theorem lenP_share (P : PoolSt) : ∀ (l : List Pt) (j : Nat), lenP (shareL P l j) = lenP l
  | [], _ => rfl
  | x :: l, j => by
    unfold shareL
    have e : ∀ (y : Pt) (m : List Pt), lenP (y :: m) = y.n + lenP m := fun y m => by simp [lenP]
    rw [e, e, lenP_share P l]
    split <;> simp [Pt.n]
def Shr (P : PoolSt) (l : List Pt) (bks : List Bk) : Prop := bks.length = pinsN P l ∧ ∀ (j : Nat) (x : Pt) (y : Bk), (l.filter (pinAt P))[j]? = some x → bks[j]? = some y → ∃ a g, y = newBk P.size a g (octPt P.oct x)
theorem Shr.nil (P : PoolSt) : Shr P [] [] := ⟨rfl, fun j x y h => by simp at h⟩
theorem Shr.skip {P : PoolSt} {l : List Pt} {bks : List Bk} {k : Nat} {x : Pt} (h : Shr P (l.take k) bks) (hx : l[k]? = some x) (hp : pinAt P x = false) : Shr P (l.take (k + 1)) bks := by
  have e : (l.take (k + 1)).filter (pinAt P) = (l.take k).filter (pinAt P) := by
    rw [List.take_add_one, hx, List.filter_append]
    simp [hp]
  unfold Shr pinsN
  rw [e]
  exact h
theorem Shr.snoc {P : PoolSt} {l : List Pt} {bks : List Bk} {k : Nat} {x : Pt} (h : Shr P (l.take k) bks) (hx : l[k]? = some x) (hp : pinAt P x = true) (a g : Nat) : Shr P (l.take (k + 1)) (bks ++ [newBk P.size a g (octPt P.oct x)]) := by
  have e : (l.take (k + 1)).filter (pinAt P) = (l.take k).filter (pinAt P) ++ [x] := by
    rw [List.take_add_one, hx, List.filter_append]
    simp [hp]
  have hl := h.1
  unfold Shr pinsN at *
  rw [e]
  refine ⟨by rw [List.length_append, List.length_append, hl]; rfl, fun j x' y h1 h2 => ?_⟩
  rcases Nat.lt_trichotomy j bks.length with hj | hj | hj
  · rw [List.getElem?_append_left (by omega)] at h1
    rw [List.getElem?_append_left hj] at h2
    exact h.2 j x' y h1 h2
  · rw [List.getElem?_append_right (by omega), show j - _ = 0 by omega] at h1
    rw [List.getElem?_append_right (by omega), show j - _ = 0 by omega] at h2
    simp at h1 h2
    exact ⟨a, g, by rw [← h1]; exact h2.symm⟩
  · rw [List.getElem?_eq_none (by rw [List.length_append]; simp; omega)] at h2
    cases h2
/-- What the new parts are: there, with the octets of the old ones. -/
theorem Shr.at {P : PoolSt} (hn : ∀ p ∈ P.bl, p.1 ≤ P.lastB) {bks : List Bk} : ∀ {l : List Pt} {L : List Pt} (j : Nat), PtsOf P l → (∀ (i : Nat) (x : Pt) (y : Bk), (l.filter (pinAt P))[i]? = some x → bks[j + i]? = some y → ∃ a g, y = newBk P.size a g (octPt P.oct x)) → j + pinsN P l ≤ bks.length → (∀ x ∈ l, x.ok P.oct) → PtsOf (P.growAll bks) (shareL P l j) ∧ octP (P.growAll bks).oct (shareL P l j) = octP P.oct l
  | [], _, _, _, _, _, _ => ⟨fun x hx => by simp [shareL] at hx, rfl⟩
  | x :: l, L, j, ho, hb, hl, hok => by
    obtain ⟨y, hy, h1, h2⟩ := ho x (by simp)
    have hpa := pinAt_of hy
    by_cases hp : pinAt P x = true
    · have e1 : pinsN P (x :: l) = pinsN P l + 1 := by unfold pinsN; rw [List.filter_cons, if_pos hp, List.length_cons]
      obtain ⟨z, hz⟩ : ∃ z, bks[j]? = some z := ⟨_, List.getElem?_eq_getElem (by omega)⟩
      obtain ⟨a, g, rfl⟩ := hb 0 x z (by rw [List.filter_cons, if_pos hp]; rfl) hz
      obtain ⟨i1, i2⟩ := Shr.at (L := L) hn (bks := bks) (l := l) (j + 1) (fun z hz => ho z (by simp [hz])) (fun i x' y' h3 h4 => hb (i + 1) x' y' (by rw [List.filter_cons, if_pos hp]; simpa using h3) (by rw [← h4]; congr 1; omega)) (by omega) (fun z hz => hok z (by simp [hz]))
      have hlook := growAll_new bks hn hz
      have hlen : (octPt P.oct x).length = x.n := octPt_len (hok x (by simp))
      unfold shareL
      rw [if_pos hp, if_pos hp]
      refine ⟨fun u hu => ?_, ?_⟩
      · rcases List.mem_cons.1 hu with rfl | hu
        · exact ⟨_, hlook, Nat.zero_le _, by show x.n ≤ (octPt P.oct x).length; omega⟩
        · exact i1 u hu
      · rw [octP_cons, octP_cons, i2]
        congr 1
        unfold octPt
        simp only [List.drop_zero]
        rw [oct_of hlook]
        show List.take x.n (octPt P.oct x ++ _) = _
        rw [← hlen, List.take_append_of_le_length (Nat.le_refl _), List.take_length]
        rfl
    · have e1 : pinsN P (x :: l) = pinsN P l := by unfold pinsN; rw [List.filter_cons, if_neg hp]
      obtain ⟨i1, i2⟩ := Shr.at (L := L) hn (bks := bks) (l := l) j (fun z hz => ho z (by simp [hz])) (fun i x' y' h3 h4 => hb i x' y' (by rw [List.filter_cons, if_neg hp]; exact h3) h4) (by omega) (fun z hz => hok z (by simp [hz]))
      unfold shareL
      rw [if_neg hp, if_neg hp]
      have hlook := growAll_old bks hn hy
      refine ⟨fun u hu => ?_, ?_⟩
      · rcases List.mem_cons.1 hu with rfl | hu
        · exact ⟨y, hlook, h1, h2⟩
        · exact i1 u hu
      · rw [octP_cons, octP_cons, i2]
        congr 1
        unfold octPt
        rw [oct_of hlook, oct_of hy]

theorem ptCells_set : ∀ (A B : List Pt) (x y : Pt), ((((ptCells (A ++ x :: B)).set (A.length * 3) (.int .i64 (y.b : Int))).set (A.length * 3 + 1) (.int .i64 (y.f : Int))).set (A.length * 3 + 2) (.int .i64 (y.t : Int))) = ptCells (A ++ y :: B)
  | [], B, x, y => by simp [ptCells]
  | a :: A, B, x, y => by
    have ih := ptCells_set A B x y
    have e : ∀ (l : List Pt), ptCells (a :: l) = .int .i64 (a.b : Int) :: .int .i64 (a.f : Int) :: .int .i64 (a.t : Int) :: ptCells l := fun l => by simp [ptCells]
    rw [List.cons_append, e, List.cons_append, e, List.length_cons, Nat.succ_mul, ← ih]
    rw [show A.length * 3 + 3 = (A.length * 3 + 2) + 1 by omega, show (A.length * 3 + 2) + 1 + 1 = (A.length * 3 + 3) + 1 by omega, show A.length * 3 + 2 + 1 + 2 = (A.length * 3 + 4) + 1 by omega, List.set_cons_succ, List.set_cons_succ, List.set_cons_succ]
    rw [show A.length * 3 + 2 = (A.length * 3 + 1) + 1 by omega, show A.length * 3 + 3 = (A.length * 3 + 2) + 1 by omega, show A.length * 3 + 4 = (A.length * 3 + 3) + 1 by omega, List.set_cons_succ, List.set_cons_succ, List.set_cons_succ]
    rw [show A.length * 3 + 2 = (A.length * 3 + 1) + 1 by omega, show A.length * 3 + 3 = (A.length * 3 + 2) + 1 by omega, List.set_cons_succ, List.set_cons_succ, List.set_cons_succ]

def shE (P : PoolSt) (l : List Pt) : Int := if P.st.length = 200 ∨ 500 < l.length ∨ 100000 < lenP l then 4 else tkE P P.bl.length (pinsN P l)
def ShPost (h bp : Nat) (P : PoolSt) (l : List Pt) (Z : Nat → Prop) (w : World) : Ending → World → Prop := fun e w' =>
  (shE P l ≠ 0 ∧ e = .returned (.tuple #[.int .i64 0, .int .i64 (shE P l)]) ∧ ∃ Z', SP w' Z' h bp P P.bl.length ∧ Nxt Z Z' w w') ∨
  (shE P l = 0 ∧ e = .returned (.tuple #[.int .i64 ((P.lastS + 1 : Nat) : Int), .int .i64 0]) ∧ ∃ bks o Z', Shr P l bks ∧ SP w' Z' h bp ((P.growAll bks).add o (shareL P l 0)) (P.bl.length + pinsN P l) ∧ Nxt Z Z' w w')

end Go.Proofs.Ytbndknbjjdoanaa
