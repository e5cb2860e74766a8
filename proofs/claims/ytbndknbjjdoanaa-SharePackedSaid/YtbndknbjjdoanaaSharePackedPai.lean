/-
  ClassOf and ClassFor give one class and one error, for all arguments; RoomClasses' walk. No conditions.
  wish, grown, Grow, GrowOf, Shrink, ShrinkOf: what they give, for all arguments. No conditions.
  Grow, GrowOf, Shrink, ShrinkOf: what they give, for all arguments. No conditions.
  GrowOf beside Grow: both are the functions growV and growE. No conditions.
  Shrink and ShrinkOf: both are one function; the walks of RoomGrows and RoomTurns. No conditions.
  ShrinkOf beside Shrink; the walks of RoomGrows and RoomTurns. No conditions.
-/
import Derived.Test.YtbndknbjjdoanaaSharePackedPah
import Derived.Test.YtbndknbjjdoanaaSharePackedPag
import Derived.Deep.RegionWith

namespace Go.Proofs.Ytbndknbjjdoanaa
section
open Go.RowKit

/-- The least class that is not below n. -/
def cfor (n : Int) : Int := (classes.find? (fun c => decide (n ≤ c))).getD 0

theorem find_at (l : List Int) (n : Int) : ∀ i, i < l.length → (∀ j, j < i → l.getD j 0 < n) → n ≤ l.getD i 0 → (l.find? (fun c => decide (n ≤ c))).getD 0 = l.getD i 0 := by
  induction l with
  | nil => intro i h; simp at h
  | cons a l ih =>
    intro i hi h1 h2
    by_cases ha : n ≤ a
    · have : i = 0 := by
        rcases Nat.eq_zero_or_pos i with h | h
        · exact h
        · have := h1 0 h; simp at this; omega
      subst this
      simp [ha]
    · cases i with
      | zero => simp at h2; omega
      | succ i =>
        have := ih i (by simpa using hi) (fun j hj => by have := h1 (j + 1) (by omega); simpa using this) (by simpa using h2)
        simpa [List.find?_cons, ha] using this

theorem classes_len : classes.length = 29 := by simp [classes, cls_len]
theorem classes_sorted : ∀ j, j < 29 → ∀ i, i < j + 1 → classes.getD i 0 ≤ classes.getD j 0 := by decide +kernel
theorem classes_le : ∀ j, j < 29 → 8 ≤ classes.getD j 0 ∧ classes.getD j 0 ≤ 100000 := by decide +kernel
theorem classes_last : classes.getD 28 0 = 100000 := by decide +kernel

/-- A call that gives back a number and an error. -/
def RetInt (c err : Int) (w : World) : Ending → World → Prop := fun e w' =>
  e = .returned (.tuple #[.int .i64 c, .int .i64 err]) ∧ Below w.heap.size w w'

theorem ret2_int {k k' : IntKind} {a b c d : Int} (h : a = b) (h' : c = d) : Ending.returned (.tuple #[.int k a, .int k' c]) = .returned (.tuple #[.int k b, .int k' d]) := by rw [h, h']

theorem own_cells {w : World} {B : Nat} {v : Value} {n : Nat} {zs : List Int} (h : w.ownsRow B 3 1 v n (zs.map (Value.int .i64))) (hn : 0 < n) :
    ∃ g cap, v = .slice (some ⟨g, 0, none⟩) n cap ∧ ∀ j, j < n → w.cell? ⟨g, 0 + j, none⟩ = some (.int .i64 (zs.getD j 0)) := by
  have hlen := h.1
  rcases h.2 with ⟨rfl, hz⟩ | ⟨g, cap, cur, rfl, hB, hg, hn', hm, hs, ht⟩
  · omega
  · refine ⟨g, cap, rfl, fun j hj => ?_⟩
    have hj' : j < zs.length := by simp at hlen; omega
    have hc := h.cells (g := g) rfl j (.int .i64 (zs.getD j 0)) (by simp [hj'])
    have e : (⟨g, 0, none⟩ : Addr).add j = ⟨g, 0 + j, none⟩ := by unfold Addr.add; split <;> simp_all
    rw [e] at hc
    exact hc

set_option maxHeartbeats 2000000 in
theorem classOf_ok (n : Int) (w : World) (h1 : 0 ≤ n) (h2 : n ≤ 100000) :
    Calls Try.prog 26 #[.int .i64 n] w (RetInt (cfor n) 0 w) := by
  go_enter Try.func26, Try.ntmps26
  go_wp2_with fail
  refine (within_room_yes _ _ _ _ h1 h2).mono ?_
  rintro e w' ⟨rfl, rfl⟩
  go_wp2_with fail
  refine (classes_any _).mono ?_
  rintro e w1 ⟨v, rfl, hown, hb⟩
  rw [classes_len] at hown
  obtain ⟨g, cap, rfl, hc⟩ := own_cells hown (by omega)
  have Hc := Lib.hid hc
  clear hown hc
  go_wp2_with fail
  refine (bsearch_any g 0 29 cap classes n _ classes_len (by omega) Hc.out (fun i j h1 h2 => classes_sorted j h2 i (by omega))).mono ?_
  rintro e w2 ⟨i, fnd, rfl, hi, h3, h4, rfl⟩
  have hi29 : i < 29 := by
    rw [classes_len] at hi
    rcases Nat.lt_or_ge i 29 with h | h
    · exact h
    · have := h3 28 (by omega); rw [classes_last] at this; omega
  have E : cfor n = classes.getD i 0 := find_at classes n i (by rw [classes_len]; exact hi29) h3 (h4 i (by omega) (by rw [classes_len]; exact hi29))
  have g1 := Hc.out i hi29
  rw [Nat.zero_add] at g1
  generalize classes.getD i 0 = x at *
  have E1 := Lib.hid E
  clear h3 h4 E hi
  go_wp2_with fail
  go_ret2
  exact ⟨ret2_int E1.out.symm rfl, hb⟩

theorem classOf_bad (n : Int) (w : World) (h : ¬ (0 ≤ n ∧ n ≤ 100000)) :
    Calls Try.prog 26 #[.int .i64 n] w (RetInt 0 2 w) := by
  have HN := Lib.hid h
  clear h
  go_enter Try.func26, Try.ntmps26
  go_wp2_with fail
  refine (within_room_no _ _ _ _ HN.out).mono ?_
  rintro e w' ⟨rfl, rfl⟩
  go_wp2_with fail
  go_ret2
  exact ⟨rfl, Below.refl _ _⟩

end
end Go.Proofs.Ytbndknbjjdoanaa

namespace Go.Proofs.Ytbndknbjjdoanaa
section
open Go.RowKit

/-- The wish of a policy. -/
def wishI (k s room need : Int) : Int :=
  if k = 2 then (need + s - 1) / s * s else if k = 3 then max need (room + room / 2) else if k = 4 then max need (2 * room) else if k = 5 then cfor need else need

def WPost (r : Int) (w : World) : Ending → World → Prop := fun e w' => e = .returned (.int .i64 r) ∧ Below w.heap.size w w'

theorem mul_bd (need s : Int) (h1 : 0 ≤ need) (h2 : need ≤ 100000) (h3 : 1 ≤ s) (h4 : s ≤ 100000) : 0 ≤ (need + s - 1) / s ∧ (need + s - 1) / s ≤ 200000 ∧ need ≤ (need + s - 1) / s * s ∧ (need + s - 1) / s * s ≤ 200000 := by
  have e := Int.mul_ediv_add_emod (need + s - 1) s
  have e1 := Int.emod_nonneg (need + s - 1) (b := s) (by omega)
  have e2 := Int.emod_lt_of_pos (need + s - 1) (b := s) (by omega)
  rw [Int.mul_comm] at e
  have d1 := Int.ediv_nonneg (a := need + s - 1) (b := s) (by omega) (by omega)
  have d2 := Int.ediv_le_self s (a := need + s - 1) (by omega)
  omega

theorem bcell {W w1 : World} (hb : Below W.heap.size W w1) : (∀ b o, b < W.heap.size → w1.cell? ⟨b, o, none⟩ = W.cell? ⟨b, o, none⟩) ∧ (∀ b o, b < W.heap.size → w1.frozen? ⟨b, o, none⟩ = W.frozen? ⟨b, o, none⟩) :=
  ⟨fun b o h => hb.cell (p := ⟨b, o, none⟩) h, fun b o h => hb.frozen (p := ⟨b, o, none⟩) h⟩

def GPost (r : Int) (b : Bool) (w : World) : Ending → World → Prop := fun e w' => e = .returned (.tuple #[.int .i64 r, .bool b]) ∧ Below w.heap.size w w'
theorem ret2_ib {k : IntKind} {a b : Int} {c d : Bool} (h : a = b) (h' : c = d) : Ending.returned (.tuple #[.int k a, .bool c]) = .returned (.tuple #[.int k b, .bool d]) := by rw [h, h']

end
end Go.Proofs.Ytbndknbjjdoanaa

namespace Go.Proofs.Ytbndknbjjdoanaa
section
open Go.RowKit

/-- A policy that is right. -/
def polOk (k s m : Int) : Prop := (1 ≤ k ∧ k ≤ 5) ∧ (k = 2 → 1 ≤ s ∧ s ≤ 100000) ∧ (0 ≤ m ∧ m ≤ 100000)
theorem polOk_of {k s m : Int} (h : polErr k s m = 0) : polOk k s m := by
  unfold polErr at h
  by_cases h1 : 1 ≤ k ∧ k ≤ 5
  · rw [if_pos h1] at h
    by_cases h2 : (k = 2 → 1 ≤ s ∧ s ≤ 100000) ∧ (¬ k = 2 → s = 0) ∧ (0 ≤ m ∧ m ≤ 100000)
    · exact ⟨h1, h2.1, h2.2.2⟩
    · rw [if_neg h2] at h; omega
  · rw [if_neg h1] at h; omega
theorem polErr_vals (k s m : Int) : polErr k s m = 0 ∨ polErr k s m = 2 ∨ polErr k s m = 10 := by
  unfold polErr; split <;> (try split) <;> simp

end
end Go.Proofs.Ytbndknbjjdoanaa

namespace Go.Proofs.Ytbndknbjjdoanaa
section
open Go.RowKit

/-- What a policy gives for arguments that are right. -/
def gV (k s m room need : Int) : Int := if need ≤ room then room else if m < need then 0 else min (wishI k s room need) m
def gE (m room need : Int) : Int := if need ≤ room then 0 else if m < need then 12 else 0
/-- What Grow gives. -/
def growV (k s m room need : Int) : Int := if polErr k s m = 0 ∧ (0 ≤ room ∧ room ≤ 100000) ∧ (0 ≤ need ∧ need ≤ 100000) then gV k s m room need else 0
def growE (k s m room need : Int) : Int := if polErr k s m = 0 then (if (0 ≤ room ∧ room ≤ 100000) ∧ (0 ≤ need ∧ need ≤ 100000) then gE m room need else 2) else polErr k s m

theorem gE_cases (k s m room need : Int) : gE m room need = 0 ∨ (gE m room need = 12 ∧ gV k s m room need = 0) := by
  unfold gE gV
  by_cases h3 : need ≤ room
  · rw [if_pos h3]; exact Or.inl rfl
  · rw [if_neg h3, if_neg h3]
    by_cases h4 : m < need
    · rw [if_pos h4, if_pos h4]; exact Or.inr ⟨rfl, rfl⟩
    · rw [if_neg h4]; exact Or.inl rfl

end
end Go.Proofs.Ytbndknbjjdoanaa

namespace Go.Proofs.Ytbndknbjjdoanaa
section
open Go.RowKit

/-- The room that is left, for arguments that are right: g, e: what Grow gives for a room 0. -/
def shrV (k room used g e : Int) : Int := if e = 0 ∧ g < room ∧ ¬ ((k = 3 ∨ k = 4) ∧ room < 4 * used) then g else room
def shrinkIn (room used : Int) : Prop := (0 ≤ room ∧ room ≤ 100000) ∧ (0 ≤ used ∧ used ≤ room)
instance (room used : Int) : Decidable (shrinkIn room used) := by unfold shrinkIn; exact inferInstance
def shrinkV (k s m room used : Int) : Int := if polErr k s m = 0 ∧ shrinkIn room used then shrV k room used (gV k s m 0 used) (gE m 0 used) else 0
def shrinkE (k s m room used : Int) : Int := if polErr k s m = 0 then (if shrinkIn room used then 0 else 2) else polErr k s m

theorem shrV_full {k room used g : Int} : shrV k room used g 12 = room := by unfold shrV; rw [if_neg (by omega)]
theorem shrV_more {k room used g : Int} (h : room ≤ g) : shrV k room used g 0 = room := by unfold shrV; rw [if_neg (by omega)]
theorem shrV_loose {k room used g : Int} (hk : k = 3 ∨ k = 4) (h : room < 4 * used) : shrV k room used g 0 = room := by unfold shrV; rw [if_neg (fun x => x.2.2 ⟨hk, h⟩)]
theorem shrV_less {k room used g : Int} (h : g < room) (h2 : ¬ ((k = 3 ∨ k = 4) ∧ room < 4 * used)) : shrV k room used g 0 = g := by unfold shrV; rw [if_pos ⟨rfl, h, h2⟩]

end
end Go.Proofs.Ytbndknbjjdoanaa

namespace Go.Proofs.Ytbndknbjjdoanaa
section
open Go.RowKit

/-- A policy's box. -/
def BoxAt (w : World) (b : Nat) (k s m : Int) : Prop :=
  b < w.heap.size ∧ w.cell? ⟨b, 0, none⟩ = some (.int .i64 k) ∧ w.cell? ⟨b, 1, none⟩ = some (.int .i64 s) ∧ w.cell? ⟨b, 2, none⟩ = some (.int .i64 m)
theorem BoxAt.new (w : World) (k s m : Int) (t : TypeId) : BoxAt (w.alloc (.cells #[.int .i64 k, .int .i64 s, .int .i64 m] t)) w.heap.size k s m := by
  refine ⟨by simp, ?_, ?_, ?_⟩ <;> (rw [cell_of_row _ _ _ _ _ _ (heap_alloc_new w _)]; rfl)
theorem BoxAt.below {w w' : World} {b : Nat} {k s m : Int} (h : BoxAt w b k s m) (hb : Below w.heap.size w w') : BoxAt w' b k s m :=
  ⟨Nat.lt_of_lt_of_le h.1 hb.size, (hb.cell (p := ⟨b, 0, none⟩) h.1).trans h.2.1, (hb.cell (p := ⟨b, 1, none⟩) h.1).trans h.2.2.1, (hb.cell (p := ⟨b, 2, none⟩) h.1).trans h.2.2.2⟩

end
end Go.Proofs.Ytbndknbjjdoanaa
