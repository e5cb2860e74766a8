/-
  ClassOf and ClassFor give one class and one error, for all arguments; RoomClasses' walk. No conditions.
-/
import Derived.Test.YteeiohhoccgafaaClasses
namespace Go.Proofs.Yteeiohhoccgafaa
open Go.RowKit

/-- The least class that is not below n. -/
def cfor (n : Int) : Int := (classes.find? (fun c => decide (n ≤ c))).getD 0

theorem find_at (l : List Int) (n : Int) : ∀ i, i < l.length → (∀ j, j < i → l.getD j 0 < n) → n ≤ l.getD i 0 → (l.find? (fun c => decide (n ≤ c))).getD 0 = l.getD i 0 := by
  induction l with
  | nil => intro i h; simp at h
  | cons a l ih =>
    intro i hi h1 h2
    by_cases ha : n ≤ a
    · have : i = 0 := by
        rcases Nat.eq_zero_or_pos i with h | h
        · exact h
        · have := h1 0 h; simp at this; omega
      subst this
      simp [ha]
    · cases i with
      | zero => simp at h2; omega
      | succ i =>
        have := ih i (by simpa using hi) (fun j hj => by have := h1 (j + 1) (by omega); simpa using this) (by simpa using h2)
        simpa [List.find?_cons, ha] using this

theorem classes_len : classes.length = 29 := by simp [classes, cls_len]
theorem classes_sorted : ∀ j, j < 29 → ∀ i, i < j + 1 → classes.getD i 0 ≤ classes.getD j 0 := by decide +kernel
theorem classes_le : ∀ j, j < 29 → 8 ≤ classes.getD j 0 ∧ classes.getD j 0 ≤ 100000 := by decide +kernel
theorem classes_last : classes.getD 28 0 = 100000 := by decide +kernel

/-- A call that gives back a number and an error. -/
def RetInt (c err : Int) (w : World) : Ending → World → Prop := fun e w' =>
  e = .returned (.tuple #[.int .i64 c, .int .i64 err]) ∧ Below w.heap.size w w'

theorem ret2_int {k k' : IntKind} {a b c d : Int} (h : a = b) (h' : c = d) : Ending.returned (.tuple #[.int k a, .int k' c]) = .returned (.tuple #[.int k b, .int k' d]) := by rw [h, h']

theorem own_cells {w : World} {B : Nat} {v : Value} {n : Nat} {zs : List Int} (h : w.ownsRow B 3 1 v n (zs.map (Value.int .i64))) (hn : 0 < n) :
    ∃ g cap, v = .slice (some ⟨g, 0, none⟩) n cap ∧ ∀ j, j < n → w.cell? ⟨g, 0 + j, none⟩ = some (.int .i64 (zs.getD j 0)) := by
  have hlen := h.1
  rcases h.2 with ⟨rfl, hz⟩ | ⟨g, cap, cur, rfl, hB, hg, hn', hm, hs, ht⟩
  · omega
  · refine ⟨g, cap, rfl, fun j hj => ?_⟩
    have hj' : j < zs.length := by simp at hlen; omega
    have hc := h.cells (g := g) rfl j (.int .i64 (zs.getD j 0)) (by simp [hj'])
    have e : (⟨g, 0, none⟩ : Addr).add j = ⟨g, 0 + j, none⟩ := by unfold Addr.add; split <;> simp_all
    rw [e] at hc
    exact hc

set_option maxHeartbeats 2000000 in
theorem classOf_ok (n : Int) (w : World) (h1 : 0 ≤ n) (h2 : n ≤ 100000) :
    Calls Try.prog 27 #[.int .i64 n] w (RetInt (cfor n) 0 w) := by
  go_enter Try.func27, Try.ntmps27
  go_wp2_with fail
  refine (within_room_yes _ _ _ _ h1 h2).mono ?_
  rintro e w' ⟨rfl, rfl⟩
  go_wp2_with fail
  refine (classes_any _).mono ?_
  rintro e w1 ⟨v, rfl, hown, hb⟩
  rw [classes_len] at hown
  obtain ⟨g, cap, rfl, hc⟩ := own_cells hown (by omega)
  have Hc := Lib.hid hc
  clear hown hc
  go_wp2_with fail
  refine (bsearch_any g 0 29 cap classes n _ classes_len (by omega) Hc.out (fun i j h1 h2 => classes_sorted j h2 i (by omega))).mono ?_
  rintro e w2 ⟨i, fnd, rfl, hi, h3, h4, rfl⟩
  have hi29 : i < 29 := by
    rw [classes_len] at hi
    rcases Nat.lt_or_ge i 29 with h | h
    · exact h
    · have := h3 28 (by omega); rw [classes_last] at this; omega
  have E : cfor n = classes.getD i 0 := find_at classes n i (by rw [classes_len]; exact hi29) h3 (h4 i (by omega) (by rw [classes_len]; exact hi29))
  have g1 := Hc.out i hi29
  rw [Nat.zero_add] at g1
  generalize classes.getD i 0 = x at *
  have E1 := Lib.hid E
  clear h3 h4 E hi
  go_wp2_with fail
  go_ret2
  exact ⟨ret2_int E1.out.symm rfl, hb⟩

theorem classOf_bad (n : Int) (w : World) (h : ¬ (0 ≤ n ∧ n ≤ 100000)) :
    Calls Try.prog 27 #[.int .i64 n] w (RetInt 0 2 w) := by
  have HN := Lib.hid h
  clear h
  go_enter Try.func27, Try.ntmps27
  go_wp2_with fail
  refine (within_room_no _ _ _ _ HN.out).mono ?_
  rintro e w' ⟨rfl, rfl⟩
  go_wp2_with fail
  go_ret2
  exact ⟨rfl, Below.refl _ _⟩

set_option maxHeartbeats 2000000 in
theorem classFor_ok (n : Int) (w : World) (h1 : 0 ≤ n) (h2 : n ≤ 100000) :
    Calls Try.prog 28 #[.int .i64 n] w (RetInt (cfor n) 0 w) := by
  go_enter Try.func28, Try.ntmps28
  go_wp2_with fail
  refine (inRoom_yes _ _ h1 h2).mono ?_
  rintro e w' ⟨rfl, rfl⟩
  go_wp2_with fail
  refine (classList_any _).mono ?_
  rintro e w1 ⟨v, rfl, hown, hb⟩
  rw [classes_len] at hown
  obtain ⟨g, cap, rfl, hc⟩ := own_cells hown (by omega)
  have Hc := Lib.hid hc
  clear hown hc
  go_wp2_with fail
  go_loop [11] (fun x => ∃ i : Nat, i < 29 ∧ x = .int .i64 i ∧ (∀ j, j < i → classes.getD j 0 < n)) (fun x => 29 - (intOf x).toNat)
  case atStart => exact ⟨0, by omega, rfl, fun j hj => absurd hj (by omega)⟩
  case round =>
    obtain ⟨i, hi, rfl, h3⟩ := hrel
    have H3 := Lib.hid h3
    clear h3
    have g1 := Hc.out i hi
    rw [Nat.zero_add] at g1
    by_cases hx : n ≤ classes.getD i 0
    · have E : cfor n = classes.getD i 0 := find_at classes n i (by rw [classes_len]; exact hi) H3.out hx
      rw [E]
      generalize classes.getD i 0 = x at *
      clear E
      go_wp2_with fail
      go_ret2
      exact ⟨rfl, hb⟩
    · have hi28 : i < 28 := by
        rcases Nat.lt_or_ge i 28 with h | h
        · exact h
        · obtain rfl : i = 28 := by omega
          rw [classes_last] at hx; omega
      generalize hxx : classes.getD i 0 = x at *
      have HX := Lib.hid hxx
      clear hxx
      have hx' : x < n := by omega
      clear hx
      go_wp2_with fail
      go_round
      case rel =>
        refine ⟨i + 1, by omega, by go_num, fun j hj => ?_⟩
        by_cases e : j = i
        · subst e; rw [HX.out]; exact hx'
        · exact H3.out j (by omega)
      case measure => simp [intOf]; omega

theorem classFor_bad (n : Int) (w : World) (h : ¬ (0 ≤ n ∧ n ≤ 100000)) :
    Calls Try.prog 28 #[.int .i64 n] w (RetInt 0 2 w) := by
  have HN := Lib.hid h
  clear h
  go_enter Try.func28, Try.ntmps28
  go_wp2_with fail
  refine (inRoom_no _ _ HN.out).mono ?_
  rintro e w' ⟨rfl, rfl⟩
  go_wp2_with fail
  go_ret2
  exact ⟨rfl, Below.refl _ _⟩

theorem class_both (n : Int) : ∃ c err : Int,
    (∀ w, Calls Try.prog 27 #[.int .i64 n] w (RetInt c err w)) ∧ (∀ w, Calls Try.prog 28 #[.int .i64 n] w (RetInt c err w)) := by
  by_cases h : 0 ≤ n ∧ n ≤ 100000
  · exact ⟨cfor n, 0, fun w => classOf_ok n w h.1 h.2, fun w => classFor_ok n w h.1 h.2⟩
  · exact ⟨0, 2, fun w => classOf_bad n w h, fun w => classFor_bad n w h⟩

set_option maxHeartbeats 1000000 in
theorem roomClasses_walk (n : Int) (w : World) (_ : -9223372036854775808 ≤ n ∧ n ≤ 9223372036854775807) :
    Calls Try.prog 6 #[.int .i64 n] w (LawPost w) := by
  obtain ⟨c, err, H1, H2⟩ := class_both n
  have G1 := Lib.hid H1
  have G2 := Lib.hid H2
  clear H1 H2
  have hee : (err == err) = true := by simp
  have hcc : (c == c) = true := by simp
  go_enter Try.func6, Try.ntmps6
  go_wp2_with fail
  refine (G1.out _).mono ?_
  rintro e w1 ⟨rfl, hb1⟩
  go_wp2_with fail
  refine (G2.out _).mono ?_
  rintro e w2 ⟨rfl, hb2⟩
  have hb := hb1.trans (hb2.mono hb1.size)
  clear hb1 hb2
  go_wp2_with fail
  refine (classes_any _).mono ?_
  rintro e w3 ⟨v1, rfl, hown1, hb3⟩
  have r1 := Reads.own hown1 (by rw [classes_len]; omega)
  have hb' := hb.trans (hb3.mono hb.size)
  clear hown1 hb hb3
  go_wp2_with fail
  refine (classList_any _).mono ?_
  rintro e w4 ⟨v2, rfl, hown2, hb4⟩
  have r2 := Reads.own hown2 (by rw [classes_len]; omega)
  have r1' := r1.below hb4 rfl
  have hb5 := hb'.trans (hb4.mono hb'.size)
  clear hown2 r1 hb' hb4
  go_wp2_with fail
  refine (equal_int _ _ _ _ _ r1' r2).mono ?_
  rintro e w5 ⟨rfl, q, rfl⟩
  go_wp2_with fail
  go_ret
  exact ⟨ret_bool (by simp), bdrewN hb5 q⟩

end Go.Proofs.Yteeiohhoccgafaa
