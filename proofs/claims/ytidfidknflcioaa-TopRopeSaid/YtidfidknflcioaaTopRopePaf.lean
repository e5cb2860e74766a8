/-
  ClassOf and ClassFor give one class and one error, for all arguments; RoomClasses' walk. No conditions.
  wish, grown, Grow, GrowOf, Shrink, ShrinkOf: what they give, for all arguments. No conditions.
  Grow, GrowOf, Shrink, ShrinkOf: what they give, for all arguments. No conditions.
-/
import Derived.Test.YtidfidknflcioaaTopRopePae
import Derived.Deep.RegionWith

namespace Go.Proofs.Ytidfidknflcioaa
section
open Go.RowKit

/-- The least class that is not below n. -/
def cfor (n : Int) : Int := (classes.find? (fun c => decide (n ≤ c))).getD 0

theorem find_at (l : List Int) (n : Int) : ∀ i, i < l.length → (∀ j, j < i → l.getD j 0 < n) → n ≤ l.getD i 0 → (l.find? (fun c => decide (n ≤ c))).getD 0 = l.getD i 0 := by
  induction l with
  | nil => intro i h; simp at h
  | cons a l ih =>
    intro i hi h1 h2
    by_cases ha : n ≤ a
    · have : i = 0 := by
        rcases Nat.eq_zero_or_pos i with h | h
        · exact h
        · have := h1 0 h; simp at this; omega
      subst this
      simp [ha]
    · cases i with
      | zero => simp at h2; omega
      | succ i =>
        have := ih i (by simpa using hi) (fun j hj => by have := h1 (j + 1) (by omega); simpa using this) (by simpa using h2)
        simpa [List.find?_cons, ha] using this

theorem classes_len : classes.length = 29 := by simp [classes, cls_len]
theorem classes_sorted : ∀ j, j < 29 → ∀ i, i < j + 1 → classes.getD i 0 ≤ classes.getD j 0 := by decide +kernel
theorem classes_le : ∀ j, j < 29 → 8 ≤ classes.getD j 0 ∧ classes.getD j 0 ≤ 100000 := by decide +kernel
theorem classes_last : classes.getD 28 0 = 100000 := by decide +kernel

/-- A call that gives back a number and an error. -/
def RetInt (c err : Int) (w : World) : Ending → World → Prop := fun e w' =>
  e = .returned (.tuple #[.int .i64 c, .int .i64 err]) ∧ Below w.heap.size w w'

theorem ret2_int {k k' : IntKind} {a b c d : Int} (h : a = b) (h' : c = d) : Ending.returned (.tuple #[.int k a, .int k' c]) = .returned (.tuple #[.int k b, .int k' d]) := by rw [h, h']

theorem own_cells {w : World} {B : Nat} {v : Value} {n : Nat} {zs : List Int} (h : w.ownsRow B 3 1 v n (zs.map (Value.int .i64))) (hn : 0 < n) :
    ∃ g cap, v = .slice (some ⟨g, 0, none⟩) n cap ∧ ∀ j, j < n → w.cell? ⟨g, 0 + j, none⟩ = some (.int .i64 (zs.getD j 0)) := by
  have hlen := h.1
  rcases h.2 with ⟨rfl, hz⟩ | ⟨g, cap, cur, rfl, hB, hg, hn', hm, hs, ht⟩
  · omega
  · refine ⟨g, cap, rfl, fun j hj => ?_⟩
    have hj' : j < zs.length := by simp at hlen; omega
    have hc := h.cells (g := g) rfl j (.int .i64 (zs.getD j 0)) (by simp [hj'])
    have e : (⟨g, 0, none⟩ : Addr).add j = ⟨g, 0 + j, none⟩ := by unfold Addr.add; split <;> simp_all
    rw [e] at hc
    exact hc

set_option maxHeartbeats 2000000 in
theorem classOf_ok (n : Int) (w : World) (h1 : 0 ≤ n) (h2 : n ≤ 100000) :
    Calls Try.prog 26 #[.int .i64 n] w (RetInt (cfor n) 0 w) := by
  go_enter Try.func26, Try.ntmps26
  go_wp2_with fail
  refine (within_room_yes _ _ _ _ h1 h2).mono ?_
  rintro e w' ⟨rfl, rfl⟩
  go_wp2_with fail
  refine (classes_any _).mono ?_
  rintro e w1 ⟨v, rfl, hown, hb⟩
  rw [classes_len] at hown
  obtain ⟨g, cap, rfl, hc⟩ := own_cells hown (by omega)
  have Hc := Lib.hid hc
  clear hown hc
  go_wp2_with fail
  refine (bsearch_any g 0 29 cap classes n _ classes_len (by omega) Hc.out (fun i j h1 h2 => classes_sorted j h2 i (by omega))).mono ?_
  rintro e w2 ⟨i, fnd, rfl, hi, h3, h4, rfl⟩
  have hi29 : i < 29 := by
    rw [classes_len] at hi
    rcases Nat.lt_or_ge i 29 with h | h
    · exact h
    · have := h3 28 (by omega); rw [classes_last] at this; omega
  have E : cfor n = classes.getD i 0 := find_at classes n i (by rw [classes_len]; exact hi29) h3 (h4 i (by omega) (by rw [classes_len]; exact hi29))
  have g1 := Hc.out i hi29
  rw [Nat.zero_add] at g1
  generalize classes.getD i 0 = x at *
  have E1 := Lib.hid E
  clear h3 h4 E hi
  go_wp2_with fail
  go_ret2
  exact ⟨ret2_int E1.out.symm rfl, hb⟩

theorem classOf_bad (n : Int) (w : World) (h : ¬ (0 ≤ n ∧ n ≤ 100000)) :
    Calls Try.prog 26 #[.int .i64 n] w (RetInt 0 2 w) := by
  have HN := Lib.hid h
  clear h
  go_enter Try.func26, Try.ntmps26
  go_wp2_with fail
  refine (within_room_no _ _ _ _ HN.out).mono ?_
  rintro e w' ⟨rfl, rfl⟩
  go_wp2_with fail
  go_ret2
  exact ⟨rfl, Below.refl _ _⟩

end
end Go.Proofs.Ytidfidknflcioaa

namespace Go.Proofs.Ytidfidknflcioaa
section
open Go.RowKit

/-- The wish of a policy. -/
def wishI (k s room need : Int) : Int :=
  if k = 2 then (need + s - 1) / s * s else if k = 3 then max need (room + room / 2) else if k = 4 then max need (2 * room) else if k = 5 then cfor need else need

def WPost (r : Int) (w : World) : Ending → World → Prop := fun e w' => e = .returned (.int .i64 r) ∧ Below w.heap.size w w'

theorem mul_bd (need s : Int) (h1 : 0 ≤ need) (h2 : need ≤ 100000) (h3 : 1 ≤ s) (h4 : s ≤ 100000) : 0 ≤ (need + s - 1) / s ∧ (need + s - 1) / s ≤ 200000 ∧ need ≤ (need + s - 1) / s * s ∧ (need + s - 1) / s * s ≤ 200000 := by
  have e := Int.mul_ediv_add_emod (need + s - 1) s
  have e1 := Int.emod_nonneg (need + s - 1) (b := s) (by omega)
  have e2 := Int.emod_lt_of_pos (need + s - 1) (b := s) (by omega)
  rw [Int.mul_comm] at e
  have d1 := Int.ediv_nonneg (a := need + s - 1) (b := s) (by omega) (by omega)
  have d2 := Int.ediv_le_self s (a := need + s - 1) (by omega)
  omega

set_option maxHeartbeats 1000000 in
theorem wish_any (k s m room need : Int) (w : World) (hk : 1 ≤ k ∧ k ≤ 5) (hs : k = 2 → 1 ≤ s ∧ s ≤ 100000) (hr : 0 ≤ room ∧ room ≤ 100000) (hn : 0 ≤ need ∧ need ≤ 100000) :
    Calls Try.prog 89 #[.agg #[.int .i64 k, .int .i64 s, .int .i64 m], .int .i64 room, .int .i64 need] w (WPost (wishI k s room need) w) := by
  obtain ⟨hr1, hr2⟩ := hr
  obtain ⟨hn1, hn2⟩ := hn
  have hkk : k = 1 ∨ k = 2 ∨ k = 3 ∨ k = 4 ∨ k = 5 := by omega
  rcases hkk with rfl | rfl | rfl | rfl | rfl
  · clear hs hk
    go_enter Try.func89, Try.ntmps89
    go_wp2
    go_ret
    exact ⟨rfl, (Below.refl _ _).alloc (Nat.le_refl _) _⟩
  · obtain ⟨hs1, hs2⟩ := hs rfl
    obtain ⟨d1, d2, d3, d4⟩ := mul_bd need s hn1 hn2 hs1 hs2
    clear hs hk
    go_enter Try.func89, Try.ntmps89
    go_wp2
    go_region
    all_goals
      go_wp2
      go_ret
      exact ⟨rfl, ((Below.refl _ _).alloc (Nat.le_refl _) _).drew⟩
  · clear hs hk
    go_enter Try.func89, Try.ntmps89
    go_wp2
    all_goals
      go_ret
      exact ⟨ret_int (by simp [wishI]; omega), (Below.refl _ _).alloc (Nat.le_refl _) _⟩
  · clear hs hk
    go_enter Try.func89, Try.ntmps89
    go_wp2
    all_goals
      go_ret
      exact ⟨ret_int (by simp [wishI]; omega), (Below.refl _ _).alloc (Nat.le_refl _) _⟩
  · clear hs hk
    go_enter Try.func89, Try.ntmps89
    go_wp2_with fail
    refine (classOf_ok _ _ hn1 hn2).mono ?_
    rintro e w1 ⟨rfl, hb⟩
    go_wp2_with fail
    go_ret
    exact ⟨rfl, ((Below.refl _ _).alloc (Nat.le_refl _) _).trans (hb.mono (by simp))⟩

theorem bcell {W w1 : World} (hb : Below W.heap.size W w1) : (∀ b o, b < W.heap.size → w1.cell? ⟨b, o, none⟩ = W.cell? ⟨b, o, none⟩) ∧ (∀ b o, b < W.heap.size → w1.frozen? ⟨b, o, none⟩ = W.frozen? ⟨b, o, none⟩) :=
  ⟨fun b o h => hb.cell (p := ⟨b, o, none⟩) h, fun b o h => hb.frozen (p := ⟨b, o, none⟩) h⟩

def GPost (r : Int) (b : Bool) (w : World) : Ending → World → Prop := fun e w' => e = .returned (.tuple #[.int .i64 r, .bool b]) ∧ Below w.heap.size w w'
theorem ret2_ib {k : IntKind} {a b : Int} {c d : Bool} (h : a = b) (h' : c = d) : Ending.returned (.tuple #[.int k a, .bool c]) = .returned (.tuple #[.int k b, .bool d]) := by rw [h, h']

end
end Go.Proofs.Ytidfidknflcioaa

namespace Go.Proofs.Ytidfidknflcioaa
section
open Go.RowKit

/-- A policy that is right. -/
def polOk (k s m : Int) : Prop := (1 ≤ k ∧ k ≤ 5) ∧ (k = 2 → 1 ≤ s ∧ s ≤ 100000) ∧ (0 ≤ m ∧ m ≤ 100000)
theorem polOk_of {k s m : Int} (h : polErr k s m = 0) : polOk k s m := by
  unfold polErr at h
  by_cases h1 : 1 ≤ k ∧ k ≤ 5
  · rw [if_pos h1] at h
    by_cases h2 : (k = 2 → 1 ≤ s ∧ s ≤ 100000) ∧ (¬ k = 2 → s = 0) ∧ (0 ≤ m ∧ m ≤ 100000)
    · exact ⟨h1, h2.1, h2.2.2⟩
    · rw [if_neg h2] at h; omega
  · rw [if_neg h1] at h; omega
theorem polErr_vals (k s m : Int) : polErr k s m = 0 ∨ polErr k s m = 2 ∨ polErr k s m = 10 := by
  unfold polErr; split <;> (try split) <;> simp

set_option maxHeartbeats 1000000 in
theorem grow_pol (k s m room need : Int) (w : World) (h : polErr k s m ≠ 0) :
    Calls Try.prog 79 #[.agg #[.int .i64 k, .int .i64 s, .int .i64 m], .int .i64 room, .int .i64 need] w (RetInt 0 (polErr k s m) w) := by
  have hb : (polErr k s m != 0) = true := bne_iff_ne.2 h
  have C := checkPolicy_any k s m
  generalize polErr k s m = err at *
  go_enter Try.func79, Try.ntmps79
  go_wp2_with fail
  refine (C _).mono ?_
  rintro e w1 ⟨rfl, rfl, _⟩
  go_wp2_with fail
  go_ret2
  exact ⟨rfl, ((Below.refl _ _).alloc (Nat.le_refl _) _).alloc (by simp) _⟩

set_option maxHeartbeats 1000000 in
theorem grow_range (k s m room need : Int) (w : World) (h : polErr k s m = 0) (hr : ¬ ((0 ≤ room ∧ room ≤ 100000) ∧ (0 ≤ need ∧ need ≤ 100000))) :
    Calls Try.prog 79 #[.agg #[.int .i64 k, .int .i64 s, .int .i64 m], .int .i64 room, .int .i64 need] w (RetInt 0 2 w) := by
  have C := checkPolicy_any k s m
  rw [h] at C
  clear h
  by_cases h1 : 0 ≤ room ∧ room ≤ 100000
  · have h2 : ¬ (0 ≤ need ∧ need ≤ 100000) := fun h => hr ⟨h1, h⟩
    have H2 := Lib.hid h2
    obtain ⟨ha, hb⟩ := h1
    clear hr h2
    go_enter Try.func79, Try.ntmps79
    go_wp2_with fail
    refine (C _).mono ?_
    rintro e w1 ⟨rfl, rfl, _⟩
    go_wp2_with fail
    refine (within_room_yes _ _ _ _ ha hb).mono ?_
    rintro e w1 ⟨rfl, rfl⟩
    go_wp2_with fail
    refine (within_room_no _ _ _ _ H2.out).mono ?_
    rintro e w1 ⟨rfl, rfl⟩
    go_wp2_with fail
    go_ret2
    exact ⟨rfl, ((Below.refl _ _).alloc (Nat.le_refl _) _).alloc (by simp) _⟩
  · have H1 := Lib.hid h1
    clear hr h1
    go_enter Try.func79, Try.ntmps79
    go_wp2_with fail
    refine (C _).mono ?_
    rintro e w1 ⟨rfl, rfl, _⟩
    go_wp2_with fail
    refine (within_room_no _ _ _ _ H1.out).mono ?_
    rintro e w1 ⟨rfl, rfl⟩
    go_wp2_with fail
    go_ret2
    exact ⟨rfl, ((Below.refl _ _).alloc (Nat.le_refl _) _).alloc (by simp) _⟩

set_option maxHeartbeats 1000000 in
theorem grow_has (k s m room need : Int) (w : World) (h : polErr k s m = 0) (h1 : 0 ≤ room ∧ room ≤ 100000) (h2 : 0 ≤ need ∧ need ≤ 100000) (h3 : need ≤ room) :
    Calls Try.prog 79 #[.agg #[.int .i64 k, .int .i64 s, .int .i64 m], .int .i64 room, .int .i64 need] w (RetInt room 0 w) := by
  have C := checkPolicy_any k s m
  rw [h] at C
  clear h
  obtain ⟨ha, hb⟩ := h1
  obtain ⟨hc, hd⟩ := h2
  go_enter Try.func79, Try.ntmps79
  go_wp2_with fail
  refine (C _).mono ?_
  rintro e w1 ⟨rfl, rfl, _⟩
  go_wp2_with fail
  refine (within_room_yes _ _ _ _ ha hb).mono ?_
  rintro e w1 ⟨rfl, rfl⟩
  go_wp2_with fail
  refine (within_room_yes _ _ _ _ hc hd).mono ?_
  rintro e w1 ⟨rfl, rfl⟩
  go_wp2_with fail
  go_ret2
  exact ⟨rfl, ((Below.refl _ _).alloc (Nat.le_refl _) _).alloc (by simp) _⟩

set_option maxHeartbeats 1000000 in
theorem grow_full (k s m room need : Int) (w : World) (h : polErr k s m = 0) (h1 : 0 ≤ room ∧ room ≤ 100000) (h2 : 0 ≤ need ∧ need ≤ 100000) (h3 : room < need) (h4 : m < need) :
    Calls Try.prog 79 #[.agg #[.int .i64 k, .int .i64 s, .int .i64 m], .int .i64 room, .int .i64 need] w (RetInt 0 12 w) := by
  have C := checkPolicy_any k s m
  rw [h] at C
  clear h
  obtain ⟨ha, hb⟩ := h1
  obtain ⟨hc, hd⟩ := h2
  go_enter Try.func79, Try.ntmps79
  go_wp2_with fail
  refine (C _).mono ?_
  rintro e w1 ⟨rfl, rfl, _⟩
  go_wp2_with fail
  refine (within_room_yes _ _ _ _ ha hb).mono ?_
  rintro e w1 ⟨rfl, rfl⟩
  go_wp2_with fail
  refine (within_room_yes _ _ _ _ hc hd).mono ?_
  rintro e w1 ⟨rfl, rfl⟩
  go_wp2_with fail
  go_ret2
  exact ⟨rfl, ((Below.refl _ _).alloc (Nat.le_refl _) _).alloc (by simp) _⟩

set_option maxHeartbeats 2000000 in
theorem grow_new (k s m room need : Int) (w : World) (h : polErr k s m = 0) (h1 : 0 ≤ room ∧ room ≤ 100000) (h2 : 0 ≤ need ∧ need ≤ 100000) (h3 : room < need) (h4 : need ≤ m) :
    Calls Try.prog 79 #[.agg #[.int .i64 k, .int .i64 s, .int .i64 m], .int .i64 room, .int .i64 need] w (RetInt (min (wishI k s room need) m) 0 w) := by
  have C := checkPolicy_any k s m
  rw [h] at C
  obtain ⟨p1, p2, p3⟩ := polOk_of h
  clear h
  have P2 := Lib.hid p2
  clear p2
  have W := fun w => wish_any k s m room need w p1 P2.out h1 h2
  obtain ⟨ha, hb⟩ := h1
  obtain ⟨hc, hd⟩ := h2
  have CW := Lib.hid W
  clear W
  generalize wishI k s room need = r at *
  go_enter Try.func79, Try.ntmps79
  go_wp2_with fail
  refine (C _).mono ?_
  rintro e w1 ⟨rfl, rfl, _⟩
  go_wp2_with fail
  refine (within_room_yes _ _ _ _ ha hb).mono ?_
  rintro e w1 ⟨rfl, rfl⟩
  go_wp2_with fail
  refine (within_room_yes _ _ _ _ hc hd).mono ?_
  rintro e w1 ⟨rfl, rfl⟩
  go_wp2_with fail
  clear C
  go_region_with (go_at_call 89; refine (CW.out _).mono ?_; rintro e w' ⟨rfl, hb1⟩; obtain ⟨hc1, hf1⟩ := bcell hb1)
  all_goals
    go_wp2
    all_goals
      go_ret2
      refine ⟨ret2_int (by omega) rfl, Below.trans ?_ (hb1.mono (by simp; try omega))⟩
      go_grown

end
end Go.Proofs.Ytidfidknflcioaa
