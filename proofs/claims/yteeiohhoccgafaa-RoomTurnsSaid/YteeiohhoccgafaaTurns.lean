/-
  RoomTurns: its plain law and its walk. No conditions.
-/
import Derived.Test.YteeiohhoccgafaaShrink2
namespace Go.Proofs.Yteeiohhoccgafaa
open Go.RowKit

theorem cfor_bd (n : Int) (h1 : 0 ≤ n) (h2 : n ≤ 100000) : n ≤ cfor n ∧ cfor n ≤ 100000 := by
  unfold cfor
  cases h : classes.find? (fun c => decide (n ≤ c)) with
  | none =>
    have := List.find?_eq_none.1 h 100000 (by unfold classes; simp)
    simp at this; omega
  | some c =>
    have h3 := List.find?_some h
    have h4 := List.mem_of_find?_eq_some h
    obtain ⟨i, hi, rfl⟩ := List.getElem_of_mem h4
    have h5 := classes_le i (by rw [classes_len] at hi; exact hi)
    rw [List.getD_eq_getElem?_getD, List.getElem?_eq_getElem hi] at h5
    simp at h3 h5 ⊢
    omega

theorem wish_ge (k s m room need : Int) (h : polErr k s m = 0) (_h1 : 0 ≤ room ∧ room ≤ 100000) (h2 : 0 ≤ need ∧ need ≤ 100000) : need ≤ wishI k s room need := by
  obtain ⟨p1, p2, p3⟩ := polOk_of h
  have hkk : k = 1 ∨ k = 2 ∨ k = 3 ∨ k = 4 ∨ k = 5 := by omega
  rcases hkk with rfl | rfl | rfl | rfl | rfl
  · simp [wishI]
  · have := mul_bd need s h2.1 h2.2 (p2 rfl).1 (p2 rfl).2
    simp [wishI]; omega
  · simp [wishI]; omega
  · simp [wishI]; omega
  · have := cfor_bd need h2.1 h2.2
    simp [wishI]; omega

theorem gV_facts (k s m room need : Int) (h : polErr k s m = 0) (h1 : 0 ≤ room ∧ room ≤ 100000) (h2 : 0 ≤ need ∧ need ≤ 100000) (he : gE m room need = 0) :
    need ≤ gV k s m room need ∧ room ≤ gV k s m room need ∧ gV k s m room need ≤ 100000 := by
  have hw := wish_ge k s m room need h h1 h2
  obtain ⟨p1, p2, p3⟩ := polOk_of h
  unfold gE at he
  unfold gV
  by_cases h3 : need ≤ room
  · rw [if_pos h3]; omega
  · rw [if_neg h3] at he ⊢
    by_cases h4 : m < need
    · rw [if_pos h4] at he; omega
    · rw [if_neg h4]; omega

theorem grow_facts (k s m room need : Int) : (growE k s m room need = 0 → need ≤ growV k s m room need ∧ room ≤ growV k s m room need) ∧ (growE k s m room need ≠ 0 → growV k s m room need = 0) := by
  unfold growE growV
  by_cases h : polErr k s m = 0
  · rw [if_pos h]
    by_cases hr : (0 ≤ room ∧ room ≤ 100000) ∧ (0 ≤ need ∧ need ≤ 100000)
    · rw [if_pos hr, if_pos ⟨h, hr⟩]
      refine ⟨fun he => ?_, fun he => ?_⟩
      · have := gV_facts k s m room need h hr.1 hr.2 he; exact ⟨this.1, this.2.1⟩
      · rcases gE_cases k s m room need with x | x
        · exact absurd x he
        · exact x.2
    · rw [if_neg hr, if_neg (fun x => hr x.2)]
      exact ⟨fun h => absurd h (by decide), fun _ => rfl⟩
  · rw [if_neg h, if_neg (fun x => h x.1)]
    exact ⟨fun x => absurd x h, fun _ => rfl⟩

theorem shrV_bd (k s m room used : Int) (h : polErr k s m = 0) (h1 : shrinkIn room used) : used ≤ shrV k room used (gV k s m 0 used) (gE m 0 used) ∧ shrV k room used (gV k s m 0 used) (gE m 0 used) ≤ room := by
  obtain ⟨a1, a2⟩ := h1
  unfold shrV
  split
  · next h3 =>
    have := gV_facts k s m 0 used h (by omega) (by omega) h3.1
    omega
  · omega

theorem shrink_facts (k s m room used : Int) : shrinkE k s m room used = 0 → used ≤ shrinkV k s m room used ∧ shrinkV k s m room used ≤ room := by
  unfold shrinkE shrinkV
  by_cases h : polErr k s m = 0
  · rw [if_pos h]
    by_cases hr : shrinkIn room used
    · rw [if_pos hr, if_pos ⟨h, hr⟩]
      exact fun _ => shrV_bd k s m room used h hr
    · rw [if_neg hr]; intro h; omega
  · rw [if_neg h]; intro x; exact absurd x h

theorem turns_facts (k s m need : Int) : growE k s m 0 need = 0 → shrinkE k s m (growV k s m 0 need) need = 0 ∧ shrinkV k s m (growV k s m 0 need) need = growV k s m 0 need := by
  intro he
  unfold growE at he
  by_cases h : polErr k s m = 0
  · rw [if_pos h] at he
    by_cases hr : (0 ≤ (0 : Int) ∧ (0 : Int) ≤ 100000) ∧ (0 ≤ need ∧ need ≤ 100000)
    · rw [if_pos hr] at he
      have hv : growV k s m 0 need = gV k s m 0 need := by unfold growV; rw [if_pos ⟨h, hr⟩]
      rw [hv]
      have hb := gV_facts k s m 0 need h hr.1 hr.2 he
      have hin : shrinkIn (gV k s m 0 need) need := ⟨by omega, by omega⟩
      unfold shrinkE shrinkV
      rw [if_pos h, if_pos hin, if_pos ⟨h, hin⟩, he]
      refine ⟨rfl, ?_⟩
      exact shrV_more (Int.le_refl _)
    · rw [if_neg hr] at he; omega
  · rw [if_neg h] at he; exact absurd he h

theorem awakeRoom_any (w : World) : Calls Try.prog 44 #[] w (LawPost w) := by
  go_enter Try.func44, Try.ntmps44
  go_wp2_with fail
  refine (classOf_bad _ _ (by omega)).mono ?_
  rintro e w1 ⟨rfl, hb⟩
  go_wp2_with fail
  go_ret
  exact ⟨rfl, hb⟩

set_option maxHeartbeats 4000000 in
theorem turns_core (k s m room need a ea c ec g eg r er : Int) (w : World)
    (G1 : Hid (∀ w, Calls Try.prog 40 #[.agg #[.int .i64 k, .int .i64 s, .int .i64 m], .int .i64 room, .int .i64 need] w (RetInt a ea w)))
    (G2 : Hid (∀ w, Calls Try.prog 42 #[.agg #[.int .i64 k, .int .i64 s, .int .i64 m], .int .i64 room, .int .i64 need] w (RetInt c ec w)))
    (G3 : Hid (∀ w, Calls Try.prog 40 #[.agg #[.int .i64 k, .int .i64 s, .int .i64 m], .int .i64 0, .int .i64 need] w (RetInt g eg w)))
    (G4 : Hid (∀ w, Calls Try.prog 42 #[.agg #[.int .i64 k, .int .i64 s, .int .i64 m], .int .i64 g, .int .i64 need] w (RetInt r er w)))
    (f1 : ea = 0 → need ≤ a ∧ room ≤ a) (f1' : ea ≠ 0 → a = 0) (f2 : ec = 0 → need ≤ c ∧ c ≤ room) (f3 : eg = 0 → er = 0 ∧ r = g) :
    Calls Try.prog 12 #[.agg #[.int .i64 k, .int .i64 s, .int .i64 m], .int .i64 room, .int .i64 need] w (LawPost w) := by
  by_cases ha : ea = 0
  · subst ha
    obtain ⟨a1, a2⟩ := f1 rfl
    clear f1 f1'
    by_cases hc : ec = 0
    · subst hc
      obtain ⟨c1, c2⟩ := f2 rfl
      clear f2
      by_cases hg : eg = 0
      · subst hg
        obtain ⟨r1, r2⟩ := f3 rfl
        subst r1 r2
        have rr : (r == r) = true := by simp
        clear f3
        have B0 := BoxAt.new w k s m 48
        go_enter Try.func12, Try.ntmps12
        go_wp2_with fail
        refine (awakeRoom_any _).mono ?_
        rintro e w1 ⟨rfl, hb1⟩
        have h1 : Below w.heap.size w w1 := Below.trans (by go_grown) (hb1.mono (by simp))
        have B1 := B0.below hb1
        clear hb1 B0
        obtain ⟨x0, x1, x2, x3⟩ := B1
        have B1 : BoxAt w1 w.heap.size k s m := ⟨x0, x1, x2, x3⟩
        go_wp2_with fail
        refine (G1.out _).mono ?_
        rintro e w2 ⟨rfl, hb2⟩
        have h2 : Below w.heap.size w w2 := h1.trans (hb2.mono h1.size)
        have B2 := B1.below hb2
        clear hb2 B1 x0 x1 x2 x3 h1
        obtain ⟨x0, x1, x2, x3⟩ := B2
        have B2 : BoxAt w2 w.heap.size k s m := ⟨x0, x1, x2, x3⟩
        go_wp2_with fail
        refine (G2.out _).mono ?_
        rintro e w3 ⟨rfl, hb3⟩
        have h3 : Below w.heap.size w w3 := h2.trans (hb3.mono h2.size)
        have B3 := B2.below hb3
        clear hb3 B2 x0 x1 x2 x3 h2
        obtain ⟨x0, x1, x2, x3⟩ := B3
        have B3 : BoxAt w3 w.heap.size k s m := ⟨x0, x1, x2, x3⟩
        go_wp2_with fail
        refine (G3.out _).mono ?_
        rintro e w4 ⟨rfl, hb4⟩
        have h4 : Below w.heap.size w w4 := h3.trans (hb4.mono h3.size)
        have B4 := B3.below hb4
        clear hb4 B3 x0 x1 x2 x3 h3
        obtain ⟨x0, x1, x2, x3⟩ := B4
        have B4 : BoxAt w4 w.heap.size k s m := ⟨x0, x1, x2, x3⟩
        go_wp2_with fail
        refine (G4.out _).mono ?_
        rintro e w5 ⟨rfl, hb5⟩
        have h5 : Below w.heap.size w w5 := h4.trans (hb5.mono h4.size)
        have B5 := B4.below hb5
        clear hb5 B4 x0 x1 x2 x3 h4
        obtain ⟨x0, x1, x2, x3⟩ := B5
        have B5 : BoxAt w5 w.heap.size k s m := ⟨x0, x1, x2, x3⟩
        go_wp2
        go_ret
        exact ⟨by first | rfl | exact ret_bool (by simp), h5⟩
      · have g1 : (eg != 0) = true := bne_iff_ne.2 hg
        clear f3 hg
        have B0 := BoxAt.new w k s m 48
        go_enter Try.func12, Try.ntmps12
        go_wp2_with fail
        refine (awakeRoom_any _).mono ?_
        rintro e w1 ⟨rfl, hb1⟩
        have h1 : Below w.heap.size w w1 := Below.trans (by go_grown) (hb1.mono (by simp))
        have B1 := B0.below hb1
        clear hb1 B0
        obtain ⟨x0, x1, x2, x3⟩ := B1
        have B1 : BoxAt w1 w.heap.size k s m := ⟨x0, x1, x2, x3⟩
        go_wp2_with fail
        refine (G1.out _).mono ?_
        rintro e w2 ⟨rfl, hb2⟩
        have h2 : Below w.heap.size w w2 := h1.trans (hb2.mono h1.size)
        have B2 := B1.below hb2
        clear hb2 B1 x0 x1 x2 x3 h1
        obtain ⟨x0, x1, x2, x3⟩ := B2
        have B2 : BoxAt w2 w.heap.size k s m := ⟨x0, x1, x2, x3⟩
        go_wp2_with fail
        refine (G2.out _).mono ?_
        rintro e w3 ⟨rfl, hb3⟩
        have h3 : Below w.heap.size w w3 := h2.trans (hb3.mono h2.size)
        have B3 := B2.below hb3
        clear hb3 B2 x0 x1 x2 x3 h2
        obtain ⟨x0, x1, x2, x3⟩ := B3
        have B3 : BoxAt w3 w.heap.size k s m := ⟨x0, x1, x2, x3⟩
        go_wp2_with fail
        refine (G3.out _).mono ?_
        rintro e w4 ⟨rfl, hb4⟩
        have h4 : Below w.heap.size w w4 := h3.trans (hb4.mono h3.size)
        have B4 := B3.below hb4
        clear hb4 B3 x0 x1 x2 x3 h3
        obtain ⟨x0, x1, x2, x3⟩ := B4
        have B4 : BoxAt w4 w.heap.size k s m := ⟨x0, x1, x2, x3⟩
        go_wp2
        go_ret
        exact ⟨by first | rfl | exact ret_bool (by simp), h4⟩
    · have c1 : (ec == 0) = false := beq_eq_false_iff_ne.2 hc
      clear f2 hc
      by_cases hg : eg = 0
      · subst hg
        obtain ⟨r1, r2⟩ := f3 rfl
        subst r1 r2
        have rr : (r == r) = true := by simp
        clear f3
        have B0 := BoxAt.new w k s m 48
        go_enter Try.func12, Try.ntmps12
        go_wp2_with fail
        refine (awakeRoom_any _).mono ?_
        rintro e w1 ⟨rfl, hb1⟩
        have h1 : Below w.heap.size w w1 := Below.trans (by go_grown) (hb1.mono (by simp))
        have B1 := B0.below hb1
        clear hb1 B0
        obtain ⟨x0, x1, x2, x3⟩ := B1
        have B1 : BoxAt w1 w.heap.size k s m := ⟨x0, x1, x2, x3⟩
        go_wp2_with fail
        refine (G1.out _).mono ?_
        rintro e w2 ⟨rfl, hb2⟩
        have h2 : Below w.heap.size w w2 := h1.trans (hb2.mono h1.size)
        have B2 := B1.below hb2
        clear hb2 B1 x0 x1 x2 x3 h1
        obtain ⟨x0, x1, x2, x3⟩ := B2
        have B2 : BoxAt w2 w.heap.size k s m := ⟨x0, x1, x2, x3⟩
        go_wp2_with fail
        refine (G2.out _).mono ?_
        rintro e w3 ⟨rfl, hb3⟩
        have h3 : Below w.heap.size w w3 := h2.trans (hb3.mono h2.size)
        have B3 := B2.below hb3
        clear hb3 B2 x0 x1 x2 x3 h2
        obtain ⟨x0, x1, x2, x3⟩ := B3
        have B3 : BoxAt w3 w.heap.size k s m := ⟨x0, x1, x2, x3⟩
        go_wp2_with fail
        refine (G3.out _).mono ?_
        rintro e w4 ⟨rfl, hb4⟩
        have h4 : Below w.heap.size w w4 := h3.trans (hb4.mono h3.size)
        have B4 := B3.below hb4
        clear hb4 B3 x0 x1 x2 x3 h3
        obtain ⟨x0, x1, x2, x3⟩ := B4
        have B4 : BoxAt w4 w.heap.size k s m := ⟨x0, x1, x2, x3⟩
        go_wp2_with fail
        refine (G4.out _).mono ?_
        rintro e w5 ⟨rfl, hb5⟩
        have h5 : Below w.heap.size w w5 := h4.trans (hb5.mono h4.size)
        have B5 := B4.below hb5
        clear hb5 B4 x0 x1 x2 x3 h4
        obtain ⟨x0, x1, x2, x3⟩ := B5
        have B5 : BoxAt w5 w.heap.size k s m := ⟨x0, x1, x2, x3⟩
        go_wp2
        go_ret
        exact ⟨by first | rfl | exact ret_bool (by simp), h5⟩
      · have g1 : (eg != 0) = true := bne_iff_ne.2 hg
        clear f3 hg
        have B0 := BoxAt.new w k s m 48
        go_enter Try.func12, Try.ntmps12
        go_wp2_with fail
        refine (awakeRoom_any _).mono ?_
        rintro e w1 ⟨rfl, hb1⟩
        have h1 : Below w.heap.size w w1 := Below.trans (by go_grown) (hb1.mono (by simp))
        have B1 := B0.below hb1
        clear hb1 B0
        obtain ⟨x0, x1, x2, x3⟩ := B1
        have B1 : BoxAt w1 w.heap.size k s m := ⟨x0, x1, x2, x3⟩
        go_wp2_with fail
        refine (G1.out _).mono ?_
        rintro e w2 ⟨rfl, hb2⟩
        have h2 : Below w.heap.size w w2 := h1.trans (hb2.mono h1.size)
        have B2 := B1.below hb2
        clear hb2 B1 x0 x1 x2 x3 h1
        obtain ⟨x0, x1, x2, x3⟩ := B2
        have B2 : BoxAt w2 w.heap.size k s m := ⟨x0, x1, x2, x3⟩
        go_wp2_with fail
        refine (G2.out _).mono ?_
        rintro e w3 ⟨rfl, hb3⟩
        have h3 : Below w.heap.size w w3 := h2.trans (hb3.mono h2.size)
        have B3 := B2.below hb3
        clear hb3 B2 x0 x1 x2 x3 h2
        obtain ⟨x0, x1, x2, x3⟩ := B3
        have B3 : BoxAt w3 w.heap.size k s m := ⟨x0, x1, x2, x3⟩
        go_wp2_with fail
        refine (G3.out _).mono ?_
        rintro e w4 ⟨rfl, hb4⟩
        have h4 : Below w.heap.size w w4 := h3.trans (hb4.mono h3.size)
        have B4 := B3.below hb4
        clear hb4 B3 x0 x1 x2 x3 h3
        obtain ⟨x0, x1, x2, x3⟩ := B4
        have B4 : BoxAt w4 w.heap.size k s m := ⟨x0, x1, x2, x3⟩
        go_wp2
        go_ret
        exact ⟨by first | rfl | exact ret_bool (by simp), h4⟩
  · have ha0 := f1' ha
    subst ha0
    have a1 : (ea == 0) = false := beq_eq_false_iff_ne.2 ha
    have a2 : (ea != 0) = true := bne_iff_ne.2 ha
    clear f1 f1' ha
    by_cases hc : ec = 0
    · subst hc
      obtain ⟨c1, c2⟩ := f2 rfl
      clear f2
      by_cases hg : eg = 0
      · subst hg
        obtain ⟨r1, r2⟩ := f3 rfl
        subst r1 r2
        have rr : (r == r) = true := by simp
        clear f3
        have B0 := BoxAt.new w k s m 48
        go_enter Try.func12, Try.ntmps12
        go_wp2_with fail
        refine (awakeRoom_any _).mono ?_
        rintro e w1 ⟨rfl, hb1⟩
        have h1 : Below w.heap.size w w1 := Below.trans (by go_grown) (hb1.mono (by simp))
        have B1 := B0.below hb1
        clear hb1 B0
        obtain ⟨x0, x1, x2, x3⟩ := B1
        have B1 : BoxAt w1 w.heap.size k s m := ⟨x0, x1, x2, x3⟩
        go_wp2_with fail
        refine (G1.out _).mono ?_
        rintro e w2 ⟨rfl, hb2⟩
        have h2 : Below w.heap.size w w2 := h1.trans (hb2.mono h1.size)
        have B2 := B1.below hb2
        clear hb2 B1 x0 x1 x2 x3 h1
        obtain ⟨x0, x1, x2, x3⟩ := B2
        have B2 : BoxAt w2 w.heap.size k s m := ⟨x0, x1, x2, x3⟩
        go_wp2_with fail
        refine (G2.out _).mono ?_
        rintro e w3 ⟨rfl, hb3⟩
        have h3 : Below w.heap.size w w3 := h2.trans (hb3.mono h2.size)
        have B3 := B2.below hb3
        clear hb3 B2 x0 x1 x2 x3 h2
        obtain ⟨x0, x1, x2, x3⟩ := B3
        have B3 : BoxAt w3 w.heap.size k s m := ⟨x0, x1, x2, x3⟩
        go_wp2_with fail
        refine (G3.out _).mono ?_
        rintro e w4 ⟨rfl, hb4⟩
        have h4 : Below w.heap.size w w4 := h3.trans (hb4.mono h3.size)
        have B4 := B3.below hb4
        clear hb4 B3 x0 x1 x2 x3 h3
        obtain ⟨x0, x1, x2, x3⟩ := B4
        have B4 : BoxAt w4 w.heap.size k s m := ⟨x0, x1, x2, x3⟩
        go_wp2_with fail
        refine (G4.out _).mono ?_
        rintro e w5 ⟨rfl, hb5⟩
        have h5 : Below w.heap.size w w5 := h4.trans (hb5.mono h4.size)
        have B5 := B4.below hb5
        clear hb5 B4 x0 x1 x2 x3 h4
        obtain ⟨x0, x1, x2, x3⟩ := B5
        have B5 : BoxAt w5 w.heap.size k s m := ⟨x0, x1, x2, x3⟩
        go_wp2
        go_ret
        exact ⟨by first | rfl | exact ret_bool (by simp), h5⟩
      · have g1 : (eg != 0) = true := bne_iff_ne.2 hg
        clear f3 hg
        have B0 := BoxAt.new w k s m 48
        go_enter Try.func12, Try.ntmps12
        go_wp2_with fail
        refine (awakeRoom_any _).mono ?_
        rintro e w1 ⟨rfl, hb1⟩
        have h1 : Below w.heap.size w w1 := Below.trans (by go_grown) (hb1.mono (by simp))
        have B1 := B0.below hb1
        clear hb1 B0
        obtain ⟨x0, x1, x2, x3⟩ := B1
        have B1 : BoxAt w1 w.heap.size k s m := ⟨x0, x1, x2, x3⟩
        go_wp2_with fail
        refine (G1.out _).mono ?_
        rintro e w2 ⟨rfl, hb2⟩
        have h2 : Below w.heap.size w w2 := h1.trans (hb2.mono h1.size)
        have B2 := B1.below hb2
        clear hb2 B1 x0 x1 x2 x3 h1
        obtain ⟨x0, x1, x2, x3⟩ := B2
        have B2 : BoxAt w2 w.heap.size k s m := ⟨x0, x1, x2, x3⟩
        go_wp2_with fail
        refine (G2.out _).mono ?_
        rintro e w3 ⟨rfl, hb3⟩
        have h3 : Below w.heap.size w w3 := h2.trans (hb3.mono h2.size)
        have B3 := B2.below hb3
        clear hb3 B2 x0 x1 x2 x3 h2
        obtain ⟨x0, x1, x2, x3⟩ := B3
        have B3 : BoxAt w3 w.heap.size k s m := ⟨x0, x1, x2, x3⟩
        go_wp2_with fail
        refine (G3.out _).mono ?_
        rintro e w4 ⟨rfl, hb4⟩
        have h4 : Below w.heap.size w w4 := h3.trans (hb4.mono h3.size)
        have B4 := B3.below hb4
        clear hb4 B3 x0 x1 x2 x3 h3
        obtain ⟨x0, x1, x2, x3⟩ := B4
        have B4 : BoxAt w4 w.heap.size k s m := ⟨x0, x1, x2, x3⟩
        go_wp2
        go_ret
        exact ⟨by first | rfl | exact ret_bool (by simp), h4⟩
    · have c1 : (ec == 0) = false := beq_eq_false_iff_ne.2 hc
      clear f2 hc
      by_cases hg : eg = 0
      · subst hg
        obtain ⟨r1, r2⟩ := f3 rfl
        subst r1 r2
        have rr : (r == r) = true := by simp
        clear f3
        have B0 := BoxAt.new w k s m 48
        go_enter Try.func12, Try.ntmps12
        go_wp2_with fail
        refine (awakeRoom_any _).mono ?_
        rintro e w1 ⟨rfl, hb1⟩
        have h1 : Below w.heap.size w w1 := Below.trans (by go_grown) (hb1.mono (by simp))
        have B1 := B0.below hb1
        clear hb1 B0
        obtain ⟨x0, x1, x2, x3⟩ := B1
        have B1 : BoxAt w1 w.heap.size k s m := ⟨x0, x1, x2, x3⟩
        go_wp2_with fail
        refine (G1.out _).mono ?_
        rintro e w2 ⟨rfl, hb2⟩
        have h2 : Below w.heap.size w w2 := h1.trans (hb2.mono h1.size)
        have B2 := B1.below hb2
        clear hb2 B1 x0 x1 x2 x3 h1
        obtain ⟨x0, x1, x2, x3⟩ := B2
        have B2 : BoxAt w2 w.heap.size k s m := ⟨x0, x1, x2, x3⟩
        go_wp2_with fail
        refine (G2.out _).mono ?_
        rintro e w3 ⟨rfl, hb3⟩
        have h3 : Below w.heap.size w w3 := h2.trans (hb3.mono h2.size)
        have B3 := B2.below hb3
        clear hb3 B2 x0 x1 x2 x3 h2
        obtain ⟨x0, x1, x2, x3⟩ := B3
        have B3 : BoxAt w3 w.heap.size k s m := ⟨x0, x1, x2, x3⟩
        go_wp2_with fail
        refine (G3.out _).mono ?_
        rintro e w4 ⟨rfl, hb4⟩
        have h4 : Below w.heap.size w w4 := h3.trans (hb4.mono h3.size)
        have B4 := B3.below hb4
        clear hb4 B3 x0 x1 x2 x3 h3
        obtain ⟨x0, x1, x2, x3⟩ := B4
        have B4 : BoxAt w4 w.heap.size k s m := ⟨x0, x1, x2, x3⟩
        go_wp2_with fail
        refine (G4.out _).mono ?_
        rintro e w5 ⟨rfl, hb5⟩
        have h5 : Below w.heap.size w w5 := h4.trans (hb5.mono h4.size)
        have B5 := B4.below hb5
        clear hb5 B4 x0 x1 x2 x3 h4
        obtain ⟨x0, x1, x2, x3⟩ := B5
        have B5 : BoxAt w5 w.heap.size k s m := ⟨x0, x1, x2, x3⟩
        go_wp2
        go_ret
        exact ⟨by first | rfl | exact ret_bool (by simp), h5⟩
      · have g1 : (eg != 0) = true := bne_iff_ne.2 hg
        clear f3 hg
        have B0 := BoxAt.new w k s m 48
        go_enter Try.func12, Try.ntmps12
        go_wp2_with fail
        refine (awakeRoom_any _).mono ?_
        rintro e w1 ⟨rfl, hb1⟩
        have h1 : Below w.heap.size w w1 := Below.trans (by go_grown) (hb1.mono (by simp))
        have B1 := B0.below hb1
        clear hb1 B0
        obtain ⟨x0, x1, x2, x3⟩ := B1
        have B1 : BoxAt w1 w.heap.size k s m := ⟨x0, x1, x2, x3⟩
        go_wp2_with fail
        refine (G1.out _).mono ?_
        rintro e w2 ⟨rfl, hb2⟩
        have h2 : Below w.heap.size w w2 := h1.trans (hb2.mono h1.size)
        have B2 := B1.below hb2
        clear hb2 B1 x0 x1 x2 x3 h1
        obtain ⟨x0, x1, x2, x3⟩ := B2
        have B2 : BoxAt w2 w.heap.size k s m := ⟨x0, x1, x2, x3⟩
        go_wp2_with fail
        refine (G2.out _).mono ?_
        rintro e w3 ⟨rfl, hb3⟩
        have h3 : Below w.heap.size w w3 := h2.trans (hb3.mono h2.size)
        have B3 := B2.below hb3
        clear hb3 B2 x0 x1 x2 x3 h2
        obtain ⟨x0, x1, x2, x3⟩ := B3
        have B3 : BoxAt w3 w.heap.size k s m := ⟨x0, x1, x2, x3⟩
        go_wp2_with fail
        refine (G3.out _).mono ?_
        rintro e w4 ⟨rfl, hb4⟩
        have h4 : Below w.heap.size w w4 := h3.trans (hb4.mono h3.size)
        have B4 := B3.below hb4
        clear hb4 B3 x0 x1 x2 x3 h3
        obtain ⟨x0, x1, x2, x3⟩ := B4
        have B4 : BoxAt w4 w.heap.size k s m := ⟨x0, x1, x2, x3⟩
        go_wp2
        go_ret
        exact ⟨by first | rfl | exact ret_bool (by simp), h4⟩

theorem roomTurns_walk (k s m room need : Int) (w : World) (_ : -9223372036854775808 ≤ k ∧ k ≤ 9223372036854775807) (_ : -9223372036854775808 ≤ s ∧ s ≤ 9223372036854775807) (_ : -9223372036854775808 ≤ m ∧ m ≤ 9223372036854775807) (_ : -9223372036854775808 ≤ room ∧ room ≤ 9223372036854775807) (_ : -9223372036854775808 ≤ need ∧ need ≤ 9223372036854775807) :
    Calls Try.prog 12 #[.agg #[.int .i64 k, .int .i64 s, .int .i64 m], .int .i64 room, .int .i64 need] w (LawPost w) :=
  turns_core k s m room need _ _ _ _ _ _ _ _ w (fun w => grow_any k s m room need w) (fun w => shrink_any k s m room need w) (fun w => grow_any k s m 0 need w) (fun w => shrink_any k s m _ need w)
    (grow_facts k s m room need).1 (grow_facts k s m room need).2 (shrink_facts k s m room need) (turns_facts k s m need)

end Go.Proofs.Yteeiohhoccgafaa
