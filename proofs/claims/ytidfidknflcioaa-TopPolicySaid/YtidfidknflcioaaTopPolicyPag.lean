/-
  The error of a policy: CheckPolicy, PolicyFault and PolicyError are one function. No conditions.
-/
import Derived.Test.YtidfidknflcioaaTopPolicyPae
import Derived.Test.YtidfidknflcioaaTopPolicyPab
namespace Go.Proofs.Ytidfidknflcioaa
open Go.RowKit

/-- The error of a policy. -/
def polErr (k s m : Int) : Int :=
  if 1 ≤ k ∧ k ≤ 5 then (if (k = 2 → 1 ≤ s ∧ s ≤ 100000) ∧ (¬ k = 2 → s = 0) ∧ (0 ≤ m ∧ m ≤ 100000) then 0 else 2) else 10

theorem polErr_kind {k s m : Int} (h : ¬ (1 ≤ k ∧ k ≤ 5)) : polErr k s m = 10 := by unfold polErr; rw [if_neg h]
theorem polErr_bad {k s m : Int} (h : 1 ≤ k ∧ k ≤ 5) (h2 : ¬ ((k = 2 → 1 ≤ s ∧ s ≤ 100000) ∧ (¬ k = 2 → s = 0) ∧ (0 ≤ m ∧ m ≤ 100000))) : polErr k s m = 2 := by
  unfold polErr; rw [if_pos h, if_neg h2]
theorem polErr_ok {k s m : Int} (h : 1 ≤ k ∧ k ≤ 5) (h2 : (k = 2 → 1 ≤ s ∧ s ≤ 100000) ∧ (¬ k = 2 → s = 0) ∧ (0 ≤ m ∧ m ≤ 100000)) : polErr k s m = 0 := by
  unfold polErr; rw [if_pos h, if_pos h2]

def polV (k s m : Int) : Value := .agg #[.int .i64 k, .int .i64 s, .int .i64 m]
def polO (k s m : Int) : Obj := .cells #[.int .i64 k, .int .i64 s, .int .i64 m] 23

def ErrPost (err : Int) (w w2 : World) : Ending → World → Prop := fun e w' => e = .returned (.int .i64 err) ∧ w2 = w' ∧ w = w

set_option maxHeartbeats 2000000 in
theorem checkPolicy_any (k s m : Int) (w : World) :
    Calls Try.prog 29 #[.agg #[.int .i64 k, .int .i64 s, .int .i64 m]] w (ErrPost (polErr k s m) w (w.alloc (.cells #[.int .i64 k, .int .i64 s, .int .i64 m] 23))) := by
  by_cases hk : 1 ≤ k ∧ k ≤ 5
  · obtain ⟨hk1, hk2⟩ := hk
    by_cases h2 : k = 2
    · subst h2
      by_cases hs : 1 ≤ s ∧ s ≤ 100000
      · obtain ⟨hs1, hs2⟩ := hs
        by_cases hm : 0 ≤ m ∧ m ≤ 100000
        · obtain ⟨hm1, hm2⟩ := hm
          have E := Lib.hid (polErr_ok (k := 2) (s := s) (m := m) ⟨hk1, hk2⟩ ⟨fun _ => ⟨hs1, hs2⟩, fun h => absurd rfl h, hm1, hm2⟩)
          go_enter Try.func29, Try.ntmps29
          go_wp2_with fail
          refine (within_room_yes 2 1 5 _ (by omega) (by omega)).mono ?_
          rintro e w' ⟨rfl, rfl⟩
          go_wp2_with fail
          refine (within_room_yes _ _ _ _ hs1 hs2).mono ?_
          rintro e w' ⟨rfl, rfl⟩
          go_wp2_with fail
          refine (within_room_yes _ _ _ _ hm1 hm2).mono ?_
          rintro e w' ⟨rfl, rfl⟩
          go_wp2
          go_ret
          exact ⟨ret_int E.out.symm, rfl, rfl⟩
        · have E := Lib.hid (polErr_bad (k := 2) (s := s) (m := m) ⟨hk1, hk2⟩ (fun h => hm h.2.2))
          have X := Lib.hid hm
          clear hm
          go_enter Try.func29, Try.ntmps29
          go_wp2_with fail
          refine (within_room_yes 2 1 5 _ (by omega) (by omega)).mono ?_
          rintro e w' ⟨rfl, rfl⟩
          go_wp2_with fail
          refine (within_room_yes _ _ _ _ hs1 hs2).mono ?_
          rintro e w' ⟨rfl, rfl⟩
          go_wp2_with fail
          refine (within_room_no _ _ _ _ X.out).mono ?_
          rintro e w' ⟨rfl, rfl⟩
          go_wp2
          go_ret
          exact ⟨ret_int E.out.symm, rfl, rfl⟩
      · have E := Lib.hid (polErr_bad (k := 2) (s := s) (m := m) ⟨hk1, hk2⟩ (fun h => hs (h.1 rfl)))
        have X := Lib.hid hs
        clear hs
        go_enter Try.func29, Try.ntmps29
        go_wp2_with fail
        refine (within_room_yes 2 1 5 _ (by omega) (by omega)).mono ?_
        rintro e w' ⟨rfl, rfl⟩
        go_wp2_with fail
        refine (within_room_no _ _ _ _ X.out).mono ?_
        rintro e w' ⟨rfl, rfl⟩
        go_wp2
        go_ret
        exact ⟨ret_int E.out.symm, rfl, rfl⟩
    · by_cases hs : s = 0
      · subst hs
        by_cases hm : 0 ≤ m ∧ m ≤ 100000
        · obtain ⟨hm1, hm2⟩ := hm
          have E := Lib.hid (polErr_ok (k := k) (s := 0) (m := m) ⟨hk1, hk2⟩ ⟨fun h => absurd h h2, fun _ => rfl, hm1, hm2⟩)
          go_enter Try.func29, Try.ntmps29
          go_wp2_with fail
          refine (within_room_yes _ _ _ _ hk1 hk2).mono ?_
          rintro e w' ⟨rfl, rfl⟩
          go_wp2_with fail
          refine (within_room_yes _ _ _ _ hm1 hm2).mono ?_
          rintro e w' ⟨rfl, rfl⟩
          go_wp2
          go_ret
          exact ⟨ret_int E.out.symm, rfl, rfl⟩
        · have E := Lib.hid (polErr_bad (k := k) (s := 0) (m := m) ⟨hk1, hk2⟩ (fun h => hm h.2.2))
          have X := Lib.hid hm
          clear hm
          go_enter Try.func29, Try.ntmps29
          go_wp2_with fail
          refine (within_room_yes _ _ _ _ hk1 hk2).mono ?_
          rintro e w' ⟨rfl, rfl⟩
          go_wp2_with fail
          refine (within_room_no _ _ _ _ X.out).mono ?_
          rintro e w' ⟨rfl, rfl⟩
          go_wp2
          go_ret
          exact ⟨ret_int E.out.symm, rfl, rfl⟩
      · have E := Lib.hid (polErr_bad (k := k) (s := s) (m := m) ⟨hk1, hk2⟩ (fun h => hs (h.2.1 h2)))
        have hb1 : (k != 2) = true := bne_iff_ne.2 h2
        have hb2 : (s != 0) = true := bne_iff_ne.2 hs
        go_enter Try.func29, Try.ntmps29
        go_wp2_with fail
        refine (within_room_yes _ _ _ _ hk1 hk2).mono ?_
        rintro e w' ⟨rfl, rfl⟩
        go_wp2
        go_ret
        exact ⟨ret_int E.out.symm, rfl, rfl⟩
  · have E := Lib.hid (polErr_kind (k := k) (s := s) (m := m) hk)
    have X := Lib.hid hk
    clear hk
    go_enter Try.func29, Try.ntmps29
    go_wp2_with fail
    refine (within_room_no _ _ _ _ X.out).mono ?_
    rintro e w' ⟨rfl, rfl⟩
    go_wp2
    go_ret
    exact ⟨ret_int E.out.symm, rfl, rfl⟩

end Go.Proofs.Ytidfidknflcioaa
