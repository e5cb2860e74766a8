/-
  The error of a policy: CheckPolicy, PolicyFault and PolicyError are one function. No conditions.
  Classes, ClassList, slices.BinarySearch, ClassOf, ClassFor: what they give, for all arguments. No conditions.
  ClassOf and ClassFor give one class and one error, for all arguments; RoomClasses' walk. No conditions.
-/
import Derived.Test.YtfnmjlnpfoclbaaGreatQueueRunsPaa

namespace Go.Proofs.YtfnmjlnpfoclbaaGreat
section
open Go.RowKit

/-- The error of a policy. -/
def polErr (k s m : Int) : Int :=
  if 1 ≤ k ∧ k ≤ 5 then (if (k = 2 → 1 ≤ s ∧ s ≤ 100000) ∧ (¬ k = 2 → s = 0) ∧ (0 ≤ m ∧ m ≤ 100000) then 0 else 2) else 10

theorem polErr_kind {k s m : Int} (h : ¬ (1 ≤ k ∧ k ≤ 5)) : polErr k s m = 10 := by unfold polErr; rw [if_neg h]
theorem polErr_bad {k s m : Int} (h : 1 ≤ k ∧ k ≤ 5) (h2 : ¬ ((k = 2 → 1 ≤ s ∧ s ≤ 100000) ∧ (¬ k = 2 → s = 0) ∧ (0 ≤ m ∧ m ≤ 100000))) : polErr k s m = 2 := by
  unfold polErr; rw [if_pos h, if_neg h2]
theorem polErr_ok {k s m : Int} (h : 1 ≤ k ∧ k ≤ 5) (h2 : (k = 2 → 1 ≤ s ∧ s ≤ 100000) ∧ (¬ k = 2 → s = 0) ∧ (0 ≤ m ∧ m ≤ 100000)) : polErr k s m = 0 := by
  unfold polErr; rw [if_pos h, if_pos h2]

def polV (k s m : Int) : Value := .agg #[.int .i64 k, .int .i64 s, .int .i64 m]
def polO (k s m : Int) : Obj := .cells #[.int .i64 k, .int .i64 s, .int .i64 m] 23

def ErrPost (err : Int) (w w2 : World) : Ending → World → Prop := fun e w' => e = .returned (.int .i64 err) ∧ w2 = w' ∧ w = w

set_option maxHeartbeats 2000000 in
theorem checkPolicy_any (k s m : Int) (w : World) :
    Calls Tryz.prog 23 #[.agg #[.int .i64 k, .int .i64 s, .int .i64 m]] w (ErrPost (polErr k s m) w (w.alloc (.cells #[.int .i64 k, .int .i64 s, .int .i64 m] 23))) := by
  by_cases hk : 1 ≤ k ∧ k ≤ 5
  · obtain ⟨hk1, hk2⟩ := hk
    by_cases h2 : k = 2
    · subst h2
      by_cases hs : 1 ≤ s ∧ s ≤ 100000
      · obtain ⟨hs1, hs2⟩ := hs
        by_cases hm : 0 ≤ m ∧ m ≤ 100000
        · obtain ⟨hm1, hm2⟩ := hm
          have E := Lib.hid (polErr_ok (k := 2) (s := s) (m := m) ⟨hk1, hk2⟩ ⟨fun _ => ⟨hs1, hs2⟩, fun h => absurd rfl h, hm1, hm2⟩)
          go_enter Tryz.func23, Tryz.ntmps23
          go_wp2_with fail
          refine (within_room_yes 2 1 5 _ (by omega) (by omega)).mono ?_
          rintro e w' ⟨rfl, rfl⟩
          go_wp2_with fail
          refine (within_room_yes _ _ _ _ hs1 hs2).mono ?_
          rintro e w' ⟨rfl, rfl⟩
          go_wp2_with fail
          refine (within_room_yes _ _ _ _ hm1 hm2).mono ?_
          rintro e w' ⟨rfl, rfl⟩
          go_wp2
          go_ret
          exact ⟨ret_int E.out.symm, rfl, rfl⟩
        · have E := Lib.hid (polErr_bad (k := 2) (s := s) (m := m) ⟨hk1, hk2⟩ (fun h => hm h.2.2))
          have X := Lib.hid hm
          clear hm
          go_enter Tryz.func23, Tryz.ntmps23
          go_wp2_with fail
          refine (within_room_yes 2 1 5 _ (by omega) (by omega)).mono ?_
          rintro e w' ⟨rfl, rfl⟩
          go_wp2_with fail
          refine (within_room_yes _ _ _ _ hs1 hs2).mono ?_
          rintro e w' ⟨rfl, rfl⟩
          go_wp2_with fail
          refine (within_room_no _ _ _ _ X.out).mono ?_
          rintro e w' ⟨rfl, rfl⟩
          go_wp2
          go_ret
          exact ⟨ret_int E.out.symm, rfl, rfl⟩
      · have E := Lib.hid (polErr_bad (k := 2) (s := s) (m := m) ⟨hk1, hk2⟩ (fun h => hs (h.1 rfl)))
        have X := Lib.hid hs
        clear hs
        go_enter Tryz.func23, Tryz.ntmps23
        go_wp2_with fail
        refine (within_room_yes 2 1 5 _ (by omega) (by omega)).mono ?_
        rintro e w' ⟨rfl, rfl⟩
        go_wp2_with fail
        refine (within_room_no _ _ _ _ X.out).mono ?_
        rintro e w' ⟨rfl, rfl⟩
        go_wp2
        go_ret
        exact ⟨ret_int E.out.symm, rfl, rfl⟩
    · by_cases hs : s = 0
      · subst hs
        by_cases hm : 0 ≤ m ∧ m ≤ 100000
        · obtain ⟨hm1, hm2⟩ := hm
          have E := Lib.hid (polErr_ok (k := k) (s := 0) (m := m) ⟨hk1, hk2⟩ ⟨fun h => absurd h h2, fun _ => rfl, hm1, hm2⟩)
          go_enter Tryz.func23, Tryz.ntmps23
          go_wp2_with fail
          refine (within_room_yes _ _ _ _ hk1 hk2).mono ?_
          rintro e w' ⟨rfl, rfl⟩
          go_wp2_with fail
          refine (within_room_yes _ _ _ _ hm1 hm2).mono ?_
          rintro e w' ⟨rfl, rfl⟩
          go_wp2
          go_ret
          exact ⟨ret_int E.out.symm, rfl, rfl⟩
        · have E := Lib.hid (polErr_bad (k := k) (s := 0) (m := m) ⟨hk1, hk2⟩ (fun h => hm h.2.2))
          have X := Lib.hid hm
          clear hm
          go_enter Tryz.func23, Tryz.ntmps23
          go_wp2_with fail
          refine (within_room_yes _ _ _ _ hk1 hk2).mono ?_
          rintro e w' ⟨rfl, rfl⟩
          go_wp2_with fail
          refine (within_room_no _ _ _ _ X.out).mono ?_
          rintro e w' ⟨rfl, rfl⟩
          go_wp2
          go_ret
          exact ⟨ret_int E.out.symm, rfl, rfl⟩
      · have E := Lib.hid (polErr_bad (k := k) (s := s) (m := m) ⟨hk1, hk2⟩ (fun h => hs (h.2.1 h2)))
        have hb1 : (k != 2) = true := bne_iff_ne.2 h2
        have hb2 : (s != 0) = true := bne_iff_ne.2 hs
        go_enter Tryz.func23, Tryz.ntmps23
        go_wp2_with fail
        refine (within_room_yes _ _ _ _ hk1 hk2).mono ?_
        rintro e w' ⟨rfl, rfl⟩
        go_wp2
        go_ret
        exact ⟨ret_int E.out.symm, rfl, rfl⟩
  · have E := Lib.hid (polErr_kind (k := k) (s := s) (m := m) hk)
    have X := Lib.hid hk
    clear hk
    go_enter Tryz.func23, Tryz.ntmps23
    go_wp2_with fail
    refine (within_room_no _ _ _ _ X.out).mono ?_
    rintro e w' ⟨rfl, rfl⟩
    go_wp2
    go_ret
    exact ⟨ret_int E.out.symm, rfl, rfl⟩

set_option maxHeartbeats 2000000 in
theorem policyFault_any (k s m : Int) (w : World) :
    Calls Tryz.prog 26 #[.agg #[.int .i64 k, .int .i64 s, .int .i64 m]] w (ErrPost (polErr k s m) w (w.alloc (.cells #[.int .i64 k, .int .i64 s, .int .i64 m] 23))) := by
  by_cases hk : 1 ≤ k ∧ k ≤ 5
  · obtain ⟨hk1, hk2⟩ := hk
    by_cases h2 : k = 2
    · subst h2
      by_cases hs : 1 ≤ s ∧ s ≤ 100000
      · obtain ⟨hs1, hs2⟩ := hs
        by_cases hm : 0 ≤ m ∧ m ≤ 100000
        · obtain ⟨hm1, hm2⟩ := hm
          have E := Lib.hid (polErr_ok (k := 2) (s := s) (m := m) ⟨hk1, hk2⟩ ⟨fun _ => ⟨hs1, hs2⟩, fun h => absurd rfl h, hm1, hm2⟩)
          go_enter Tryz.func26, Tryz.ntmps26
          go_wp2
          go_ret
          exact ⟨ret_int E.out.symm, rfl, rfl⟩
        · have E := Lib.hid (polErr_bad (k := 2) (s := s) (m := m) ⟨hk1, hk2⟩ (fun h => hm h.2.2))
          rcases (show m < 0 ∨ 100000 < m from by omega) with h3 | h3
          · clear hm
            go_enter Tryz.func26, Tryz.ntmps26
            go_wp2
            go_ret
            exact ⟨ret_int E.out.symm, rfl, rfl⟩
          · clear hm
            go_enter Tryz.func26, Tryz.ntmps26
            go_wp2
            go_ret
            exact ⟨ret_int E.out.symm, rfl, rfl⟩
      · have E := Lib.hid (polErr_bad (k := 2) (s := s) (m := m) ⟨hk1, hk2⟩ (fun h => hs (h.1 rfl)))
        rcases (show s < 1 ∨ 100000 < s from by omega) with h3 | h3
        · clear hs
          go_enter Tryz.func26, Tryz.ntmps26
          go_wp2
          go_ret
          exact ⟨ret_int E.out.symm, rfl, rfl⟩
        · clear hs
          go_enter Tryz.func26, Tryz.ntmps26
          go_wp2
          go_ret
          exact ⟨ret_int E.out.symm, rfl, rfl⟩
    · by_cases hs : s = 0
      · subst hs
        by_cases hm : 0 ≤ m ∧ m ≤ 100000
        · obtain ⟨hm1, hm2⟩ := hm
          have E := Lib.hid (polErr_ok (k := k) (s := 0) (m := m) ⟨hk1, hk2⟩ ⟨fun h => absurd h h2, fun _ => rfl, hm1, hm2⟩)
          go_enter Tryz.func26, Tryz.ntmps26
          go_wp2
          go_ret
          exact ⟨ret_int E.out.symm, rfl, rfl⟩
        · have E := Lib.hid (polErr_bad (k := k) (s := 0) (m := m) ⟨hk1, hk2⟩ (fun h => hm h.2.2))
          rcases (show m < 0 ∨ 100000 < m from by omega) with h3 | h3
          · clear hm
            go_enter Tryz.func26, Tryz.ntmps26
            go_wp2
            go_ret
            exact ⟨ret_int E.out.symm, rfl, rfl⟩
          · clear hm
            go_enter Tryz.func26, Tryz.ntmps26
            go_wp2
            go_ret
            exact ⟨ret_int E.out.symm, rfl, rfl⟩
      · have E := Lib.hid (polErr_bad (k := k) (s := s) (m := m) ⟨hk1, hk2⟩ (fun h => hs (h.2.1 h2)))
        have hb1 : (k != 2) = true := bne_iff_ne.2 h2
        have hb2 : (s != 0) = true := bne_iff_ne.2 hs
        go_enter Tryz.func26, Tryz.ntmps26
        go_wp2
        go_ret
        exact ⟨ret_int E.out.symm, rfl, rfl⟩
  · have E := Lib.hid (polErr_kind (k := k) (s := s) (m := m) hk)
    rcases (show k < 1 ∨ 5 < k from by omega) with h3 | h3
    · clear hk
      go_enter Tryz.func26, Tryz.ntmps26
      go_wp2
      go_ret
      exact ⟨ret_int E.out.symm, rfl, rfl⟩
    · clear hk
      go_enter Tryz.func26, Tryz.ntmps26
      go_wp2
      go_ret
      exact ⟨ret_int E.out.symm, rfl, rfl⟩

end
end Go.Proofs.YtfnmjlnpfoclbaaGreat

namespace Go.Proofs.YtfnmjlnpfoclbaaGreat
section
open Go.RowKit

def lo (k : Nat) : Int := 8 * 2 ^ k
def hi (k : Nat) : Int := 12 * 2 ^ k
def cls (k : Nat) : List Int := (List.range k).flatMap fun i => [lo i, hi i]
/-- The size classes. -/
def classes : List Int := cls 14 ++ [100000]

theorem cls_succ (k : Nat) : cls (k + 1) = cls k ++ [lo k] ++ [hi k] := by simp [cls, List.range_succ]
theorem cls_len (k : Nat) : (cls k).length = 2 * k := by
  induction k with
  | zero => rfl
  | succ k ih => rw [cls_succ]; simp [ih]; omega
theorem lo_bd (k : Nat) (h : k < 14) : 8 ≤ lo k ∧ lo k ≤ 65536 ∧ 12 ≤ hi k ∧ hi k ≤ 98304 ∧ hi k = lo k + lo k / 2 ∧ lo (k + 1) = 2 * lo k ∧ hi (k + 1) = 2 * hi k := by
  have : k = 0 ∨ k = 1 ∨ k = 2 ∨ k = 3 ∨ k = 4 ∨ k = 5 ∨ k = 6 ∨ k = 7 ∨ k = 8 ∨ k = 9 ∨ k = 10 ∨ k = 11 ∨ k = 12 ∨ k = 13 := by omega
  rcases this with rfl | rfl | rfl | rfl | rfl | rfl | rfl | rfl | rfl | rfl | rfl | rfl | rfl | rfl <;> decide
theorem lo_top : lo 14 = 131072 := by decide
theorem hi_top : hi 14 = 196608 := by decide

def OwnPost (zs : List Int) (w : World) : Ending → World → Prop := fun e w' =>
  ∃ v, e = .returned v ∧ w'.ownsRow w.heap.size 3 1 v zs.length (zs.map (Value.int .i64)) ∧ Below w.heap.size w w'

set_option maxHeartbeats 2000000 in
set_option maxRecDepth 100000 in
theorem classes_any (w : World) : Calls Tryz.prog 110 #[] w (OwnPost classes w) := by
  obtain ⟨i0, hi0, hz0, hz1, hz2⟩ := info_parts infoInt
  go_enter Tryz.func110, Tryz.ntmps110
  go_wp2
  go_loopw [1, 2, 3] (fun v a b wr => ∃ k : Nat, k ≤ 14 ∧ a = .int .i64 (lo k) ∧ b = .int .i64 (hi k) ∧ wr.ownsRow w.heap.size 3 1 v (2 * k) ((cls k).map (Value.int .i64)) ∧ Below w.heap.size w wr) (fun _ a _ _ => 200000 - (intOf a).toNat)
  case atStart => exact ⟨0, by omega, rfl, rfl, World.ownsRow_nil _ _ _ _, Below.refl _ _⟩
  case round =>
    obtain ⟨k, hk, rfl, rfl, hown, hb⟩ := hrel
    have hbs := hb.size
    by_cases hlt : k < 14
    · obtain ⟨b1, b2, b3, b4, b5, b6, b7⟩ := lo_bd k hlt
      have B6 := Lib.hid b6
      have B7 := Lib.hid b7
      clear b5 b6 b7
      have S := Lib.hid (cls_succ k)
      generalize lo k = L at *
      generalize hi k = R at *
      generalize hkk : 2 * k = k2 at *
      have KK := Lib.hid hkk
      have k3 : k2 ≤ 28 := by omega
      clear hkk
      go_wp2_with (at_builtin; go_must (refine wpList_append_new rfl (.tmp 10) (.tmp 12) 25 rfl w.heap.size 3 i0 (.int .i64 0) 8 Tryz.underlying25 hi0 hz0 hz1 hz2 rfl _ _ _ wr _ (.int .i64 L) rfl (by exact hown) rfl rfl (by unfold maxLen; omega) (by omega) (by omega) ?_))
      intro v1 w1 hown1 _ hb1
      have hb2 := hb.trans hb1
      have hbs2 := hb2.size
      clear hown hb
      go_wp2_with (at_builtin; go_must (refine wpList_append_new rfl (.tmp 16) (.tmp 18) 25 rfl w.heap.size 3 i0 (.int .i64 0) 8 Tryz.underlying25 hi0 hz0 hz1 hz2 rfl _ _ _ w1 _ (.int .i64 R) rfl (by exact hown1) rfl rfl (by unfold maxLen; omega) (by omega) (by omega) ?_))
      intro v2 w2 hown2 _ hb3
      have hb4 := hb2.trans hb3
      have hown3 : w2.ownsRow w.heap.size 3 1 v2 (2 * (k + 1)) ((cls (k + 1)).map (Value.int .i64)) := by
        rw [S.out, List.map_append, List.map_append, List.append_assoc, show 2 * (k + 1) = k2 + 1 + 1 from by have := KK.out; omega]; exact hown2
      clear hown1 hown2
      go_wp2
      go_roundw
      case rel => exact ⟨k + 1, by omega, by rw [B6.out], by rw [B7.out], hown3, hb4⟩
      case measure => simp [intOf]; omega
    · obtain rfl : k = 14 := by omega
      rw [lo_top, hi_top]
      go_wp2_with (at_builtin; go_must (refine wpList_append_new rfl _ _ 25 rfl w.heap.size 3 i0 (.int .i64 0) 8 Tryz.underlying25 hi0 hz0 hz1 hz2 rfl _ _ _ wr _ (.int .i64 100000) rfl (by exact hown) rfl rfl (by unfold maxLen; omega) (by omega) (by omega) ?_))
      intro v1 w1 hown1 _ hb1
      have hb2 := hb.trans hb1
      clear hown hb
      go_wp2
      go_ret
      refine ⟨_, rfl, ?_, hb2⟩
      have : classes.length = 29 := by simp [classes, cls_len]
      rw [this, classes, List.map_append]
      exact hown1

set_option maxHeartbeats 2000000 in
set_option maxRecDepth 100000 in
theorem classList_any (w : World) : Calls Tryz.prog 98 #[] w (OwnPost classes w) := by
  obtain ⟨i0, hi0, hz0, hz1, hz2⟩ := info_parts infoInt
  go_enter Tryz.func98, Tryz.ntmps98
  go_wp2
  go_loopw [1, 2] (fun v a wr => ∃ k : Nat, k ≤ 14 ∧ a = .int .i64 (lo k) ∧ wr.ownsRow w.heap.size 3 1 v (2 * k) ((cls k).map (Value.int .i64)) ∧ Below w.heap.size w wr) (fun _ a _ => 200000 - (intOf a).toNat)
  case atStart => exact ⟨0, by omega, rfl, World.ownsRow_nil _ _ _ _, Below.refl _ _⟩
  case round =>
    obtain ⟨k, hk, rfl, hown, hb⟩ := hrel
    have hbs := hb.size
    by_cases hlt : k < 14
    · obtain ⟨b1, b2, b3, b4, b5, b6, b7⟩ := lo_bd k hlt
      have B6 := Lib.hid b6
      have B5 := Lib.hid b5
      clear b5 b6 b7
      have S := Lib.hid (cls_succ k)
      generalize lo k = L at *
      generalize hi k = R at *
      have b8 : L + L / 2 ≤ 100000 := by have := B5.out; omega
      generalize hkk : 2 * k = k2 at *
      have KK := Lib.hid hkk
      have k3 : k2 ≤ 28 := by omega
      clear hkk
      go_wp2_with (at_builtin; go_must (refine wpList_append_new rfl (.tmp 7) (.tmp 9) 25 rfl w.heap.size 3 i0 (.int .i64 0) 8 Tryz.underlying25 hi0 hz0 hz1 hz2 rfl _ _ _ wr _ (.int .i64 L) rfl (by exact hown) rfl rfl (by unfold maxLen; omega) (by omega) (by omega) ?_))
      intro v1 w1 hown1 _ hb1
      have hb2 := hb.trans hb1
      have hbs2 := hb2.size
      clear hown hb
      go_wp2_with (at_builtin; go_must (refine wpList_append_new rfl (.tmp 16) (.tmp 21) 25 rfl w.heap.size 3 i0 (.int .i64 0) 8 Tryz.underlying25 hi0 hz0 hz1 hz2 rfl _ _ _ w1 _ (.int .i64 (L + L / 2)) rfl (by exact hown1) rfl rfl (by unfold maxLen; omega) (by omega) (by omega) ?_))
      intro v2 w2 hown2 _ hb3
      have hb4 := hb2.trans hb3
      have hown3 : w2.ownsRow w.heap.size 3 1 v2 (2 * (k + 1)) ((cls (k + 1)).map (Value.int .i64)) := by
        rw [S.out, B5.out, List.map_append, List.map_append, List.append_assoc, show 2 * (k + 1) = k2 + 1 + 1 from by have := KK.out; omega]; exact hown2
      clear hown1 hown2
      go_wp2
      go_roundw
      case rel => exact ⟨k + 1, by omega, by rw [B6.out, Int.mul_comm], hown3, hb4⟩
      case measure => simp [intOf]; omega
    · obtain rfl : k = 14 := by omega
      rw [lo_top]
      go_wp2_with (at_builtin; go_must (refine wpList_append_new rfl _ _ 25 rfl w.heap.size 3 i0 (.int .i64 0) 8 Tryz.underlying25 hi0 hz0 hz1 hz2 rfl _ _ _ wr _ (.int .i64 100000) rfl (by exact hown) rfl rfl (by unfold maxLen; omega) (by omega) (by omega) ?_))
      intro v1 w1 hown1 _ hb1
      have hb2 := hb.trans hb1
      clear hown hb
      go_wp2
      go_ret
      refine ⟨_, rfl, ?_, hb2⟩
      have : classes.length = 29 := by simp [classes, cls_len]
      rw [this, classes, List.map_append]
      exact hown1


theorem less_yes (a b : Int) (w : World) (h : a < b) :
    Calls Tryz.prog 105 #[.int .i64 a, .int .i64 b] w fun e w' => e = .returned (.bool true) ∧ w = w' := by
  go_enter Tryz.func105, Tryz.ntmps105
  go_wp2
  go_ret
  exact ⟨rfl, rfl⟩
theorem less_no (a b : Int) (w : World) (h : b ≤ a) :
    Calls Tryz.prog 105 #[.int .i64 a, .int .i64 b] w fun e w' => e = .returned (.bool false) ∧ w = w' := by
  go_enter Tryz.func105, Tryz.ntmps105
  go_wp2
  go_ret
  first | exact ⟨rfl, rfl⟩ | exact ⟨ret_bool (decide_eq_false (by omega)), rfl⟩

def BsPost (zs : List Int) (t : Int) (w : World) : Ending → World → Prop := fun e w' =>
  ∃ (i : Nat) (b : Bool), e = .returned (.tuple #[.int .i64 i, .bool b]) ∧ i ≤ zs.length ∧ (∀ j, j < i → zs.getD j 0 < t) ∧ (∀ j, i ≤ j → j < zs.length → t ≤ zs.getD j 0) ∧ w = w'

set_option maxHeartbeats 2000000 in
set_option maxRecDepth 100000 in
theorem bsearch_any (b o n c : Nat) (zs : List Int) (t : Int) (w : World) (hn : zs.length = n) (hsz : n ≤ 1000000) (hc : ∀ j, j < n → w.cell? ⟨b, o + j, none⟩ = some (.int .i64 (zs.getD j 0)))
    (hs : ∀ i j, i ≤ j → j < n → zs.getD i 0 ≤ zs.getD j 0) :
    Calls Tryz.prog 111 #[.slice (some ⟨b, o, none⟩) n c, .int .i64 t] w (BsPost zs t w) := by
  have Hn := Lib.hid hn
  have Hc := Lib.hid hc
  have Hs := Lib.hid hs
  clear hn hc hs
  go_enter Tryz.func111, Tryz.ntmps111
  go_wp2
  go_loop [7, 8] (fun x y => ∃ i j : Nat, i ≤ j ∧ j ≤ n ∧ x = .int .i64 i ∧ y = .int .i64 j ∧ (∀ m, m < i → zs.getD m 0 < t) ∧ (∀ m, j ≤ m → m < n → t ≤ zs.getD m 0)) (fun x y => (intOf y - intOf x).toNat)
  case atStart => exact ⟨0, n, by omega, by omega, rfl, rfl, fun m hm => absurd hm (by omega), fun m h1 h2 => absurd h1 (by omega)⟩
  case round =>
    obtain ⟨i, j, hij, hjn, rfl, rfl, h1, h2⟩ := hrel
    have H1 := Lib.hid h1
    have H2 := Lib.hid h2
    clear h1 h2
    by_cases hlt : i < j
    · have g := Hc.out ((i + j) / 2) (by omega)
      generalize hx : zs.getD ((i + j) / 2) 0 = x at g
      have HX := Lib.hid hx
      clear hx
      by_cases hxt : x < t
      · go_wp2_with fail
        refine (less_yes _ _ _ hxt).mono ?_
        rintro e w' ⟨rfl, rfl⟩
        go_wp2_with fail
        go_round
        case rel =>
          refine ⟨(i + j) / 2 + 1, j, by omega, by omega, by go_num, rfl, fun m hm => ?_, H2.out⟩
          have := Hs.out m ((i + j) / 2) (by omega) (by omega)
          rw [HX.out] at this
          omega
        case measure => simp [intOf]; omega
      · have hxt' : t ≤ x := by omega
        clear hxt
        go_wp2_with fail
        refine (less_no _ _ _ hxt').mono ?_
        rintro e w' ⟨rfl, rfl⟩
        go_wp2_with fail
        go_round
        case rel =>
          refine ⟨i, (i + j) / 2, by omega, by omega, rfl, by go_num, H1.out, fun m h1 h2 => ?_⟩
          have := Hs.out ((i + j) / 2) m (by omega) (by omega)
          rw [HX.out] at this
          omega
        case measure => simp [intOf]; omega
    · obtain rfl : i = j := by omega
      have L := Hn.out
      by_cases hin : i < n
      · have g := Hc.out i hin
        generalize hx : zs.getD i 0 = x at g
        clear hx L
        have hnn : (x != x) = false := by simp
        by_cases hxt : x = t
        · subst hxt
          go_wp2
          go_ret2
          exact ⟨i, _, rfl, by rw [Hn.out]; omega, H1.out, fun m h1 h2 => H2.out m h1 (by rw [Hn.out] at h2; exact h2), rfl⟩
        · go_wp2
          go_ret2
          exact ⟨i, _, rfl, by rw [Hn.out]; omega, H1.out, fun m h1 h2 => H2.out m h1 (by rw [Hn.out] at h2; exact h2), rfl⟩
      · clear L
        go_wp2
        go_ret2
        exact ⟨i, _, rfl, by rw [Hn.out]; omega, H1.out, fun m h1 h2 => H2.out m h1 (by rw [Hn.out] at h2; exact h2), rfl⟩

end
end Go.Proofs.YtfnmjlnpfoclbaaGreat

namespace Go.Proofs.YtfnmjlnpfoclbaaGreat
section
open Go.RowKit

/-- The least class that is not below n. -/
def cfor (n : Int) : Int := (classes.find? (fun c => decide (n ≤ c))).getD 0

theorem find_at (l : List Int) (n : Int) : ∀ i, i < l.length → (∀ j, j < i → l.getD j 0 < n) → n ≤ l.getD i 0 → (l.find? (fun c => decide (n ≤ c))).getD 0 = l.getD i 0 := by
  induction l with
  | nil => intro i h; simp at h
  | cons a l ih =>
    intro i hi h1 h2
    by_cases ha : n ≤ a
    · have : i = 0 := by
        rcases Nat.eq_zero_or_pos i with h | h
        · exact h
        · have := h1 0 h; simp at this; omega
      subst this
      simp [ha]
    · cases i with
      | zero => simp at h2; omega
      | succ i =>
        have := ih i (by simpa using hi) (fun j hj => by have := h1 (j + 1) (by omega); simpa using this) (by simpa using h2)
        simpa [List.find?_cons, ha] using this

theorem classes_len : classes.length = 29 := by simp [classes, cls_len]
theorem classes_sorted : ∀ j, j < 29 → ∀ i, i < j + 1 → classes.getD i 0 ≤ classes.getD j 0 := by decide +kernel
theorem classes_le : ∀ j, j < 29 → 8 ≤ classes.getD j 0 ∧ classes.getD j 0 ≤ 100000 := by decide +kernel
theorem classes_last : classes.getD 28 0 = 100000 := by decide +kernel

/-- A call that gives back a number and an error. -/
def RetInt (c err : Int) (w : World) : Ending → World → Prop := fun e w' =>
  e = .returned (.tuple #[.int .i64 c, .int .i64 err]) ∧ Below w.heap.size w w'

theorem ret2_int {k k' : IntKind} {a b c d : Int} (h : a = b) (h' : c = d) : Ending.returned (.tuple #[.int k a, .int k' c]) = .returned (.tuple #[.int k b, .int k' d]) := by rw [h, h']

theorem own_cells {w : World} {B : Nat} {v : Value} {n : Nat} {zs : List Int} (h : w.ownsRow B 3 1 v n (zs.map (Value.int .i64))) (hn : 0 < n) :
    ∃ g cap, v = .slice (some ⟨g, 0, none⟩) n cap ∧ ∀ j, j < n → w.cell? ⟨g, 0 + j, none⟩ = some (.int .i64 (zs.getD j 0)) := by
  have hlen := h.1
  rcases h.2 with ⟨rfl, hz⟩ | ⟨g, cap, cur, rfl, hB, hg, hn', hm, hs, ht⟩
  · omega
  · refine ⟨g, cap, rfl, fun j hj => ?_⟩
    have hj' : j < zs.length := by simp at hlen; omega
    have hc := h.cells (g := g) rfl j (.int .i64 (zs.getD j 0)) (by simp [hj'])
    have e : (⟨g, 0, none⟩ : Addr).add j = ⟨g, 0 + j, none⟩ := by unfold Addr.add; split <;> simp_all
    rw [e] at hc
    exact hc

set_option maxHeartbeats 2000000 in
theorem classOf_ok (n : Int) (w : World) (h1 : 0 ≤ n) (h2 : n ≤ 100000) :
    Calls Tryz.prog 96 #[.int .i64 n] w (RetInt (cfor n) 0 w) := by
  go_enter Tryz.func96, Tryz.ntmps96
  go_wp2_with fail
  refine (within_room_yes _ _ _ _ h1 h2).mono ?_
  rintro e w' ⟨rfl, rfl⟩
  go_wp2_with fail
  refine (classes_any _).mono ?_
  rintro e w1 ⟨v, rfl, hown, hb⟩
  rw [classes_len] at hown
  obtain ⟨g, cap, rfl, hc⟩ := own_cells hown (by omega)
  have Hc := Lib.hid hc
  clear hown hc
  go_wp2_with fail
  refine (bsearch_any g 0 29 cap classes n _ classes_len (by omega) Hc.out (fun i j h1 h2 => classes_sorted j h2 i (by omega))).mono ?_
  rintro e w2 ⟨i, fnd, rfl, hi, h3, h4, rfl⟩
  have hi29 : i < 29 := by
    rw [classes_len] at hi
    rcases Nat.lt_or_ge i 29 with h | h
    · exact h
    · have := h3 28 (by omega); rw [classes_last] at this; omega
  have E : cfor n = classes.getD i 0 := find_at classes n i (by rw [classes_len]; exact hi29) h3 (h4 i (by omega) (by rw [classes_len]; exact hi29))
  have g1 := Hc.out i hi29
  rw [Nat.zero_add] at g1
  generalize classes.getD i 0 = x at *
  have E1 := Lib.hid E
  clear h3 h4 E hi
  go_wp2_with fail
  go_ret2
  exact ⟨ret2_int E1.out.symm rfl, hb⟩

theorem classOf_bad (n : Int) (w : World) (h : ¬ (0 ≤ n ∧ n ≤ 100000)) :
    Calls Tryz.prog 96 #[.int .i64 n] w (RetInt 0 2 w) := by
  have HN := Lib.hid h
  clear h
  go_enter Tryz.func96, Tryz.ntmps96
  go_wp2_with fail
  refine (within_room_no _ _ _ _ HN.out).mono ?_
  rintro e w' ⟨rfl, rfl⟩
  go_wp2_with fail
  go_ret2
  exact ⟨rfl, Below.refl _ _⟩

set_option maxHeartbeats 2000000 in
theorem classFor_ok (n : Int) (w : World) (h1 : 0 ≤ n) (h2 : n ≤ 100000) :
    Calls Tryz.prog 90 #[.int .i64 n] w (RetInt (cfor n) 0 w) := by
  go_enter Tryz.func90, Tryz.ntmps90
  go_wp2_with fail
  refine (inRoom_yes _ _ h1 h2).mono ?_
  rintro e w' ⟨rfl, rfl⟩
  go_wp2_with fail
  refine (classList_any _).mono ?_
  rintro e w1 ⟨v, rfl, hown, hb⟩
  rw [classes_len] at hown
  obtain ⟨g, cap, rfl, hc⟩ := own_cells hown (by omega)
  have Hc := Lib.hid hc
  clear hown hc
  go_wp2_with fail
  go_loop [11] (fun x => ∃ i : Nat, i < 29 ∧ x = .int .i64 i ∧ (∀ j, j < i → classes.getD j 0 < n)) (fun x => 29 - (intOf x).toNat)
  case atStart => exact ⟨0, by omega, rfl, fun j hj => absurd hj (by omega)⟩
  case round =>
    obtain ⟨i, hi, rfl, h3⟩ := hrel
    have H3 := Lib.hid h3
    clear h3
    have g1 := Hc.out i hi
    rw [Nat.zero_add] at g1
    by_cases hx : n ≤ classes.getD i 0
    · have E : cfor n = classes.getD i 0 := find_at classes n i (by rw [classes_len]; exact hi) H3.out hx
      rw [E]
      generalize classes.getD i 0 = x at *
      clear E
      go_wp2_with fail
      go_ret2
      exact ⟨rfl, hb⟩
    · have hi28 : i < 28 := by
        rcases Nat.lt_or_ge i 28 with h | h
        · exact h
        · obtain rfl : i = 28 := by omega
          rw [classes_last] at hx; omega
      generalize hxx : classes.getD i 0 = x at *
      have HX := Lib.hid hxx
      clear hxx
      have hx' : x < n := by omega
      clear hx
      go_wp2_with fail
      go_round
      case rel =>
        refine ⟨i + 1, by omega, by go_num, fun j hj => ?_⟩
        by_cases e : j = i
        · subst e; rw [HX.out]; exact hx'
        · exact H3.out j (by omega)
      case measure => simp [intOf]; omega

theorem classFor_bad (n : Int) (w : World) (h : ¬ (0 ≤ n ∧ n ≤ 100000)) :
    Calls Tryz.prog 90 #[.int .i64 n] w (RetInt 0 2 w) := by
  have HN := Lib.hid h
  clear h
  go_enter Tryz.func90, Tryz.ntmps90
  go_wp2_with fail
  refine (inRoom_no _ _ HN.out).mono ?_
  rintro e w' ⟨rfl, rfl⟩
  go_wp2_with fail
  go_ret2
  exact ⟨rfl, Below.refl _ _⟩

theorem class_both (n : Int) : ∃ c err : Int,
    (∀ w, Calls Tryz.prog 96 #[.int .i64 n] w (RetInt c err w)) ∧ (∀ w, Calls Tryz.prog 90 #[.int .i64 n] w (RetInt c err w)) := by
  by_cases h : 0 ≤ n ∧ n ≤ 100000
  · exact ⟨cfor n, 0, fun w => classOf_ok n w h.1 h.2, fun w => classFor_ok n w h.1 h.2⟩
  · exact ⟨0, 2, fun w => classOf_bad n w h, fun w => classFor_bad n w h⟩

end
end Go.Proofs.YtfnmjlnpfoclbaaGreat
