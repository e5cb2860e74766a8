/-
  RoomPieces: Pieces and PiecesOf give one list and one error, for all arguments. No conditions.
-/
import Derived.Test.YtidfidknflcioaaTopPolicyPae
import Derived.Test.YtidfidknflcioaaTopPolicyPab
namespace Go.Proofs.Ytidfidknflcioaa
open Go.RowKit

/-- The sizes of the first k pieces, when n octets are divided into M. -/
def pcs (n M : Int) (k : Nat) : List Int := (List.range k).map fun (i : Nat) => n / M + if (i : Int) < n % M then 1 else 0

theorem pcs_len (n M : Int) (k : Nat) : (pcs n M k).length = k := by simp [pcs]
theorem pcs_succ_lt (n M : Int) (k : Nat) (h : (k : Int) < n % M) : pcs n M (k + 1) = pcs n M k ++ [n / M + 1] := by
  simp [pcs, List.range_succ, h]
theorem pcs_succ_ge (n M : Int) (k : Nat) (h : n % M ≤ (k : Int)) : pcs n M (k + 1) = pcs n M k ++ [n / M] := by
  have h' : ¬ (k : Int) < n % M := by omega
  simp [pcs, List.range_succ, h']

/-- A call that gives back a new list of integers and an error. -/
def RetRow (err : Int) (zs : List Int) (w : World) : Ending → World → Prop := fun e w' =>
  ∃ v, e = .returned (.tuple #[v, .int .i64 err]) ∧ w'.ownsRow w.heap.size 3 1 v zs.length (zs.map (Value.int .i64)) ∧ Below w.heap.size w w'

theorem div_bd (n M : Int) (h1 : 0 ≤ n) (h2 : n ≤ 100000) (h3 : 1 ≤ M) : 0 ≤ n / M ∧ n / M ≤ 100000 := by
  refine ⟨Int.ediv_nonneg h1 (by omega), ?_⟩
  have := Int.ediv_le_self M h1
  omega
theorem many_bd (n most : Int) (h1 : 0 ≤ n) (h2 : n ≤ 100000) (h3 : 1 ≤ most) (h4 : most ≤ 100000) : 0 ≤ (n + most - 1) / most ∧ (n + most - 1) / most ≤ 200000 := by
  refine ⟨Int.ediv_nonneg (by omega) (by omega), ?_⟩
  have := Int.ediv_le_self most (a := n + most - 1) (by omega)
  omega

set_option maxHeartbeats 2000000 in
set_option maxRecDepth 100000 in
theorem pieces_ok (n most : Int) (M : Nat) (w : World) (h1 : 0 ≤ n) (h2 : n ≤ 100000) (h3 : 1 ≤ most) (h4 : most ≤ 100000) (hM : (n + most - 1) / most = (M : Int)) (hM2 : M ≤ 200000) :
    Calls Try.prog 74 #[.int .i64 n, .int .i64 most] w (RetRow 0 (pcs n M M) w) := by
  obtain ⟨i0, hi, hz0, hz1, hz2⟩ := info_parts infoInt
  have HM := Lib.hid hM
  clear hM
  go_enter Try.func74, Try.ntmps74
  go_wp2_with (go_at_call 55; refine (within_room_yes _ _ _ _ (by omega) (by omega)).mono ?_; rintro e w' ⟨rfl, rfl⟩)
  rw [HM.out]
  go_loopw [7, 25] (fun v i wr => ∃ k : Nat, k ≤ M ∧ i = .int .i64 k ∧ wr.ownsRow w.heap.size 3 1 v k ((pcs n M k).map (Value.int .i64)) ∧ Below w.heap.size w wr) (fun _ i _ => M - (intOf i).toNat)
  case atStart => exact ⟨0, Nat.zero_le _, rfl, World.ownsRow_nil _ _ _ _, Below.refl _ _⟩
  case round =>
    obtain ⟨k, hk, rfl, hown, hb⟩ := hrel
    have hbs := hb.size
    by_cases hlt : k < M
    · have hbd := div_bd n M h1 h2 (by omega)
      have hM1 : (1 : Int) ≤ (M : Int) := by omega
      by_cases hr : (k : Int) < n % M
      · go_wp2_with (at_builtin; go_must (refine wpList_append_new rfl _ _ 93 rfl w.heap.size 3 i0 (.int .i64 0) 8 Try.underlying93 hi hz0 hz1 hz2 rfl _ _ _ wr _ (.int .i64 (n / M + 1)) rfl (by exact hown) rfl rfl (by unfold maxLen; omega) (by omega) (by omega) ?_))
        intro v' w1 hown' _ hb'
        have hb1 : Below w.heap.size w w1 := hb.trans hb'
        have hown1 : w1.ownsRow w.heap.size 3 1 v' (k + 1) ((pcs n M (k + 1)).map (Value.int .i64)) := by
          rw [pcs_succ_lt n M k hr, List.map_append]; exact hown'
        clear hown' hown
        go_wp2
        go_roundw
        case rel => exact ⟨k + 1, by omega, by go_num, hown1, hb1⟩
        case measure => simp [intOf]; omega
      · go_wp2_with (at_builtin; go_must (refine wpList_append_new rfl _ _ 93 rfl w.heap.size 3 i0 (.int .i64 0) 8 Try.underlying93 hi hz0 hz1 hz2 rfl _ _ _ wr _ (.int .i64 (n / M)) rfl (by exact hown) rfl rfl (by unfold maxLen; omega) (by omega) (by omega) ?_))
        intro v' w1 hown' _ hb'
        have hb1 : Below w.heap.size w w1 := hb.trans hb'
        have hown1 : w1.ownsRow w.heap.size 3 1 v' (k + 1) ((pcs n M (k + 1)).map (Value.int .i64)) := by
          rw [pcs_succ_ge n M k hr, List.map_append]; exact hown'
        clear hown' hown
        go_wp2
        go_roundw
        case rel => exact ⟨k + 1, by omega, by go_num, hown1, hb1⟩
        case measure => simp [intOf]; omega
    · have hkM : k = M := by omega
      subst hkM
      go_wp2
      go_ret2
      exact ⟨_, rfl, by rw [pcs_len]; exact hown, hb⟩

set_option maxHeartbeats 1000000 in
theorem pieces_bad (n most : Int) (w : World) (h : ¬ ((0 ≤ n ∧ n ≤ 100000) ∧ (1 ≤ most ∧ most ≤ 100000))) :
    Calls Try.prog 74 #[.int .i64 n, .int .i64 most] w (RetRow 2 [] w) := by
  by_cases hn : 0 ≤ n ∧ n ≤ 100000
  · have hm : ¬ (1 ≤ most ∧ most ≤ 100000) := fun hm => h ⟨hn, hm⟩
    have HM := Lib.hid hm
    have h1 := hn.1
    have h2 := hn.2
    clear h hm hn
    go_enter Try.func74, Try.ntmps74
    go_wp2_with fail
    refine (within_room_yes _ _ _ _ h1 h2).mono ?_
    rintro e w' ⟨rfl, rfl⟩
    go_wp2_with fail
    refine (within_room_no _ _ _ _ HM.out).mono ?_
    rintro e w' ⟨rfl, rfl⟩
    go_wp2_with fail
    go_ret2
    exact ⟨_, rfl, World.ownsRow_nil _ _ _ _, Below.refl _ _⟩
  · have HN := Lib.hid hn
    clear h hn
    go_enter Try.func74, Try.ntmps74
    go_wp2_with fail
    refine (within_room_no _ _ _ _ HN.out).mono ?_
    rintro e w' ⟨rfl, rfl⟩
    go_wp2_with fail
    go_ret2
    exact ⟨_, rfl, World.ownsRow_nil _ _ _ _, Below.refl _ _⟩

end Go.Proofs.Ytidfidknflcioaa
