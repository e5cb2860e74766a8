/-
  FairOf beside Fair: the sum, and what is refused. No conditions.
-/
import Derived.Test.YteeiohhoccgafaaShares
namespace Go.Proofs.Yteeiohhoccgafaa
open Go.RowKit

set_option maxHeartbeats 1000000 in
theorem sumOf_any (B : Nat) (v : Value) (zs : List Int) (L : Int) (w : World) (hb : w.cell? ⟨B, 0, none⟩ = some v) (hr : Reads w .i64 v zs) (h1 : zs.length ≤ 1000) (h2 : ∀ z ∈ zs, 0 ≤ z ∧ z ≤ 10000000) (hL : 0 ≤ L ∧ L ≤ 10000000) :
    Calls Try.prog 63 #[.int .i64 L, .pointer (some ⟨B, 0, none⟩)] w (SumPost (sumAt zs L) w) := by
  obtain ⟨a, cap, rfl, hl, hc⟩ := hr.open
  have HC := Lib.hid hc
  have H2 := Lib.hid h2
  obtain ⟨l1, l2⟩ := hL
  have N := Lib.hid (rfl : zs.length = zs.length)
  clear hc h2 hr
  go_enter Try.func63, Try.ntmps63
  go_wp2
  go_loop [4, 9] (fun n i => ∃ k : Nat, k ≤ zs.length ∧ i = .int .i64 k ∧ n = .int .i64 (sumAt (zs.take k) L)) (fun _ i => zs.length - (intOf i).toNat)
  case atStart => exact ⟨0, Nat.zero_le _, rfl, by simp [sumAt_nil]⟩
  case round =>
    obtain ⟨k, hk, rfl, rfl⟩ := hrel
    have sb := sumAt_bd 10000000 (by omega) L l1 (zs.take k) (fun z hz => H2.out z (List.mem_of_mem_take hz))
    have tl : ((zs.take k).length : Int) ≤ 1000 := by have := List.length_take_le k zs; omega
    have sb1 := sb.1
    have sb2 : sumAt (zs.take k) L ≤ 10000000000 := by omega
    clear sb tl
    by_cases hlt : k < zs.length
    · obtain ⟨b, o, rfl, g⟩ := HC.out k hlt
      have hz := H2.out (zs.getD k 0) (by rw [List.getD_eq_getElem?_getD, List.getElem?_eq_getElem hlt]; simp)
      have S := Lib.hid (sumAt_take zs L k hlt)
      generalize zs.getD k 0 = z at *
      obtain ⟨z1, z2⟩ := hz
      go_wp2
      all_goals
        go_round
        case rel => exact ⟨k + 1, by omega, by go_num, by rw [S.out]; congr 1; omega⟩
        case measure => simp [intOf]; omega
    · have hkk : k = zs.length := by omega
      have E : Hid (zs.take k = zs) := by rw [hkk]; exact List.take_length
      clear hkk
      go_wp2
      go_ret
      exact ⟨ret_int (by rw [E.out]), rfl⟩

set_option maxHeartbeats 1000000 in
theorem fairOf_budget (b : Int) (a : Option Addr) (n cap : Nat) (w : World) (h : ¬ (0 ≤ b ∧ b ≤ 10000000)) :
    Calls Try.prog 31 #[.int .i64 b, .slice a n cap] w (RetRowB 2 [] w) := by
  have H := Lib.hid h
  clear h
  go_enter Try.func31, Try.ntmps31
  go_wp2_with fail
  refine (inBudget_no _ _ H.out).mono ?_
  rintro e w' ⟨rfl, rfl⟩
  go_wp2_with fail
  go_ret2
  exact ⟨_, rfl, World.ownsRow_nil _ _ _ _, (Below.refl _ _).alloc (Nat.le_refl _) _⟩

set_option maxHeartbeats 1000000 in
theorem fairOf_large (b : Int) (a : Option Addr) (n cap : Nat) (w : World) (h1 : 0 ≤ b) (h2 : b ≤ 10000000) (h3 : 1000 < n) (h4 : n ≤ 9223372036854775807) :
    Calls Try.prog 31 #[.int .i64 b, .slice a n cap] w (RetRowB 4 [] w) := by
  go_enter Try.func31, Try.ntmps31
  go_wp2_with fail
  refine (inBudget_yes _ _ h1 h2).mono ?_
  rintro e w' ⟨rfl, rfl⟩
  go_wp2_with fail
  go_ret2
  exact ⟨_, rfl, World.ownsRow_nil _ _ _ _, (Below.refl _ _).alloc (Nat.le_refl _) _⟩

set_option maxHeartbeats 2000000 in
theorem fairOf_want (b : Int) (v : Value) (zs : List Int) (w : World) (hr : Reads w .i64 v zs) (h1 : 0 ≤ b) (h2 : b ≤ 10000000) (h3 : zs.length ≤ 1000) (h4 : ¬ ∀ z ∈ zs, 0 ≤ z ∧ z ≤ 10000000) :
    Calls Try.prog 31 #[.int .i64 b, v] w (RetRowB 2 [] w) := by
  obtain ⟨a, cap, rfl, hl, hc⟩ := hr.open
  have HC := Lib.hid hc
  have H4 := Lib.hid h4
  clear hc hr h4
  go_enter Try.func31, Try.ntmps31
  go_wp2_with fail
  refine (inBudget_yes _ _ h1 h2).mono ?_
  rintro e w' ⟨rfl, rfl⟩
  go_wp2_with fail
  go_loop [6, 26] (fun u i => ∃ k : Nat, k ≤ zs.length ∧ i = .int .i64 k ∧ u = .int .i64 (zs.take k).sum ∧ ∀ j, j < k → 0 ≤ zs.getD j 0 ∧ zs.getD j 0 ≤ 10000000) (fun _ i => zs.length - (intOf i).toNat)
  case atStart => exact ⟨0, Nat.zero_le _, rfl, rfl, fun j hj => absurd hj (by omega)⟩
  case round =>
    obtain ⟨k, hk, rfl, rfl, hp⟩ := hrel
    have HP := Lib.hid hp
    clear hp
    have hlt : k < zs.length := by
      rcases Nat.lt_or_ge k zs.length with h | h
      · exact h
      · exfalso
        refine H4.out fun z hz => ?_
        obtain ⟨i, hi, rfl⟩ := List.getElem_of_mem hz
        have := HP.out i (by omega)
        rw [List.getD_eq_getElem?_getD, List.getElem?_eq_getElem hi] at this
        exact this
    have sb1 := sum_bd 10000000 (by omega) (zs.take k) (fun z hz => by
      obtain ⟨i, hi, rfl⟩ := List.getElem_of_mem hz
      have hi' : i < k ∧ i < zs.length := by simp at hi; omega
      have := HP.out i hi'.1
      rw [List.getD_eq_getElem?_getD, List.getElem?_eq_getElem hi'.2] at this
      simpa using this)
    have tl1 : ((zs.take k).length : Int) ≤ 1000 := by have := List.length_take_le k zs; omega
    have S1 := Lib.hid (sum_take zs k hlt)
    generalize hs1 : (zs.take k).sum = s1 at *
    obtain ⟨s11, s12⟩ := sb1
    have s13 : s1 ≤ 10000000000 := by omega
    clear hs1 tl1 s12
    obtain ⟨b1, o1, rfl, g0⟩ := HC.out k hlt
    have g := old_cell ((Below.refl w.heap.size w).alloc (Nat.le_refl _) (.cells #[.slice (some ⟨b1, o1, none⟩) zs.length cap] 22)) g0
    clear g0
    generalize hz : zs.getD k 0 = z at *
    have HZ := Lib.hid hz
    clear hz
    by_cases hin : 0 ≤ z ∧ z ≤ 10000000
    · obtain ⟨z1, z2⟩ := hin
      go_wp2_with fail
      refine (inBudget_yes _ _ z1 z2).mono ?_
      rintro e w' ⟨rfl, rfl⟩
      go_wp2_with fail
      go_round
      case rel =>
        refine ⟨k + 1, by omega, by go_num, by rw [S1.out], fun j hj => ?_⟩
        by_cases e : j = k
        · subst e; rw [HZ.out]; exact ⟨z1, z2⟩
        · exact HP.out j (by omega)
      case measure => simp [intOf]; omega
    · have HN := Lib.hid hin
      clear hin
      go_wp2_with fail
      refine (inBudget_no _ _ HN.out).mono ?_
      rintro e w' ⟨rfl, rfl⟩
      go_wp2_with fail
      go_ret2
      exact ⟨_, rfl, World.ownsRow_nil _ _ _ _, (Below.refl _ _).alloc (Nat.le_refl _) _⟩

end Go.Proofs.Yteeiohhoccgafaa
