/-
  Fair and FairOf: what they give, for all arguments. No conditions.
-/
import Derived.Test.YteeiohhoccgafaaFairP
import Derived.Test.YteeiohhoccgafaaSmall
import Derived.Test.YteeiohhoccgafaaFrame
namespace Go.Proofs.Yteeiohhoccgafaa
open Go.RowKit

/-- The elements of a slice that came in, for a walk: the address is known where there is an element. -/
theorem Reads.open {w : World} {k : IntKind} {v : Value} {zs : List Int} (h : Reads w k v zs) : ∃ a cap, v = .slice a zs.length cap ∧ zs.length ≤ 9223372036854775807 ∧
    ∀ j, j < zs.length → ∃ b o, a = some ⟨b, o, none⟩ ∧ w.cell? ⟨b, o + j, none⟩ = some (.int k (zs.getD j 0)) := by
  obtain ⟨a, cap, rfl, hl, hc⟩ := h
  refine ⟨a, cap, rfl, hl, fun j hj => ?_⟩
  obtain ⟨b, o, ha, hcell⟩ := hc (by intro e; subst e; simp at hj)
  exact ⟨b, o, ha, hcell j hj⟩

def SumPost (r : Int) (w : World) : Ending → World → Prop := fun e w' => e = .returned (.int .i64 r) ∧ w = w'

set_option maxHeartbeats 1000000 in
theorem sum_any (B : Nat) (v : Value) (zs : List Int) (L : Int) (w : World) (hb : w.cell? ⟨B, 0, none⟩ = some v) (hr : Reads w .i64 v zs) (h1 : zs.length ≤ 1000) (h2 : ∀ z ∈ zs, 0 ≤ z ∧ z ≤ 10000000) (hL : 0 ≤ L ∧ L ≤ 10000000) :
    Calls Try.prog 59 #[.int .i64 L, .pointer (some ⟨B, 0, none⟩)] w (SumPost (sumAt zs L) w) := by
  obtain ⟨a, cap, rfl, hl, hc⟩ := hr.open
  have HC := Lib.hid hc
  have H2 := Lib.hid h2
  obtain ⟨l1, l2⟩ := hL
  have N := Lib.hid (rfl : zs.length = zs.length)
  clear hc h2 hr
  go_enter Try.func59, Try.ntmps59
  go_wp2
  go_loop [4, 9] (fun n i => ∃ k : Nat, k ≤ zs.length ∧ i = .int .i64 k ∧ n = .int .i64 (sumAt (zs.take k) L)) (fun _ i => zs.length - (intOf i).toNat)
  case atStart => exact ⟨0, Nat.zero_le _, rfl, by simp [sumAt_nil]⟩
  case round =>
    obtain ⟨k, hk, rfl, rfl⟩ := hrel
    have sb := sumAt_bd 10000000 (by omega) L l1 (zs.take k) (fun z hz => H2.out z (List.mem_of_mem_take hz))
    have tl : ((zs.take k).length : Int) ≤ 1000 := by have := List.length_take_le k zs; omega
    have sb1 := sb.1
    have sb2 : sumAt (zs.take k) L ≤ 10000000000 := by omega
    clear sb tl
    by_cases hlt : k < zs.length
    · obtain ⟨b, o, rfl, g⟩ := HC.out k hlt
      have hz := H2.out (zs.getD k 0) (by rw [List.getD_eq_getElem?_getD, List.getElem?_eq_getElem hlt]; simp)
      have S := Lib.hid (sumAt_take zs L k hlt)
      generalize zs.getD k 0 = z at *
      obtain ⟨z1, z2⟩ := hz
      go_wp2
      all_goals
        go_round
        case rel => exact ⟨k + 1, by omega, by go_num, by rw [S.out]; congr 1; omega⟩
        case measure => simp [intOf]; omega
    · have hkk : k = zs.length := by omega
      have E : Hid (zs.take k = zs) := by rw [hkk]; exact List.take_length
      clear hkk
      go_wp2
      go_ret
      exact ⟨ret_int (by rw [E.out]), rfl⟩

/-- A list of integers that came in, as the round of a loop reads it. -/
theorem old_cell {w wr : World} {b o : Nat} {v : Value} (hb : Below w.heap.size w wr) (h : w.cell? ⟨b, o, none⟩ = some v) : wr.cell? ⟨b, o, none⟩ = some v :=
  (hb.cell (p := ⟨b, o, none⟩) (World.block_lt_of_cell? w ⟨b, o, none⟩ h)).trans h

/-- A call that gives back a new list of integers and an error. -/
def RetRowB (err : Int) (zs : List Int) (w : World) : Ending → World → Prop := fun e w' =>
  ∃ v, e = .returned (.tuple #[v, .int .i64 err]) ∧ w'.ownsRow w.heap.size 3 1 v zs.length (zs.map (Value.int .i64)) ∧ Below w.heap.size w w'

set_option maxHeartbeats 1000000 in
theorem fair_budget (b : Int) (a : Option Addr) (n cap : Nat) (w : World) (h : ¬ (0 ≤ b ∧ b ≤ 10000000)) :
    Calls Try.prog 26 #[.int .i64 b, .slice a n cap] w (RetRowB 2 [] w) := by
  have H := Lib.hid h
  clear h
  go_enter Try.func26, Try.ntmps26
  go_wp2_with fail
  refine (within_ledger_no _ _ _ _ H.out).mono ?_
  rintro e w' ⟨rfl, rfl⟩
  go_wp2_with fail
  go_ret2
  exact ⟨_, rfl, World.ownsRow_nil _ _ _ _, (Below.refl _ _).alloc (Nat.le_refl _) _⟩

set_option maxHeartbeats 1000000 in
theorem fair_large (b : Int) (a : Option Addr) (n cap : Nat) (w : World) (h1 : 0 ≤ b) (h2 : b ≤ 10000000) (h3 : 1000 < n) (h4 : n ≤ 9223372036854775807) :
    Calls Try.prog 26 #[.int .i64 b, .slice a n cap] w (RetRowB 4 [] w) := by
  go_enter Try.func26, Try.ntmps26
  go_wp2_with fail
  refine (within_ledger_yes _ _ _ _ h1 h2).mono ?_
  rintro e w' ⟨rfl, rfl⟩
  go_wp2_with fail
  go_ret2
  exact ⟨_, rfl, World.ownsRow_nil _ _ _ _, (Below.refl _ _).alloc (Nat.le_refl _) _⟩

set_option maxHeartbeats 2000000 in
theorem fair_want (b : Int) (v : Value) (zs : List Int) (w : World) (hr : Reads w .i64 v zs) (h1 : 0 ≤ b) (h2 : b ≤ 10000000) (h3 : zs.length ≤ 1000) (h4 : ¬ ∀ z ∈ zs, 0 ≤ z ∧ z ≤ 10000000) :
    Calls Try.prog 26 #[.int .i64 b, v] w (RetRowB 2 [] w) := by
  obtain ⟨a, cap, rfl, hl, hc⟩ := hr.open
  have HC := Lib.hid hc
  have H4 := Lib.hid h4
  clear hc hr h4
  go_enter Try.func26, Try.ntmps26
  go_wp2_with fail
  refine (within_ledger_yes _ _ _ _ h1 h2).mono ?_
  rintro e w' ⟨rfl, rfl⟩
  go_wp2_with fail
  go_loop [27] (fun i => ∃ k : Nat, k ≤ zs.length ∧ i = .int .i64 k ∧ ∀ j, j < k → 0 ≤ zs.getD j 0 ∧ zs.getD j 0 ≤ 10000000) (fun i => zs.length - (intOf i).toNat)
  case atStart => exact ⟨0, Nat.zero_le _, rfl, fun j hj => absurd hj (by omega)⟩
  case round =>
    obtain ⟨k, hk, rfl, hp⟩ := hrel
    have HP := Lib.hid hp
    clear hp
    have hlt : k < zs.length := by
      rcases Nat.lt_or_ge k zs.length with h | h
      · exact h
      · exfalso
        refine H4.out fun z hz => ?_
        obtain ⟨i, hi, rfl⟩ := List.getElem_of_mem hz
        have := HP.out i (by omega)
        rw [List.getD_eq_getElem?_getD, List.getElem?_eq_getElem hi] at this
        exact this
    obtain ⟨b1, o1, rfl, g0⟩ := HC.out k hlt
    have g := old_cell ((Below.refl w.heap.size w).alloc (Nat.le_refl _) (.cells #[.slice (some ⟨b1, o1, none⟩) zs.length cap] 22)) g0
    clear g0
    generalize hz : zs.getD k 0 = z at *
    have HZ := Lib.hid hz
    clear hz
    by_cases hin : 0 ≤ z ∧ z ≤ 10000000
    · obtain ⟨z1, z2⟩ := hin
      go_wp2_with fail
      refine (within_ledger_yes _ _ _ _ z1 z2).mono ?_
      rintro e w' ⟨rfl, rfl⟩
      go_wp2_with fail
      go_round
      case rel =>
        refine ⟨k + 1, by omega, by go_num, fun j hj => ?_⟩
        by_cases e : j = k
        · subst e; rw [HZ.out]; exact ⟨z1, z2⟩
        · exact HP.out j (by omega)
      case measure => simp [intOf]; omega
    · have HN := Lib.hid hin
      clear hin
      go_wp2_with fail
      refine (within_ledger_no _ _ _ _ HN.out).mono ?_
      rintro e w' ⟨rfl, rfl⟩
      go_wp2_with fail
      go_ret2
      exact ⟨_, rfl, World.ownsRow_nil _ _ _ _, (Below.refl _ _).alloc (Nat.le_refl _) _⟩

end Go.Proofs.Yteeiohhoccgafaa
