/-
  The reference's entriesFault. No conditions.
-/
import Derived.Test.YtifibhaalepmgaaDoorEntMem
import Derived.Test.YtifibhaalepmgaaDoorSmall
import Derived.Test.YtifibhaalepmgaaDoorPolText
namespace Go.Proofs.YtifibhaalepmgaaDoor
open Go.RowKit
set_option linter.unusedVariables false

def FaultPost (L : List En) (w : World) : Ending → World → Prop := fun e w' => e = .returned (.int .i64 (listErr L)) ∧ Below w.heap.size w w'

theorem nums_cell {w : World} {A : Nat} {e : En} (h : w.heap[A]? = some (.cells #[.int .i64 e.o, .int .i64 e.p, .int .i64 e.a, .int .i64 e.l, .int .i64 e.u] 3 (0, 0))) (m : Nat) (hm : m < 5) :
    w.cell? ⟨A, m, none⟩ = some (.int .i64 (e.nums.getD m 0)) := by
  rw [cell_of h]
  rcases (show m = 0 ∨ m = 1 ∨ m = 2 ∨ m = 3 ∨ m = 4 by omega) with rfl | rfl | rfl | rfl | rfl <;> rfl

set_option maxHeartbeats 4000000 in
set_option maxRecDepth 100000 in
theorem entriesFault_any (v : Value) (L : List En) (w : World) (hr : EnsIn w v L) :
    Calls Tryd.prog 47 #[v] w (FaultPost L w) := by
  obtain ⟨a, cap, rfl, hl, hc⟩ := hr
  have HC := Lib.hid hc
  clear hc
  by_cases hn : 5000 < L.length
  · have E := Lib.hid (show listErr L = 4 by unfold listErr; rw [if_pos hn])
    have hn' : 5000 < (L.length : Int) := by omega
    go_enter Tryd.func47, Tryd.ntmps47
    go_wp2_with fail
    go_ret
    exact ⟨ret_int E.out.symm, Below.refl _ _⟩
  · have E := Lib.hid (show listErr L = ensErr L by unfold listErr; rw [if_neg hn])
    have hn' : (L.length : Int) ≤ 5000 := by omega
    go_enter Tryd.func47, Tryd.ntmps47
    go_wp2_with fail
    go_loopw [12] (fun i wr => ∃ k : Nat, k ≤ L.length ∧ i = .int .i64 k ∧ ensErr (L.drop k) = ensErr L ∧ Below w.heap.size w wr) (fun i _ => L.length - (intOf i).toNat)
    case atStart => exact ⟨0, Nat.zero_le _, rfl, rfl, Below.refl _ _⟩
    case round =>
      obtain ⟨k, hk, rfl, hp, hbel⟩ := hrel
      have HP := Lib.hid hp
      have BL := Lib.hid hbel
      clear hp
      have hsz := hbel.size
      by_cases hlt : k < L.length
      · obtain ⟨b1, o1, rfl, hc6⟩ := HC.out k hlt
        have hlb : b1 < w.heap.size := World.block_lt_of_cell? w _ hc6.1
        have hc7 : cells6 wr b1 (o1 + k * 6) (L.getD k En.zero) := by
          have f : ∀ j, wr.cell? ⟨b1, j, none⟩ = w.cell? ⟨b1, j, none⟩ := fun j => BL.out.cell (p := ⟨b1, j, none⟩) hlb
          obtain ⟨h0, h1, h2, h3, h4, h5⟩ := hc6
          exact ⟨(f _).trans h0, (f _).trans h1, (f _).trans h2, (f _).trans h3, (f _).trans h4, (f _).trans h5⟩
        have ST := Lib.hid ((ensErr_step L k hlt).symm.trans HP.out)
        clear hc6 hbel
        generalize L.getD k En.zero = e at *
        obtain ⟨g0, g1, g2, g3, g4, g5⟩ := hc7
        by_cases hk1 : 1 ≤ e.k
        · by_cases hk2 : e.k ≤ 11
          · have EK := Lib.hid (show enErr e = numsErr e.nums by unfold enErr; rw [if_pos ⟨hk1, hk2⟩])
            have n1 : ¬ e.k < 1 := by omega
            have n2 : ¬ 11 < e.k := by omega
            obtain ⟨t1, t2, t3, t4, t5⟩ := tower2 wr (.cells #[.int .i64 e.k, .int .i64 e.o, .int .i64 e.p, .int .i64 e.a, .int .i64 e.l, .int .i64 e.u] 44) (.cells #[.int .i64 e.o, .int .i64 e.p, .int .i64 e.a, .int .i64 e.l, .int .i64 e.u] 3)
            have AB := Lib.hid t2
            have BL2 := Lib.hid (t5 BL.out hsz)
            clear t1 t2 t3 t4 t5
            go_wp2_with fail
            generalize (wr.alloc (.cells #[.int .i64 e.k, .int .i64 e.o, .int .i64 e.p, .int .i64 e.a, .int .i64 e.l, .int .i64 e.u] 44)).alloc (.cells #[.int .i64 e.o, .int .i64 e.p, .int .i64 e.a, .int .i64 e.l, .int .i64 e.u] 3) = W1 at *
            go_loop [36] (fun i => ∃ m : Nat, m ≤ 5 ∧ i = .int .i64 m ∧ numsErr (e.nums.drop m) = numsErr e.nums) (fun i => 5 - (intOf i).toNat)
            case atStart => exact ⟨0, by omega, rfl, rfl⟩
            case round =>
              obtain ⟨m, hm, rfl, hq⟩ := hrel
              have HQ := Lib.hid hq
              clear hq
              by_cases hm5 : m < 5
              · have NC := nums_cell (e := e) AB.out m hm5
                have ST2 := Lib.hid ((numsErr_step e.nums m hm5).symm.trans HQ.out)
                generalize e.nums.getD m 0 = z at *
                by_cases hz : inB z
                · have ST3 := Lib.hid ((if_pos hz).symm.trans ST2.out)
                  obtain ⟨z1, z2⟩ := hz
                  clear ST2
                  go_wp2_with fail
                  refine (inBudget_yes _ _ z1 z2).mono ?_
                  rintro e' w' ⟨rfl, rfl⟩
                  go_wp2_with fail
                  go_round
                  case rel => exact ⟨m + 1, by omega, by go_num, ST3.out⟩
                  case measure => simp [intOf]; omega
                · have ST3 := Lib.hid ((if_neg hz).symm.trans ST2.out)
                  have HZ := Lib.hid hz
                  clear ST2 hz
                  go_wp2_with fail
                  refine (inBudget_no _ _ HZ.out).mono ?_
                  rintro e' w' ⟨rfl, rfl⟩
                  go_wp2_with fail
                  go_ret
                  exact ⟨ret_int (by rw [E.out, ← ST.out, EK.out, ← ST3.out]; rfl), BL2.out⟩
              · obtain rfl : m = 5 := by omega
                have ST3 := Lib.hid (show enErr e = 0 from EK.out.trans HQ.out.symm)
                have ST4 := Lib.hid ((if_pos ST3.out).symm.trans ST.out)
                clear hm hm5
                go_wp2_with fail
                go_round
                case rel => exact ⟨k + 1, by omega, by go_num, ST4.out, BL2.out⟩
                case measure => simp [intOf]; omega
          · have EK := Lib.hid (show enErr e = 10 by unfold enErr; rw [if_neg (by omega)])
            have n1 : ¬ e.k < 1 := by omega
            have n2 : 11 < e.k := by omega
            have B2 := Lib.hid (BL.out.alloc hsz (.cells #[.int .i64 e.k, .int .i64 e.o, .int .i64 e.p, .int .i64 e.a, .int .i64 e.l, .int .i64 e.u] 44))
            go_wp2_with fail
            go_ret
            exact ⟨ret_int (by rw [E.out, ← ST.out, EK.out]; rfl), B2.out⟩
        · have EK := Lib.hid (show enErr e = 10 by unfold enErr; rw [if_neg (by omega)])
          have n1 : e.k < 1 := by omega
          have B2 := Lib.hid (BL.out.alloc hsz (.cells #[.int .i64 e.k, .int .i64 e.o, .int .i64 e.p, .int .i64 e.a, .int .i64 e.l, .int .i64 e.u] 44))
          go_wp2_with fail
          go_ret
          exact ⟨ret_int (by rw [E.out, ← ST.out, EK.out]; rfl), B2.out⟩
      · obtain rfl : k = L.length := by omega
        have H0 := Lib.hid (show listErr L = 0 by rw [E.out, ← HP.out, List.drop_length]; rfl)
        clear hlt hk
        go_wp2_with fail
        go_ret
        exact ⟨ret_int H0.out.symm, BL.out⟩

end Go.Proofs.YtifibhaalepmgaaDoor
