/-
  Fair for arguments that are right: the greatest level, and what is left given out from the first one on. No conditions.
-/
import Derived.Test.YteeiohhoccgafaaFair
namespace Go.Proofs.Yteeiohhoccgafaa
open Go.RowKit

set_option maxHeartbeats 4000000 in
set_option maxRecDepth 100000 in
theorem fair_ok (b : Int) (v : Value) (zs out : List Int) (w : World) (hr : Reads w .i64 v zs) (h1 : 0 ≤ b) (h2 : b ≤ 10000000) (h3 : zs.length ≤ 1000) (h4 : ∀ z ∈ zs, 0 ≤ z ∧ z ≤ 10000000)
    (hP : ∀ L, isLevel zs b 10000000 L → dist zs L (b - sumAt zs L) = out) :
    Calls Try.prog 26 #[.int .i64 b, v] w (RetRowB 0 out w) := by
  obtain ⟨i0, hi0, hz0, hz1, hz2⟩ := info_parts infoInt
  obtain ⟨a, cap, rfl, hl, hc⟩ := hr.open
  have HC := Lib.hid hc
  have H4 := Lib.hid h4
  have HR := Lib.hid hr
  have OUT := Lib.hid hP
  have hmf : ∀ (fn : Fn) (first cap : Array Value) (w : World), (Instr.makeFunc fn first cap).run Try.prog w = .ok (.func fn first cap) w := fun _ _ _ _ => rfl
  clear hc hr h4 hP
  go_enter Try.func26, Try.ntmps26
  go_wp2_with fail
  refine (within_ledger_yes _ _ _ _ h1 h2).mono ?_
  rintro e w' ⟨rfl, rfl⟩
  go_wp2_with fail
  have bel0 : Below w.heap.size w (w.alloc (.cells #[.slice a zs.length cap] 22)) := (Below.refl w.heap.size w).alloc (Nat.le_refl _) _
  go_loop [27] (fun i => ∃ k : Nat, k ≤ zs.length ∧ i = .int .i64 k) (fun i => zs.length - (intOf i).toNat)
  case atStart => exact ⟨0, Nat.zero_le _, rfl⟩
  case round =>
    obtain ⟨k, hk, rfl⟩ := hrel
    by_cases hlt : k < zs.length
    · obtain ⟨b1, o1, rfl, g0⟩ := HC.out k hlt
      have g := old_cell bel0 g0
      obtain ⟨z1, z2⟩ := H4.out (zs.getD k 0) (by rw [List.getD_eq_getElem?_getD, List.getElem?_eq_getElem hlt]; simp)
      clear g0
      generalize zs.getD k 0 = z at *
      go_wp2_with fail
      refine (within_ledger_yes _ _ _ _ z1 z2).mono ?_
      rintro e w' ⟨rfl, rfl⟩
      go_wp2_with fail
      go_round
      case rel => exact ⟨k + 1, by omega, by go_num⟩
      case measure => simp [intOf]; omega
    · obtain rfl : k = zs.length := by omega
      clear hlt hk
      have RB : Hid (Reads (w.alloc (.cells #[.slice a zs.length cap] 22)) .i64 (.slice a zs.length cap) zs) := HR.out.below bel0 rfl
      have q0 : (w.alloc (.cells #[.slice a zs.length cap] 22)).cell? ⟨w.heap.size, 0, none⟩ = some (.slice a zs.length cap) := by
        rw [cell_of_row _ _ _ _ _ _ (heap_alloc_new w _)]; rfl
      have Q0 := Lib.hid q0
      clear q0
      go_wp2_with fail
      go_loop [9, 10] (fun x y => ∃ lo hi : Int, 0 ≤ lo ∧ lo ≤ hi ∧ hi ≤ 10000000 ∧ x = .int .i64 lo ∧ y = .int .i64 hi ∧ sumAt zs lo ≤ b ∧ (hi = 10000000 ∨ b < sumAt zs (hi + 1))) (fun x y => (intOf y - intOf x).toNat)
      case atStart =>
        refine ⟨0, 10000000, by omega, by omega, by omega, rfl, rfl, ?_, Or.inl rfl⟩
        have : sumAt zs 0 ≤ 0 := by
          have : ∀ l : List Int, (∀ z ∈ l, 0 ≤ z) → sumAt l 0 = 0 := by
            intro l
            induction l with
            | nil => intro _; rfl
            | cons z l ih => intro h; rw [sumAt_cons, ih (fun x hx => h x (by simp [hx]))]; have := h z (by simp); omega
          rw [this zs (fun z hz => (H4.out z hz).1)]; omega
        omega
      case round =>
        obtain ⟨lo, hi, l1, l2, l3, rfl, rfl, hs, hh⟩ := hrel
        have HS := Lib.hid hs
        have HH := Lib.hid hh
        clear hs hh
        by_cases hlt : lo < hi
        · have C := Lib.hid (sum_any w.heap.size _ zs ((lo + hi + 1) / 2) _ Q0.out RB.out h3 H4.out (by omega))
          by_cases hc : sumAt zs ((lo + hi + 1) / 2) ≤ b
          · have HQ := Lib.hid hc
            generalize hsm : sumAt zs ((lo + hi + 1) / 2) = sm at C hc
            have HSM := Lib.hid hsm
            clear hsm
            go_wp2_with fail
            refine C.out.mono ?_
            rintro e w' ⟨rfl, rfl⟩
            go_wp2_with fail
            go_round
            case rel => exact ⟨(lo + hi + 1) / 2, hi, by omega, by omega, by omega, rfl, rfl, HQ.out, HH.out⟩
            case measure => simp [intOf]; omega
          · have HQ := Lib.hid (show b < sumAt zs ((lo + hi + 1) / 2 - 1 + 1) from by rw [show (lo + hi + 1) / 2 - 1 + 1 = (lo + hi + 1) / 2 from by omega]; omega)
            have hc' : b < sumAt zs ((lo + hi + 1) / 2) := by omega
            clear hc
            generalize sumAt zs ((lo + hi + 1) / 2) = sm at *
            go_wp2_with fail
            refine C.out.mono ?_
            rintro e w' ⟨rfl, rfl⟩
            go_wp2_with fail
            go_round
            case rel => exact ⟨lo, (lo + hi + 1) / 2 - 1, by omega, by omega, by omega, rfl, rfl, HS.out, Or.inr HQ.out⟩
            case measure => simp [intOf]; omega
        · obtain rfl : lo = hi := by omega
          have OUT2 := Lib.hid (OUT.out lo ⟨l1, l3, HS.out, HH.out⟩)
          have C := Lib.hid (sum_any w.heap.size _ zs lo _ Q0.out RB.out h3 H4.out (by omega))
          have sb := (sumAt_bd 10000000 (by omega) lo l1 zs H4.out).1
          have sb2 := HS.out
          clear OUT HH hlt l2
          generalize sumAt zs lo = sm at *
          go_wp2_with fail
          refine C.out.mono ?_
          rintro e w' ⟨rfl, rfl⟩
          clear C
          go_wp2_with fail
          obtain ⟨r0, hr0⟩ : ∃ r0, r0 = b - sm := ⟨_, rfl⟩
          rw [← hr0] at OUT2 ⊢
          have rb1 : 0 ≤ r0 := by omega
          have rb2 : r0 ≤ 10000000 := by omega
          clear hr0 sb sb2 HS
          go_loopw [12, 13, 59] (fun x v i wr => ∃ (k : Nat) (r : Int) (acc : List Int), k ≤ zs.length ∧ i = .int .i64 k ∧ x = .int .i64 r ∧ 0 ≤ r ∧ r ≤ 10000000 ∧ acc.length = k ∧
              wr.ownsRow w.heap.size 3 1 v k (acc.map (Value.int .i64)) ∧ acc ++ dist (zs.drop k) lo r = dist zs lo r0 ∧ Below w.heap.size w wr) (fun _ _ i _ => zs.length - (intOf i).toNat)
          case atStart => exact ⟨0, r0, [], Nat.zero_le _, rfl, rfl, rb1, rb2, rfl, World.ownsRow_nil _ _ _ _, rfl, bel0⟩
          case round =>
            obtain ⟨k, r, acc, hk, rfl, rfl, rr1, rr2, ha, hown, hd, hb⟩ := hrel
            have HA := Lib.hid ha
            have HD := Lib.hid hd
            clear ha hd
            have hbs := hb.size
            by_cases hlt : k < zs.length
            · obtain ⟨b1, o1, rfl, g0⟩ := HC.out k hlt
              have g := old_cell hb g0
              obtain ⟨z1, z2⟩ := H4.out (zs.getD k 0) (by rw [List.getD_eq_getElem?_getD, List.getElem?_eq_getElem hlt]; simp)
              clear g0
              have SM := Lib.hid (fun h h' => dist_step_more (acc := acc) (L := lo) (r := r) (r0 := r0) hlt HD.out h h')
              have SL := Lib.hid (fun h => dist_step_less (acc := acc) (L := lo) (r := r) (r0 := r0) hlt HD.out h)
              generalize zs.getD k 0 = z at *
              by_cases hz : lo < z
              · by_cases hr0 : 0 < r
                · have SD := Lib.hid (SM.out hz hr0)
                  clear SM SL
                  go_wp2_with (at_builtin; go_must (refine wpList_append_new rfl _ _ 22 rfl w.heap.size 3 i0 (.int .i64 0) 8 Try.underlying22 hi0 hz0 hz1 hz2 rfl _ _ _ wr _ (.int .i64 (lo + 1)) rfl (by exact hown) rfl rfl (by unfold maxLen; omega) (by omega) (by omega) ?_))
                  intro v' w1 hown' _ hb'
                  have hb1 : Below w.heap.size w w1 := hb.trans hb'
                  clear hown hb hb'
                  go_wp2
                  go_roundw
                  case rel => exact ⟨k + 1, r - 1, acc ++ [lo + 1], by omega, by go_num, rfl, by omega, by omega, by rw [List.length_append, HA.out]; rfl, by rw [List.map_append]; exact hown', SD.out, hb1⟩
                  case measure => simp [intOf]; omega
                · have SD := Lib.hid (SL.out (by omega))
                  rw [show min z lo = lo from by omega] at SD
                  have hr1 : r ≤ 0 := by omega
                  clear SM SL hr0
                  go_wp2_with (at_builtin; go_must (refine wpList_append_new rfl _ _ 22 rfl w.heap.size 3 i0 (.int .i64 0) 8 Try.underlying22 hi0 hz0 hz1 hz2 rfl _ _ _ wr _ (.int .i64 lo) rfl (by exact hown) rfl rfl (by unfold maxLen; omega) (by omega) (by omega) ?_))
                  intro v' w1 hown' _ hb'
                  have hb1 : Below w.heap.size w w1 := hb.trans hb'
                  clear hown hb hb'
                  go_wp2
                  go_roundw
                  case rel => exact ⟨k + 1, r, acc ++ [lo], by omega, by go_num, rfl, by omega, by omega, by rw [List.length_append, HA.out]; rfl, by rw [List.map_append]; exact hown', SD.out, hb1⟩
                  case measure => simp [intOf]; omega
              · have SD := Lib.hid (SL.out (by omega))
                rw [show min z lo = z from by omega] at SD
                have hz' : z ≤ lo := by omega
                clear SM SL hz
                go_wp2_with (at_builtin; go_must (refine wpList_append_new rfl _ _ 22 rfl w.heap.size 3 i0 (.int .i64 0) 8 Try.underlying22 hi0 hz0 hz1 hz2 rfl _ _ _ wr _ (.int .i64 z) rfl (by exact hown) rfl rfl (by unfold maxLen; omega) (by omega) (by omega) ?_))
                intro v' w1 hown' _ hb'
                have hb1 : Below w.heap.size w w1 := hb.trans hb'
                clear hown hb hb'
                go_wp2
                go_roundw
                case rel => exact ⟨k + 1, r, acc ++ [z], by omega, by go_num, rfl, by omega, by omega, by rw [List.length_append, HA.out]; rfl, by rw [List.map_append]; exact hown', SD.out, hb1⟩
                case measure => simp [intOf]; omega
            · obtain rfl : k = zs.length := by omega
              clear hlt hk
              go_wp2
              go_ret2
              have e1 : acc = out := by
                have := HD.out
                rw [List.drop_length] at this
                simp only [dist, List.append_nil] at this
                rw [this, OUT2.out]
              refine ⟨_, rfl, ?_, hb⟩
              rw [← e1, HA.out]
              exact hown

end Go.Proofs.Yteeiohhoccgafaa
