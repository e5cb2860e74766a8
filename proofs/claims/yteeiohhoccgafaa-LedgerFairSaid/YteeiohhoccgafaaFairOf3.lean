/-
  FairOf for arguments that are right; the walk of LedgerFair. No conditions.
-/
import Derived.Test.YteeiohhoccgafaaFairOf2
namespace Go.Proofs.Yteeiohhoccgafaa
open Go.RowKit

theorem ownsRow_mono {w : World} {B B' e size n : Nat} {v : Value} {xs : List Value} (h : w.ownsRow B e size v n xs) (hB : B' ≤ B) : w.ownsRow B' e size v n xs := by
  refine ⟨h.1, ?_⟩
  rcases h.2 with h | ⟨g, cap, cur, hv, hb, rest⟩
  · exact Or.inl h
  · exact Or.inr ⟨g, cap, cur, hv, Nat.le_trans hB hb, rest⟩

set_option maxHeartbeats 4000000 in
set_option maxRecDepth 100000 in
theorem fairOf_ok (b : Int) (v : Value) (zs out : List Int) (w : World) (hr : Reads w .i64 v zs) (h1 : 0 ≤ b) (h2 : b ≤ 10000000) (h3 : zs.length ≤ 1000) (h4 : ∀ z ∈ zs, 0 ≤ z ∧ z ≤ 10000000)
    (hP : ∀ L, isLevel zs b 10000000 L → dist zs L (b - sumAt zs L) = out) :
    Calls Try.prog 31 #[.int .i64 b, v] w (RetRowB 0 out w) := by
  obtain ⟨i0, hi0, hz0, hz1, hz2⟩ := info_parts infoInt
  obtain ⟨a, cap, rfl, hl, hc⟩ := hr.open
  have HC := Lib.hid hc
  have H4 := Lib.hid h4
  have HR := Lib.hid hr
  have OUT := Lib.hid hP
  have hmf : ∀ (fn : Fn) (first cap : Array Value) (w : World), (Instr.makeFunc fn first cap).run Try.prog w = .ok (.func fn first cap) w := fun _ _ _ _ => rfl
  clear hc hr h4 hP
  go_enter Try.func31, Try.ntmps31
  go_wp2_with fail
  refine (inBudget_yes _ _ h1 h2).mono ?_
  rintro e w' ⟨rfl, rfl⟩
  go_wp2_with fail
  have bel0 : Below w.heap.size w (w.alloc (.cells #[.slice a zs.length cap] 22)) := (Below.refl w.heap.size w).alloc (Nat.le_refl _) _
  go_loop [6, 26] (fun u i => ∃ k : Nat, k ≤ zs.length ∧ i = .int .i64 k ∧ u = .int .i64 (zs.take k).sum) (fun _ i => zs.length - (intOf i).toNat)
  case atStart => exact ⟨0, Nat.zero_le _, rfl, rfl⟩
  case round =>
    obtain ⟨k, hk, rfl, rfl⟩ := hrel
    have sb1 := sum_bd 10000000 (by omega) (zs.take k) (fun z hz => H4.out z (List.mem_of_mem_take hz))
    have tl1 : ((zs.take k).length : Int) ≤ 1000 := by have := List.length_take_le k zs; omega
    obtain ⟨s11, s12⟩ := sb1
    have s13 : (zs.take k).sum ≤ 10000000000 := by omega
    clear tl1 s12
    by_cases hlt : k < zs.length
    · obtain ⟨b1, o1, rfl, g0⟩ := HC.out k hlt
      have g := old_cell bel0 g0
      obtain ⟨z1, z2⟩ := H4.out (zs.getD k 0) (by rw [List.getD_eq_getElem?_getD, List.getElem?_eq_getElem hlt]; simp)
      clear g0
      have S1 := Lib.hid (sum_take zs k hlt)
      generalize zs.getD k 0 = z at *
      generalize (zs.take k).sum = s1 at *
      go_wp2_with fail
      refine (inBudget_yes _ _ z1 z2).mono ?_
      rintro e w' ⟨rfl, rfl⟩
      go_wp2_with fail
      go_round
      case rel => exact ⟨k + 1, by omega, by go_num, by rw [S1.out]⟩
      case measure => simp [intOf]; omega
    · obtain rfl : k = zs.length := by omega
      clear hlt hk
      have E1 : Hid (zs.take zs.length = zs) := List.take_length
      rw [E1.out] at s11 s13 ⊢
      have T := Lib.hid (sumAt_top 10000000 zs (fun z hz => (H4.out z hz).2))
      have RB : Hid (Reads (w.alloc (.cells #[.slice a zs.length cap] 22)) .i64 (.slice a zs.length cap) zs) := HR.out.below bel0 rfl
      have q0 : (w.alloc (.cells #[.slice a zs.length cap] 22)).cell? ⟨w.heap.size, 0, none⟩ = some (.slice a zs.length cap) := by
        rw [cell_of_row _ _ _ _ _ _ (heap_alloc_new w _)]; rfl
      have Q0 := Lib.hid q0
      clear q0
      by_cases hsum : zs.sum ≤ b
      · have OUT2 := Lib.hid (OUT.out 10000000 ⟨by omega, by omega, by rw [T.out]; exact hsum, Or.inl rfl⟩)
        have OUT3 : Hid (zs = out) := by
          have := OUT2.out
          rw [dist_top 10000000 zs _ (fun z hz => (H4.out z hz).2)] at this
          exact this
        have CL := Lib.hid (clone_int _ zs _ RB.out (by omega))
        generalize zs.sum = sz at *
        clear OUT OUT2
        have q1 := Q0.out
        go_wp2_with fail
        refine CL.out.mono ?_
        rintro e w2 ⟨v2, rfl, hown, hb2⟩
        have ho : w2.ownsRow w.heap.size 3 1 v2 out.length (out.map (Value.int .i64)) := by
          rw [← OUT3.out]; exact ownsRow_mono hown (by simp)
        have hb := bel0.trans (hb2.mono (by simp))
        clear hown hb2 q1
        go_wp2
        go_ret2
        exact ⟨_, rfl, ho, hb⟩
      have hsum' : Hid (b < sumAt zs 10000000) := by show b < sumAt zs 10000000; rw [T.out]; omega
      have hsum2 : b < zs.sum := by omega
      clear hsum T
      generalize zs.sum = sz at *
      go_wp2_with fail
      go_loop [10, 11] (fun x y => ∃ lo hi : Int, 0 ≤ lo ∧ lo < hi ∧ hi ≤ 10000000 ∧ x = .int .i64 lo ∧ y = .int .i64 hi ∧ sumAt zs lo ≤ b ∧ b < sumAt zs hi) (fun x y => (intOf y - intOf x).toNat)
      case atStart =>
        refine ⟨0, 10000000, by omega, by omega, by omega, rfl, rfl, ?_, hsum'.out⟩
        have : ∀ l : List Int, (∀ z ∈ l, 0 ≤ z) → sumAt l 0 = 0 := by
          intro l
          induction l with
          | nil => intro _; rfl
          | cons z l ih => intro h; rw [sumAt_cons, ih (fun x hx => h x (by simp [hx]))]; have := h z (by simp); omega
        rw [this zs (fun z hz => (H4.out z hz).1)]; omega
      case round =>
        obtain ⟨lo, hi, l1, l2, l3, rfl, rfl, hs, hh⟩ := hrel
        have HS := Lib.hid hs
        have HH := Lib.hid hh
        clear hs hh
        by_cases hlt : 1 < hi - lo
        · have C := Lib.hid (sumOf_any w.heap.size _ zs ((lo + hi) / 2) _ Q0.out RB.out h3 H4.out (by omega))
          by_cases hc : sumAt zs ((lo + hi) / 2) ≤ b
          · have HQ := Lib.hid hc
            generalize hsm : sumAt zs ((lo + hi) / 2) = sm at C hc
            have HSM := Lib.hid hsm
            clear hsm
            go_wp2_with fail
            refine C.out.mono ?_
            rintro e w' ⟨rfl, rfl⟩
            go_wp2_with fail
            go_round
            case rel => exact ⟨(lo + hi) / 2, hi, by omega, by omega, by omega, rfl, rfl, HQ.out, HH.out⟩
            case measure => simp [intOf]; omega
          · have hc' : b < sumAt zs ((lo + hi) / 2) := by omega
            have HQ := Lib.hid hc'
            clear hc
            generalize hsm : sumAt zs ((lo + hi) / 2) = sm at C hc'
            have HSM := Lib.hid hsm
            clear hsm
            go_wp2_with fail
            refine C.out.mono ?_
            rintro e w' ⟨rfl, rfl⟩
            go_wp2_with fail
            go_round
            case rel => exact ⟨lo, (lo + hi) / 2, by omega, by omega, by omega, rfl, rfl, HS.out, HQ.out⟩
            case measure => simp [intOf]; omega
        · obtain rfl : hi = lo + 1 := by omega
          have OUT2 := Lib.hid (OUT.out lo ⟨l1, by omega, HS.out, Or.inr HH.out⟩)
          have C := Lib.hid (sumOf_any w.heap.size _ zs lo _ Q0.out RB.out h3 H4.out (by omega))
          have sb := (sumAt_bd 10000000 (by omega) lo l1 zs H4.out).1
          have sb2 := HS.out
          clear OUT HH hlt
          generalize sumAt zs lo = sm at *
          go_wp2_with fail
          refine C.out.mono ?_
          rintro e w' ⟨rfl, rfl⟩
          clear C
          go_wp2_with fail
          obtain ⟨r0, hr0⟩ : ∃ r0, r0 = b - sm := ⟨_, rfl⟩
          rw [← hr0] at OUT2 ⊢
          have rb1 : 0 ≤ r0 := by omega
          have rb2 : r0 ≤ 10000000 := by omega
          clear hr0 sb sb2 HS
          go_loopw [13, 14, 65] (fun x v i wr => ∃ (k : Nat) (r : Int) (acc : List Int), k ≤ zs.length ∧ i = .int .i64 k ∧ x = .int .i64 r ∧ 0 ≤ r ∧ r ≤ 10000000 ∧ acc.length = k ∧
              wr.ownsRow w.heap.size 3 1 v k (acc.map (Value.int .i64)) ∧ acc ++ dist (zs.drop k) lo r = dist zs lo r0 ∧ Below w.heap.size w wr) (fun _ _ i _ => zs.length - (intOf i).toNat)
          case atStart => exact ⟨0, r0, [], Nat.zero_le _, rfl, rfl, rb1, rb2, rfl, World.ownsRow_nil _ _ _ _, rfl, bel0⟩
          case round =>
            obtain ⟨k, r, acc, hk, rfl, rfl, rr1, rr2, ha, hown, hd, hb⟩ := hrel
            have HA := Lib.hid ha
            have HD := Lib.hid hd
            clear ha hd
            have hbs := hb.size
            by_cases hlt : k < zs.length
            · obtain ⟨b1, o1, rfl, g0⟩ := HC.out k hlt
              have g := old_cell hb g0
              obtain ⟨z1, z2⟩ := H4.out (zs.getD k 0) (by rw [List.getD_eq_getElem?_getD, List.getElem?_eq_getElem hlt]; simp)
              clear g0
              have SM := Lib.hid (fun h h' => dist_step_more (acc := acc) (L := lo) (r := r) (r0 := r0) hlt HD.out h h')
              have SL := Lib.hid (fun h => dist_step_less (acc := acc) (L := lo) (r := r) (r0 := r0) hlt HD.out h)
              generalize zs.getD k 0 = z at *
              by_cases hz : lo < z
              · by_cases hr0 : 0 < r
                · have SD := Lib.hid (SM.out hz hr0)
                  clear SM SL
                  go_wp2_with (at_builtin; go_must (refine wpList_append_new rfl _ _ 22 rfl w.heap.size 3 i0 (.int .i64 0) 8 Try.underlying22 hi0 hz0 hz1 hz2 rfl _ _ _ wr _ (.int .i64 (lo + 1)) rfl (by exact hown) rfl rfl (by unfold maxLen; omega) (by omega) (by omega) ?_))
                  intro v' w1 hown' _ hb'
                  have hb1 : Below w.heap.size w w1 := hb.trans hb'
                  clear hown hb hb'
                  go_wp2
                  go_roundw
                  case rel => exact ⟨k + 1, r - 1, acc ++ [lo + 1], by omega, by go_num, rfl, by omega, by omega, by rw [List.length_append, HA.out]; rfl, by rw [List.map_append]; exact hown', SD.out, hb1⟩
                  case measure => simp [intOf]; omega
                · have SD := Lib.hid (SL.out (by omega))
                  rw [show min z lo = lo from by omega] at SD
                  have hr1 : r ≤ 0 := by omega
                  clear SM SL hr0
                  go_wp2_with (at_builtin; go_must (refine wpList_append_new rfl _ _ 22 rfl w.heap.size 3 i0 (.int .i64 0) 8 Try.underlying22 hi0 hz0 hz1 hz2 rfl _ _ _ wr _ (.int .i64 lo) rfl (by exact hown) rfl rfl (by unfold maxLen; omega) (by omega) (by omega) ?_))
                  intro v' w1 hown' _ hb'
                  have hb1 : Below w.heap.size w w1 := hb.trans hb'
                  clear hown hb hb'
                  go_wp2
                  go_roundw
                  case rel => exact ⟨k + 1, r, acc ++ [lo], by omega, by go_num, rfl, by omega, by omega, by rw [List.length_append, HA.out]; rfl, by rw [List.map_append]; exact hown', SD.out, hb1⟩
                  case measure => simp [intOf]; omega
              · have SD := Lib.hid (SL.out (by omega))
                rw [show min z lo = z from by omega] at SD
                have hz' : z ≤ lo := by omega
                clear SM SL hz
                go_wp2_with (at_builtin; go_must (refine wpList_append_new rfl _ _ 22 rfl w.heap.size 3 i0 (.int .i64 0) 8 Try.underlying22 hi0 hz0 hz1 hz2 rfl _ _ _ wr _ (.int .i64 z) rfl (by exact hown) rfl rfl (by unfold maxLen; omega) (by omega) (by omega) ?_))
                intro v' w1 hown' _ hb'
                have hb1 : Below w.heap.size w w1 := hb.trans hb'
                clear hown hb hb'
                go_wp2
                go_roundw
                case rel => exact ⟨k + 1, r, acc ++ [z], by omega, by go_num, rfl, by omega, by omega, by rw [List.length_append, HA.out]; rfl, by rw [List.map_append]; exact hown', SD.out, hb1⟩
                case measure => simp [intOf]; omega
            · obtain rfl : k = zs.length := by omega
              clear hlt hk
              go_wp2
              go_ret2
              have e1 : acc = out := by
                have := HD.out
                rw [List.drop_length] at this
                simp only [dist, List.append_nil] at this
                rw [this, OUT2.out]
              refine ⟨_, rfl, ?_, hb⟩
              rw [← e1, HA.out]
              exact hown

set_option maxHeartbeats 1000000 in
theorem ledgerFair_core (b err : Int) (v : Value) (zs out : List Int) (w : World) (hr : Reads w .i64 v zs) (hout : out.length ≤ 1000)
    (hF : ∀ v w, Reads w .i64 v zs → Calls Try.prog 26 #[.int .i64 b, v] w (RetRowB err out w))
    (hG : ∀ v w, Reads w .i64 v zs → Calls Try.prog 31 #[.int .i64 b, v] w (RetRowB err out w)) :
    Calls Try.prog 7 #[.int .i64 b, v] w (LawPost w) := by
  have HF := Lib.hid hF
  have HG := Lib.hid hG
  have HR := Lib.hid hr
  obtain ⟨a, cap, rfl, _, _⟩ := hr
  have e1 : (err == err) = true := by simp
  clear hF hG
  go_enter Try.func7, Try.ntmps7
  go_wp2_with fail
  refine (HF.out _ _ HR.out).mono ?_
  rintro e w1 ⟨v1, rfl, hown1, hb1⟩
  have R1 := Lib.hid (HR.out.below hb1 rfl)
  have r1 := Lib.hid (Reads.own hown1 (by omega))
  clear hown1
  go_wp2_with fail
  refine (HG.out _ _ R1.out).mono ?_
  rintro e w2 ⟨v2, rfl, hown2, hb2⟩
  have r2 := Lib.hid (Reads.own hown2 (by omega))
  have r3 := Lib.hid (r1.out.below hb2 rfl)
  have hb := hb1.trans (hb2.mono hb1.size)
  clear hown2 hb1 hb2
  go_wp2_with fail
  refine (equal_int _ _ _ _ _ r3.out r2.out).mono ?_
  rintro e w3 ⟨rfl, q, rfl⟩
  go_wp2_with fail
  go_ret
  exact ⟨ret_bool (by simp), bdrewN hb q⟩

theorem fair_bad2 (b : Int) (zs : List Int) (h : ¬ fairIn b zs) : ∃ err : Int, (∀ v w, Reads w .i64 v zs → Calls Try.prog 26 #[.int .i64 b, v] w (RetRowB err [] w)) ∧
    (∀ v w, Reads w .i64 v zs → Calls Try.prog 31 #[.int .i64 b, v] w (RetRowB err [] w)) := by
  by_cases h1 : 0 ≤ b ∧ b ≤ 10000000
  · by_cases h2 : zs.length ≤ 1000
    · have h3 : ¬ ∀ z ∈ zs, 0 ≤ z ∧ z ≤ 10000000 := fun x => h ⟨h1, h2, x⟩
      exact ⟨2, fun v w hr => fair_want b v zs w hr h1.1 h1.2 h2 h3, fun v w hr => fairOf_want b v zs w hr h1.1 h1.2 h2 h3⟩
    · refine ⟨4, fun v w hr => ?_, fun v w hr => ?_⟩
      · obtain ⟨a, cap, rfl, hl, _⟩ := hr
        exact fair_large b a zs.length cap w h1.1 h1.2 (by omega) hl
      · obtain ⟨a, cap, rfl, hl, _⟩ := hr
        exact fairOf_large b a zs.length cap w h1.1 h1.2 (by omega) hl
  · refine ⟨2, fun v w hr => ?_, fun v w hr => ?_⟩
    · obtain ⟨a, cap, rfl, hl, _⟩ := hr
      exact fair_budget b a zs.length cap w h1
    · obtain ⟨a, cap, rfl, hl, _⟩ := hr
      exact fairOf_budget b a zs.length cap w h1

theorem ledgerFair_walk (b : Int) (v : Value) (zs : List Int) (w : World) (_ : -9223372036854775808 ≤ b ∧ b ≤ 9223372036854775807) (hv : RowIn w .i64 8 v zs) :
    Calls Try.prog 7 #[.int .i64 b, v] w (LawPost w) := by
  by_cases h : fairIn b zs
  · obtain ⟨L, hL⟩ := level_exists b zs h
    exact ledgerFair_core b 0 v zs (dist zs L (b - sumAt zs L)) w hv.reads (by rw [dist_len]; exact h.2.1) (fun v w hr => fair_ok b v zs _ w hr h.1.1 h.1.2 h.2.1 h.2.2 (fun L' hL' => by rw [level_unique hL' hL]))
      (fun v w hr => fairOf_ok b v zs _ w hr h.1.1 h.1.2 h.2.1 h.2.2 (fun L' hL' => by rw [level_unique hL' hL]))
  · obtain ⟨err, h1, h2⟩ := fair_bad2 b zs h
    exact ledgerFair_core b err v zs [] w hv.reads (by simp) h1 h2

end Go.Proofs.Yteeiohhoccgafaa
