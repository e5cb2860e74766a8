/-
  The walk of RopeOthers. No conditions.
-/
import Derived.Test.YteeiohhoccgafaaRopeJoin2
namespace Go.Proofs.Yteeiohhoccgafaa
open Go.RowKit

set_option maxHeartbeats 4000000 in
set_option maxRecDepth 100000 in
theorem ropeOthers_walk (k s m l k' s' m' l' : Int) (w : World) (_ : -9223372036854775808 ≤ k ∧ k ≤ 9223372036854775807) (_ : -9223372036854775808 ≤ s ∧ s ≤ 9223372036854775807) (_ : -9223372036854775808 ≤ m ∧ m ≤ 9223372036854775807) (_ : -9223372036854775808 ≤ l ∧ l ≤ 9223372036854775807) (_ : -9223372036854775808 ≤ k' ∧ k' ≤ 9223372036854775807) (_ : -9223372036854775808 ≤ s' ∧ s' ≤ 9223372036854775807) (_ : -9223372036854775808 ≤ m' ∧ m' ≤ 9223372036854775807) (_ : -9223372036854775808 ≤ l' ∧ l' ≤ 9223372036854775807) :
    Calls Try.prog 14 #[.agg #[.int .i64 k, .int .i64 s, .int .i64 m], .int .i64 l, .agg #[.int .i64 k', .int .i64 s', .int .i64 m'], .int .i64 l'] w (LawPost w) := by
  have B0 := (BoxAt.new w k s m 48).below (w' := (w.alloc (.cells #[.int .i64 k, .int .i64 s, .int .i64 m] 48)).alloc (.cells #[.int .i64 k', .int .i64 s', .int .i64 m'] 48)) (by go_grown)
  have C0 : BoxAt ((w.alloc (.cells #[.int .i64 k, .int .i64 s, .int .i64 m] 48)).alloc (.cells #[.int .i64 k', .int .i64 s', .int .i64 m'] 48)) (w.heap.size + 1) k' s' m' := by
    simpa only [World.size_alloc] using BoxAt.new (w.alloc (.cells #[.int .i64 k, .int .i64 s, .int .i64 m] 48)) k' s' m' 48
  have bel0 : Below w.heap.size w ((w.alloc (.cells #[.int .i64 k, .int .i64 s, .int .i64 m] 48)).alloc (.cells #[.int .i64 k', .int .i64 s', .int .i64 m'] 48)) := by go_grown
  have PE := Lib.hid (policyError_any k s m)
  have PE' := Lib.hid (policyError_any k' s' m')
  go_enter Try.func14, Try.ntmps14
  go_wp2_with fail
  refine (book_any 1000 _ (by omega) (by omega)).mono ?_
  rintro e w1 ⟨p, rfl, hb1, hbel1⟩
  have B1 := B0.below hbel1
  have C1 := C0.below hbel1
  have bel1 := bel0.trans (hbel1.mono (by simp only [World.size_alloc]; omega))
  have hsz1 : w.heap.size + 2 ≤ w1.heap.size := by have := hbel1.size; simpa using this
  clear B0 C0 hbel1 bel0
  go_wp2_with fail
  refine (book_any 1000 _ (by omega) (by omega)).mono ?_
  rintro e w2 ⟨q, rfl, hb2, hbel2⟩
  have B2 := B1.below hbel2
  have C2 := C1.below hbel2
  have bel2 := bel1.trans (hbel2.mono (by omega))
  have hb1' := hb1
  have hb1 := hb1.same (Below.same_on hbel2)
  have hsz2 := hbel2.size
  clear B1 C1 hbel2 bel1
  obtain ⟨x0, x1, x2, x3⟩ := B2
  obtain ⟨y0, y1, y2, y3⟩ := C2
  have B2 : BoxAt w2 w.heap.size k s m := ⟨x0, x1, x2, x3⟩
  have C2 : BoxAt w2 (w.heap.size + 1) k' s' m' := ⟨y0, y1, y2, y3⟩
  have hpq : p ≠ q := by
    obtain ⟨_, _, _, _, _, g1⟩ := hb1'
    obtain ⟨_, _, _, _, _, g2⟩ := hb2
    have := lt_of g1.self
    have := g2.fp
    omega
  clear hb1'
  have Q1 := Lib.hid hb1
  have Q2 := Lib.hid hb2
  have Q3 := Lib.hid B2
  have Q4 := Lib.hid C2
  clear hb1 hb2 B2 C2
  by_cases h0 : polErr k s m = 0
  · by_cases h0' : polErr k' s' m' = 0
    · rw [h0] at PE
      rw [h0'] at PE'
      go_wp2_with fail
      refine (PE.out _).mono ?_
      rintro e w3 ⟨rfl, rfl, _⟩
      go_wp2_with fail
      refine (PE'.out _).mono ?_
      rintro e w3 ⟨rfl, rfl, _⟩
      have bel4 : Below w.heap.size w ((w2.alloc (.cells #[.int .i64 k, .int .i64 s, .int .i64 m] 48)).alloc (.cells #[.int .i64 k', .int .i64 s', .int .i64 m'] 48)) := (bel2.alloc (by omega) _).alloc (by simp; omega) _
      by_cases hl : l < 1
      · clear h0 h0'
        go_wp2_with fail
        all_goals first | omega | (go_ret; exact ⟨rfl, bel4⟩) | (trace_state; fail)
      by_cases hl' : l' < 1
      · clear h0 h0'
        have hl1 : 1 ≤ l := by omega
        clear hl
        go_wp2_with fail
        all_goals first | omega | (go_ret; exact ⟨rfl, bel4⟩) | (trace_state; fail)
      have hl1 : 1 ≤ l := by omega
      have hl1' : 1 ≤ l' := by omega
      clear hl hl'
      by_cases hm : 4096 < l ∨ m < l
      · clear h0 h0'
        rcases hm with hm | hm
        all_goals
          go_wp2_with fail
          all_goals first | omega | (go_ret; exact ⟨rfl, bel4⟩) | (trace_state; fail)
      by_cases hm' : 4096 < l' ∨ m' < l'
      · clear h0 h0'
        have hm1 : l ≤ 4096 := by omega
        have hm2 : l ≤ m := by omega
        clear hm
        rcases hm' with hm | hm
        all_goals
          go_wp2_with fail
          all_goals first | omega | (go_ret; exact ⟨rfl, bel4⟩) | (trace_state; fail)
      have hm1 : l ≤ 4096 := by omega
      have hm2 : l ≤ m := by omega
      have hm1' : l' ≤ 4096 := by omega
      have hm2' : l' ≤ m' := by omega
      have WE := Lib.hid (show ropeErr (oneSt 1000) k s m l 1 = 0 from by rw [ropeErr_one, ropeErr0_ok h0 ⟨hl1, hm1⟩ (by omega)]; rfl)
      have WE' := Lib.hid (show ropeErr (oneSt 1000) k' s' m' l' 1 = 0 from by rw [ropeErr_one, ropeErr0_ok h0' ⟨hl1', hm1'⟩ (by omega)]; rfl)
      clear hm hm' h0 h0'
      have hmm : ∃ mm, (if m < 4096 then m else 4096) = mm ∧ l ≤ mm := ⟨_, rfl, by split <;> omega⟩
      have hmm' : ∃ mm, (if m' < 4096 then m' else 4096) = mm ∧ l' ≤ mm := ⟨_, rfl, by split <;> omega⟩
      obtain ⟨mm, hmm, hle⟩ := hmm
      obtain ⟨mm', hmm', hle'⟩ := hmm'
      have up4 : Below w2.heap.size w2 ((w2.alloc (.cells #[.int .i64 k, .int .i64 s, .int .i64 m] 48)).alloc (.cells #[.int .i64 k', .int .i64 s', .int .i64 m'] 48)) := by go_grown
      have N1 := newRope_any p 1 k s m l _ _ _ _ (Q1.out.same (Below.same_on up4))
      rw [WE.out] at N1
      have N1 := Lib.hid N1
      go_wp2_with fail
      refine N1.out.mono ?_
      clear N1
      rintro e w5 ⟨hbel5, h | ⟨_, a, rfl, ha, hra⟩⟩
      · exact absurd rfl h.1
      have up5 := up4.trans (hbel5.mono up4.size)
      have bel5 := bel4.trans (hbel5.mono bel4.size)
      clear x0 x1 x2 x3 y0 y1 y2 y3
      obtain ⟨x0, x1, x2, x3⟩ := Q3.out.below up5
      have RA := Lib.hid (RopeIs.of hra)
      have la := lt_of hra
      have ha2 : w2.heap.size ≤ a := Nat.le_trans up4.size ha
      clear hra ha up4 hbel5 bel4
      have N1 := newRope_any q 1 k s m l _ _ _ _ (Q2.out.same (Below.same_on up5))
      rw [WE.out] at N1
      have N1 := Lib.hid N1
      go_wp2_with fail
      refine N1.out.mono ?_
      clear N1
      rintro e w6 ⟨hbel6, h | ⟨_, b, rfl, hb, hrb⟩⟩
      · exact absurd rfl h.1
      have up6 := up5.trans (hbel6.mono up5.size)
      have bel6 := bel5.trans (hbel6.mono bel5.size)
      clear x0 x1 x2 x3
      obtain ⟨x0, x1, x2, x3⟩ := Q4.out.below up6
      have RA := Lib.hid (RA.out.below hbel6)
      have RB := Lib.hid (RopeIs.of hrb)
      have s56 := hbel6.size
      have hab : a < b := Nat.lt_of_lt_of_le la hb
      have hb2 : w2.heap.size ≤ b := Nat.le_trans up5.size hb
      clear hrb hb up5 hbel6 bel5
      have N1 := newRope_any p 1 k' s' m' l' _ _ _ _ (Q1.out.same (Below.same_on up6))
      rw [WE'.out] at N1
      have N1 := Lib.hid N1
      go_wp2_with fail
      refine N1.out.mono ?_
      clear N1
      rintro e w7 ⟨hbel7, h | ⟨_, c, rfl, hc, hrc⟩⟩
      · exact absurd rfl h.1
      have up7 := up6.trans (hbel7.mono up6.size)
      have bel7 := bel6.trans (hbel7.mono bel6.size)
      clear x0 x1 x2 x3
      obtain ⟨x0, x1, x2, x3⟩ := Q3.out.below up7
      obtain ⟨y0, y1, y2, y3⟩ := Q4.out.below up7
      have hac : a < c := Nat.lt_of_lt_of_le la (Nat.le_trans s56 hc)
      have hc2 : w2.heap.size ≤ c := Nat.le_trans up6.size hc
      have RA := Lib.hid (RA.out.below hbel7)
      have RB := Lib.hid (RB.out.below hbel7)
      have RC := Lib.hid (RopeIs.of hrc)
      have P1 := Lib.hid (Q1.out.same (Below.same_on up7))
      have P2 := Lib.hid (Q2.out.same (Below.same_on up7))
      have BW : w.heap.size ≤ w2.heap.size := bel2.size
      clear hrc up6 hbel7 bel6 hc
      rcases (show k ≠ k' ∨ (k = k' ∧ s ≠ s') ∨ (k = k' ∧ s = s' ∧ m ≠ m') ∨ (k = k' ∧ s = s' ∧ m = m' ∧ l ≠ l') ∨ (k = k' ∧ s = s' ∧ m = m' ∧ l = l') from by omega) with h | ⟨rfl, h⟩ | ⟨rfl, rfl, h⟩ | ⟨rfl, rfl, rfl, h⟩ | ⟨rfl, rfl, rfl, rfl⟩
      · have kk := beq_eq_false_iff_ne.2 h
        have hne := Lib.hid h
        go_wp2_with fail
        obtain ⟨_, _, _, _, _, g1⟩ := P1.out
        obtain ⟨_, _, _, _, _, g2⟩ := P2.out
        refine (join_owner RA.out RB.out (Nat.ne_of_lt hab) g1.self g2.self hpq).mono ?_
        rintro e w8 ⟨rfl, hbel8⟩
        have RA := Lib.hid (RA.out.below hbel8)
        have RB := Lib.hid (RB.out.below hbel8)
        have RC := Lib.hid (RC.out.below hbel8)
        have P1 := Lib.hid (P1.out.same (Below.same_on hbel8))
        have P2 := Lib.hid (P2.out.same (Below.same_on hbel8))
        have bel8 := bel7.trans (hbel8.mono bel7.size)
        clear g1 g2 bel7 hbel8
        go_wp2_with fail
        obtain ⟨_, _, _, _, _, g1⟩ := P1.out
        obtain ⟨_, _, _, _, _, g2⟩ := P2.out
        refine (join_owner RB.out RA.out (Nat.ne_of_gt hab) g2.self g1.self (Ne.symm hpq)).mono ?_
        rintro e w9 ⟨rfl, hbel9⟩
        have RA := Lib.hid (RA.out.below hbel9)
        have RC := Lib.hid (RC.out.below hbel9)
        have bel9 := bel8.trans (hbel9.mono bel8.size)
        clear g1 g2 bel8 hbel9 P1 P2 RB
        go_wp2_with fail
        refine (join_policy RA.out RC.out (Nat.ne_of_lt hac) (fun e => hne.out e.1)).mono ?_
        rintro e w10 ⟨rfl, hbel10⟩
        go_wp2_with fail
        go_ret
        exact ⟨rfl, bel9.trans (hbel10.mono bel9.size)⟩
      · have kk := beq_eq_false_iff_ne.2 h
        have hne := Lib.hid h
        go_wp2_with fail
        obtain ⟨_, _, _, _, _, g1⟩ := P1.out
        obtain ⟨_, _, _, _, _, g2⟩ := P2.out
        refine (join_owner RA.out RB.out (Nat.ne_of_lt hab) g1.self g2.self hpq).mono ?_
        rintro e w8 ⟨rfl, hbel8⟩
        have RA := Lib.hid (RA.out.below hbel8)
        have RB := Lib.hid (RB.out.below hbel8)
        have RC := Lib.hid (RC.out.below hbel8)
        have P1 := Lib.hid (P1.out.same (Below.same_on hbel8))
        have P2 := Lib.hid (P2.out.same (Below.same_on hbel8))
        have bel8 := bel7.trans (hbel8.mono bel7.size)
        clear g1 g2 bel7 hbel8
        go_wp2_with fail
        obtain ⟨_, _, _, _, _, g1⟩ := P1.out
        obtain ⟨_, _, _, _, _, g2⟩ := P2.out
        refine (join_owner RB.out RA.out (Nat.ne_of_gt hab) g2.self g1.self (Ne.symm hpq)).mono ?_
        rintro e w9 ⟨rfl, hbel9⟩
        have RA := Lib.hid (RA.out.below hbel9)
        have RC := Lib.hid (RC.out.below hbel9)
        have bel9 := bel8.trans (hbel9.mono bel8.size)
        clear g1 g2 bel8 hbel9 P1 P2 RB
        go_wp2_with fail
        refine (join_policy RA.out RC.out (Nat.ne_of_lt hac) (fun e => hne.out e.2.1)).mono ?_
        rintro e w10 ⟨rfl, hbel10⟩
        go_wp2_with fail
        go_ret
        exact ⟨rfl, bel9.trans (hbel10.mono bel9.size)⟩
      · have kk := beq_eq_false_iff_ne.2 h
        have hne := Lib.hid h
        go_wp2_with fail
        obtain ⟨_, _, _, _, _, g1⟩ := P1.out
        obtain ⟨_, _, _, _, _, g2⟩ := P2.out
        refine (join_owner RA.out RB.out (Nat.ne_of_lt hab) g1.self g2.self hpq).mono ?_
        rintro e w8 ⟨rfl, hbel8⟩
        have RA := Lib.hid (RA.out.below hbel8)
        have RB := Lib.hid (RB.out.below hbel8)
        have RC := Lib.hid (RC.out.below hbel8)
        have P1 := Lib.hid (P1.out.same (Below.same_on hbel8))
        have P2 := Lib.hid (P2.out.same (Below.same_on hbel8))
        have bel8 := bel7.trans (hbel8.mono bel7.size)
        clear g1 g2 bel7 hbel8
        go_wp2_with fail
        obtain ⟨_, _, _, _, _, g1⟩ := P1.out
        obtain ⟨_, _, _, _, _, g2⟩ := P2.out
        refine (join_owner RB.out RA.out (Nat.ne_of_gt hab) g2.self g1.self (Ne.symm hpq)).mono ?_
        rintro e w9 ⟨rfl, hbel9⟩
        have RA := Lib.hid (RA.out.below hbel9)
        have RC := Lib.hid (RC.out.below hbel9)
        have bel9 := bel8.trans (hbel9.mono bel8.size)
        clear g1 g2 bel8 hbel9 P1 P2 RB
        go_wp2_with fail
        refine (join_policy RA.out RC.out (Nat.ne_of_lt hac) (fun e => hne.out e.2.2)).mono ?_
        rintro e w10 ⟨rfl, hbel10⟩
        go_wp2_with fail
        go_ret
        exact ⟨rfl, bel9.trans (hbel10.mono bel9.size)⟩
      · have ll : (l != l') = true := bne_iff_ne.2 h
        have hne := Lib.hid h
        go_wp2_with fail
        obtain ⟨_, _, _, _, _, g1⟩ := P1.out
        obtain ⟨_, _, _, _, _, g2⟩ := P2.out
        refine (join_owner RA.out RB.out (Nat.ne_of_lt hab) g1.self g2.self hpq).mono ?_
        rintro e w8 ⟨rfl, hbel8⟩
        have RA := Lib.hid (RA.out.below hbel8)
        have RB := Lib.hid (RB.out.below hbel8)
        have RC := Lib.hid (RC.out.below hbel8)
        have P1 := Lib.hid (P1.out.same (Below.same_on hbel8))
        have P2 := Lib.hid (P2.out.same (Below.same_on hbel8))
        have bel8 := bel7.trans (hbel8.mono bel7.size)
        clear g1 g2 bel7 hbel8
        go_wp2_with fail
        obtain ⟨_, _, _, _, _, g1⟩ := P1.out
        obtain ⟨_, _, _, _, _, g2⟩ := P2.out
        refine (join_owner RB.out RA.out (Nat.ne_of_gt hab) g2.self g1.self (Ne.symm hpq)).mono ?_
        rintro e w9 ⟨rfl, hbel9⟩
        have RA := Lib.hid (RA.out.below hbel9)
        have RC := Lib.hid (RC.out.below hbel9)
        have bel9 := bel8.trans (hbel9.mono bel8.size)
        clear g1 g2 bel8 hbel9 P1 P2 RB
        go_wp2_with fail
        refine (join_leaf RA.out RC.out (Nat.ne_of_lt hac) hne.out).mono ?_
        rintro e w10 ⟨rfl, hbel10⟩
        go_wp2_with fail
        go_ret
        exact ⟨rfl, bel9.trans (hbel10.mono bel9.size)⟩
      · have ll : (l != l) = false := by simp
        go_wp2_with fail
        obtain ⟨_, _, _, _, _, g1⟩ := P1.out
        obtain ⟨_, _, _, _, _, g2⟩ := P2.out
        refine (join_owner RA.out RB.out (Nat.ne_of_lt hab) g1.self g2.self hpq).mono ?_
        rintro e w8 ⟨rfl, hbel8⟩
        have RA := Lib.hid (RA.out.below hbel8)
        have RB := Lib.hid (RB.out.below hbel8)
        have RC := Lib.hid (RC.out.below hbel8)
        have P1 := Lib.hid (P1.out.same (Below.same_on hbel8))
        have P2 := Lib.hid (P2.out.same (Below.same_on hbel8))
        have bel8 := bel7.trans (hbel8.mono bel7.size)
        clear g1 g2 bel7 hbel8
        go_wp2_with fail
        obtain ⟨_, _, _, _, _, g1⟩ := P1.out
        obtain ⟨_, _, _, _, _, g2⟩ := P2.out
        refine (join_owner RB.out RA.out (Nat.ne_of_gt hab) g2.self g1.self (Ne.symm hpq)).mono ?_
        rintro e w9 ⟨rfl, hbel9⟩
        have RA := Lib.hid (RA.out.below hbel9)
        have RC := Lib.hid (RC.out.below hbel9)
        have bel9 := bel8.trans (hbel9.mono bel8.size)
        clear g1 g2 bel8 hbel9 P1 P2 RB
        go_wp2_with fail
        refine (join_ok RA.out RC.out (Nat.ne_of_lt hac) w.heap.size (by omega) (by omega)).mono ?_
        rintro e w10 ⟨rfl, hbel10⟩
        go_wp2_with fail
        go_ret
        exact ⟨rfl, bel9.trans hbel10⟩
    · have e1 : (polErr k' s' m' != 0) = true := bne_iff_ne.2 h0'
      rw [h0] at PE
      clear h0 h0'
      generalize polErr k' s' m' = pe at *
      go_wp2_with fail
      refine (PE.out _).mono ?_
      rintro e w3 ⟨rfl, rfl, _⟩
      go_wp2_with fail
      refine (PE'.out _).mono ?_
      rintro e w3 ⟨rfl, rfl, _⟩
      go_wp2_with fail
      go_ret
      exact ⟨rfl, (bel2.alloc (by omega) _).alloc (by simp; omega) _⟩
  · have e1 : (polErr k s m != 0) = true := bne_iff_ne.2 h0
    clear h0
    generalize polErr k s m = pe at *
    go_wp2_with fail
    refine (PE.out _).mono ?_
    rintro e w3 ⟨rfl, rfl, _⟩
    go_wp2_with fail
    go_ret
    exact ⟨rfl, bel2.alloc (by omega) _⟩

end Go.Proofs.Yteeiohhoccgafaa
