/-
  The walk of ShareMade. No conditions.
-/
import Derived.Test.YtpcmgglfkbdbhaaPoolE
namespace Go.Proofs.Ytpcmgglfkbdbhaa
open Go.RowKit
set_option linter.unusedVariables false

set_option maxHeartbeats 2000000 in
set_option maxRecDepth 100000 in
theorem shareMade_walk (o size : Int) (w : World) (_ : -9223372036854775808 ≤ o ∧ o ≤ 9223372036854775807) (_ : -9223372036854775808 ≤ size ∧ size ≤ 9223372036854775807) :
    Calls Try.prog 3 #[.int .i64 o, .int .i64 size] w (LawPost w) := by
  have BK := Lib.hid (book_any 100 w (by omega) (by omega))
  have NP := Lib.hid (fun p w' hb => newPool_any p o size w' (fun k => w.heap.size ≤ k) (oneSt 100) 1 hb)
  by_cases hs : 1 ≤ size ∧ size ≤ 4096
  · obtain ⟨s1, s2⟩ := hs
    have n1 : ¬ size < 1 := by omega
    have n2 : ¬ 4096 < size := by omega
    by_cases ho : o = 1
    · have E := Lib.hid (show poolErr (oneSt 100) o size = 0 by unfold poolErr; rw [if_pos ⟨s1, s2⟩, heldE_one, if_pos ho])
      rw [E.out] at NP
      subst ho
      go_enter Try.func3, Try.ntmps3
      go_wp2_with fail
      refine BK.out.mono ?_
      rintro e w1 ⟨p, rfl, hb1, hbel1⟩
      have B1 := Lib.hid hbel1
      have BA := Lib.hid hb1
      clear hb1 hbel1
      go_wp2_with fail
      refine (NP.out p w1 BA.out).mono ?_
      rintro e w2 ⟨hb2, ⟨h0, _⟩ | ⟨_, h, rfl, hp2⟩⟩
      · exact absurd rfl h0
      have B2 := Lib.hid (B1.out.trans (hb2.mono B1.out.size))
      have P2 := Lib.hid hp2
      clear hb2 hp2
      go_wp2_with fail
      refine (room_zero h p 1 size w2 P2.out).mono ?_
      rintro e w3 ⟨rfl, hb3⟩
      have B3 := Lib.hid (B2.out.trans (hb3.mono B2.out.size))
      have P3 := Lib.hid (P2.out.below hb3)
      clear hb3
      go_wp2_with fail
      refine (strings_nil h p 1 size w3 P3.out).mono ?_
      rintro e w4 ⟨rfl, hb4⟩
      have B4 := Lib.hid (B3.out.trans (hb4.mono B3.out.size))
      have P4 := Lib.hid (P3.out.below hb4)
      clear hb4
      go_wp2_with fail
      refine (blocks_nil h p 1 size w4 P4.out).mono ?_
      rintro e w5 ⟨rfl, hb5⟩
      have B5 := Lib.hid (B4.out.trans (hb5.mono B4.out.size))
      clear hb5
      go_wp2_with fail
      go_ret
      exact ⟨by first | rfl | exact ret_bool (by simp), B5.out⟩
    · have E := Lib.hid (show poolErr (oneSt 100) o size = strangerE o by unfold poolErr; rw [if_pos ⟨s1, s2⟩, heldE_one, if_neg ho])
      rw [E.out] at NP
      have SE := Lib.hid (fun w => stranger_any o w)
      have SN := Lib.hid (strangerE_ne o)
      have o1 : (o != 1) = true := bne_iff_ne.2 ho
      have o1' : (o == 1) = false := by simpa using ho
      generalize strangerE o = se at *
      have s5 : (se == se) = true := by simp
      clear ho
      go_enter Try.func3, Try.ntmps3
      go_wp2_with fail
      refine BK.out.mono ?_
      rintro e w1 ⟨p, rfl, hb1, hbel1⟩
      have B1 := Lib.hid hbel1
      have BA := Lib.hid hb1
      clear hb1 hbel1
      go_wp2_with fail
      refine (NP.out p w1 BA.out).mono ?_
      rintro e w2 ⟨hb2, ⟨_, rfl⟩ | ⟨h0, _⟩⟩
      · have B2 := Lib.hid (B1.out.trans (hb2.mono B1.out.size))
        clear hb2
        go_wp2_with fail
        refine (SE.out _).mono ?_
        rintro e w3 ⟨rfl, rfl⟩
        go_wp2_with fail
        go_ret
        exact ⟨by first | rfl | exact ret_bool (by simp), B2.out⟩
      · exact absurd h0 SN.out
  · have E := Lib.hid (show poolErr (oneSt 100) o size = 2 by unfold poolErr; rw [if_neg hs])
    rw [E.out] at NP
    by_cases hs1 : size < 1
    · clear hs
      go_enter Try.func3, Try.ntmps3
      go_wp2_with fail
      refine BK.out.mono ?_
      rintro e w1 ⟨p, rfl, hb1, hbel1⟩
      have B1 := Lib.hid hbel1
      have BA := Lib.hid hb1
      clear hb1 hbel1
      go_wp2_with fail
      refine (NP.out p w1 BA.out).mono ?_
      rintro e w2 ⟨hb2, ⟨_, rfl⟩ | ⟨h0, _⟩⟩
      · have B2 := Lib.hid (B1.out.trans (hb2.mono B1.out.size))
        clear hb2
        go_wp2_with fail
        go_ret
        exact ⟨by first | rfl | exact ret_bool (by simp), B2.out⟩
      · exact absurd h0 (by decide)
    · have hs2 : 4096 < size := by omega
      clear hs
      go_enter Try.func3, Try.ntmps3
      go_wp2_with fail
      refine BK.out.mono ?_
      rintro e w1 ⟨p, rfl, hb1, hbel1⟩
      have B1 := Lib.hid hbel1
      have BA := Lib.hid hb1
      clear hb1 hbel1
      go_wp2_with fail
      refine (NP.out p w1 BA.out).mono ?_
      rintro e w2 ⟨hb2, ⟨_, rfl⟩ | ⟨h0, _⟩⟩
      · have B2 := Lib.hid (B1.out.trans (hb2.mono B1.out.size))
        clear hb2
        go_wp2_with fail
        go_ret
        exact ⟨by first | rfl | exact ret_bool (by simp), B2.out⟩
      · exact absurd h0 (by decide)

end Go.Proofs.Ytpcmgglfkbdbhaa
