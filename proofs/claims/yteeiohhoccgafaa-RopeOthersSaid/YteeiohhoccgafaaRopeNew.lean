/-
  NewRope, and the walk of RopeMade. No conditions.
-/
import Derived.Test.YteeiohhoccgafaaMade
namespace Go.Proofs.Yteeiohhoccgafaa
open Go.RowKit

def ropeCells (p : Nat) (o k s m l : Int) : Array Value :=
  #[.pointer (some ⟨p, 0, none⟩), .int .i64 o, .int .i64 k, .int .i64 s, .int .i64 m, .int .i64 l, .bool false, .slice none 0 0, .slice none 0 0]

/-- The error of a new rope, but for its owner's. -/
def ropeErr0 (k s m l : Int) : Int := if polErr k s m = 0 then (if 1 ≤ l ∧ l ≤ 4096 then (if m < l then 12 else 0) else 2) else polErr k s m
def ropeErr (st : BookSt) (k s m l o : Int) : Int := if ropeErr0 k s m l = 0 then heldE st o else ropeErr0 k s m l

theorem ropeErr0_pol {k s m l : Int} (h : polErr k s m ≠ 0) : ropeErr0 k s m l = polErr k s m := by unfold ropeErr0; rw [if_neg h]
theorem ropeErr0_leaf {k s m l : Int} (h : polErr k s m = 0) (h2 : ¬ (1 ≤ l ∧ l ≤ 4096)) : ropeErr0 k s m l = 2 := by unfold ropeErr0; rw [if_pos h, if_neg h2]
theorem ropeErr0_full {k s m l : Int} (h : polErr k s m = 0) (h2 : 1 ≤ l ∧ l ≤ 4096) (h3 : m < l) : ropeErr0 k s m l = 12 := by unfold ropeErr0; rw [if_pos h, if_pos h2, if_pos h3]
theorem ropeErr0_ok {k s m l : Int} (h : polErr k s m = 0) (h2 : 1 ≤ l ∧ l ≤ 4096) (h3 : ¬ m < l) : ropeErr0 k s m l = 0 := by unfold ropeErr0; rw [if_pos h, if_pos h2, if_neg h3]

set_option maxHeartbeats 4000000 in
set_option maxRecDepth 100000 in
theorem newRope_any (p : Nat) (o k s m l : Int) (w : World) (F : Nat → Prop) (st : BookSt) (N : Nat) (hb : BookAt w F p st N) :
    Calls Try.prog 36 #[.pointer (some ⟨p, 0, none⟩), .int .i64 o, .agg #[.int .i64 k, .int .i64 s, .int .i64 m], .int .i64 l] w (PtrPost (ropeCells p o k s m l) 91 (ropeErr st k s m l o) w) := by
  have C := checkPolicy_any k s m
  have hb2 := hb.same (Below.same_on (w' := (w.alloc (.cells #[.int .i64 k, .int .i64 s, .int .i64 m] 48)).alloc (.cells #[.int .i64 k, .int .i64 s, .int .i64 m] 48)) (by go_grown))
  have HH := Lib.hid (held_any p o _ F st N hb2)
  clear hb hb2
  by_cases h0 : polErr k s m = 0
  · by_cases h1 : 1 ≤ l ∧ l ≤ 4096
    · by_cases h2 : m < l
      · have E := Lib.hid (show ropeErr st k s m l o = 12 from by unfold ropeErr; rw [ropeErr0_full h0 h1 h2]; rfl)
        rw [h0] at C
        have HC := Lib.hid C
        obtain ⟨l1, l2⟩ := h1
        clear C h0 HH
        go_enter Try.func36, Try.ntmps36
        go_wp2_with fail
        refine (HC.out _).mono ?_
        rintro e w1 ⟨rfl, rfl, _⟩
        go_wp2_with fail
        refine (within_rope_yes _ _ _ _ l1 l2).mono ?_
        rintro e w1 ⟨rfl, rfl⟩
        go_wp2_with fail
        go_ret2
        refine ⟨by go_grown, Or.inl ⟨by rw [E.out]; decide, by rw [E.out]; rfl⟩⟩
      · have E0 := Lib.hid (ropeErr0_ok h0 h1 h2)
        have h3 : l ≤ m := by omega
        rw [h0] at C
        have HC := Lib.hid C
        obtain ⟨l1, l2⟩ := h1
        clear C h0 h2
        by_cases he : heldE st o = 0
        · have E := Lib.hid (show ropeErr st k s m l o = 0 from by unfold ropeErr; rw [E0.out, he]; rfl)
          rw [he] at HH
          clear he
          generalize heldV st o = hv at *
          go_enter Try.func36, Try.ntmps36
          go_wp2_with fail
          refine (HC.out _).mono ?_
          rintro e w1 ⟨rfl, rfl, _⟩
          go_wp2_with fail
          refine (within_rope_yes _ _ _ _ l1 l2).mono ?_
          rintro e w1 ⟨rfl, rfl⟩
          go_wp2_with fail
          refine (HH.out).mono ?_
          rintro e w1 ⟨rfl, rfl⟩
          go_wp2_with fail
          go_ret2
          refine ⟨by go_grown, Or.inr ⟨E.out, _, rfl, ?_, ?_⟩⟩
          · omega
          · have := heap_alloc_new ((w.alloc (.cells #[.int .i64 k, .int .i64 s, .int .i64 m] 48)).alloc (.cells #[.int .i64 k, .int .i64 s, .int .i64 m] 48)) (.cells (ropeCells p o k s m l) 91)
            simpa [ropeCells] using this
        · have E := Lib.hid (show ropeErr st k s m l o = heldE st o from by unfold ropeErr; rw [E0.out]; rfl)
          have e1 : (heldE st o != 0) = true := bne_iff_ne.2 he
          have NE := Lib.hid he
          clear he
          generalize heldV st o = hv at *
          generalize heldE st o = he at *
          go_enter Try.func36, Try.ntmps36
          go_wp2_with fail
          refine (HC.out _).mono ?_
          rintro e w1 ⟨rfl, rfl, _⟩
          go_wp2_with fail
          refine (within_rope_yes _ _ _ _ l1 l2).mono ?_
          rintro e w1 ⟨rfl, rfl⟩
          go_wp2_with fail
          refine (HH.out).mono ?_
          rintro e w1 ⟨rfl, rfl⟩
          go_wp2_with fail
          go_ret2
          refine ⟨by go_grown, Or.inl ⟨by rw [E.out]; exact NE.out, by rw [E.out]; rfl⟩⟩
    · have E := Lib.hid (show ropeErr st k s m l o = 2 from by unfold ropeErr; rw [ropeErr0_leaf h0 h1]; rfl)
      rw [h0] at C
      have HC := Lib.hid C
      have H1 := Lib.hid h1
      clear C h0 HH h1
      go_enter Try.func36, Try.ntmps36
      go_wp2_with fail
      refine (HC.out _).mono ?_
      rintro e w1 ⟨rfl, rfl, _⟩
      go_wp2_with fail
      refine (within_rope_no _ _ _ _ H1.out).mono ?_
      rintro e w1 ⟨rfl, rfl⟩
      go_wp2_with fail
      go_ret2
      refine ⟨by go_grown, Or.inl ⟨by rw [E.out]; decide, by rw [E.out]; rfl⟩⟩
  · have E := Lib.hid (show ropeErr st k s m l o = polErr k s m from by unfold ropeErr; rw [ropeErr0_pol h0, if_neg h0])
    have e1 : (polErr k s m != 0) = true := bne_iff_ne.2 h0
    have NE := Lib.hid h0
    have HC := Lib.hid C
    clear C h0 HH
    generalize polErr k s m = pe at *
    go_enter Try.func36, Try.ntmps36
    go_wp2_with fail
    refine (HC.out _).mono ?_
    rintro e w1 ⟨rfl, rfl, _⟩
    go_wp2_with fail
    go_ret2
    refine ⟨by go_grown, Or.inl ⟨by rw [E.out]; exact NE.out, by rw [E.out]; rfl⟩⟩

theorem ropeErr_one (k s m l o lim : Int) : ropeErr (oneSt lim) k s m l o = if ropeErr0 k s m l = 0 then (if o = 1 then 0 else strangerE o) else ropeErr0 k s m l := by unfold ropeErr; rw [heldE_one]

set_option maxHeartbeats 4000000 in
set_option maxRecDepth 100000 in
theorem ropeMade_walk (o k s m l : Int) (w : World) (_ : -9223372036854775808 ≤ o ∧ o ≤ 9223372036854775807) (_ : -9223372036854775808 ≤ k ∧ k ≤ 9223372036854775807) (_ : -9223372036854775808 ≤ s ∧ s ≤ 9223372036854775807) (_ : -9223372036854775808 ≤ m ∧ m ≤ 9223372036854775807) (_ : -9223372036854775808 ≤ l ∧ l ≤ 9223372036854775807) :
    Calls Try.prog 9 #[.int .i64 o, .agg #[.int .i64 k, .int .i64 s, .int .i64 m], .int .i64 l] w (LawPost w) := by
  have B0 := BoxAt.new w k s m 48
  have BK := book_any 100 (w.alloc (.cells #[.int .i64 k, .int .i64 s, .int .i64 m] 48)) (by omega) (by omega)
  have PE := Lib.hid (policyError_any k s m)
  have bel0 : Below w.heap.size w (w.alloc (.cells #[.int .i64 k, .int .i64 s, .int .i64 m] 48)) := by go_grown
  by_cases h0 : polErr k s m = 0
  · by_cases h1 : 1 ≤ l ∧ l ≤ 4096
    · by_cases h2 : m < l
      · have WE := Lib.hid (show ropeErr (oneSt 100) k s m l o = 12 from by rw [ropeErr_one, ropeErr0_full h0 h1 h2]; rfl)
        rw [h0] at PE
        obtain ⟨l1, l2⟩ := h1
        clear h0
        go_enter Try.func9, Try.ntmps9
        go_wp2_with fail
        refine BK.mono ?_
        rintro e w1 ⟨p, rfl, hb1, hbel1⟩
        have B1 := B0.below hbel1
        have bel1 := bel0.trans (hbel1.mono (by simp))
        clear BK B0 hbel1
        obtain ⟨x0, x1, x2, x3⟩ := B1
        have B1 : BoxAt w1 w.heap.size k s m := ⟨x0, x1, x2, x3⟩
        go_wp2_with fail
        refine (PE.out _).mono ?_
        rintro e w2 ⟨rfl, rfl, _⟩
        have hb2 := hb1.same (Below.same_on ((Below.refl _ _).alloc (Nat.le_refl _) (.cells #[.int .i64 k, .int .i64 s, .int .i64 m] 48)))
        have NH := newRope_any p o k s m l _ _ _ _ hb2
        rw [WE.out] at NH
        have NH := Lib.hid NH
        clear hb1 hb2
        go_wp2_with fail
        refine NH.out.mono ?_
        rintro e w3 ⟨hbel3, ⟨_, rfl⟩ | h⟩
        · have bel3 := bel1.trans (Below.trans (by go_grown) (hbel3.mono (Nat.le_trans bel1.size (by simp))))
          go_wp2_with fail
          go_ret
          exact ⟨by first | rfl | exact ret_bool (by simp), bel3⟩
        · exact absurd h.1 (by decide)
      · have E0 := Lib.hid (ropeErr0_ok h0 h1 h2)
        have h3 : l ≤ m := by omega
        rw [h0] at PE
        obtain ⟨l1, l2⟩ := h1
        clear h0 h2
        by_cases ho : o = 1
        · have WE := Lib.hid (show ropeErr (oneSt 100) k s m l o = 0 from by rw [ropeErr_one, E0.out, if_pos rfl, if_pos ho])
          subst ho
          go_enter Try.func9, Try.ntmps9
          go_wp2_with fail
          refine BK.mono ?_
          rintro e w1 ⟨p, rfl, hb1, hbel1⟩
          have B1 := B0.below hbel1
          have bel1 := bel0.trans (hbel1.mono (by simp))
          clear BK B0 hbel1
          obtain ⟨x0, x1, x2, x3⟩ := B1
          have B1 : BoxAt w1 w.heap.size k s m := ⟨x0, x1, x2, x3⟩
          go_wp2_with fail
          refine (PE.out _).mono ?_
          rintro e w2 ⟨rfl, rfl, _⟩
          have hb2 := hb1.same (Below.same_on ((Below.refl _ _).alloc (Nat.le_refl _) (.cells #[.int .i64 k, .int .i64 s, .int .i64 m] 48)))
          have NH := newRope_any p 1 k s m l _ _ _ _ hb2
          rw [WE.out] at NH
          have NH := Lib.hid NH
          clear hb1 hb2
          go_wp2_with fail
          refine NH.out.mono ?_
          rintro e w3 ⟨hbel3, h | ⟨_, h, rfl, _, _⟩⟩
          · exact absurd rfl h.1
          · have bel3 := bel1.trans (Below.trans (by go_grown) (hbel3.mono (Nat.le_trans bel1.size (by simp))))
            go_wp2_with fail
            go_ret
            exact ⟨by first | rfl | exact ret_bool (by simp), bel3⟩
        · have WE := Lib.hid (show ropeErr (oneSt 100) k s m l o = strangerE o from by rw [ropeErr_one, E0.out, if_pos rfl, if_neg ho])
          have SE := Lib.hid (fun w => stranger_any o w)
          have SN := strangerE_ne o
          have o1 : (o != 1) = true := bne_iff_ne.2 ho
          generalize strangerE o = se at *
          have s1 : (se != 0) = true := bne_iff_ne.2 SN
          have s2 : (se == se) = true := by simp
          clear ho
          go_enter Try.func9, Try.ntmps9
          go_wp2_with fail
          refine BK.mono ?_
          rintro e w1 ⟨p, rfl, hb1, hbel1⟩
          have B1 := B0.below hbel1
          have bel1 := bel0.trans (hbel1.mono (by simp))
          clear BK B0 hbel1
          obtain ⟨x0, x1, x2, x3⟩ := B1
          have B1 : BoxAt w1 w.heap.size k s m := ⟨x0, x1, x2, x3⟩
          go_wp2_with fail
          refine (PE.out _).mono ?_
          rintro e w2 ⟨rfl, rfl, _⟩
          have hb2 := hb1.same (Below.same_on ((Below.refl _ _).alloc (Nat.le_refl _) (.cells #[.int .i64 k, .int .i64 s, .int .i64 m] 48)))
          have NH := newRope_any p o k s m l _ _ _ _ hb2
          rw [WE.out] at NH
          have NH := Lib.hid NH
          clear hb1 hb2
          go_wp2_with fail
          refine (SE.out _).mono ?_
          rintro e w2 ⟨rfl, rfl⟩
          go_wp2_with fail
          refine NH.out.mono ?_
          rintro e w3 ⟨hbel3, ⟨_, rfl⟩ | h⟩
          · have bel3 := bel1.trans (Below.trans (by go_grown) (hbel3.mono (Nat.le_trans bel1.size (by simp))))
            go_wp2_with fail
            go_ret
            exact ⟨by first | rfl | exact ret_bool (by simp), bel3⟩
          · exact absurd h.1 SN
    · have WE := Lib.hid (show ropeErr (oneSt 100) k s m l o = 2 from by rw [ropeErr_one, ropeErr0_leaf h0 h1]; rfl)
      rw [h0] at PE
      rcases (show l < 1 ∨ (1 ≤ l ∧ 4096 < l) from by omega) with h3 | ⟨h3, h4⟩
      · clear h0 h1
        go_enter Try.func9, Try.ntmps9
        go_wp2_with fail
        refine BK.mono ?_
        rintro e w1 ⟨p, rfl, hb1, hbel1⟩
        have B1 := B0.below hbel1
        have bel1 := bel0.trans (hbel1.mono (by simp))
        clear BK B0 hbel1
        obtain ⟨x0, x1, x2, x3⟩ := B1
        have B1 : BoxAt w1 w.heap.size k s m := ⟨x0, x1, x2, x3⟩
        go_wp2_with fail
        refine (PE.out _).mono ?_
        rintro e w2 ⟨rfl, rfl, _⟩
        have hb2 := hb1.same (Below.same_on ((Below.refl _ _).alloc (Nat.le_refl _) (.cells #[.int .i64 k, .int .i64 s, .int .i64 m] 48)))
        have NH := newRope_any p o k s m l _ _ _ _ hb2
        rw [WE.out] at NH
        have NH := Lib.hid NH
        clear hb1 hb2
        go_wp2_with fail
        refine NH.out.mono ?_
        rintro e w3 ⟨hbel3, ⟨_, rfl⟩ | h⟩
        · have bel3 := bel1.trans (Below.trans (by go_grown) (hbel3.mono (Nat.le_trans bel1.size (by simp))))
          go_wp2_with fail
          go_ret
          exact ⟨by first | rfl | exact ret_bool (by simp), bel3⟩
        · exact absurd h.1 (by decide)
      · clear h0 h1
        go_enter Try.func9, Try.ntmps9
        go_wp2_with fail
        refine BK.mono ?_
        rintro e w1 ⟨p, rfl, hb1, hbel1⟩
        have B1 := B0.below hbel1
        have bel1 := bel0.trans (hbel1.mono (by simp))
        clear BK B0 hbel1
        obtain ⟨x0, x1, x2, x3⟩ := B1
        have B1 : BoxAt w1 w.heap.size k s m := ⟨x0, x1, x2, x3⟩
        go_wp2_with fail
        refine (PE.out _).mono ?_
        rintro e w2 ⟨rfl, rfl, _⟩
        have hb2 := hb1.same (Below.same_on ((Below.refl _ _).alloc (Nat.le_refl _) (.cells #[.int .i64 k, .int .i64 s, .int .i64 m] 48)))
        have NH := newRope_any p o k s m l _ _ _ _ hb2
        rw [WE.out] at NH
        have NH := Lib.hid NH
        clear hb1 hb2
        go_wp2_with fail
        refine NH.out.mono ?_
        rintro e w3 ⟨hbel3, ⟨_, rfl⟩ | h⟩
        · have bel3 := bel1.trans (Below.trans (by go_grown) (hbel3.mono (Nat.le_trans bel1.size (by simp))))
          go_wp2_with fail
          go_ret
          exact ⟨by first | rfl | exact ret_bool (by simp), bel3⟩
        · exact absurd h.1 (by decide)
  · have WE := Lib.hid (show ropeErr (oneSt 100) k s m l o = polErr k s m from by rw [ropeErr_one, ropeErr0_pol h0, if_neg h0])
    generalize polErr k s m = pe at *
    have s1 : (pe != 0) = true := bne_iff_ne.2 h0
    have s3 : (pe == 0) = false := beq_eq_false_iff_ne.2 h0
    have s2 : (pe == pe) = true := by simp
    have SN := Lib.hid h0
    clear h0
    go_enter Try.func9, Try.ntmps9
    go_wp2_with fail
    refine BK.mono ?_
    rintro e w1 ⟨p, rfl, hb1, hbel1⟩
    have B1 := B0.below hbel1
    have bel1 := bel0.trans (hbel1.mono (by simp))
    clear BK B0 hbel1
    obtain ⟨x0, x1, x2, x3⟩ := B1
    have B1 : BoxAt w1 w.heap.size k s m := ⟨x0, x1, x2, x3⟩
    go_wp2_with fail
    refine (PE.out _).mono ?_
    rintro e w2 ⟨rfl, rfl, _⟩
    have hb2 := hb1.same (Below.same_on ((Below.refl _ _).alloc (Nat.le_refl _) (.cells #[.int .i64 k, .int .i64 s, .int .i64 m] 48)))
    have NH := newRope_any p o k s m l _ _ _ _ hb2
    rw [WE.out] at NH
    have NH := Lib.hid NH
    clear hb1 hb2
    go_wp2_with fail
    refine NH.out.mono ?_
    rintro e w3 ⟨hbel3, ⟨_, rfl⟩ | h⟩
    · have bel3 := bel1.trans (Below.trans (by go_grown) (hbel3.mono (Nat.le_trans bel1.size (by simp))))
      go_wp2_with fail
      go_ret
      exact ⟨by first | rfl | exact ret_bool (by simp), bel3⟩
    · exact absurd h.1 SN.out

end Go.Proofs.Yteeiohhoccgafaa
