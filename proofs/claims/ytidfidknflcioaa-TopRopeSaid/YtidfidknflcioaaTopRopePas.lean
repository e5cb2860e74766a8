/-
  NewRope, and the walk of RopeMade. No conditions.
-/
import Derived.Test.YtidfidknflcioaaTopRopePar
namespace Go.Proofs.Ytidfidknflcioaa
open Go.RowKit

def ropeCells (p : Nat) (o k s m l : Int) : Array Value :=
  #[.pointer (some ⟨p, 0, none⟩), .int .i64 o, .int .i64 k, .int .i64 s, .int .i64 m, .int .i64 l, .bool false, .slice none 0 0, .slice none 0 0]

/-- The error of a new rope, but for its owner's. -/
def ropeErr0 (k s m l : Int) : Int := if polErr k s m = 0 then (if 1 ≤ l ∧ l ≤ 4096 then (if m < l then 12 else 0) else 2) else polErr k s m
def ropeErr (st : BookSt) (k s m l o : Int) : Int := if ropeErr0 k s m l = 0 then heldE st o else ropeErr0 k s m l

theorem ropeErr0_pol {k s m l : Int} (h : polErr k s m ≠ 0) : ropeErr0 k s m l = polErr k s m := by unfold ropeErr0; rw [if_neg h]
theorem ropeErr0_leaf {k s m l : Int} (h : polErr k s m = 0) (h2 : ¬ (1 ≤ l ∧ l ≤ 4096)) : ropeErr0 k s m l = 2 := by unfold ropeErr0; rw [if_pos h, if_neg h2]
theorem ropeErr0_full {k s m l : Int} (h : polErr k s m = 0) (h2 : 1 ≤ l ∧ l ≤ 4096) (h3 : m < l) : ropeErr0 k s m l = 12 := by unfold ropeErr0; rw [if_pos h, if_pos h2, if_pos h3]
theorem ropeErr0_ok {k s m l : Int} (h : polErr k s m = 0) (h2 : 1 ≤ l ∧ l ≤ 4096) (h3 : ¬ m < l) : ropeErr0 k s m l = 0 := by unfold ropeErr0; rw [if_pos h, if_pos h2, if_neg h3]

set_option maxHeartbeats 4000000 in
set_option maxRecDepth 100000 in
theorem newRope_any (p : Nat) (o k s m l : Int) (w : World) (F : Nat → Prop) (st : BookSt) (N : Nat) (hb : BookAt w F p st N) :
    Calls Try.prog 7 #[.pointer (some ⟨p, 0, none⟩), .int .i64 o, .agg #[.int .i64 k, .int .i64 s, .int .i64 m], .int .i64 l] w (PtrPost (ropeCells p o k s m l) 69 (ropeErr st k s m l o) w) := by
  have C := checkPolicy_any k s m
  have hb2 := hb.same (Below.same_on (w' := (w.alloc (.cells #[.int .i64 k, .int .i64 s, .int .i64 m] 23)).alloc (.cells #[.int .i64 k, .int .i64 s, .int .i64 m] 23)) (by go_grown))
  have HH := Lib.hid (held_any p o _ F st N hb2)
  clear hb hb2
  by_cases h0 : polErr k s m = 0
  · by_cases h1 : 1 ≤ l ∧ l ≤ 4096
    · by_cases h2 : m < l
      · have E := Lib.hid (show ropeErr st k s m l o = 12 from by unfold ropeErr; rw [ropeErr0_full h0 h1 h2]; rfl)
        rw [h0] at C
        have HC := Lib.hid C
        obtain ⟨l1, l2⟩ := h1
        clear C h0 HH
        go_enter Try.func7, Try.ntmps7
        go_wp2_with fail
        refine (HC.out _).mono ?_
        rintro e w1 ⟨rfl, rfl, _⟩
        go_wp2_with fail
        refine (within_rope_yes _ _ _ _ l1 l2).mono ?_
        rintro e w1 ⟨rfl, rfl⟩
        go_wp2_with fail
        go_ret2
        refine ⟨by go_grown, Or.inl ⟨by rw [E.out]; decide, by rw [E.out]; rfl⟩⟩
      · have E0 := Lib.hid (ropeErr0_ok h0 h1 h2)
        have h3 : l ≤ m := by omega
        rw [h0] at C
        have HC := Lib.hid C
        obtain ⟨l1, l2⟩ := h1
        clear C h0 h2
        by_cases he : heldE st o = 0
        · have E := Lib.hid (show ropeErr st k s m l o = 0 from by unfold ropeErr; rw [E0.out, he]; rfl)
          rw [he] at HH
          clear he
          generalize heldV st o = hv at *
          go_enter Try.func7, Try.ntmps7
          go_wp2_with fail
          refine (HC.out _).mono ?_
          rintro e w1 ⟨rfl, rfl, _⟩
          go_wp2_with fail
          refine (within_rope_yes _ _ _ _ l1 l2).mono ?_
          rintro e w1 ⟨rfl, rfl⟩
          go_wp2_with fail
          refine (HH.out).mono ?_
          rintro e w1 ⟨rfl, rfl⟩
          go_wp2_with fail
          go_ret2
          refine ⟨by go_grown, Or.inr ⟨E.out, _, rfl, ?_, ?_⟩⟩
          · omega
          · have := heap_alloc_new ((w.alloc (.cells #[.int .i64 k, .int .i64 s, .int .i64 m] 23)).alloc (.cells #[.int .i64 k, .int .i64 s, .int .i64 m] 23)) (.cells (ropeCells p o k s m l) 69)
            simpa [ropeCells] using this
        · have E := Lib.hid (show ropeErr st k s m l o = heldE st o from by unfold ropeErr; rw [E0.out]; rfl)
          have e1 : (heldE st o != 0) = true := bne_iff_ne.2 he
          have NE := Lib.hid he
          clear he
          generalize heldV st o = hv at *
          generalize heldE st o = he at *
          go_enter Try.func7, Try.ntmps7
          go_wp2_with fail
          refine (HC.out _).mono ?_
          rintro e w1 ⟨rfl, rfl, _⟩
          go_wp2_with fail
          refine (within_rope_yes _ _ _ _ l1 l2).mono ?_
          rintro e w1 ⟨rfl, rfl⟩
          go_wp2_with fail
          refine (HH.out).mono ?_
          rintro e w1 ⟨rfl, rfl⟩
          go_wp2_with fail
          go_ret2
          refine ⟨by go_grown, Or.inl ⟨by rw [E.out]; exact NE.out, by rw [E.out]; rfl⟩⟩
    · have E := Lib.hid (show ropeErr st k s m l o = 2 from by unfold ropeErr; rw [ropeErr0_leaf h0 h1]; rfl)
      rw [h0] at C
      have HC := Lib.hid C
      have H1 := Lib.hid h1
      clear C h0 HH h1
      go_enter Try.func7, Try.ntmps7
      go_wp2_with fail
      refine (HC.out _).mono ?_
      rintro e w1 ⟨rfl, rfl, _⟩
      go_wp2_with fail
      refine (within_rope_no _ _ _ _ H1.out).mono ?_
      rintro e w1 ⟨rfl, rfl⟩
      go_wp2_with fail
      go_ret2
      refine ⟨by go_grown, Or.inl ⟨by rw [E.out]; decide, by rw [E.out]; rfl⟩⟩
  · have E := Lib.hid (show ropeErr st k s m l o = polErr k s m from by unfold ropeErr; rw [ropeErr0_pol h0, if_neg h0])
    have e1 : (polErr k s m != 0) = true := bne_iff_ne.2 h0
    have NE := Lib.hid h0
    have HC := Lib.hid C
    clear C h0 HH
    generalize polErr k s m = pe at *
    go_enter Try.func7, Try.ntmps7
    go_wp2_with fail
    refine (HC.out _).mono ?_
    rintro e w1 ⟨rfl, rfl, _⟩
    go_wp2_with fail
    go_ret2
    refine ⟨by go_grown, Or.inl ⟨by rw [E.out]; exact NE.out, by rw [E.out]; rfl⟩⟩

theorem ropeErr_one (k s m l o lim : Int) : ropeErr (oneSt lim) k s m l o = if ropeErr0 k s m l = 0 then (if o = 1 then 0 else strangerE o) else ropeErr0 k s m l := by unfold ropeErr; rw [heldE_one]

end Go.Proofs.Ytidfidknflcioaa
