/-
  book, stranger, NewHeap, and the walk of MoveMade. No conditions.
-/
import Derived.Test.YteeiohhoccgafaaOpen
import Derived.Test.YteeiohhoccgafaaPolicy
import Derived.Test.YteeiohhoccgafaaShrink2
namespace Go.Proofs.Yteeiohhoccgafaa
open Go.RowKit

/-- The book of the statements: one account, number 1. -/
def oneSt (l : Int) : BookSt := openSt (newSt 10000000) 1 l

def BookPost (l : Int) (w : World) : Ending → World → Prop := fun e w' =>
  ∃ p, e = .returned (.pointer (some ⟨p, 0, none⟩)) ∧ BookAt w' (fun k => w.heap.size ≤ k) p (oneSt l) 1 ∧ Below w.heap.size w w'

set_option maxHeartbeats 1000000 in
set_option maxRecDepth 100000 in
theorem book_any (l : Int) (w : World) (h1 : 0 ≤ l) (h2 : l ≤ 10000000) :
    Calls Try.prog 32 #[.int .i64 l] w (BookPost l w) := by
  go_enter Try.func32, Try.ntmps32
  go_wp2_with fail
  refine (newBook_ok _ _ (by omega) (by omega)).mono ?_
  rintro e w1 ⟨p, rfl, hb, hbel⟩
  have O := Lib.hid (open_new p 1 l w1 _ _ 0 hb (by simp [newSt]) (by unfold maxLen; omega) (by omega) ⟨h1, h2⟩ rfl)
  have hsz := hbel.size
  clear hb
  go_wp2_with fail
  refine O.out.mono ?_
  rintro e w2 ⟨rfl, hb2, ht2⟩
  go_wp2_with fail
  go_ret
  refine ⟨p, rfl, hb2.wider (fun k hk => by rcases hk with hk | hk <;> omega), ?_⟩
  exact hbel.trans (ht2.below hsz (fun k hk => hk))

def strangerE (o : Int) : Int := if o < 1 ∨ 40 < o then 2 else 7
theorem stranger_any (o : Int) (w : World) : Calls Try.prog 34 #[.int .i64 o] w (ChkPost (strangerE o) w) := by
  by_cases h1 : o < 1
  · have E := Lib.hid (show strangerE o = 2 from by unfold strangerE; rw [if_pos (Or.inl h1)])
    go_enter Try.func34, Try.ntmps34
    go_wp2
    go_ret
    exact ⟨ret_int E.out.symm, rfl⟩
  · by_cases h2 : 40 < o
    · have E := Lib.hid (show strangerE o = 2 from by unfold strangerE; rw [if_pos (Or.inr h2)])
      go_enter Try.func34, Try.ntmps34
      go_wp2
      go_ret
      exact ⟨ret_int E.out.symm, rfl⟩
    · have E := Lib.hid (show strangerE o = 7 from by unfold strangerE; rw [if_neg (by omega)])
      have h3 : 1 ≤ o := by omega
      have h4 : o ≤ 40 := by omega
      clear h1 h2
      go_enter Try.func34, Try.ntmps34
      go_wp2
      go_ret
      exact ⟨ret_int E.out.symm, rfl⟩

theorem heldE_one (l o : Int) : heldE (oneSt l) o = if o = 1 then 0 else strangerE o := by
  unfold heldE strangerE oneSt openSt newSt
  by_cases h : o = 1
  · subst h; simp
  · by_cases h2 : 1 ≤ o ∧ o ≤ 40
    · rw [if_pos h2]; simp [h]; omega
    · rw [if_neg h2, if_neg h, if_pos (by omega)]

/-- A constructor's result: an object in a new block, or an error. -/
def PtrPost (cs : Array Value) (t : TypeId) (err : Int) (w : World) : Ending → World → Prop := fun e w' =>
  Below w.heap.size w w' ∧ ((err ≠ 0 ∧ e = .returned (.tuple #[.pointer none, .int .i64 err])) ∨
    (err = 0 ∧ ∃ h, e = .returned (.tuple #[.pointer (some ⟨h, 0, none⟩), .int .i64 0]) ∧ w.heap.size ≤ h ∧ w'.heap[h]? = some (.cells cs t (0, 0))))

def heapCells (p : Nat) (o k s m : Int) : Array Value :=
  #[.pointer (some ⟨p, 0, none⟩), .int .i64 o, .int .i64 k, .int .i64 s, .int .i64 m, .bool false, .slice none 0 0, .slice none 0 0, .int .i64 0, .int .i64 0, .slice none 0 0]

def newErr (st : BookSt) (k s m o : Int) : Int := if polErr k s m = 0 then heldE st o else polErr k s m

set_option maxHeartbeats 2000000 in
set_option maxRecDepth 100000 in
theorem newHeap_any (p : Nat) (o k s m : Int) (w : World) (F : Nat → Prop) (st : BookSt) (N : Nat) (hb : BookAt w F p st N) :
    Calls Try.prog 35 #[.pointer (some ⟨p, 0, none⟩), .int .i64 o, .agg #[.int .i64 k, .int .i64 s, .int .i64 m]] w (PtrPost (heapCells p o k s m) 88 (newErr st k s m o) w) := by
  have C := checkPolicy_any k s m
  by_cases h0 : polErr k s m = 0
  · have hb2 := hb.same (Below.same_on (w' := (w.alloc (.cells #[.int .i64 k, .int .i64 s, .int .i64 m] 48)).alloc (.cells #[.int .i64 k, .int .i64 s, .int .i64 m] 48)) (by go_grown))
    have HH := Lib.hid (held_any p o _ F st N hb2)
    by_cases he : heldE st o = 0
    · have E := Lib.hid (show newErr st k s m o = 0 from by unfold newErr; rw [if_pos h0, he])
      rw [h0] at C
      rw [he] at HH
      have HC := Lib.hid C
      clear C h0 he hb hb2
      generalize heldV st o = hv at *
      go_enter Try.func35, Try.ntmps35
      go_wp2_with fail
      refine (HC.out _).mono ?_
      rintro e w1 ⟨rfl, rfl, _⟩
      go_wp2_with fail
      refine HH.out.mono ?_
      rintro e w1 ⟨rfl, rfl⟩
      go_wp2_with fail
      go_ret2
      refine ⟨by go_grown, Or.inr ⟨E.out, _, rfl, ?_, ?_⟩⟩
      · omega
      · have := heap_alloc_new ((w.alloc (.cells #[.int .i64 k, .int .i64 s, .int .i64 m] 48)).alloc (.cells #[.int .i64 k, .int .i64 s, .int .i64 m] 48)) (.cells (heapCells p o k s m) 88)
        simpa [heapCells] using this
    · have E := Lib.hid (show newErr st k s m o = heldE st o from by unfold newErr; rw [if_pos h0])
      have e1 : (heldE st o != 0) = true := bne_iff_ne.2 he
      have NE := Lib.hid he
      rw [h0] at C
      have HC := Lib.hid C
      clear C h0 hb hb2 he
      generalize heldV st o = hv at *
      generalize heldE st o = he at *
      go_enter Try.func35, Try.ntmps35
      go_wp2_with fail
      refine (HC.out _).mono ?_
      rintro e w1 ⟨rfl, rfl, _⟩
      go_wp2_with fail
      refine HH.out.mono ?_
      rintro e w1 ⟨rfl, rfl⟩
      go_wp2_with fail
      go_ret2
      refine ⟨by go_grown, Or.inl ⟨by rw [E.out]; exact NE.out, by rw [E.out]; rfl⟩⟩
  · have E := Lib.hid (show newErr st k s m o = polErr k s m from by unfold newErr; rw [if_neg h0])
    have e1 : (polErr k s m != 0) = true := bne_iff_ne.2 h0
    have NE := Lib.hid h0
    have HC := Lib.hid C
    clear C h0 hb
    generalize polErr k s m = pe at *
    go_enter Try.func35, Try.ntmps35
    go_wp2_with fail
    refine (HC.out _).mono ?_
    rintro e w1 ⟨rfl, rfl, _⟩
    go_wp2_with fail
    go_ret2
    refine ⟨by go_grown, Or.inl ⟨by rw [E.out]; exact NE.out, by rw [E.out]; rfl⟩⟩

/-- The error that the statements expect of a constructor with a policy and an owner. -/
def wantErr (k s m o : Int) : Int := if polErr k s m = 0 then (if o = 1 then 0 else strangerE o) else polErr k s m

theorem newErr_one (l k s m o : Int) : newErr (oneSt l) k s m o = wantErr k s m o := by unfold newErr wantErr; rw [heldE_one]
theorem strangerE_ne (o : Int) : strangerE o ≠ 0 := by unfold strangerE; split <;> decide

set_option maxHeartbeats 2000000 in
set_option maxRecDepth 100000 in
theorem moveMade_walk (o k s m : Int) (w : World) (_ : -9223372036854775808 ≤ o ∧ o ≤ 9223372036854775807) (_ : -9223372036854775808 ≤ k ∧ k ≤ 9223372036854775807) (_ : -9223372036854775808 ≤ s ∧ s ≤ 9223372036854775807) (_ : -9223372036854775808 ≤ m ∧ m ≤ 9223372036854775807) :
    Calls Try.prog 8 #[.int .i64 o, .agg #[.int .i64 k, .int .i64 s, .int .i64 m]] w (LawPost w) := by
  have B0 := BoxAt.new w k s m 48
  have BK := book_any 100 (w.alloc (.cells #[.int .i64 k, .int .i64 s, .int .i64 m] 48)) (by omega) (by omega)
  have PE := Lib.hid (policyError_any k s m)
  have bel0 : Below w.heap.size w (w.alloc (.cells #[.int .i64 k, .int .i64 s, .int .i64 m] 48)) := by go_grown
  by_cases h0 : polErr k s m = 0
  · by_cases ho : o = 1
    · have WE := Lib.hid (show wantErr k s m o = 0 from by unfold wantErr; rw [if_pos h0, if_pos ho])
      rw [h0] at PE
      subst ho
      clear h0
      go_enter Try.func8, Try.ntmps8
      go_wp2_with fail
      refine BK.mono ?_
      rintro e w1 ⟨p, rfl, hb1, hbel1⟩
      have B1 := B0.below hbel1
      have bel1 := bel0.trans (hbel1.mono (by simp))
      clear BK B0 hbel1
      obtain ⟨x0, x1, x2, x3⟩ := B1
      have B1 : BoxAt w1 w.heap.size k s m := ⟨x0, x1, x2, x3⟩
      go_wp2_with fail
      refine (PE.out _).mono ?_
      rintro e w2 ⟨rfl, rfl, _⟩
      have hb2 := hb1.same (Below.same_on ((Below.refl _ _).alloc (Nat.le_refl _) (.cells #[.int .i64 k, .int .i64 s, .int .i64 m] 48)))
      have NH := newHeap_any p 1 k s m _ _ _ _ hb2
      rw [newErr_one, WE.out] at NH
      have NH := Lib.hid NH
      clear hb1 hb2
      go_wp2_with fail
      refine NH.out.mono ?_
      rintro e w3 ⟨hbel3, h | ⟨_, h, rfl, _, _⟩⟩
      · exact absurd rfl h.1
      · have bel3 := bel1.trans (Below.trans (by go_grown) (hbel3.mono (Nat.le_trans bel1.size (by simp))))
        go_wp2_with fail
        go_ret
        exact ⟨by first | rfl | exact ret_bool (by simp), bel3⟩
    · have WE := Lib.hid (show wantErr k s m o = strangerE o from by unfold wantErr; rw [if_pos h0, if_neg ho])
      have SE := Lib.hid (fun w => stranger_any o w)
      have SN := strangerE_ne o
      rw [h0] at PE
      have o1 : (o != 1) = true := bne_iff_ne.2 ho
      generalize strangerE o = se at *
      have s1 : (se != 0) = true := bne_iff_ne.2 SN
      have s2 : (se == se) = true := by simp
      clear h0 ho
      go_enter Try.func8, Try.ntmps8
      go_wp2_with fail
      refine BK.mono ?_
      rintro e w1 ⟨p, rfl, hb1, hbel1⟩
      have B1 := B0.below hbel1
      have bel1 := bel0.trans (hbel1.mono (by simp))
      clear BK B0 hbel1
      obtain ⟨x0, x1, x2, x3⟩ := B1
      have B1 : BoxAt w1 w.heap.size k s m := ⟨x0, x1, x2, x3⟩
      go_wp2_with fail
      refine (PE.out _).mono ?_
      rintro e w2 ⟨rfl, rfl, _⟩
      have hb2 := hb1.same (Below.same_on ((Below.refl _ _).alloc (Nat.le_refl _) (.cells #[.int .i64 k, .int .i64 s, .int .i64 m] 48)))
      have NH := newHeap_any p o k s m _ _ _ _ hb2
      rw [newErr_one, WE.out] at NH
      have NH := Lib.hid NH
      clear hb1 hb2
      go_wp2_with fail
      refine (SE.out _).mono ?_
      rintro e w2 ⟨rfl, rfl⟩
      go_wp2_with fail
      refine NH.out.mono ?_
      rintro e w3 ⟨hbel3, ⟨_, rfl⟩ | h⟩
      · have bel3 := bel1.trans (Below.trans (by go_grown) (hbel3.mono (Nat.le_trans bel1.size (by simp))))
        go_wp2_with fail
        go_ret
        exact ⟨by first | rfl | exact ret_bool (by simp), bel3⟩
      · exact absurd h.1 SN
  · have WE := Lib.hid (show wantErr k s m o = polErr k s m from by unfold wantErr; rw [if_neg h0])
    generalize polErr k s m = pe at *
    have s1 : (pe != 0) = true := bne_iff_ne.2 h0
    have s3 : (pe == 0) = false := beq_eq_false_iff_ne.2 h0
    have s2 : (pe == pe) = true := by simp
    have SN := Lib.hid h0
    clear h0
    go_enter Try.func8, Try.ntmps8
    go_wp2_with fail
    refine BK.mono ?_
    rintro e w1 ⟨p, rfl, hb1, hbel1⟩
    have B1 := B0.below hbel1
    have bel1 := bel0.trans (hbel1.mono (by simp))
    clear BK B0 hbel1
    obtain ⟨x0, x1, x2, x3⟩ := B1
    have B1 : BoxAt w1 w.heap.size k s m := ⟨x0, x1, x2, x3⟩
    go_wp2_with fail
    refine (PE.out _).mono ?_
    rintro e w2 ⟨rfl, rfl, _⟩
    have hb2 := hb1.same (Below.same_on ((Below.refl _ _).alloc (Nat.le_refl _) (.cells #[.int .i64 k, .int .i64 s, .int .i64 m] 48)))
    have NH := newHeap_any p o k s m _ _ _ _ hb2
    rw [newErr_one, WE.out] at NH
    have NH := Lib.hid NH
    clear hb1 hb2
    go_wp2_with fail
    refine NH.out.mono ?_
    rintro e w3 ⟨hbel3, ⟨_, rfl⟩ | h⟩
    · have bel3 := bel1.trans (Below.trans (by go_grown) (hbel3.mono (Nat.le_trans bel1.size (by simp))))
      go_wp2_with fail
      go_ret
      exact ⟨by first | rfl | exact ret_bool (by simp), bel3⟩
    · exact absurd h.1 SN.out

end Go.Proofs.Yteeiohhoccgafaa
