/-
  The program's queue: Chunks, Look, Close. Conditions: numbers in their bounds.
  book, stranger, NewHeap, and the walk of MoveMade. No conditions.
  NewQueue: what it gives, for any owner. No conditions.
  The reference's book beside the plain machine: its entries are the last ones. No conditions.
  Several cells of a block stored to. No conditions.
-/
import Derived.Test.YtfnmjlnpfoclbaaGreatQueueRunsPas
import Derived.Test.YtfnmjlnpfoclbaaGreatQueueRunsPaf
import Derived.Test.YtfnmjlnpfoclbaaGreatQueueRunsPah
import Derived.Test.YtfnmjlnpfoclbaaGreatQueueRunsPai
import Derived.Test.YtfnmjlnpfoclbaaGreatQueueRunsPaj
import Derived.Test.YtfnmjlnpfoclbaaGreatQueueRunsPal
import Derived.Test.YtfnmjlnpfoclbaaGreatQueueRunsPaa

namespace Go.Proofs.YtfnmjlnpfoclbaaGreat
section
open Go.RowKit
set_option linter.unusedVariables false

def ckCells (c : QCh) : List Value := [.int .i64 c.os.length, .int .i64 c.fr, .int .i64 c.to]
theorem infoCk : (Tryz.prog.info? 55).map (fun i => (i.zero, i.size, i.bytes)) = some (some (.agg #[.int .i64 0, .int .i64 0, .int .i64 0]), 3, 24) := by kernel_rfl
def ChunksPost (L : List QCh) (w : World) : Ending → World → Prop := fun e w' => ∃ v, e = .returned v ∧ w'.ownsRow w.heap.size 55 3 v L.length (L.flatMap ckCells) ∧ Below w.heap.size w w'
/-- What Look gives: the chunk's window, fenced. -/
def LookPost (L : List QCh) (n : Int) (w : World) : Ending → World → Prop := fun e w' => Below w.heap.size w w' ∧
  ((¬ (0 ≤ n ∧ n < L.length) ∧ e = .returned (.tuple #[.slice none 0 0, .int .i64 2])) ∨
   ((0 ≤ n ∧ n < L.length) ∧ ∃ p, e = .returned (.tuple #[.slice p (L.getD n.toNat QCh.zero).len (L.getD n.toNat QCh.zero).len, .int .i64 0]) ∧ (0 < (L.getD n.toNat QCh.zero).len → p = some ⟨(L.getD n.toNat QCh.zero).b, (L.getD n.toNat QCh.zero).fr, none⟩)))

set_option maxHeartbeats 2000000 in
set_option maxRecDepth 100000 in
theorem chunksQ_any (r : Nat) (L : List QCh) (cv : Value) (w : World) (c7 : w.cell? ⟨r, 7, none⟩ = some cv) (hc : QChsIn w cv L) (hok : QChsOk L) :
    Calls Tryz.prog 14 #[.pointer (some ⟨r, 0, none⟩)] w (ChunksPost L w) := by
  obtain ⟨i0, hi0, hz0, hz1, hz2⟩ := info_parts infoCk
  obtain ⟨ca, cc, rfl, h1, h2, hc⟩ := hc
  have HC := Lib.hid hc
  have OK := Lib.hid hok
  clear hc hok
  have b63 : L.length ≤ 500 := OK.out.1
  go_enter Tryz.func14, Tryz.ntmps14
  go_wp2_with fail
  go_loopw [3, 11] (fun out i wr => ∃ k : Nat, k ≤ L.length ∧ i = .int .i64 k ∧ wr.ownsRow w.heap.size 55 3 out k ((L.take k).flatMap ckCells) ∧ Below w.heap.size w wr) (fun _ i _ => L.length - (intOf i).toNat)
  case atStart => exact ⟨0, Nat.zero_le _, rfl, World.ownsRow_nil _ _ _ _, Below.refl _ _⟩
  case round =>
    obtain ⟨k, hk, rfl, how, hb⟩ := hrel
    have hsz := hb.size
    have BL := Lib.hid hb
    have OW := Lib.hid how
    obtain ⟨oa, oc, rfl⟩ := qrow_shape how
    clear how
    by_cases hlt : k < L.length
    · obtain ⟨b, o, rfl, d0, d1, d2⟩ := HC.out k hlt
      have e0 := old_cell hb d0
      have e1 := old_cell hb d1
      have e2 := old_cell hb d2
      have T2 : Hid ((L.take (k + 1)).flatMap ckCells = (L.take k).flatMap ckCells ++ [.int .i64 (L.getD k QCh.zero).os.length, .int .i64 (L.getD k QCh.zero).fr, .int .i64 (L.getD k QCh.zero).to]) := Lib.hid (by
        rw [List.take_succ_eq_append_getElem hlt, List.flatMap_append]
        simp [ckCells, List.getD_eq_getElem?_getD, hlt])
      clear d0 d1 d2 hb
      generalize L.getD k QCh.zero = x at *
      obtain ⟨xb, xos, xf, xt⟩ := x
      simp only at *
      generalize (L.take k).flatMap ckCells = D at *
      generalize xos.length = xl at *
      have BX := Lib.hid (BL.out.alloc hsz (.cells #[.slice (some ⟨xb, 0, none⟩) xl xl, .int .i64 xf, .int .i64 xt] 103))
      have OWX := Lib.hid (OW.out.alloc (.cells #[.slice (some ⟨xb, 0, none⟩) xl xl, .int .i64 xf, .int .i64 xt] 103))
      have hszX := BX.out.size
      have ONE : Hid (∀ u ∈ [Value.int .i64 xl, .int .i64 xf, .int .i64 xt], u.oneCell' = true) := Lib.hid (by
        intro u hu
        simp at hu
        rcases hu with rfl | rfl | rfl <;> rfl)
      go_wp2_with (at_builtin; go_must (refine wpList_append_q rfl (.tmp 15) (.tmp 24) 53 rfl w.heap.size 55 i0 (.agg #[.int .i64 0, .int .i64 0, .int .i64 0]) 3 24 Tryz.underlying53 hi0 hz0 hz1 hz2 rfl (by decide) _ _ _ (wr.alloc (.cells #[.slice (some ⟨xb, 0, none⟩) xl xl, .int .i64 xf, .int .i64 xt] 103)) _ [.int .i64 xl, .int .i64 xf, .int .i64 xt] rfl (by exact OWX.out) (by rw [World.size_alloc]; rfl) rfl ONE.out (by unfold maxLen; omega) (by omega) hszX ?_))
      intro v' w1 hown hg hbel
      have B1 := Lib.hid (BX.out.trans hbel)
      have OW1 := Lib.hid hown
      clear hown hg hbel
      go_wp2_with fail
      go_round
      case rel => exact ⟨k + 1, by omega, by go_num, by rw [T2.out]; exact OW1.out, B1.out⟩
      case measure => simp [intOf]; omega
    · obtain rfl : k = L.length := by omega
      clear hlt hk hb
      rw [List.take_length] at OW
      go_wp2_with fail
      go_ret
      exact ⟨_, rfl, OW.out, BL.out⟩

set_option maxHeartbeats 2000000 in
set_option maxRecDepth 100000 in
theorem lookQ_shut (r : Nat) (n : Int) (w : World) (c6 : w.cell? ⟨r, 6, none⟩ = some (.bool true)) :
    Calls Tryz.prog 34 #[.pointer (some ⟨r, 0, none⟩), .int .i64 n] w (fun e w' => e = .returned (.tuple #[.slice none 0 0, .int .i64 11]) ∧ w = w') := by
  go_enter Tryz.func34, Tryz.ntmps34
  go_wp2_with fail
  go_ret2
  exact ⟨rfl, rfl⟩

set_option maxHeartbeats 2000000 in
set_option maxRecDepth 100000 in
theorem lookQ_any (r : Nat) (n : Int) (hn : -9223372036854775808 ≤ n ∧ n ≤ 9223372036854775807) (L : List QCh) (cv : Value) (w : World) (c6 : w.cell? ⟨r, 6, none⟩ = some (.bool false)) (c7 : w.cell? ⟨r, 7, none⟩ = some cv) (hc : QChsIn w cv L) (hok : QChsOk L) :
    Calls Tryz.prog 34 #[.pointer (some ⟨r, 0, none⟩), .int .i64 n] w (LookPost L n w) := by
  obtain ⟨ca, cc, rfl, h1, h2, hc⟩ := hc
  have HC := Lib.hid hc
  have OK := Lib.hid hok
  obtain ⟨hn1, hn2⟩ := hn
  clear hc hok
  have b63 : L.length ≤ 500 := OK.out.1
  by_cases hin : 0 ≤ n ∧ n < L.length
  case neg =>
    have HI := Lib.hid hin
    go_enter Tryz.func34, Tryz.ntmps34
    go_wp2_with fail
    refine (within_ring_no _ _ _ _ (by have := HI.out; omega)).mono ?_
    rintro e w2 ⟨rfl, rfl⟩
    go_wp2_with fail
    go_ret2
    exact ⟨Below.refl _ _, Or.inl ⟨HI.out, rfl⟩⟩
  obtain ⟨k, rfl⟩ : ∃ k : Nat, n = k := ⟨n.toNat, by omega⟩
  have hlt : k < L.length := by omega
  have FIN : Hid (∀ p w', Below w.heap.size w w' → (0 < (L.getD k QCh.zero).to - (L.getD k QCh.zero).fr → p = some ⟨(L.getD k QCh.zero).b, (L.getD k QCh.zero).fr, none⟩) → LookPost L (k : Int) w (.returned (.tuple #[.slice p ((L.getD k QCh.zero).to - (L.getD k QCh.zero).fr) ((L.getD k QCh.zero).to - (L.getD k QCh.zero).fr), .int .i64 0])) w') := Lib.hid (fun p w' hb hp => ⟨hb, Or.inr ⟨hin, p, by rw [Int.toNat_natCast]; rfl, by rw [Int.toNat_natCast]; exact hp⟩⟩)
  obtain ⟨b, o, rfl, d0, d1, d2⟩ := HC.out k hlt
  obtain ⟨q1, q2, q3⟩ := OK.out.2 _ (qgetD_in hlt)
  clear HC
  generalize L.getD k QCh.zero = x at *
  obtain ⟨xb, xos, xf, xt⟩ := x
  simp only at *
  generalize xos.length = xl at *
  have eN : (xt : Int) - xf = ((xt - xf : Nat) : Int) := by omega
  obtain ⟨hi1, hi2⟩ := hin
  go_enter Tryz.func34, Tryz.ntmps34
  go_wp2_with fail
  refine (within_ring_yes _ _ _ _ (by omega) (by omega)).mono ?_
  rintro e w2 ⟨rfl, rfl⟩
  go_wp2_with fail
  all_goals
    go_ret2
    first
      | exact FIN.out _ _ ((Below.refl _ _).alloc (Nat.le_refl _) _) (fun h0 => by first | rfl | omega)
      | (rw [show xt - xf = 0 by omega] at FIN
         exact FIN.out _ _ ((Below.refl _ _).alloc (Nat.le_refl _) _) (fun h0 => by omega))


set_option maxHeartbeats 1000000 in
set_option maxRecDepth 100000 in
theorem closeQ_shut (r : Nat) (w : World) (c6 : w.cell? ⟨r, 6, none⟩ = some (.bool true)) :
    Calls Tryz.prog 39 #[.pointer (some ⟨r, 0, none⟩)] w (fun e w' => e = .returned (.int .i64 11) ∧ w = w') := by
  go_enter Tryz.func39, Tryz.ntmps39
  go_wp2_with fail
  go_ret
  exact ⟨rfl, rfl⟩

end
end Go.Proofs.YtfnmjlnpfoclbaaGreat

namespace Go.Proofs.YtfnmjlnpfoclbaaGreat
section
open Go.RowKit

/-- The book of the statements: one account, number 1. -/
def oneSt (l : Int) : BookSt := openSt (newSt 10000000) 1 l

def BookPost (l : Int) (w : World) : Ending → World → Prop := fun e w' =>
  ∃ p, e = .returned (.pointer (some ⟨p, 0, none⟩)) ∧ BookAt w' (fun k => w.heap.size ≤ k) p (oneSt l) 1 ∧ Below w.heap.size w w'

def strangerE (o : Int) : Int := if o < 1 ∨ 40 < o then 2 else 7
theorem heldE_one (l o : Int) : heldE (oneSt l) o = if o = 1 then 0 else strangerE o := by
  unfold heldE strangerE oneSt openSt newSt
  by_cases h : o = 1
  · subst h; simp
  · by_cases h2 : 1 ≤ o ∧ o ≤ 40
    · rw [if_pos h2]; simp [h]; omega
    · rw [if_neg h2, if_neg h, if_pos (by omega)]

/-- A constructor's result: an object in a new block, or an error. -/
def PtrPost (cs : Array Value) (t : TypeId) (err : Int) (w : World) : Ending → World → Prop := fun e w' =>
  Below w.heap.size w w' ∧ ((err ≠ 0 ∧ e = .returned (.tuple #[.pointer none, .int .i64 err])) ∨
    (err = 0 ∧ ∃ h, e = .returned (.tuple #[.pointer (some ⟨h, 0, none⟩), .int .i64 0]) ∧ w.heap.size ≤ h ∧ w'.heap[h]? = some (.cells cs t (0, 0))))

def heapCells (p : Nat) (o k s m : Int) : Array Value :=
  #[.pointer (some ⟨p, 0, none⟩), .int .i64 o, .int .i64 k, .int .i64 s, .int .i64 m, .bool false, .slice none 0 0, .slice none 0 0, .int .i64 0, .int .i64 0, .slice none 0 0]

def newErr (st : BookSt) (k s m o : Int) : Int := if polErr k s m = 0 then heldE st o else polErr k s m

/-- The error that the statements expect of a constructor with a policy and an owner. -/
def wantErr (k s m o : Int) : Int := if polErr k s m = 0 then (if o = 1 then 0 else strangerE o) else polErr k s m

theorem newErr_one (l k s m o : Int) : newErr (oneSt l) k s m o = wantErr k s m o := by unfold newErr wantErr; rw [heldE_one]
theorem strangerE_ne (o : Int) : strangerE o ≠ 0 := by unfold strangerE; split <;> decide

end
end Go.Proofs.YtfnmjlnpfoclbaaGreat

namespace Go.Proofs.YtfnmjlnpfoclbaaGreat
section
open Go.RowKit
set_option linter.unusedVariables false

def quErr (st : BookSt) (k s m sz o : Int) : Int := if polErr k s m = 0 then (if 1 ≤ sz ∧ sz ≤ 100000 then (if m < sz then 12 else heldE st o) else 2) else polErr k s m

set_option maxHeartbeats 2000000 in
set_option maxRecDepth 100000 in
theorem newQueue_any (bp : Nat) (o k s m sz : Int) (w : World) (F : Nat → Prop) (bst : BookSt) (N : Nat) (hb : BookAt w F bp bst N) :
    Calls Tryz.prog 5 #[.pointer (some ⟨bp, 0, none⟩), .int .i64 o, .agg #[.int .i64 k, .int .i64 s, .int .i64 m], .int .i64 sz] w (PtrPost (quCells bp o k s m sz (.slice none 0 0)) 79 (quErr bst k s m sz o) w) := by
  have HB := Lib.hid hb
  have W1 : Below w.heap.size w (w.alloc (.cells #[.int .i64 k, .int .i64 s, .int .i64 m] 23)) := by go_grown
  have X1 : (w.alloc (.cells #[.int .i64 k, .int .i64 s, .int .i64 m] 23)).heap[w.heap.size]? = some (.cells #[.int .i64 k, .int .i64 s, .int .i64 m] 23 (0, 0)) := heap_alloc_new w _
  have HW1 := Lib.hid W1
  have HX1 := Lib.hid X1
  have EQ : Hid (quErr bst k s m sz o = if polErr k s m = 0 then (if 1 ≤ sz ∧ sz ≤ 100000 then (if m < sz then 12 else heldE bst o) else 2) else polErr k s m) := Lib.hid rfl
  unfold PtrPost
  generalize quErr bst k s m sz o = qe at *
  clear hb W1 X1
  go_enter Tryz.func5, Tryz.ntmps5
  go_wp2_with fail
  refine (checkPolicy_any k s m _).mono ?_
  rintro e w2 ⟨rfl, rfl, _⟩
  have hs1 := HW1.out.size
  have B2 := Lib.hid (HW1.out.alloc hs1 (.cells #[.int .i64 k, .int .i64 s, .int .i64 m] 23))
  have X2 := Lib.hid ((heap_alloc_old (w.alloc (.cells #[.int .i64 k, .int .i64 s, .int .i64 m] 23)) (.cells #[.int .i64 k, .int .i64 s, .int .i64 m] 23) (lt_of HX1.out)).trans HX1.out)
  clear HX1 HW1 hs1
  generalize (w.alloc (.cells #[.int .i64 k, .int .i64 s, .int .i64 m] 23)).alloc (.cells #[.int .i64 k, .int .i64 s, .int .i64 m] 23) = w2 at *
  by_cases e1 : polErr k s m = 0
  case neg =>
    have HE1 := Lib.hid e1
    have e1' : (polErr k s m == 0) = false := by simpa using e1
    have EQ2 : Hid (qe = polErr k s m) := Lib.hid (by rw [EQ.out, if_neg e1])
    clear EQ e1
    generalize polErr k s m = E at *
    go_wp2_with fail
    go_ret2
    refine ⟨B2.out, Or.inl ?_⟩
    rw [EQ2.out]
    exact ⟨HE1.out, rfl⟩
  have EQ2 : Hid (qe = if 1 ≤ sz ∧ sz ≤ 100000 then (if m < sz then 12 else heldE bst o) else 2) := Lib.hid (by rw [EQ.out, if_pos e1])
  rw [e1]
  clear e1 EQ
  have x0 : w2.cell? ⟨w.heap.size, 0, none⟩ = some (.int .i64 k) := by rw [cell_of X2.out]; rfl
  have x1 : w2.cell? ⟨w.heap.size, 1, none⟩ = some (.int .i64 s) := by rw [cell_of X2.out]; rfl
  have x2 : w2.cell? ⟨w.heap.size, 2, none⟩ = some (.int .i64 m) := by rw [cell_of X2.out]; rfl
  have hs2 := B2.out.size
  by_cases hz : 1 ≤ sz ∧ sz ≤ 100000
  case neg =>
    have HZ := Lib.hid hz
    have EQ3 : Hid (qe = 2) := Lib.hid (by rw [EQ2.out, if_neg hz])
    clear hz EQ2
    go_wp2_with fail
    refine (within_ring_no _ _ _ _ HZ.out).mono ?_
    rintro e w3 ⟨rfl, rfl⟩
    go_wp2_with fail
    go_ret2
    refine ⟨B2.out, Or.inl ?_⟩
    rw [EQ3.out]
    exact ⟨by simp, rfl⟩
  have EQ3 : Hid (qe = if m < sz then 12 else heldE bst o) := Lib.hid (by rw [EQ2.out, if_pos hz])
  obtain ⟨z1, z2⟩ := hz
  clear EQ2
  by_cases hm : m < sz
  · have EQ4 : Hid (qe = 12) := Lib.hid (by rw [EQ3.out, if_pos hm])
    clear EQ3
    go_wp2_with fail
    refine (within_ring_yes _ _ _ _ z1 z2).mono ?_
    rintro e w3 ⟨rfl, rfl⟩
    go_wp2_with fail
    go_ret2
    refine ⟨B2.out, Or.inl ?_⟩
    rw [EQ4.out]
    exact ⟨by simp, rfl⟩
  · have HH := Lib.hid (held_any bp o w2 _ bst N (HB.out.narrow.same (fun k hk _ => B2.out.block k hk.2)))
    have EQ4 : Hid (qe = heldE bst o) := Lib.hid (by rw [EQ3.out, if_neg hm])
    clear EQ3
    generalize heldE bst o = he at *
    go_wp2_with fail
    refine (within_ring_yes _ _ _ _ z1 z2).mono ?_
    rintro e w3 ⟨rfl, rfl⟩
    go_wp2_with fail
    refine HH.out.mono ?_
    rintro e w3 ⟨rfl, rfl⟩
    by_cases h0 : he = 0
    · subst h0
      go_wp2_with fail
      go_ret2
      refine ⟨B2.out.alloc hs2 _, Or.inr ?_⟩
      exact ⟨EQ4.out, w2.heap.size, rfl, hs2, heap_alloc_new w2 _⟩
    · have H0 := Lib.hid h0
      go_wp2_with fail
      go_ret2
      refine ⟨B2.out, Or.inl ?_⟩
      rw [EQ4.out]
      exact ⟨H0.out, rfl⟩

end
end Go.Proofs.YtfnmjlnpfoclbaaGreat

namespace Go.Proofs.YtfnmjlnpfoclbaaGreat
section
set_option linter.unusedVariables false

/-- The last 5000. -/
def last5 (l : List Ent) : List Ent := l.drop (l.length - 5000)
theorem last5_of {l : List Ent} {k : Nat} (h : l.length - 5000 = k) : last5 l = l.drop k := by subst h; rfl
theorem last5_idem (l : List Ent) : last5 (last5 l) = last5 l := by
  unfold last5
  rw [List.length_drop, List.drop_drop]
  have e : l.length - 5000 + (l.length - (l.length - 5000) - 5000) = l.length - 5000 := by omega
  rw [e]
theorem last5_snoc (l : List Ent) (e : Ent) : last5 (last5 l ++ [e]) = last5 (l ++ [e]) := by
  by_cases h : l.length ≤ 5000
  · have e0 : last5 l = l := by unfold last5; rw [Nat.sub_eq_zero_of_le h, List.drop_zero]
    rw [e0]
  · have h2 : (l ++ [e]).length = l.length + 1 := by simp
    have e2 : (l ++ [e]).length - 5000 = (l.length - 5000) + 1 := by rw [h2]; clear h2; omega
    have hl : (last5 l).length = 5000 := by unfold last5; rw [List.length_drop]; omega
    have e1 : (last5 l ++ [e]).length - 5000 = 1 := by rw [List.length_append, hl, List.length_singleton]
    have u1 : last5 (last5 l ++ [e]) = (last5 l ++ [e]).drop 1 := last5_of e1
    have u2 : last5 (l ++ [e]) = (l ++ [e]).drop ((l.length - 5000) + 1) := last5_of e2
    have u3 : last5 l = l.drop (l.length - 5000) := rfl
    rw [u1, u2, List.drop_append_of_le_length (by omega), List.drop_append_of_le_length (by omega), u3, List.drop_drop]
theorem last5_trim (l : List Ent) : last5 (trimE l) = last5 l := by
  unfold trimE
  split
  · have e : 5001 + (l.length - 5001 - 5000) = l.length - 5000 := by omega
    unfold last5
    rw [List.length_drop, List.drop_drop, e]
  · rfl
theorem last5_note (st : BookSt) (e : Ent) : last5 (st.note e).entries = last5 (last5 st.entries ++ [e]) := by
  rw [last5_snoc]
  exact last5_trim _
theorem last5_len (l : List Ent) : (last5 l).length ≤ 5000 := by unfold last5; rw [List.length_drop]; omega

/-! Pass: the reference sorts all leases, and ends those that are over. -/
theorem leLea_trans (a b c : Lea) (h1 : leLea a b = true) (h2 : leLea b c = true) : leLea a c = true := by
  unfold leLea at *
  simp only [decide_eq_true_eq] at *
  omega
theorem leLea_total (a b : Lea) : (leLea a b || leLea b a) = true := by
  unfold leLea
  simp only [Bool.or_eq_true, decide_eq_true_eq]
  omega
theorem leLea_anti {a b : Lea} (h1 : leLea a b = true) (h2 : leLea b a = true) : a.untl = b.untl ∧ a.no = b.no := by
  unfold leLea at *
  simp only [decide_eq_true_eq] at *
  omega
theorem over_sorted {st : BookSt} (g : Good st) (now : Int) : (st.leases.mergeSort leLea).filter (fun l => decide (l.untl ≤ now)) = overL st now := by
  unfold overL
  have hp : ((st.leases.mergeSort leLea).filter (fun l => decide (l.untl ≤ now))).Perm ((st.leases.filter fun l => decide (l.untl ≤ now)).mergeSort leLea) :=
    ((List.mergeSort_perm st.leases leLea).filter _).trans (List.mergeSort_perm _ leLea).symm
  have h1 : ((st.leases.mergeSort leLea).filter (fun l => decide (l.untl ≤ now))).Pairwise (fun a b => leLea a b = true) :=
    (List.pairwise_mergeSort leLea_trans leLea_total st.leases).filter _
  have h2 : ((st.leases.filter fun l => decide (l.untl ≤ now)).mergeSort leLea).Pairwise (fun a b => leLea a b = true) := List.pairwise_mergeSort leLea_trans leLea_total _
  refine hp.eq_of_pairwise (fun a b ha hb hab hba => ?_) h1 h2
  have ha' : a ∈ st.leases := by
    have := List.mem_filter.1 ha
    exact (List.mergeSort_perm st.leases leLea).mem_iff.1 this.1
  have hb' : b ∈ st.leases := by
    have := (List.mergeSort_perm _ leLea).mem_iff.1 hb
    exact (List.mem_filter.1 this).1
  have hno := (leLea_anti hab hba).2
  obtain ⟨i, hi, rfl⟩ := List.mem_iff_getElem.1 ha'
  obtain ⟨j, hj, rfl⟩ := List.mem_iff_getElem.1 hb'
  have hpw := List.pairwise_iff_getElem.1 g.nos
  rcases Nat.lt_trichotomy i j with h | rfl | h
  · have := hpw i j (by simpa using hi) (by simpa using hj) h
    simp at this; omega
  · rfl
  · have := hpw j i (by simpa using hj) (by simpa using hi) h
    simp at this; omega

theorem sumN_le {f g : Int → Int} : ∀ n : Nat, (∀ o : Int, 1 ≤ o → o ≤ n → f o ≤ g o) → sumN f n ≤ sumN g n
  | 0, _ => Int.le_refl _
  | n + 1, h => by
    have h1 := sumN_le n (fun o h1 h2 => h o h1 (by omega))
    have h2 := h ((n : Int) + 1) (by omega) (by omega)
    simp only [sumN]; omega
/-! How many accounts there are. -/
def accOne (a : Option (Int × Int × Int)) : Int := if a.isSome then 1 else 0
def accCnt (acc : Int → Option (Int × Int × Int)) : Int := sumN (fun o => accOne (acc o)) 40
theorem accCnt_le (acc : Int → Option (Int × Int × Int)) : accCnt acc ≤ 40 := by
  have h := sumN_le (f := fun o => accOne (acc o)) (g := fun _ => 1) 40 (fun o _ _ => by show accOne (acc o) ≤ 1; unfold accOne; split <;> omega)
  have e : sumN (fun _ => 1) 40 = 40 := by decide
  rw [e] at h
  exact h
theorem accCnt_upd (acc : Int → Option (Int × Int × Int)) (o : Int) (a : Option (Int × Int × Int)) (h1 : 1 ≤ o) (h2 : o ≤ 40) : accCnt (fun x => if x = o then a else acc x) = accCnt acc - accOne (acc o) + accOne a := by
  unfold accCnt
  rw [← sumN_upd (fun o => accOne (acc o)) o (accOne a) 40 h1 h2]
  exact sumN_congr 40 (fun x _ _ => by by_cases h : x = o <;> simp [h])

end
end Go.Proofs.YtfnmjlnpfoclbaaGreat

namespace Go.Proofs.YtfnmjlnpfoclbaaGreat
section
open Go.RowKit
set_option linter.unusedVariables false

theorem heap_setCells_other (b : Nat) : ∀ (vs : List Value) (o : Nat) (w : World) (k : Nat), k ≠ b → (w.setCells b o vs).heap[k]? = w.heap[k]?
  | [], _, _, _, _ => rfl
  | v :: vs, o, w, k, h => (heap_setCells_other b vs (o + 1) _ k h).trans (Below.heap_setCell w ⟨b, o, none⟩ v k h)
theorem size_setCells (b : Nat) : ∀ (vs : List Value) (o : Nat) (w : World), (w.setCells b o vs).heap.size = w.heap.size
  | [], _, _ => rfl
  | v :: vs, o, w => (size_setCells b vs (o + 1) _).trans (by simp [World.setCell])
theorem setCells_rest (b : Nat) : ∀ (vs : List Value) (o : Nat) (w : World), (w.setCells b o vs).os = w.os ∧ (w.setCells b o vs).tape = w.tape ∧ (w.setCells b o vs).output = w.output
  | [], _, _ => ⟨rfl, rfl, rfl⟩
  | v :: vs, o, w => setCells_rest b vs (o + 1) _
theorem block_setCells {b : Nat} {t : TypeId} : ∀ (vs : List Value) (o : Nat) (w : World) (cur : Array Value), w.heap[b]? = some (.cells cur t (0, 0)) → o + vs.length ≤ cur.size →
    ∃ cur', (w.setCells b o vs).heap[b]? = some (.cells cur' t (0, 0)) ∧ cur'.size = cur.size ∧ cur'.toList = cur.toList.take o ++ vs ++ cur.toList.drop (o + vs.length)
  | [], o, w, cur, h, _ => ⟨cur, h, rfl, by simp⟩
  | v :: vs, o, w, cur, h, hl => by
    simp at hl
    obtain ⟨cur', h1, h2, h3⟩ := block_setCells vs (o + 1) (w.setCell ⟨b, o, none⟩ v) (cur.setIfInBounds o v) (block_setCell h o v) (by simp; omega)
    refine ⟨cur', h1, by simpa using h2, ?_⟩
    rw [h3, Array.toList_setIfInBounds]
    have ho : o < cur.toList.length := by simp; omega
    rw [List.drop_set_of_lt (by omega), List.take_add_one, List.take_set_of_le (by omega), List.getElem?_set_self ho]
    simp [Nat.add_comm, Nat.add_left_comm]

end
end Go.Proofs.YtfnmjlnpfoclbaaGreat
