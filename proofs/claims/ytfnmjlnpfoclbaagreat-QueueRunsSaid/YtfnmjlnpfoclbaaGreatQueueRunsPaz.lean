/-
  The reference's queue: Chunks, Look, Close. Conditions: numbers in their bounds.
  What a queue's calls do to its chunks does not depend on the chunks' blocks. (Plain.)
-/
import Derived.Test.YtfnmjlnpfoclbaaGreatQueueRunsPay
import Derived.Test.YtfnmjlnpfoclbaaGreatQueueRunsPat
import Derived.Test.YtfnmjlnpfoclbaaGreatQueueRunsPas

namespace Go.Proofs.YtfnmjlnpfoclbaaGreat
section
open Go.RowKit
set_option linter.unusedVariables false


set_option maxHeartbeats 2000000 in
set_option maxRecDepth 100000 in
theorem chunksR_any (r : Nat) (L : List QCh) (cv : Value) (w : World) (c7 : w.cell? ⟨r, 6, none⟩ = some cv) (hc : QChsIn w cv L) (hok : QChsOk L) :
    Calls Tryz.prog 15 #[.pointer (some ⟨r, 0, none⟩)] w (ChunksPost L w) := by
  obtain ⟨i0, hi0, hz0, hz1, hz2⟩ := info_parts infoCk
  obtain ⟨ca, cc, rfl, h1, h2, hc⟩ := hc
  have HC := Lib.hid hc
  have OK := Lib.hid hok
  clear hc hok
  have b63 : L.length ≤ 500 := OK.out.1
  go_enter Tryz.func15, Tryz.ntmps15
  go_wp2_with fail
  go_loopw [3, 11] (fun out i wr => ∃ k : Nat, k ≤ L.length ∧ i = .int .i64 k ∧ wr.ownsRow w.heap.size 55 3 out k ((L.take k).flatMap ckCells) ∧ Below w.heap.size w wr) (fun _ i _ => L.length - (intOf i).toNat)
  case atStart => exact ⟨0, Nat.zero_le _, rfl, World.ownsRow_nil _ _ _ _, Below.refl _ _⟩
  case round =>
    obtain ⟨k, hk, rfl, how, hb⟩ := hrel
    have hsz := hb.size
    have BL := Lib.hid hb
    have OW := Lib.hid how
    obtain ⟨oa, oc, rfl⟩ := qrow_shape how
    clear how
    by_cases hlt : k < L.length
    · obtain ⟨b, o, rfl, d0, d1, d2⟩ := HC.out k hlt
      have e0 := old_cell hb d0
      have e1 := old_cell hb d1
      have e2 := old_cell hb d2
      have T2 : Hid ((L.take (k + 1)).flatMap ckCells = (L.take k).flatMap ckCells ++ [.int .i64 (L.getD k QCh.zero).os.length, .int .i64 (L.getD k QCh.zero).fr, .int .i64 (L.getD k QCh.zero).to]) := Lib.hid (by
        rw [List.take_succ_eq_append_getElem hlt, List.flatMap_append]
        simp [ckCells, List.getD_eq_getElem?_getD, hlt])
      clear d0 d1 d2 hb
      generalize L.getD k QCh.zero = x at *
      obtain ⟨xb, xos, xf, xt⟩ := x
      simp only at *
      generalize (L.take k).flatMap ckCells = D at *
      generalize xos.length = xl at *
      have BX := Lib.hid (BL.out.alloc hsz (.cells #[.slice (some ⟨xb, 0, none⟩) xl xl, .int .i64 xf, .int .i64 xt] 101))
      have OWX := Lib.hid (OW.out.alloc (.cells #[.slice (some ⟨xb, 0, none⟩) xl xl, .int .i64 xf, .int .i64 xt] 101))
      have hszX := BX.out.size
      have ONE : Hid (∀ u ∈ [Value.int .i64 xl, .int .i64 xf, .int .i64 xt], u.oneCell' = true) := Lib.hid (by
        intro u hu
        simp at hu
        rcases hu with rfl | rfl | rfl <;> rfl)
      go_wp2_with (at_builtin; go_must (refine wpList_append_q rfl (.tmp 15) (.tmp 24) 53 rfl w.heap.size 55 i0 (.agg #[.int .i64 0, .int .i64 0, .int .i64 0]) 3 24 Tryz.underlying53 hi0 hz0 hz1 hz2 rfl (by decide) _ _ _ (wr.alloc (.cells #[.slice (some ⟨xb, 0, none⟩) xl xl, .int .i64 xf, .int .i64 xt] 101)) _ [.int .i64 xl, .int .i64 xf, .int .i64 xt] rfl (by exact OWX.out) (by rw [World.size_alloc]; rfl) rfl ONE.out (by unfold maxLen; omega) (by omega) hszX ?_))
      intro v' w1 hown hg hbel
      have B1 := Lib.hid (BX.out.trans hbel)
      have OW1 := Lib.hid hown
      clear hown hg hbel
      go_wp2_with fail
      go_round
      case rel => exact ⟨k + 1, by omega, by go_num, by rw [T2.out]; exact OW1.out, B1.out⟩
      case measure => simp [intOf]; omega
    · obtain rfl : k = L.length := by omega
      clear hlt hk hb
      rw [List.take_length] at OW
      go_wp2_with fail
      go_ret
      exact ⟨_, rfl, OW.out, BL.out⟩

set_option maxHeartbeats 2000000 in
set_option maxRecDepth 100000 in
theorem lookR_shut (r : Nat) (n : Int) (w : World) (c6 : w.cell? ⟨r, 7, none⟩ = some (.bool true)) :
    Calls Tryz.prog 35 #[.pointer (some ⟨r, 0, none⟩), .int .i64 n] w (fun e w' => e = .returned (.tuple #[.slice none 0 0, .int .i64 11]) ∧ w = w') := by
  go_enter Tryz.func35, Tryz.ntmps35
  go_wp2_with fail
  go_ret2
  exact ⟨rfl, rfl⟩

set_option maxHeartbeats 2000000 in
set_option maxRecDepth 100000 in
theorem lookR_any (r : Nat) (n : Int) (hn : -9223372036854775808 ≤ n ∧ n ≤ 9223372036854775807) (L : List QCh) (cv : Value) (w : World) (c6 : w.cell? ⟨r, 7, none⟩ = some (.bool false)) (c7 : w.cell? ⟨r, 6, none⟩ = some cv) (hc : QChsIn w cv L) (hok : QChsOk L) :
    Calls Tryz.prog 35 #[.pointer (some ⟨r, 0, none⟩), .int .i64 n] w (LookPost L n w) := by
  obtain ⟨ca, cc, rfl, h1, h2, hc⟩ := hc
  have HC := Lib.hid hc
  have OK := Lib.hid hok
  obtain ⟨hn1, hn2⟩ := hn
  clear hc hok
  have b63 : L.length ≤ 500 := OK.out.1
  by_cases hin : 0 ≤ n ∧ n < L.length
  case neg =>
    have HI := Lib.hid hin
    by_cases h0 : n < 0
    · clear hin
      go_enter Tryz.func35, Tryz.ntmps35
      go_wp2_with fail
      go_ret2
      exact ⟨Below.refl _ _, Or.inl ⟨HI.out, rfl⟩⟩
    · have h3 : (L.length : Int) ≤ n := by omega
      clear hin
      go_enter Tryz.func35, Tryz.ntmps35
      go_wp2_with fail
      go_ret2
      exact ⟨Below.refl _ _, Or.inl ⟨HI.out, rfl⟩⟩
  obtain ⟨k, rfl⟩ : ∃ k : Nat, n = k := ⟨n.toNat, by omega⟩
  have hlt : k < L.length := by omega
  have FIN : Hid (∀ p w', Below w.heap.size w w' → (0 < (L.getD k QCh.zero).to - (L.getD k QCh.zero).fr → p = some ⟨(L.getD k QCh.zero).b, (L.getD k QCh.zero).fr, none⟩) → LookPost L (k : Int) w (.returned (.tuple #[.slice p ((L.getD k QCh.zero).to - (L.getD k QCh.zero).fr) ((L.getD k QCh.zero).to - (L.getD k QCh.zero).fr), .int .i64 0])) w') := Lib.hid (fun p w' hb hp => ⟨hb, Or.inr ⟨hin, p, by rw [Int.toNat_natCast]; rfl, by rw [Int.toNat_natCast]; exact hp⟩⟩)
  obtain ⟨b, o, rfl, d0, d1, d2⟩ := HC.out k hlt
  obtain ⟨q1, q2, q3⟩ := OK.out.2 _ (qgetD_in hlt)
  clear HC
  generalize L.getD k QCh.zero = x at *
  obtain ⟨xb, xos, xf, xt⟩ := x
  simp only at *
  generalize xos.length = xl at *
  have eN : (xt : Int) - xf = ((xt - xf : Nat) : Int) := by omega
  obtain ⟨hi1, hi2⟩ := hin
  go_enter Tryz.func35, Tryz.ntmps35
  
  go_wp2_with fail
  all_goals
    go_ret2
    first
      | exact FIN.out _ _ ((Below.refl _ _).alloc (Nat.le_refl _) _) (fun h0 => by first | rfl | omega)
      | (rw [show xt - xf = 0 by omega] at FIN
         exact FIN.out _ _ ((Below.refl _ _).alloc (Nat.le_refl _) _) (fun h0 => by omega))


set_option maxHeartbeats 1000000 in
set_option maxRecDepth 100000 in
theorem closeR_shut (r : Nat) (w : World) (c6 : w.cell? ⟨r, 7, none⟩ = some (.bool true)) :
    Calls Tryz.prog 40 #[.pointer (some ⟨r, 0, none⟩)] w (fun e w' => e = .returned (.int .i64 11) ∧ w = w') := by
  go_enter Tryz.func40, Tryz.ntmps40
  go_wp2_with fail
  go_ret
  exact ⟨rfl, rfl⟩

end
end Go.Proofs.YtfnmjlnpfoclbaaGreat

namespace Go.Proofs.YtfnmjlnpfoclbaaGreat
section
open Go.RowKit
set_option linter.unusedVariables false

def QCh.bare (c : QCh) : QCh := { c with b := 0 }
/-- The same chunks, but for their blocks. -/
def SameQ (L L' : List QCh) : Prop := L.map QCh.bare = L'.map QCh.bare
theorem SameQ.nil : SameQ [] [] := rfl
theorem SameQ.len {L L' : List QCh} (h : SameQ L L') : L.length = L'.length := by have := congrArg List.length h; simpa using this
theorem bare_sum (f : QCh → Nat) (hf : ∀ c, f c.bare = f c) (L : List QCh) : qsum f (L.map QCh.bare) = qsum f L := by
  unfold qsum
  rw [List.map_map]
  congr 1
  exact List.map_congr_left (fun c _ => hf c)
theorem SameQ.sum {L L' : List QCh} (h : SameQ L L') (f : QCh → Nat) (hf : ∀ c, f c.bare = f c) : qsum f L = qsum f L' := by rw [← bare_sum f hf L, h, bare_sum f hf L']
theorem SameQ.lens {L L' : List QCh} (h : SameQ L L') : qsum QCh.len L = qsum QCh.len L' := h.sum _ (fun _ => rfl)
theorem SameQ.rooms {L L' : List QCh} (h : SameQ L L') : qsum QCh.room L = qsum QCh.room L' := h.sum _ (fun _ => rfl)
theorem bare_cont (L : List QCh) : qCont (L.map QCh.bare) = qCont L := by
  unfold qCont
  rw [List.flatMap_map]
  rfl
theorem SameQ.cont {L L' : List QCh} (h : SameQ L L') : qCont L = qCont L' := by rw [← bare_cont L, h, bare_cont L']
theorem bare_gone (n k : Nat) (c : QCh) : goneQ n k c.bare ↔ goneQ n k c := Iff.rfl
theorem bare_drop (n : Nat) : ∀ (L : List QCh) (j : Nat), (dropQ n j L).map QCh.bare = dropQ n j (L.map QCh.bare)
  | [], j => rfl
  | c :: l, j => by
    have ih := bare_drop n l (j + 1)
    by_cases hg : goneQ n j c
    · have hg' : goneQ n j c.bare := hg
      simp only [List.map_cons, dropQ, if_pos hg, if_pos hg']
      exact ih
    · have hg' : ¬ goneQ n j c.bare := hg
      simp only [List.map_cons, dropQ, if_neg hg, if_neg hg']
      rw [ih]
theorem bare_pull : ∀ (m : Nat) (L : List QCh), (pullL m L).map QCh.bare = pullL m (L.map QCh.bare)
  | _, [] => rfl
  | m, c :: l => by
    simp only [List.map_cons, pullL]
    rw [bare_pull _ l]
    rfl
theorem SameQ.drop {L L' : List QCh} (h : SameQ L L') (n j : Nat) : SameQ (dropQ n j L) (dropQ n j L') := by
  unfold SameQ at *
  rw [bare_drop, bare_drop, h]
theorem SameQ.pull {L L' : List QCh} (h : SameQ L L') (m : Nat) : SameQ (pullL m L) (pullL m L') := by
  unfold SameQ at *
  rw [bare_pull, bare_pull, h]
theorem SameQ.gone {L L' : List QCh} (h : SameQ L L') : goneN L = goneN L' := by
  unfold goneN
  rw [h.rooms, h.len, (h.drop L'.length 0).rooms]
theorem SameQ.get {L L' : List QCh} (h : SameQ L L') (k : Nat) : (L.getD k QCh.zero).bare = (L'.getD k QCh.zero).bare := by
  have e : ∀ M : List QCh, (M.getD k QCh.zero).bare = (M.map QCh.bare).getD k QCh.zero := fun M => by
    simp only [List.getD_eq_getElem?_getD, List.getElem?_map]
    cases M[k]? <;> rfl
  rw [e, e, h]
theorem SameQ.os {L L' : List QCh} (h : SameQ L L') (k : Nat) : (L.getD k QCh.zero).os = (L'.getD k QCh.zero).os := by have e := congrArg QCh.os (h.get k); exact e
theorem SameQ.fr {L L' : List QCh} (h : SameQ L L') (k : Nat) : (L.getD k QCh.zero).fr = (L'.getD k QCh.zero).fr := by have e := congrArg QCh.fr (h.get k); exact e
theorem SameQ.to {L L' : List QCh} (h : SameQ L L') (k : Nat) : (L.getD k QCh.zero).to = (L'.getD k QCh.zero).to := by have e := congrArg QCh.to (h.get k); exact e
theorem SameQ.spare {L L' : List QCh} (h : SameQ L L') (N : Nat) : spareN L N = spareN L' N := by
  unfold spareN lastQ
  rw [h.len, h.os, h.to]
theorem SameQ.many {L L' : List QCh} (h : SameQ L L') (I : QuId) (N : Nat) : manyQ I L N = manyQ I L' N := by
  unfold manyQ
  rw [h.spare]
theorem SameQ.pushE {L L' : List QCh} (h : SameQ L L') (I : QuId) (bst : BookSt) (N : Nat) : Go.Proofs.YtfnmjlnpfoclbaaGreat.pushE I L bst N = Go.Proofs.YtfnmjlnpfoclbaaGreat.pushE I L' bst N := by
  unfold Go.Proofs.YtfnmjlnpfoclbaaGreat.pushE
  rw [h.lens, h.len, h.many]
theorem SameQ.pushSt {L L' : List QCh} (h : SameQ L L') (I : QuId) (bst : BookSt) (N : Nat) : Go.Proofs.YtfnmjlnpfoclbaaGreat.pushSt I L bst N = Go.Proofs.YtfnmjlnpfoclbaaGreat.pushSt I L' bst N := by
  unfold Go.Proofs.YtfnmjlnpfoclbaaGreat.pushSt
  rw [h.lens, h.len, h.many]
theorem SameQ.app {L L' M M' : List QCh} (h : SameQ L L') (h2 : SameQ M M') : SameQ (L ++ M) (L' ++ M') := by
  unfold SameQ at *
  rw [List.map_append, List.map_append, h, h2]
theorem SameQ.more {L L' : List QCh} (h : SameQ L L') (ys : List Int) : SameQ (moreL L ys) (moreL L' ys) := by
  have hl := h.len
  have hg := h.get (L.length - 1)
  unfold SameQ moreL lastQ at *
  rw [List.map_set, List.map_set, h]
  rw [← hl]
  congr 1
  show QCh.more (QCh.bare _) ys = QCh.more (QCh.bare _) ys
  rw [hg]
theorem newChs_bare (gn : Nat) (zs : List Int) : ∀ (bs bs' xs : List Nat), bs.length = bs'.length → SameQ (newChs gn zs bs xs) (newChs gn zs bs' xs)
  | [], [], xs, _ => rfl
  | b :: l, b' :: l', [], _ => rfl
  | b :: l, b' :: l', x :: xs, h => by
    have ih := newChs_bare gn zs l l' xs (by simpa using h)
    unfold SameQ newChs at *
    simp only [List.zipWith_cons_cons, List.map_cons]
    rw [ih]
    rfl
theorem SameQ.push {L L' : List QCh} (h : SameQ L L') (I : QuId) (zs : List Int) (bs bs' : List Nat) (hb : bs.length = bs'.length) : SameQ (pushL I L zs bs) (pushL I L' zs bs') := by
  unfold pushL
  rw [h.spare, h.many]
  exact (h.more _).app (newChs_bare _ _ _ _ _ hb)
theorem SameQ.ok {L L' : List QCh} (h : SameQ L L') (hL : QChsOk L) : QChsOk L' := by
  refine ⟨by rw [← h.len]; exact hL.1, fun c hc => ?_⟩
  obtain ⟨k, hk, rfl⟩ := List.mem_iff_getElem.1 hc
  have e : L'[k] = L'.getD k QCh.zero := by simp [List.getD_eq_getElem?_getD, hk]
  have h1 := hL.2 _ (qgetD_in (show k < L.length by rw [h.len]; exact hk))
  rw [h.os, h.fr, h.to] at h1
  rw [e]
  exact h1

end
end Go.Proofs.YtfnmjlnpfoclbaaGreat
