/-
  Each call of QueueRuns on both sides: they answer alike, and both are turned alike. No conditions.
  Pull, Look, Join, Close of QueueRuns on both sides. No conditions.
-/
import Derived.Test.YtfnmjlnpfoclbaaGreatQueueRunsPbp
import Derived.Test.YtfnmjlnpfoclbaaGreatQueueRunsPad

namespace Go.Proofs.YtfnmjlnpfoclbaaGreat
section
open Go.RowKit
set_option linter.unusedVariables false

def QIx (w0 : World) (I J I' J' : QuId) (cp n N : Nat) (X : Nat → Prop) (w : World) : Prop := ∃ c d L M L' M' b A G A' G' R prs, QI w0 I J I' J' cp n N X c d L M L' M' b A G A' G' R prs w
section
variable {w0 w w1 w2 : World} {I J I' J' : QuId} {cp n N : Nat} {X : Nat → Prop} {c d c2 d2 : Bool} {L M L' M' L2 M2 L2' M2' : List QCh} {b b2 : BookSt} {A G A' G' A2 G2 A2' G2' : Nat → Prop} {R : Rel} {prs : List (Value × Value)}
theorem QIx.swap (h : QIx w0 I J I' J' cp n N X w) : QIx w0 J I J' I' cp n N X w := by
  obtain ⟨c, d, L, M, L', M', b, A, G, A', G', R, prs, h⟩ := h
  exact ⟨_, _, _, _, _, _, _, _, _, _, _, _, _, h.swap⟩
theorem StayX.below (hx : ∀ k, X k → k < w.heap.size) (hb : Below w.heap.size w w1) : StayX X w w1 := fun k hk => hb.block k (hx k hk)
theorem StayX.trans (h : StayX X w w1) (h2 : StayX X w1 w2) : StayX X w w2 := fun k hk => (h2 k hk).trans (h k hk)
theorem QI.half (h : QI w0 I J I' J' cp n N X c d L M L' M' b A G A' G' R prs w) (t : Touch (fun k => A k ∨ G k) w w1) : StayX X w w1 ∧ RfdAt w1 I' J' c d L' M' b A' G' :=
  ⟨fun k hk => by
    obtain ⟨x1, x2, x3, x4, x5⟩ := h.xx k hk
    exact t.block k x5 x1, h.r.touch t (fun k hk hz => h.ds k hz hk)⟩
theorem QI.xl (h : QI w0 I J I' J' cp n N X c d L M L' M' b A G A' G' R prs w) : ∀ k, X k → k < w.heap.size := fun k hk => (h.xx k hk).2.2.2.2

set_option maxHeartbeats 1000000 in
theorem op_push (h : QI w0 I J I' J' cp n N X c d L M L' M' b A G A' G' R prs w) (v : Value) (zs : List Int) (hv : ∀ W, Below w0.heap.size w0 W → Reads W .u8 v zs) (hz : bytes zs) (hN : zs.length ≤ 140737488351232) :
    Calls Tryz.prog 29 #[.pointer (some ⟨I.r, 0, none⟩), v] w (fun e w1 => ∃ z : Int, e = .returned (.int .i64 z) ∧ StayX X w w1 ∧
      Calls Tryz.prog 30 #[.pointer (some ⟨I'.r, 0, none⟩), v] w1 (fun e2 w2 => e2 = .returned (.int .i64 z) ∧ QIx w0 I J I' J' cp n N X w2 ∧ StayX X w w2)) := by
  have hz0 := h.bel.size
  cases c with
  | true =>
    obtain ⟨F, E, q, o, fe, hA⟩ := h.p.qo
    refine (pushQ_shut I.r v w (q.lt q.fr) q.flag).mono ?_
    rintro e w1 ⟨rfl, hb1⟩
    have h1 := h.below hb1
    obtain ⟨F', E', q', o', _, _⟩ := h1.r.qo
    obtain ⟨cv, c6, _⟩ := q'.raw
    have c7 := q'.flag
    rcases q' with ⟨e, _⟩ | ⟨_, _, sh, _⟩
    · cases e
    refine ⟨11, rfl, StayX.below h.xl hb1, (pushR_shut I'.r v w1 c7 (by rw [cell_of sh]; rfl)).mono ?_⟩
    rintro e w2 ⟨rfl, hb2⟩
    exact ⟨rfl, ⟨_, _, _, _, _, _, _, _, _, _, _, _, _, h1.below hb2⟩, (StayX.below h.xl hb1).trans (StayX.below h1.xl hb2)⟩
  | false =>
    obtain ⟨F, E, qr, q, o, fe, hA⟩ := h.p.opn
    refine (push_any I L b N F G v zs w qr (fun w' t => hv w' (h.bel.trans (t.below hz0 (fun k hk => h.z k (Or.inl (hk.imp (fun x => (hA k).2 (Or.inl x)) id)))))) hN).mono ?_
    rintro e w1 ⟨rfl, hno, hyes⟩
    have okL : ∀ c ∈ L, ChOk c := fun c hc => qr.ok.2 c hc
    by_cases hE : pushE I L b zs.length = 0
    · obtain ⟨bs, hbl, hbn, F2, G2, q2, l1, l2, t⟩ := hyes hE
      obtain ⟨A2, p2, a1, t1⟩ := h.p.next (fun k hk => q.lt hk) o fe hA q2 l1 l2 t
      obtain ⟨st1, r1⟩ := h.half t1
      obtain ⟨F', E', rr, q', o', fe', hA'⟩ := r1.opn
      refine ⟨_, rfl, st1, (pushR_any I' L' b F' G' v zs w1 rr (hv w1 (h.bel.trans (t1.below hz0 (fun k hk => h.z k (Or.inl hk))))) hN).mono ?_⟩
      rintro e w2 ⟨rfl, _, hyes2⟩
      have eE : pushE I' L' b zs.length = pushE I L b zs.length := by rw [h.ii.pushE, ← h.sl.pushE]
      have eS : pushSt I' L' b zs.length = pushSt I L b zs.length := by rw [h.ii.pushSt, ← h.sl.pushSt]
      obtain ⟨bs', hbl', hbn', F3, G3, r3, m1, m2, t2⟩ := hyes2 (eE.trans hE)
      rw [h.ii.pushL] at r3
      rw [eS] at r3
      obtain ⟨A3, rd, a3, t3⟩ := r1.next (fun k hk => q'.lt hk) o' fe' hA' r3 m1 m2 t2
      have hs2 : SameQ (pushL I L zs bs) (pushL I L' zs bs') := h.sl.push I zs bs bs' (by rw [hbl, hbl', h.ii.many, h.sl.many])
      obtain ⟨⟨R2, hq⟩, hst⟩ := h.turn p2 a1 l2 t1 rd a3 m2 t3 hs2 h.sm (fun x hx => hx.elim (push_bytes (fun x hx => h.byt x (Or.inl hx)) hz x) (fun hx => h.byt x (Or.inr hx)))
        (fun x y hxy => by
          rcases hxy with hxy | hxy
          · rcases push_step h.sl okL hbn hbn' hxy with ⟨x0, y0, k1, k2⟩ | k
            · exact Or.inl ⟨x0, y0, Or.inl k1, k2⟩
            · exact Or.inr k
          · exact Or.inl ⟨x, y, Or.inr hxy, rfl, rfl, rfl⟩)
        (fun x y hxy => Or.inl (by
          rcases hxy with hxy | hxy
          · obtain ⟨x2, y2, k1, k2⟩ := push_stay (I := I) (zs := zs) (bs := bs) (bs' := bs') h.sl okL (h.sl.chok okL) hxy
            exact ⟨x2, y2, Or.inl k1, k2⟩
          · exact ⟨x, y, Or.inr hxy, rfl, rfl, rfl⟩))
      exact ⟨by rw [eE], ⟨_, _, _, _, _, _, _, _, _, _, _, _, _, hq⟩, hst⟩
    · obtain ⟨F2, G2, q2, l1, l2, t⟩ := hno hE
      obtain ⟨A2, p2, a1, t1⟩ := h.p.next (fun k hk => q.lt hk) o fe hA q2 l1 l2 t
      obtain ⟨st1, r1⟩ := h.half t1
      obtain ⟨F', E', rr, q', o', fe', hA'⟩ := r1.opn
      refine ⟨_, rfl, st1, (pushR_any I' L' b F' G' v zs w1 rr (hv w1 (h.bel.trans (t1.below hz0 (fun k hk => h.z k (Or.inl hk))))) hN).mono ?_⟩
      rintro e w2 ⟨rfl, hno2, _⟩
      have eE : pushE I' L' b zs.length = pushE I L b zs.length := by rw [h.ii.pushE, ← h.sl.pushE]
      have eS : pushSt I' L' b zs.length = pushSt I L b zs.length := by rw [h.ii.pushSt, ← h.sl.pushSt]
      obtain ⟨F3, G3, r3, m1, m2, t2⟩ := hno2 (by rw [eE]; exact hE)
      rw [eS] at r3
      obtain ⟨A3, rd, a3, t3⟩ := r1.next (fun k hk => q'.lt hk) o' fe' hA' r3 m1 m2 t2
      obtain ⟨⟨R2, hq⟩, hst⟩ := h.turn p2 a1 l2 t1 rd a3 m2 t3 h.sl h.sm h.byt (fun x y hxy => Or.inl ⟨x, y, hxy, rfl, rfl, rfl⟩) (fun x y hxy => Or.inl ⟨x, y, hxy, rfl, rfl, rfl⟩)
      exact ⟨by rw [eE], ⟨_, _, _, _, _, _, _, _, _, _, _, _, _, hq⟩, hst⟩
end

end
end Go.Proofs.YtfnmjlnpfoclbaaGreat

namespace Go.Proofs.YtfnmjlnpfoclbaaGreat
section
open Go.RowKit
set_option linter.unusedVariables false

section
variable {w0 w w1 w2 : World} {I J I' J' : QuId} {cp n N : Nat} {X : Nat → Prop} {c d c2 d2 : Bool} {L M L' M' L2 M2 L2' M2' : List QCh} {b b2 : BookSt} {A G A' G' A2 G2 A2' G2' : Nat → Prop} {R : Rel} {prs : List (Value × Value)}
theorem QI.ix (h : QI w0 I J I' J' cp n N X c d L M L' M' b A G A' G' R prs w) : QIx w0 I J I' J' cp n N X w := ⟨_, _, _, _, _, _, _, _, _, _, _, _, _, h⟩
theorem reads_none (W : World) : Reads W .u8 (.slice none 0 0) [] := ⟨none, 0, rfl, by simp, fun h => absurd rfl h⟩
theorem QI.shutR (h : QI w0 I J I' J' cp n N X true d L M L' M' b A G A' G' R prs w) : w.cell? ⟨I'.r, 7, none⟩ = some (.bool true) ∧ w.cell? ⟨I'.r, 6, none⟩ = some (.slice none 0 0) := by
  obtain ⟨F', E', q', o', _, _⟩ := h.r.qo
  have c7 := q'.flag
  rcases q' with ⟨e, _⟩ | ⟨_, _, sh, _⟩
  · cases e
  exact ⟨c7, by rw [cell_of sh]; rfl⟩
theorem QI.shutQ (h : QI w0 I J I' J' cp n N X true d L M L' M' b A G A' G' R prs w) : w.cell? ⟨I.r, 6, none⟩ = some (.bool true) := by
  obtain ⟨F', E', q', o', _, _⟩ := h.p.qo
  exact q'.flag

def PullEnd (I' : QuId) (m : Int) (w : World) (X : Nat → Prop) (Q : World → Prop) : Ending → World → Prop := fun e w1 => ∃ (v : Value) (zs : List Int) (z : Int), e = .returned (.tuple #[v, .int .i64 z]) ∧ StayX X w w1 ∧ (∃ a c, v = .slice a zs.length c) ∧
  Calls Tryz.prog 32 #[.pointer (some ⟨I'.r, 0, none⟩), .int .i64 m] w1 (fun e2 w2 => ∃ v2, e2 = .returned (.tuple #[v2, .int .i64 z]) ∧ (∃ a c, v2 = .slice a zs.length c) ∧ Reads w2 .u8 v zs ∧ Reads w2 .u8 v2 zs ∧ Q w2 ∧ StayX X w w2)

set_option maxHeartbeats 1000000 in
theorem op_pull (h : QI w0 I J I' J' cp n N X c d L M L' M' b A G A' G' R prs w) (m : Int) :
    Calls Tryz.prog 31 #[.pointer (some ⟨I.r, 0, none⟩), .int .i64 m] w (PullEnd I' m w X (QIx w0 I J I' J' cp n N X)) := by
  have hz0 := h.bel.size
  cases c with
  | true =>
    refine (pullQ_shut I.r m w h.shutQ).mono ?_
    rintro e w1 ⟨rfl, hb1⟩
    have h1 := h.below hb1
    refine ⟨_, [], 11, rfl, StayX.below h.xl hb1, ⟨none, 0, rfl⟩, (pullR_shut I'.r m w1 h1.shutR.1 h1.shutR.2).mono ?_⟩
    rintro e w2 ⟨rfl, hb2⟩
    exact ⟨_, rfl, ⟨none, 0, rfl⟩, reads_none _, reads_none _, (h1.below hb2).ix, (StayX.below h.xl hb1).trans (StayX.below h1.xl hb2)⟩
  | false =>
    obtain ⟨F, E, qr, q, o, fe, hA⟩ := h.p.opn
    have okL : ∀ c ∈ L, ChOk c := fun c hc => qr.ok.2 c hc
    by_cases hin : 0 ≤ m ∧ m ≤ (qsum QCh.len L : Nat)
    case neg =>
      obtain ⟨cv, hm⟩ := qr.qu
      refine (pullQ_bad I L cv F m w hm qr.ok hin).mono ?_
      rintro e w1 ⟨rfl, hb1⟩
      have h1 := h.below hb1
      obtain ⟨F', E', rr, _⟩ := h1.r.opn
      obtain ⟨cv', hm'⟩ := rr.qu
      refine ⟨_, [], 2, rfl, StayX.below h.xl hb1, ⟨none, 0, rfl⟩, (pullR_bad I' L' cv' F' m w1 hm' rr.ok (by rw [← h.sl.lens]; exact hin)).mono ?_⟩
      rintro e w2 ⟨rfl, hb2⟩
      exact ⟨_, rfl, ⟨none, 0, rfl⟩, reads_none _, reads_none _, (h1.below hb2).ix, (StayX.below h.xl hb1).trans (StayX.below h1.xl hb2)⟩
    obtain ⟨k, rfl⟩ : ∃ k : Nat, m = k := ⟨m.toNat, by omega⟩
    have hk : k ≤ qsum QCh.len L := by omega
    have hsum := qr.ok.sum L.length
    rw [List.take_length] at hsum
    refine (pull_any I L b N F G k w qr hk).mono ?_
    rintro e w1 ⟨v, rfl, hrow, ⟨F2, G2, q2, l1, l2, t⟩, ost⟩
    have hzl : ((qCont L).take k).length = k := by rw [List.length_take, qCont_len okL]; omega
    obtain ⟨A2, p2, a1, t1⟩ := h.p.next (fun k hk => q.lt hk) o fe hA q2 l1 l2 t
    obtain ⟨st1, r1⟩ := h.half t1
    obtain ⟨F', E', rr, q', o', fe', hA'⟩ := r1.opn
    have hs1 := t1.size
    refine ⟨v, (qCont L).take k, 0, rfl, st1, by rw [hzl]; exact qrow_shape hrow, (pullR_any I' L' b F' G' k w1 rr (by rw [← h.sl.lens]; exact hk)).mono ?_⟩
    rintro e w2 ⟨v2, rfl, hrow2, ⟨F3, G3, r3, m1, m2, t2⟩, ost2⟩
    rw [← h.sl.len, h.ii.1, ← (h.sl.pull k).gone] at r3
    rw [← h.sl.cont] at hrow2
    obtain ⟨A3, rd, a3, t3⟩ := r1.next (fun k hk => q'.lt hk) o' fe' hA' r3 m1 m2 t2
    have hsp := h.sl.pull k
    obtain ⟨⟨R2, hq⟩, hst⟩ := h.turn p2 a1 l2 t1 rd a3 m2 t3 (hsp.drop L.length 0) h.sm (fun x hx => hx.elim (pull_bytes (fun x hx => h.byt x (Or.inl hx)) x) (fun hx => h.byt x (Or.inr hx)))
      (fun x y hxy => by
        rcases hxy with hxy | hxy
        · obtain ⟨x0, y0, k1, k2⟩ := (pullL_like k L).step (pullL_like k L') (dropQ_zip L.length _ _ 0 x y hsp hxy)
          exact Or.inl ⟨x0, y0, Or.inl k1, k2⟩
        · exact Or.inl ⟨x, y, Or.inr hxy, rfl, rfl, rfl⟩)
      (fun x y hxy => by
        rcases hxy with hxy | hxy
        · exact Or.inr ⟨ost x (List.of_mem_zip hxy).1, ost2 y (List.of_mem_zip hxy).2⟩
        · exact Or.inl ⟨x, y, Or.inr hxy, rfl, rfl, rfl⟩)
    have R1 : Reads w2 .u8 v ((qCont L).take k) := by
      refine Reads.own (B := w.heap.size) (t := 5) ?_ (by rw [hzl]; omega)
      rw [hzl]
      refine ownsRow_same hrow (fun j hj => t3.block j (hrow.lt j hj).2 (fun e => ?_))
      have h1 := (hrow.lt j hj).1
      have h2 := e.elim h.r.al (h.r.gl j)
      omega
    have R2' : Reads w2 .u8 v2 ((qCont L).take k) := Reads.own (B := w1.heap.size) (t := 5) (by rw [hzl]; exact hrow2) (by rw [hzl]; omega)
    exact ⟨v2, rfl, by rw [hzl]; exact qrow_shape hrow2, R1, R2', hq.ix, hst⟩

def LookEnd (I' : QuId) (cp : Nat) (m : Int) (w : World) (X : Nat → Prop) (Q : World → Prop) : Ending → World → Prop := fun e w1 => ∃ (u : Value) (z : Int), e = .returned (.tuple #[u, .int .i64 z]) ∧ StayX X w w1 ∧ (∃ a k, u = .slice a k k) ∧
  Calls Tryz.prog 35 #[.pointer (some ⟨I'.r, 0, none⟩), .int .i64 m] w1 (fun e2 w2 => ∃ v, e2 = .returned (.tuple #[v, .int .i64 z]) ∧ StayX X w w2 ∧ (∃ a k, v = .slice a k k) ∧
    Calls Tryz.prog 36 #[.pointer (some ⟨cp, 0, none⟩), u, v] w2 (fun e3 w3 => e3 = .returned (.bool true) ∧ Q w3 ∧ StayX X w w3))
theorem QI.fence (h : QI w0 I J I' J' cp n N X c d L M L' M' b A G A' G' R prs w) (hn : n < 5500000000000) {u v : Value} (hxy : Pr R (u, v)) (hf : ∃ a k, u = .slice a k k) :
    Calls Tryz.prog 36 #[.pointer (some ⟨cp, 0, none⟩), u, v] w (fun e3 w3 => e3 = .returned (.bool true) ∧ QIx w0 I J I' J' cp (n + 1) N X w3 ∧ StayX X w w3) := by
  refine (fenced_any cp w0.heap.size R prs u v w h.ca h.ct h.pr hxy (Nat.lt_of_le_of_lt h.few hn) h.bel.size hf).mono ?_
  rintro e w3 ⟨rfl, k1, k2, k3⟩
  obtain ⟨q1, q2⟩ := h.seen k1 k2 k3 hxy
  exact ⟨rfl, q1.ix, q2⟩
set_option maxHeartbeats 1000000 in
theorem op_look (h : QI w0 I J I' J' cp n N X c d L M L' M' b A G A' G' R prs w) (m : Int) (hm : -9223372036854775808 ≤ m ∧ m ≤ 9223372036854775807) (hn : n < 5500000000000) :
    Calls Tryz.prog 34 #[.pointer (some ⟨I.r, 0, none⟩), .int .i64 m] w (LookEnd I' cp m w X (QIx w0 I J I' J' cp (n + 1) N X)) := by
  cases c with
  | true =>
    refine (lookQ_shut I.r m w h.shutQ).mono ?_
    rintro e w1 ⟨rfl, rfl⟩
    refine ⟨_, 11, rfl, fun _ _ => rfl, ⟨none, 0, rfl⟩, (lookR_shut I'.r m w h.shutR.1).mono ?_⟩
    rintro e w2 ⟨rfl, rfl⟩
    exact ⟨_, rfl, fun _ _ => rfl, ⟨none, 0, rfl⟩, h.fence hn (Pr.nil R) ⟨none, 0, rfl⟩⟩
  | false =>
    obtain ⟨F, E, qr, q, o, fe, hA⟩ := h.p.opn
    obtain ⟨cv, c7, hc⟩ := q.raw
    refine (lookQ_any I.r m hm L cv w q.flag c7 hc qr.ok).mono ?_
    rintro e w1 ⟨hb1, hpost⟩
    have h1 := h.below hb1
    have st1 := StayX.below h.xl hb1
    obtain ⟨F', E', rr, q', o', _, _⟩ := h1.r.opn
    obtain ⟨cv', d7, hc'⟩ := q'.raw
    have LR := lookR_any I'.r m hm L' cv' w1 q'.flag d7 hc' rr.ok
    rcases hpost with ⟨hbad, rfl⟩ | ⟨hin, p, rfl, hp⟩
    · refine ⟨_, 2, rfl, st1, ⟨none, 0, rfl⟩, LR.mono ?_⟩
      rintro e w2 ⟨hb2, ⟨_, rfl⟩ | ⟨hin, _⟩⟩
      · have st2 := StayX.below h1.xl hb2
        refine ⟨_, rfl, st1.trans st2, ⟨none, 0, rfl⟩, ((h1.below hb2).fence hn (Pr.nil R) ⟨none, 0, rfl⟩).mono ?_⟩
        rintro e w3 ⟨rfl, k1, k2⟩
        exact ⟨rfl, k1, (st1.trans st2).trans k2⟩
      · exact absurd (by rw [h.sl.len]; exact hin) hbad
    · refine ⟨_, 0, rfl, st1, ⟨_, _, rfl⟩, LR.mono ?_⟩
      rintro e w2 ⟨hb2, ⟨hbad, rfl⟩ | ⟨_, p', rfl, hp'⟩⟩
      · exact absurd (by rw [← h.sl.len]; exact hin) hbad
      · have st2 := StayX.below h1.xl hb2
        have hlt : m.toNat < L.length := by omega
        have hcur : CurQ L M L' M' (L.getD m.toNat QCh.zero) (L'.getD m.toNat QCh.zero) := Or.inl (zip_idx.2 ⟨m.toNat, hlt, by rw [← h.sl.len]; exact hlt, rfl, rfl⟩)
        have hck := qr.ok.2 _ (qgetD_in hlt)
        have e1 := h.sl.fr m.toNat
        have e2 := h.sl.to m.toNat
        have elen : (L'.getD m.toNat QCh.zero).len = (L.getD m.toNat QCh.zero).len := by unfold QCh.len; rw [e1, e2]
        rw [elen] at hp' ⊢
        refine ⟨_, rfl, st1.trans st2, ⟨_, _, rfl⟩, ((h1.below hb2).fence hn ?_ ⟨_, _, rfl⟩).mono ?_⟩
        · refine ⟨p, p', _, _, rfl, Nat.le_refl _, by unfold QCh.len; omega, fun h0 => ⟨_, _, _, _, hp h0, hp' h0, fun j hj => ?_⟩⟩
          rw [← e1]
          exact h.cur _ _ hcur _ (by unfold QCh.len at hj; omega)
        · rintro e w3 ⟨rfl, k1, k2⟩
          exact ⟨rfl, k1, (st1.trans st2).trans k2⟩

def IntEnd (f : FuncId) (args : Array Value) (w : World) (X : Nat → Prop) (Q : World → Prop) : Ending → World → Prop := fun e w1 => ∃ z : Int, e = .returned (.int .i64 z) ∧ StayX X w w1 ∧
  Calls Tryz.prog f args w1 (fun e2 w2 => e2 = .returned (.int .i64 z) ∧ Q w2 ∧ StayX X w w2)
set_option maxHeartbeats 1000000 in
theorem op_close (h : QI w0 I J I' J' cp n N X c d L M L' M' b A G A' G' R prs w) :
    Calls Tryz.prog 39 #[.pointer (some ⟨I.r, 0, none⟩)] w (IntEnd 40 #[.pointer (some ⟨I'.r, 0, none⟩)] w X (QIx w0 I J I' J' cp n N X)) := by
  cases c with
  | true =>
    refine (closeQ_shut I.r w h.shutQ).mono ?_
    rintro e w1 ⟨rfl, rfl⟩
    refine ⟨11, rfl, fun _ _ => rfl, (closeR_shut I'.r w h.shutR.1).mono ?_⟩
    rintro e w2 ⟨rfl, rfl⟩
    exact ⟨rfl, h.ix, fun _ _ => rfl⟩
  | false =>
    obtain ⟨F, E, qr, q, o, fe, hA⟩ := h.p.opn
    refine (closeQ_any I L b N F G w qr).mono ?_
    rintro e w1 ⟨rfl, sh, G2, bk, gl, l2, t⟩
    obtain ⟨A2, p2, a1, t1⟩ := h.p.closed (fun k hk => q.lt hk) q.fr o fe hA sh bk (givenSt_good h.p.good _ _) gl l2 t
    obtain ⟨st1, r1⟩ := h.half t1
    obtain ⟨F', E', rr, q', o', fe', hA'⟩ := r1.opn
    refine ⟨0, rfl, st1, (closeR_any I' L' b F' G' w1 rr).mono ?_⟩
    rintro e w2 ⟨rfl, sh2, G3, bk2, gl2, m2, t2⟩
    rw [h.ii.1, ← h.sl.rooms] at bk2
    obtain ⟨A3, rd, a3, t3⟩ := r1.closed (fun k hk => q'.lt hk) q'.fr o' fe' hA' sh2 bk2 (givenSt_good h.p.good _ _) gl2 m2 t2
    obtain ⟨⟨R2, hq⟩, hst⟩ := h.turn p2 a1 l2 t1 rd a3 m2 t3 SameQ.nil h.sm (fun x hx => hx.elim (fun hx => by simp at hx) (fun hx => h.byt x (Or.inr hx)))
      (fun x y hxy => by
        rcases hxy with hxy | hxy
        · simp at hxy
        · exact Or.inl ⟨x, y, Or.inr hxy, rfl, rfl, rfl⟩)
      (fun x y hxy => by
        rcases hxy with hxy | hxy
        · refine Or.inr ⟨t.block x.b (q.lt (q.oct (List.of_mem_zip hxy).1).2) (fun e => ?_), t2.block y.b (q'.lt (q'.oct (List.of_mem_zip hxy).2).2) (fun e => ?_)⟩
          · have hx := q.oct (List.of_mem_zip hxy).1
            rcases e with e | e
            · obtain ⟨cv, hm⟩ := qr.qu
              have := hm.self
              rw [← e, hx.1] at this
              simp at this
            · exact h.p.ag _ ((hA _).2 (Or.inl hx.2)) e
          · have hx := q'.oct (List.of_mem_zip hxy).2
            rcases e with e | e
            · obtain ⟨cv, hm⟩ := rr.qu
              have := hm.self
              rw [← e, hx.1] at this
              simp at this
            · exact r1.ag _ ((hA' _).2 (Or.inl hx.2)) e
        · exact Or.inl ⟨x, y, Or.inr hxy, rfl, rfl, rfl⟩)
    exact ⟨rfl, hq.ix, hst⟩
end

end
end Go.Proofs.YtfnmjlnpfoclbaaGreat
