/-
  A ring and a queue of one account, with their book: what each call leaves. Conditions: numbers in their bounds.
-/
import Derived.Test.YtfolidedcejafaaTopRingPbj
import Derived.Test.YtfolidedcejafaaTopRingPbm
import Derived.Test.YtfolidedcejafaaTopRingPbn
import Derived.Test.YtfolidedcejafaaTopRingPbo
import Derived.Test.YtfolidedcejafaaTopRingPbl
import Derived.Test.YtfolidedcejafaaTopRingPbd
namespace Go.Proofs.Ytfolidedcejafaa
open Go.RowKit
set_option linter.unusedVariables false

theorem octL_length {cs : List Int} {st R len : Nat} (h : ringOk cs st R len) : (octL cs st len).length = len := by
  obtain ⟨h1, h2, h3⟩ := h
  exact octL_len cs st len (by omega) (by omega)

structure RQ (w : World) (r : Nat) (I : QuId) (g : Option Nat) (R : Nat) (cs : List Int) (st len : Nat) (L : List QCh) (bst : BookSt) (F G : Nat → Prop) : Prop where
  ring : ringAt w r I.bp 1 I.k I.s I.m (memOf g R) st len
  mem : memRow w g R cs
  rok : ringOk cs st R len
  rR : R ≤ 100000
  qb : QB w I L R bst F G
  rf : ¬ F r ∧ ¬ G r
  gf : ∀ b, g = some b → ¬ F b ∧ ¬ G b ∧ b ≠ r
  gn : g = none → len = 0 ∧ st = 0
def RQFoot (r : Nat) (g : Option Nat) (F G : Nat → Prop) (k : Nat) : Prop := F k ∨ G k ∨ k = r ∨ g = some k
def RQAt (w : World) (Fo : Nat → Prop) (r : Nat) (I : QuId) (xs ys : List Int) : Prop :=
  ∃ g R cs st len L bst F G, RQ w r I g R cs st len L bst F G ∧ octL cs st len = xs ∧ qCont L = ys ∧ (∀ k, RQFoot r g F G k → Fo k) ∧ (∀ k, Fo k → k < w.heap.size)
def RQNext (w w' : World) (Fo : Nat → Prop) (r : Nat) (I : QuId) (xs ys : List Int) : Prop :=
  ∃ Fo', RQAt w' Fo' r I xs ys ∧ (∀ k, Fo' k → Fo k ∨ w.heap.size ≤ k) ∧ Touch Fo w w'

theorem RQ.lt {w : World} {r : Nat} {I : QuId} {g : Option Nat} {R : Nat} {cs : List Int} {st len : Nat} {L : List QCh} {bst : BookSt} {F G : Nat → Prop} (h : RQ w r I g R cs st len L bst F G) : ∀ k, RQFoot r g F G k → k < w.heap.size := by
  intro k hk
  rcases hk with hk | hk | rfl | hk
  · exact h.qb.fl k hk
  · exact h.qb.gl k hk
  · exact lt_of h.ring
  · subst hk
    exact lt_of h.mem.2
theorem RQ.same {w w' : World} {r : Nat} {I : QuId} {g : Option Nat} {R : Nat} {cs : List Int} {st len : Nat} {L : List QCh} {bst : BookSt} {F G : Nat → Prop} (h : RQ w r I g R cs st len L bst F G) (hs : ∀ k, RQFoot r g F G k → w'.heap[k]? = w.heap[k]?) (hz : w.heap.size ≤ w'.heap.size) : RQ w' r I g R cs st len L bst F G where
  ring := (hs r (Or.inr (Or.inr (Or.inl rfl)))).trans h.ring
  mem := h.mem.keep (fun b e => hs b (Or.inr (Or.inr (Or.inr e))))
  rok := h.rok
  rR := h.rR
  qb := by
    obtain ⟨cv, hm⟩ := h.qb.qu
    exact ⟨⟨cv, hm.same (fun k hk _ => hs k (Or.inl hk))⟩, h.qb.bk.same (fun k hk _ => hs k (Or.inr (Or.inl hk))), h.qb.dis, fun k hk => by have := h.qb.fl k hk; omega, fun k hk => by have := h.qb.gl k hk; omega, h.qb.own, h.qb.pol, h.qb.sz, h.qb.acc, h.qb.bud, h.qb.tot, h.qb.ent, h.qb.ok, h.qb.room⟩
  rf := h.rf
  gf := h.gf
  gn := h.gn
theorem RQAt.same {w w' : World} {Fo : Nat → Prop} {r : Nat} {I : QuId} {xs ys : List Int} (h : RQAt w Fo r I xs ys) (hs : ∀ k, Fo k → w'.heap[k]? = w.heap[k]?) (hz : w.heap.size ≤ w'.heap.size) : RQAt w' Fo r I xs ys := by
  obtain ⟨g, R, cs, st, len, L, bst, F, G, h1, h2, h3, h4, h5⟩ := h
  exact ⟨g, R, cs, st, len, L, bst, F, G, h1.same (fun k hk => hs k (h4 k hk)) hz, h2, h3, h4, fun k hk => by have := h5 k hk; omega⟩
theorem RQAt.lt {w : World} {Fo : Nat → Prop} {r : Nat} {I : QuId} {xs ys : List Int} (h : RQAt w Fo r I xs ys) : ∀ k, Fo k → k < w.heap.size := by
  obtain ⟨g, R, cs, st, len, L, bst, F, G, h1, h2, h3, h4, h5⟩ := h
  exact h5

theorem RQ.below {w w' : World} {r : Nat} {I : QuId} {g : Option Nat} {R : Nat} {cs : List Int} {st len : Nat} {L : List QCh} {bst : BookSt} {F G : Nat → Prop} (h : RQ w r I g R cs st len L bst F G) (hb : Below w.heap.size w w') : RQ w' r I g R cs st len L bst F G where
  ring := (hb.block r (lt_of h.ring)).trans h.ring
  mem := h.mem.keep (fun b e => hb.block b (h.lt b (Or.inr (Or.inr (Or.inr e)))))
  rok := h.rok
  rR := h.rR
  qb := h.qb.below hb
  rf := h.rf
  gf := h.gf
  gn := h.gn
theorem RQ.next {w w' : World} {Fo : Nat → Prop} {r : Nat} {I : QuId} {g g' : Option Nat} {R' : Nat} {cs' : List Int} {st' len' : Nat} {L' : List QCh} {bst' : BookSt} {F F' G G' : Nat → Prop} (h0 : ∀ k, RQFoot r g F G k → Fo k) (h1 : ∀ k, Fo k → k < w.heap.size)
    (h : RQ w' r I g' R' cs' st' len' L' bst' F' G') (hn : ∀ k, RQFoot r g' F' G' k → RQFoot r g F G k ∨ w.heap.size ≤ k) (ht : Touch (RQFoot r g F G) w w') : RQNext w w' Fo r I (octL cs' st' len') (qCont L') := by
  refine ⟨RQFoot r g' F' G', ⟨g', R', cs', st', len', L', bst', F', G', h, rfl, rfl, fun k hk => hk, h.lt⟩, fun k hk => (hn k hk).imp (h0 k) id, ht.mono h0⟩
theorem RQNext.of_below {w w' : World} {Fo : Nat → Prop} {r : Nat} {I : QuId} {xs ys : List Int} (h : RQAt w Fo r I xs ys) (hb : Below w.heap.size w w') : RQNext w w' Fo r I xs ys := by
  obtain ⟨g, R, cs, st, len, L, bst, F, G, h1, h2, h3, h4, h5⟩ := h
  have hs := hb.size
  exact ⟨Fo, ⟨g, R, cs, st, len, L, bst, F, G, h1.below hb, h2, h3, h4, fun k hk => by have := h5 k hk; omega⟩, fun k hk => Or.inl hk, Touch.of_below hb⟩

theorem rq_sound {w : World} {I : QuId} {L : List QCh} {R : Nat} {bst : BookSt} {F G : Nat → Prop} (h : QB w I L R bst F G) : Sound bst 1 10000000 ((R + qsum QCh.room L : Nat) : Int) 0 :=
  ⟨h.acc, by omega, by omega, by have := h.room; omega, by omega, by rw [h.bud]; omega, by rw [h.tot]; have := h.room; omega, h.ent⟩

theorem QB.rebook {w w' : World} {I : QuId} {L : List QCh} {R R' : Nat} {bst bst' : BookSt} {F G G' : Nat → Prop} (h : QB w I L R bst F G) (hs : SameOn F w w') (hsz : w.heap.size ≤ w'.heap.size) (hb : BookAt w' G' I.bp bst' 1) (hG : ∀ k, G' k → G k ∨ w.heap.size ≤ k)
    (hacc : bst'.acc 1 = some (10000000, ((R' + qsum QCh.room L : Nat) : Int), 0)) (hbud : bst'.budget = 10000000) (htot : bst'.total = ((R' + qsum QCh.room L : Nat) : Int)) (hent : bst'.entries.length ≤ 10000) (hroom : R' + qsum QCh.room L ≤ 10000000) :
    QB w' I L R' bst' F (fun k => G' k ∧ k < w'.heap.size) := by
  obtain ⟨cv, hm⟩ := h.qu
  refine ⟨⟨cv, hm.same hs⟩, hb.narrow, ?_, fun k hk => by have := h.fl k hk; omega, fun k hk => hk.2, h.own, h.pol, h.sz, hacc, hbud, htot, hent, h.ok, hroom⟩
  rintro k hk ⟨hk2, _⟩
  rcases hG k hk2 with x | x
  · exact h.dis k hk x
  · have := h.fl k hk; omega

def WriteRQ (w : World) (Fo : Nat → Prop) (r : Nat) (I : QuId) (xs ys zs : List Int) : Ending → World → Prop := fun e w' =>
  ∃ (b : Bool) (err : Int), e = .returned (.tuple #[.bool b, .int .i64 err]) ∧ RQNext w w' Fo r I (if err = 0 then xs ++ zs else xs) ys

theorem write_rq (w : World) (Fo : Nat → Prop) (r : Nat) (I : QuId) (xs ys : List Int) (v : Value) (zs : List Int) (h : RQAt w Fo r I xs ys) (hv : Reads w .u8 v zs) (hN : zs.length ≤ 1000) :
    Calls Try.prog 25 #[.pointer (some ⟨r, 0, none⟩), v] w (WriteRQ w Fo r I xs ys zs) := by
  obtain ⟨g, R, cs, st, len, L, bst, F, G, hr, rfl, rfl, h0, h1⟩ := h
  by_cases hne : g ≠ none ∨ zs ≠ []
  · have hst : st ≤ 100000 := by have := hr.rok.2.2; have := hr.rR; omega
    refine (write_any r I.bp 1 I.k I.s I.m g R cs st len v zs w G bst 1 10000000 ((R + qsum QCh.room L : Nat) : Int) 0 hr.ring hr.mem hr.rR hst hr.rok.2.1 hr.qb.pol hv (by omega) hne hr.qb.bk (rq_sound hr.qb) hr.rf.2).mono ?_
    intro e w' hp
    rcases hp with ⟨err, he0, rfl, hra, ht, G1, hb1, hG1, hGr, _⟩ | ⟨hwe, hwv, rfl, hra, hme, ht⟩ | ⟨V, hwe, hwv, hVR, hce, rfl, g', G1, hg', hGg, hGr, hG1, hb1, hra, hme, ht⟩
    · refine ⟨false, err, rfl, ?_⟩
      rw [if_neg he0]
      have hs := ht.size
      have hq := hr.qb.rebook (ht.same (fun k hk _ x => hr.qb.dis k hk x)) hs hb1 hG1 hr.qb.acc hr.qb.bud hr.qb.tot hr.qb.ent hr.qb.room
      refine RQ.next h0 h1 ⟨hra, hr.mem.keep (fun b e => ht.block b (hr.lt b (Or.inr (Or.inr (Or.inr e)))) (hr.gf b e).2.1), hr.rok, hr.rR, hq, ⟨hr.rf.1, fun x => hGr x.1⟩, fun b e => ⟨(hr.gf b e).1, fun x => ?_, (hr.gf b e).2.2⟩, hr.gn⟩ ?_ (ht.mono (fun k hk => Or.inr (Or.inl hk)))
      · have hbl := hr.lt b (Or.inr (Or.inr (Or.inr e)))
        exact (hG1 b x.1).elim (hr.gf b e).2.1 (fun y => by omega)
      · intro k hk
        rcases hk with hk | hk | hk | hk
        · exact Or.inl (Or.inl hk)
        · exact (hG1 k hk.1).imp (fun x => Or.inr (Or.inl x)) id
        · exact Or.inl (Or.inr (Or.inr (Or.inl hk)))
        · exact Or.inl (Or.inr (Or.inr (Or.inr hk)))
    · refine ⟨false, 0, rfl, ?_⟩
      rw [if_pos rfl]
      obtain ⟨hb100, V, hV, _, hfit, _⟩ := wants_ok hr.qb.pol hr.rR hwe
      rw [hwv] at hV
      obtain rfl : R = V := by omega
      obtain ⟨e1, e2⟩ := octL_put hr.rok hfit
      have hs := ht.size
      have hq : QB w' I L R bst F G := by
        obtain ⟨cv, hm⟩ := hr.qb.qu
        refine ⟨⟨cv, hm.same (ht.same (fun k hk _ x => x.elim (fun y => hr.rf.1 (y ▸ hk)) (fun y => (hr.gf k y).1 hk)))⟩, hr.qb.bk.same (ht.same (fun k hk _ x => x.elim (fun y => hr.rf.2 (y ▸ hk)) (fun y => (hr.gf k y).2.1 hk))), hr.qb.dis, fun k hk => by have := hr.qb.fl k hk; omega, fun k hk => by have := hr.qb.gl k hk; omega, hr.qb.own, hr.qb.pol, hr.qb.sz, hr.qb.acc, hr.qb.bud, hr.qb.tot, hr.qb.ent, hr.qb.ok, hr.qb.room⟩
      have := RQ.next h0 h1 ⟨hra, hme, e2, hr.rR, hq, hr.rf, hr.gf, fun e => ?_⟩ (fun k hk => Or.inl hk) (ht.mono (fun k hk => Or.inr (Or.inr hk)))
      · rwa [e1] at this
      · subst e
        have : R = 0 := hr.mem.2
        exact ⟨by omega, (hr.gn rfl).2⟩
    · refine ⟨true, 0, rfl, ?_⟩
      rw [if_pos rfl]
      obtain ⟨hb100, V', hV, hRV, hfit, hV100⟩ := wants_ok hr.qb.pol hr.rR hwe
      rw [hwv] at hV
      obtain rfl : V = V' := by omega
      have hst0 : cellN st R 0 = st := cellN_zero hr.rok.2.2
      rw [hst0] at hme
      have hol : (octL cs st len).length = len := octL_length hr.rok
      obtain ⟨z1, z2⟩ := octL_zeros (V := V) hol (by omega)
      obtain ⟨e1, e2⟩ := octL_put z2 hfit
      rw [z1] at e1
      have hs := ht.size
      have hc2 : ¬ (min ((10000000 : Int) - (((R + qsum QCh.room L : Nat) : Int) + 0)) (bst.budget - bst.total) < (V : Int) - R) := by
        intro hx
        unfold changeE at hce
        rw [if_neg (by omega), if_pos hx] at hce
        cases hce
      rw [hr.qb.bud, hr.qb.tot] at hc2
      have hroom : V + qsum QCh.room L ≤ 10000000 := by have := hr.qb.room; omega
      have hcs : changeSt bst 1 10000000 ((R + qsum QCh.room L : Nat) : Int) 0 R V = { heldSt bst 1 10000000 ((R + qsum QCh.room L : Nat) : Int) 0 ((V : Int) - R) with entries := trimE (bst.entries ++ [holdEnt 1 ((V : Int) - R)]) } := by unfold changeSt; rw [if_pos ⟨hce, by omega⟩]
      rw [hcs] at hb1
      have hF1 : ∀ k, F k → ¬ (G k ∨ k = r) := fun k hk x => x.elim (hr.qb.dis k hk) (fun y => hr.rf.1 (y ▸ hk))
      have hq := hr.qb.rebook (R' := V) (ht.same (fun k hk _ x => hF1 k hk x)) hs hb1 hG1 (by simp [heldSt]; omega) hr.qb.bud (by simp [heldSt, hr.qb.tot]; omega) (trimE_len _ (by have := hr.qb.ent; simp; omega)) hroom
      have hfl := hr.qb.fl
      have hrl := lt_of hr.ring
      have hcl : (octL cs st len ++ zeros (V - len)).length = V := by rw [List.length_append, hol]; simp [zeros]; omega
      have := RQ.next (g' := some g') (R' := V) h0 h1 ⟨hra, ⟨e2.1, hme⟩, e2, hV100, hq, ⟨hr.rf.1, fun x => hGr x.1⟩, fun b e => ?_, fun e => by cases e⟩ ?_ (ht.mono (fun k hk => hk.elim (fun x => Or.inr (Or.inl x)) (fun x => Or.inr (Or.inr (Or.inl x)))))
      · rwa [e1] at this
      · cases e
        exact ⟨fun x => by have := hfl _ x; omega, fun x => hGg x.1, by omega⟩
      · intro k hk
        rcases hk with hk | hk | hk | hk
        · exact Or.inl (Or.inl hk)
        · exact (hG1 k hk.1).imp (fun x => Or.inr (Or.inl x)) id
        · exact Or.inl (Or.inr (Or.inr (Or.inl hk)))
        · cases hk
          exact Or.inr hg'
  · have hg : g = none := by cases g with | none => rfl | some b => exact absurd (Or.inl (by simp)) hne
    have hz : zs = [] := by cases zs with | nil => rfl | cons => exact absurd (Or.inr (by simp)) hne
    subst hg hz
    obtain ⟨e1, e2⟩ := hr.gn rfl
    subst e1 e2
    obtain rfl : R = 0 := hr.mem.2
    refine (write_nil r I.bp 1 I.k I.s I.m v w G bst 1 10000000 ((0 + qsum QCh.room L : Nat) : Int) 0 hr.ring hr.qb.pol hv hr.qb.bk (rq_sound hr.qb) hr.rf.2).mono ?_
    rintro e w' ⟨rfl, hra, ht⟩
    refine ⟨false, 0, rfl, ?_⟩
    rw [if_pos rfl, List.append_nil]
    have hs := ht.size
    have hq : QB w' I L 0 bst F G := by
      obtain ⟨cv, hm⟩ := hr.qb.qu
      exact ⟨⟨cv, hm.same (ht.same (fun k hk _ x => hr.rf.1 (x ▸ hk)))⟩, hr.qb.bk.same (ht.same (fun k hk _ x => hr.rf.2 (x ▸ hk))), hr.qb.dis, fun k hk => by have := hr.qb.fl k hk; omega, fun k hk => by have := hr.qb.gl k hk; omega, hr.qb.own, hr.qb.pol, hr.qb.sz, hr.qb.acc, hr.qb.bud, hr.qb.tot, hr.qb.ent, hr.qb.ok, hr.qb.room⟩
    exact RQ.next h0 h1 ⟨hra, ⟨hr.mem.1, rfl⟩, hr.rok, hr.rR, hq, hr.rf, hr.gf, hr.gn⟩ (fun k hk => Or.inl hk) (ht.mono (fun k hk => Or.inr (Or.inr (Or.inl hk))))

theorem RQNext.ofQ {w w' : World} {Fo : Nat → Prop} {r : Nat} {I : QuId} {g : Option Nat} {R : Nat} {cs : List Int} {st len : Nat} {L L' : List QCh} {bst : BookSt} {F G : Nat → Prop} (hr : RQ w r I g R cs st len L bst F G) (h0 : ∀ k, RQFoot r g F G k → Fo k) (h1 : ∀ k, Fo k → k < w.heap.size)
    (hq : QBPost w w' I L' R F G) : RQNext w w' Fo r I (octL cs st len) (qCont L') := by
  obtain ⟨bst', F', G', q1, q2, q3, q4⟩ := hq
  have hrl := lt_of hr.ring
  have hF : ∀ k, k < w.heap.size → ¬ F k → ¬ F' k := fun k hk h x => (q2 k x).elim h (fun y => by omega)
  have hG : ∀ k, k < w.heap.size → ¬ G k → ¬ G' k := fun k hk h x => (q3 k x).elim h (fun y => by omega)
  refine RQ.next h0 h1 ⟨(q4.block r hrl (fun x => x.elim hr.rf.1 hr.rf.2)).trans hr.ring, hr.mem.keep (fun b e => q4.block b (hr.lt b (Or.inr (Or.inr (Or.inr e)))) (fun x => x.elim (hr.gf b e).1 (hr.gf b e).2.1)), hr.rok, hr.rR, q1, ⟨hF r hrl hr.rf.1, hG r hrl hr.rf.2⟩, fun b e => ?_, hr.gn⟩ ?_ (q4.mono (fun k hk => hk.imp id Or.inl))
  · have hb := hr.lt b (Or.inr (Or.inr (Or.inr e)))
    exact ⟨hF b hb (hr.gf b e).1, hG b hb (hr.gf b e).2.1, (hr.gf b e).2.2⟩
  · intro k hk
    rcases hk with hk | hk | hk | hk
    · exact (q2 k hk).imp Or.inl id
    · exact (q3 k hk).imp (fun x => Or.inr (Or.inl x)) id
    · exact Or.inl (Or.inr (Or.inr (Or.inl hk)))
    · exact Or.inl (Or.inr (Or.inr (Or.inr hk)))

def PushRQ (w : World) (Fo : Nat → Prop) (r : Nat) (I : QuId) (xs ys zs : List Int) : Ending → World → Prop := fun e w' =>
  ∃ err : Int, e = .returned (.int .i64 err) ∧ RQNext w w' Fo r I xs (if err = 0 then ys ++ zs else ys)
theorem push_rq (w : World) (Fo : Nat → Prop) (r : Nat) (I : QuId) (xs ys : List Int) (v : Value) (zs : List Int) (h : RQAt w Fo r I xs ys) (hv : ∀ w', Touch Fo w w' → Reads w' .u8 v zs) (hN : zs.length ≤ 1000) :
    Calls Try.prog 26 #[.pointer (some ⟨I.r, 0, none⟩), v] w (PushRQ w Fo r I xs ys zs) := by
  obtain ⟨g, R, cs, st, len, L, bst, F, G, hr, rfl, rfl, h0, h1⟩ := h
  refine (push_any I L R bst F G v zs w hr.qb (fun w' ht => hv w' (ht.mono (fun k hk => h0 k (hk.imp id Or.inl)))) hN).mono ?_
  intro e w' hp
  rcases hp with ⟨err, he, rfl, hq⟩ | ⟨rfl, L', hc, hq⟩
  · exact ⟨err, rfl, by rw [if_neg he]; exact RQNext.ofQ hr h0 h1 hq⟩
  · exact ⟨0, rfl, by rw [if_pos rfl, ← hc]; exact RQNext.ofQ hr h0 h1 hq⟩

def ReadRQ (w : World) (Fo : Nat → Prop) (r : Nat) (I : QuId) (xs ys : List Int) (n : Nat) : Ending → World → Prop := fun e w' =>
  ∃ v, e = .returned (.tuple #[v, .int .i64 0]) ∧ w'.ownsRow w.heap.size 5 1 v n ((xs.take n).map (Value.int .u8)) ∧ RQAt w' Fo r I (xs.drop n) ys ∧ Touch Fo w w'
theorem read_rq (w : World) (Fo : Nat → Prop) (r : Nat) (I : QuId) (xs ys : List Int) (n : Nat) (h : RQAt w Fo r I xs ys) (hn : n ≤ xs.length) :
    Calls Try.prog 27 #[.pointer (some ⟨r, 0, none⟩), .int .i64 n] w (ReadRQ w Fo r I xs ys n) := by
  obtain ⟨g, R, cs, st, len, L, bst, F, G, hr, rfl, rfl, h0, h1⟩ := h
  rw [octL_length hr.rok] at hn
  have hok := hr.rok
  have hR := hr.rR
  refine (readRing_any r I.bp 1 I.k I.s I.m g R cs st len n w hr.ring hr.mem (by omega) (by have := hok.2.2; omega) hok.2.1 hn).mono ?_
  rintro e w' ⟨v, rfl, hv, hra, ht⟩
  obtain ⟨e1, e2⟩ := octL_drop hok hn
  rw [cellN_zero hok.2.2, octL_take hok hn] at hv
  refine ⟨v, rfl, hv, ?_⟩
  rw [← e1]
  have hs := ht.size
  have hq : QB w' I L R bst F G := by
    obtain ⟨cv, hm⟩ := hr.qb.qu
    exact ⟨⟨cv, hm.same (ht.same (fun k hk _ x => hr.rf.1 (x ▸ hk)))⟩, hr.qb.bk.same (ht.same (fun k hk _ x => hr.rf.2 (x ▸ hk))), hr.qb.dis, fun k hk => by have := hr.qb.fl k hk; omega, fun k hk => by have := hr.qb.gl k hk; omega, hr.qb.own, hr.qb.pol, hr.qb.sz, hr.qb.acc, hr.qb.bud, hr.qb.tot, hr.qb.ent, hr.qb.ok, hr.qb.room⟩
  refine ⟨⟨g, R, cs, _, _, L, bst, F, G, ⟨hra, hr.mem.keep (fun b e => ht.block b (hr.lt b (Or.inr (Or.inr (Or.inr e)))) (hr.gf b e).2.2), e2, hR, hq, hr.rf, hr.gf, fun e => ?_⟩, rfl, rfl, h0, fun k hk => by have := h1 k hk; omega⟩, ht.mono (fun k hk => h0 k (Or.inr (Or.inr (Or.inl hk))))⟩
  obtain ⟨a1, a2⟩ := hr.gn e
  have hR0 : R = 0 := by subst e; exact hr.mem.2
  exact ⟨by omega, by have := e2.2.2; omega⟩

def PullRQ (w : World) (Fo : Nat → Prop) (r : Nat) (I : QuId) (xs ys : List Int) (n : Nat) : Ending → World → Prop := fun e w' =>
  ∃ v, e = .returned (.tuple #[v, .int .i64 0]) ∧ w'.ownsRow w.heap.size 5 1 v n ((ys.take n).map (Value.int .u8)) ∧ RQNext w w' Fo r I xs (ys.drop n)
theorem pull_rq (w : World) (Fo : Nat → Prop) (r : Nat) (I : QuId) (xs ys : List Int) (n : Nat) (h : RQAt w Fo r I xs ys) (hn : n ≤ ys.length) :
    Calls Try.prog 28 #[.pointer (some ⟨I.r, 0, none⟩), .int .i64 n] w (PullRQ w Fo r I xs ys n) := by
  obtain ⟨g, R, cs, st, len, L, bst, F, G, hr, rfl, rfl, h0, h1⟩ := h
  have hc : ∀ c ∈ L, ChOk c := fun c hc => hr.qb.ok.2 c hc
  rw [qCont_len hc] at hn
  refine (pull_any I L R bst F G n w hr.qb hn).mono ?_
  rintro e w' ⟨v, rfl, hv, hq⟩
  exact ⟨v, rfl, hv, by rw [← pull_law L n L.length hc]; exact RQNext.ofQ hr h0 h1 hq⟩

def PartsRQ (xs : List Int) (w : World) : Ending → World → Prop := fun e w' =>
  ∃ f1 f2 n1 n2 a b, e = .returned (.tuple #[.slice f1 n1 n1, .slice f2 n2 n2, .int .i64 0]) ∧ Reads w' .u8 (.slice f1 n1 n1) a ∧ Reads w' .u8 (.slice f2 n2 n2) b ∧ a ++ b = xs ∧ Below w.heap.size w w'
theorem parts_rq (w : World) (Fo : Nat → Prop) (r : Nat) (I : QuId) (xs ys : List Int) (h : RQAt w Fo r I xs ys) :
    Calls Try.prog 29 #[.pointer (some ⟨r, 0, none⟩)] w (PartsRQ xs w) := by
  obtain ⟨g, R, cs, st, len, L, bst, F, G, hr, rfl, rfl, h0, h1⟩ := h
  have hok := hr.rok
  have hR := hr.rR
  obtain ⟨o1, o2, o3⟩ := hok
  refine (parts_any r I.bp 1 I.k I.s I.m g R cs st len w hr.ring hr.mem (by omega) (by omega) o2).mono ?_
  rintro e w' ⟨f1, f2, rfl, hf, hb⟩
  subst o1
  have hmm : ∀ b, g = some b → byteRow w' b cs := fun b e => by
    have := hr.mem.2
    subst e
    exact (hb.block b (lt_of this)).trans this
  refine ⟨f1, f2, _, _, (cs.drop st).take (min (st + len) cs.length - st), cs.take (len - (min (st + len) cs.length - st)), rfl, ?_, ?_, rfl, hb⟩
  · cases hg : g with
    | none =>
      have hl0 : cs.length = 0 := by have := hr.mem.2; subst hg; exact this
      have e0 : min (st + len) cs.length - st = 0 := by omega
      rw [e0, List.take_zero]
      exact ⟨f1, 0, rfl, by simp, fun h => absurd rfl h⟩
    | some b =>
      exact qreads_part (hmm b hg) st _ _ (by omega) (by omega) f1 (fun hk => (hf b hg).1 (by omega))
  · cases hg : g with
    | none =>
      have hl0 : cs.length = 0 := by have := hr.mem.2; subst hg; exact this
      have e0 : len - (min (st + len) cs.length - st) = 0 := by omega
      rw [e0, List.take_zero]
      exact ⟨f2, 0, rfl, by simp, fun h => absurd rfl h⟩
    | some b =>
      have := qreads_part (hmm b hg) 0 (len - (min (st + len) cs.length - st)) (len - (min (st + len) cs.length - st)) (by omega) (by omega) f2 (fun hk => (hf b hg).2 hk)
      rwa [List.drop_zero] at this

/-- What the book, the ring and the queue say of their rooms and lengths. -/
def SaysRQ (w : World) (r : Nat) (I : QuId) (xs ys : List Int) : Prop := ∃ RR QR : Nat, RR ≤ 10000000 ∧ QR ≤ 10000000 ∧
  (∀ W, Below w.heap.size w W → Calls Try.prog 21 #[.pointer (some ⟨I.bp, 0, none⟩), .int .i64 1] W (SamePost2 ((RR + QR : Nat) : Int) 0 W)) ∧
  (∀ W, Below w.heap.size w W → Calls Try.prog 32 #[.pointer (some ⟨r, 0, none⟩)] W (fun e w' => e = .returned (.int .i64 RR) ∧ W = w')) ∧
  (∀ W, Below w.heap.size w W → Calls Try.prog 30 #[.pointer (some ⟨r, 0, none⟩)] W (fun e w' => e = .returned (.int .i64 xs.length) ∧ W = w')) ∧
  (∀ W, Below w.heap.size w W → Calls Try.prog 33 #[.pointer (some ⟨I.r, 0, none⟩)] W (QIntPost (QR : Nat) W)) ∧
  (∀ W, Below w.heap.size w W → Calls Try.prog 31 #[.pointer (some ⟨I.r, 0, none⟩)] W (QIntPost (ys.length : Nat) W))

theorem lenRing_any (r bp : Nat) (o k s m : Int) (mv : Value) (st len : Int) (w : World) (h : ringAt w r bp o k s m mv st len) :
    Calls Try.prog 30 #[.pointer (some ⟨r, 0, none⟩)] w (fun e w' => e = .returned (.int .i64 len) ∧ w = w') := by
  have c8 : w.cell? ⟨r, 8, none⟩ = some (.int .i64 len) := by rw [cell_of h]; rfl
  clear h
  go_enter Try.func30, Try.ntmps30
  go_wp2_with fail
  go_ret
  exact ⟨rfl, rfl⟩

theorem says_rq (w : World) (Fo : Nat → Prop) (r : Nat) (I : QuId) (xs ys : List Int) (h : RQAt w Fo r I xs ys) : SaysRQ w r I xs ys := by
  obtain ⟨g, R, cs, st, len, L, bst, F, G, hr, rfl, rfl, h0, h1⟩ := h
  have hroom := hr.qb.room
  have hc : ∀ c ∈ L, ChOk c := fun c hc => hr.qb.ok.2 c hc
  refine ⟨R, qsum QCh.room L, by omega, by omega, fun W hb => ?_, fun W hb => ?_, fun W hb => ?_, fun W hb => ?_, fun W hb => ?_⟩
  · have hd := held_any I.bp 1 W G bst 1 (hr.qb.bk.same (Below.same_on hb))
    have e1 : heldV bst 1 = ((R + qsum QCh.room L : Nat) : Int) := by unfold heldV; rw [if_pos (by omega), hr.qb.acc]
    have e2 : heldE bst 1 = 0 := by unfold heldE; rw [if_pos (by omega), hr.qb.acc]
    rwa [e1, e2] at hd
  · exact room_any r I.bp 1 I.k I.s I.m g R st len W (hr.below hb).ring
  · rw [octL_length hr.rok]
    exact lenRing_any r I.bp 1 I.k I.s I.m _ st len W (hr.below hb).ring
  · obtain ⟨cv, hm⟩ := (hr.below hb).qb.qu
    exact qRoom_any I F L cv W hm hr.qb.ok
  · obtain ⟨cv, hm⟩ := (hr.below hb).qb.qu
    rw [qCont_len hc]
    exact qLen_any I F L cv W hm hr.qb.ok

end Go.Proofs.Ytfolidedcejafaa
