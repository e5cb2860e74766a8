/-
  Change: what it gives. Conditions: numbers that are not too large.
  The book's Take and Give: what they give. Conditions: numbers that are not too large.
-/
import Derived.Test.YtjogaohnphafgaaTopCompactPan

namespace Go.Proofs.Ytjogaohnphafgaa
section
open Go.RowKit

theorem reads_two (w : World) (a b : Int) : Reads (w.alloc (.cells #[.int .i64 a, .int .i64 b] 3)) .i64 (.slice (some ⟨w.heap.size, 0, none⟩) 2 2) [a, b] := by
  have h := heap_alloc_new w (.cells #[.int .i64 a, .int .i64 b] 3)
  refine ⟨_, 2, rfl, by simp, fun _ => ⟨w.heap.size, 0, rfl, fun j hj => ?_⟩⟩
  rw [cell_of h]
  match j, hj with
  | 0, _ => rfl
  | 1, _ => rfl

def changeE (st : BookSt) (l h s fr tw : Int) : Int := if h < fr then 5 else if min (l - (h + s)) (st.budget - st.total) < tw - fr then 12 else 0
def changeSt (st : BookSt) (o l h s fr tw : Int) : BookSt := if changeE st l h s fr tw = 0 ∧ fr ≠ tw then { heldSt st o l h s (tw - fr) with entries := trimE (st.entries ++ [holdEnt o (tw - fr)]) } else st
def ChangePost (F : Nat → Prop) (p : Nat) (st : BookSt) (o l h s fr tw : Int) (N : Nat) (w : World) : Ending → World → Prop := fun e w' =>
  e = .returned (.int .i64 (changeE st l h s fr tw)) ∧ BookAt w' (fun k => F k ∨ w.heap.size ≤ k) p (changeSt st o l h s fr tw) N ∧ Touch F w w'

set_option maxHeartbeats 2000000 in
set_option maxRecDepth 100000 in
theorem change_any (p : Nat) (o fr tw l h s : Int) (w : World) (F : Nat → Prop) (st : BookSt) (N : Nat) (hbk : BookAt w F p st N) (ha : st.acc o = some (l, h, s)) (ho : 1 ≤ o ∧ o ≤ 40) (hfr : 0 ≤ fr ∧ fr ≤ 10000000) (hto : 0 ≤ tw ∧ tw ≤ 10000000)
    (h0 : 0 ≤ l ∧ l ≤ 1000000000) (h1 : 0 ≤ h ∧ h ≤ 1000000000) (h2 : 0 ≤ s ∧ s ≤ 1000000000) (h3 : 0 ≤ st.budget ∧ st.budget ≤ 1000000000) (h4 : 0 ≤ st.total ∧ st.total ≤ 1000000000) (hn : st.entries.length ≤ 10000) :
    Calls Try.prog 65 #[.pointer (some ⟨p, 0, none⟩), .int .i64 o, .int .i64 fr, .int .i64 tw] w (ChangePost F p st o l h s fr tw N w) := by
  obtain ⟨mb, blk, lv, ev, D, hm⟩ := hbk
  obtain ⟨b, hb⟩ : ∃ b, blk o = some b := by
    cases hb : blk o with
    | none => rw [(hm.anone o).1 hb] at ha; cases ha
    | some b => exact ⟨b, rfl⟩
  obtain ⟨l', h', s', ha', hblk, hFb⟩ := hm.asome o b hb
  rw [ha] at ha'
  simp only [Option.some.injEq, Prod.mk.injEq] at ha'
  obtain ⟨rfl, rfl, rfl⟩ := ha'
  have B1 : Below w.heap.size w (w.alloc (.cells #[.int .i64 fr, .int .i64 tw] 3)) := (Below.refl _ _).alloc (Nat.le_refl _) _
  have hm1 := hm.same (Below.same_on B1)
  have A := account_any p o _ [fr, tw] _ F st N mb blk lv ev D (reads_two w fr tw) (by unfold chkE; rw [if_pos ⟨ho, by simp; omega⟩]) hm1
  rw [hb] at A
  have HA := Lib.hid A
  have hblk1 := (B1.block b (lt_of hblk)).trans hblk
  have c1 : (w.alloc (.cells #[.int .i64 fr, .int .i64 tw] 3)).cell? ⟨b, 1, none⟩ = some (.int .i64 h) := by rw [cell_of hblk1]; rfl
  have L := left_any p b st mb lv ev l h s _ hm1.self hblk1 (by omega) (by omega) (by omega) (by omega) (by omega)
  have HL := Lib.hid L
  have HM1 := Lib.hid hm1
  have HB := Lib.hid hb
  have HACC := Lib.hid ha
  have HB1 := Lib.hid B1
  obtain ⟨hfr1, hfr2⟩ := hfr
  obtain ⟨hto1, hto2⟩ := hto
  clear A L hm hm1 hb ha hblk hblk1 B1
  have fin : ∀ q, BookAt ((w.alloc (.cells #[.int .i64 fr, .int .i64 tw] 3)).drewN q) (fun k => F k ∨ w.heap.size ≤ k) p st N ∧ Touch F w ((w.alloc (.cells #[.int .i64 fr, .int .i64 tw] 3)).drewN q) := fun q =>
    ⟨(show BookAt _ F p st N from ⟨mb, blk, lv, ev, D, HM1.out.same (Below.same_on (bdrewN (Below.refl _ _) q))⟩).wider (fun k hk => Or.inl hk), (Touch.of_below HB1.out).drewN q⟩
  have FIN := Lib.hid fin
  clear fin
  by_cases e1 : h < fr
  · have HE := Lib.hid (show changeE st l h s fr tw = 5 by unfold changeE; rw [if_pos e1])
    have HS := Lib.hid (show changeSt st o l h s fr tw = st by unfold changeSt; rw [if_neg (by rw [HE.out]; simp)])
    go_enter Try.func65, Try.ntmps65
    go_wp2_with fail
    refine HA.out.mono ?_
    rintro e w1 ⟨rfl, rfl⟩
    unfold ptrOf
    go_wp2_with fail
    go_ret
    refine ⟨by rw [HE.out]; rfl, ?_, (FIN.out 0).2⟩
    rw [HS.out]
    exact (FIN.out 0).1
  · have e1' : changeE st l h s fr tw = if min (l - (h + s)) (st.budget - st.total) < tw - fr then 12 else 0 := by unfold changeE; rw [if_neg e1]
    have HSH := Lib.hid (fun (q : Nat) (hne : fr ≠ tw) => hold_any p b o (tw - fr) l h s ((w.alloc (.cells #[.int .i64 fr, .int .i64 tw] 3)).drewN q) F st N mb blk lv ev D (HM1.out.same (Below.same_on (bdrewN (Below.refl _ _) q))) HB.out HACC.out (by omega) (by omega) (by omega) hn)
    generalize hm0 : min (l - (h + s)) (st.budget - st.total) = m at *
    have mb1 : -4000000000 ≤ m ∧ m ≤ 4000000000 := by omega
    obtain ⟨mb1a, mb1b⟩ := mb1
    clear hm0
    by_cases e2 : m < tw - fr
    · have HE := Lib.hid (show changeE st l h s fr tw = 12 by rw [e1', if_pos e2])
      have HS := Lib.hid (show changeSt st o l h s fr tw = st by unfold changeSt; rw [if_neg (by rw [HE.out]; simp)])
      clear e1' HSH
      go_enter Try.func65, Try.ntmps65
      go_wp2_with fail
      refine HA.out.mono ?_
      rintro e w1 ⟨rfl, rfl⟩
      unfold ptrOf
      go_wp2_with fail
      refine HL.out.mono ?_
      rintro e w2 ⟨rfl, q, rfl⟩
      go_wp2_with fail
      go_ret
      refine ⟨by rw [HE.out]; rfl, ?_, (FIN.out q).2⟩
      rw [HS.out]
      exact (FIN.out q).1
    · have HE := Lib.hid (show changeE st l h s fr tw = 0 by rw [e1', if_neg e2])
      clear e1'
      by_cases e3 : fr = tw
      · subst e3
        have HS := Lib.hid (show changeSt st o l h s fr fr = st by unfold changeSt; rw [if_neg (by simp)])
        clear HSH
        go_enter Try.func65, Try.ntmps65
        go_wp2_with fail
        refine HA.out.mono ?_
        rintro e w1 ⟨rfl, rfl⟩
        unfold ptrOf
        go_wp2_with fail
        refine HL.out.mono ?_
        rintro e w2 ⟨rfl, q, rfl⟩
        go_wp2_with fail
        go_ret
        refine ⟨by rw [HE.out]; rfl, ?_, (FIN.out q).2⟩
        rw [HS.out]
        exact (FIN.out q).1
      · have HS := Lib.hid (show changeSt st o l h s fr tw = { heldSt st o l h s (tw - fr) with entries := trimE (st.entries ++ [holdEnt o (tw - fr)]) } by unfold changeSt; rw [if_pos ⟨HE.out, e3⟩])
        go_enter Try.func65, Try.ntmps65
        go_wp2_with fail
        refine HA.out.mono ?_
        rintro e w1 ⟨rfl, rfl⟩
        unfold ptrOf
        go_wp2_with fail
        refine HL.out.mono ?_
        rintro e w2 ⟨rfl, q, rfl⟩
        go_wp2_with fail
        refine (HSH.out q e3).mono ?_
        rintro e w3 ⟨rfl, hb3, ht3⟩
        have hs3 := (FIN.out q).2.size
        have HB3 := Lib.hid (hb3.wider (G := fun k => F k ∨ w.heap.size ≤ k) (fun k hk => hk.imp id (fun x => Nat.le_trans hs3 x)))
        have HT3 := Lib.hid ((FIN.out q).2.then ht3)
        clear hb3 ht3
        go_wp2_with fail
        go_ret
        refine ⟨by rw [HE.out]; rfl, ?_, HT3.out⟩
        rw [HS.out]
        exact HB3.out

end
end Go.Proofs.Ytjogaohnphafgaa

namespace Go.Proofs.Ytjogaohnphafgaa
section
open Go.RowKit

def takeE (st : BookSt) (l h s n : Int) : Int := if min (l - (h + s)) (st.budget - st.total) < n then 12 else 0
def takeSt (st : BookSt) (o l h s n : Int) : BookSt := if takeE st l h s n = 0 then { heldSt st o l h s n with entries := trimE (st.entries ++ [holdEnt o n]) } else st
def TakePost (F : Nat → Prop) (p : Nat) (st : BookSt) (o l h s n : Int) (N : Nat) (w : World) : Ending → World → Prop := fun e w' =>
  e = .returned (.int .i64 (takeE st l h s n)) ∧ BookAt w' (fun k => F k ∨ w.heap.size ≤ k) p (takeSt st o l h s n) N ∧ Touch F w w'

def giveE (h n : Int) : Int := if h < n then 5 else 0
def giveSt (st : BookSt) (o l h s n : Int) : BookSt := if giveE h n = 0 then { heldSt st o l h s (-n) with entries := trimE (st.entries ++ [⟨4, o, 0, n, 0, 0⟩]) } else st
def GivePost (F : Nat → Prop) (p : Nat) (st : BookSt) (o l h s n : Int) (N : Nat) (w : World) : Ending → World → Prop := fun e w' =>
  e = .returned (.int .i64 (giveE h n)) ∧ BookAt w' (fun k => F k ∨ w.heap.size ≤ k) p (giveSt st o l h s n) N ∧ Touch F w w'

end
end Go.Proofs.Ytjogaohnphafgaa
