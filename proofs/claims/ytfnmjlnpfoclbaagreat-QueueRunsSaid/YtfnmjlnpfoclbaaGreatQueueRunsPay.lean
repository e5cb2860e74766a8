/-
  The reference's book: what its calls lean on; Take and Give. No conditions but what always holds of a book.
  The reference's queue in memory; Sizes; NewQueueOf. Conditions: numbers in their bounds.
-/
import Derived.Test.YtfnmjlnpfoclbaaGreatQueueRunsPax
import Derived.Test.YtfnmjlnpfoclbaaGreatQueueRunsPat

namespace Go.Proofs.YtfnmjlnpfoclbaaGreat
section
open Go.RowKit Go.Maps
set_option linter.unusedVariables false

/-- The book as the reference has it, beside the plain machine. -/
def RB (w : World) (F : Nat → Prop) (p : Nat) (st : BookSt) (wh : Bool) : Prop := RefAt w F p st (seenE wh st.entries) wh 40
def RP (err : Int) (F : Nat → Prop) (p : Nat) (st : BookSt) (wh : Bool) (w : World) : Ending → World → Prop := fun e w' =>
  e = .returned (.int .i64 err) ∧ RB w' (fun k => F k ∨ w.heap.size ≤ k) p st wh ∧ Touch F w w'
theorem RB.same {w w' : World} {F : Nat → Prop} {p : Nat} {st : BookSt} {wh : Bool} (h : RB w F p st wh) (hs : SameOn F w w') : RB w' F p st wh := RefAt.same h hs
theorem RB.below {w w' : World} {F : Nat → Prop} {p : Nat} {st : BookSt} {wh : Bool} (h : RB w F p st wh) (B : Below w.heap.size w w') : RB w' F p st wh := RefAt.same h (Below.same_on B)
theorem RB.fin {w W : World} {F : Nat → Prop} {p : Nat} {st : BookSt} {wh : Bool} (hb : RB w F p st wh) (B : Below w.heap.size w W) : RB W (fun k => F k ∨ w.heap.size ≤ k) p st wh ∧ Touch F w W := ref_fin hb B
theorem RB.st {w : World} {F : Nat → Prop} {p : Nat} {st : BookSt} {wh : Bool} (h : RB w F p st wh) {st' : BookSt}
    (h1 : st'.budget = st.budget) (h2 : st'.acc = st.acc) (h3 : st'.leases = st.leases) (h4 : st'.last = st.last) (h5 : st'.time = st.time) (h6 : st'.entries = st.entries) : RB w F p st' wh := by
  unfold RB
  rw [h6]
  exact RefAt.st h h1 h2 h3 h4 h5
theorem RB.then {F G : Nat → Prop} {w w1 w2 : World} {p : Nat} {st : BookSt} {wh : Bool} (ht1 : Touch F w w1) (hb : RB w2 (fun k => G k ∨ w1.heap.size ≤ k) p st wh) (ht2 : Touch G w1 w2) (hG : ∀ k, G k → F k ∨ w.heap.size ≤ k) :
    RB w2 (fun k => F k ∨ w.heap.size ≤ k) p st wh ∧ Touch F w w2 :=
  ⟨RefAt.wider hb (fun k hk => hk.elim (hG k) (fun x => Or.inr (Nat.le_trans ht1.size x))), ht1.trans ht2 hG⟩

theorem noteR_st (p : Nat) (en : Ent) (w : World) (F : Nat → Prop) (st : BookSt) (wh : Bool) (hb : RB w F p st wh) (hw : wh = true → st.entries.length ≤ 9999) :
    Calls Tryz.prog 58 #[.pointer (some ⟨p, 0, none⟩), .agg #[.int .i64 en.kind, .int .i64 en.owner, .int .i64 en.other, .int .i64 en.amount, .int .i64 en.lease, .int .i64 en.untl]] w
      (fun e w' => e = .returned (.tuple #[]) ∧ RB w' (fun k => F k ∨ w.heap.size ≤ k) p (st.note en) wh ∧ Touch F w w') := by
  refine (noteR_any p en w F st _ wh hb (seen_len wh st hw) (fun h => by subst h; exact seen_len5 st)).mono ?_
  rintro e w' ⟨h1, h2, h3⟩
  refine ⟨h1, ?_, h3⟩
  unfold RB
  rw [← seen_note wh st en hw]
  exact RefAt.st h2 rfl rfl rfl rfl rfl
theorem holdR_st (p : Nat) (o by_ l h s : Int) (w : World) (F : Nat → Prop) (st : BookSt) (wh : Bool) (hb : RB w F p st wh) (ho : 1 ≤ o ∧ o ≤ 40) (ha : st.acc o = some (l, h, s)) (hr : -1000000000 ≤ h + by_ ∧ h + by_ ≤ 1000000000) :
    Calls Tryz.prog 91 #[.pointer (some ⟨p, 0, none⟩), .int .i64 o, .int .i64 by_] w
      (fun e w' => e = .returned (.tuple #[]) ∧ RB w' (fun k => F k ∨ w.heap.size ≤ k) p (st.put o (some (l, h + by_, s))) wh ∧ Touch F w w') :=
  holdR_any p o by_ l h s w F st _ wh hb ho ha hr

/-- The rows that a call makes for fault. -/
theorem fault_on (p : Nat) (o n : Int) (w : World) (F : Nat → Prop) (st : BookSt) (wh : Bool) (hb : RB w F p st wh) :
    Calls Tryz.prog 27 #[.pointer (some ⟨p, 0, none⟩), .slice (some ⟨w.heap.size, 0, none⟩) 1 1, .slice (some ⟨w.heap.size + 1, 0, none⟩) 1 1]
      ((w.alloc (.cells #[.int .i64 o] 3)).alloc (.cells #[.int .i64 n] 3)) (fun e w' => e = .returned (.int .i64 (faultE st [o] [n])) ∧ Below w.heap.size w w') := by
  have B2 : Below w.heap.size w ((w.alloc (.cells #[.int .i64 o] 3)).alloc (.cells #[.int .i64 n] 3)) := ((Below.refl _ w).alloc (Nat.le_refl _) _).alloc (by simp) _
  have r1 := (reads_one w o 3).below ((Below.refl _ (w.alloc (.cells #[.int .i64 o] 3))).alloc (Nat.le_refl _) (.cells #[.int .i64 n] 3)) rfl
  have r2 := reads_one (w.alloc (.cells #[.int .i64 o] 3)) n 3
  rw [World.size_alloc] at r2
  refine (faultR_any p _ _ [o] [n] _ F st _ wh 40 (hb.below B2) r1 r2).mono ?_
  rintro e w' ⟨h1, h2⟩
  exact ⟨h1, B2.trans (h2.mono B2.size)⟩
theorem fault_on1 (p : Nat) (o : Int) (w : World) (F : Nat → Prop) (st : BookSt) (wh : Bool) (hb : RB w F p st wh) :
    Calls Tryz.prog 27 #[.pointer (some ⟨p, 0, none⟩), .slice (some ⟨w.heap.size, 0, none⟩) 1 1, .slice none 0 0]
      (w.alloc (.cells #[.int .i64 o] 3)) (fun e w' => e = .returned (.int .i64 (faultE st [o] [])) ∧ Below w.heap.size w w') := by
  have B2 : Below w.heap.size w (w.alloc (.cells #[.int .i64 o] 3)) := (Below.refl _ w).alloc (Nat.le_refl _) _
  refine (faultR_any p _ _ [o] [] _ F st _ wh 40 (hb.below B2) (reads_one w o 3) (reads_nil _)).mono ?_
  rintro e w' ⟨h1, h2⟩
  exact ⟨h1, B2.trans (h2.mono B2.size)⟩
theorem fault_on2 (p : Nat) (o a b : Int) (w : World) (F : Nat → Prop) (st : BookSt) (wh : Bool) (hb : RB w F p st wh) :
    Calls Tryz.prog 27 #[.pointer (some ⟨p, 0, none⟩), .slice (some ⟨w.heap.size, 0, none⟩) 1 1, .slice (some ⟨w.heap.size + 1, 0, none⟩) 2 2]
      ((w.alloc (.cells #[.int .i64 o] 3)).alloc (.cells #[.int .i64 a, .int .i64 b] 3)) (fun e w' => e = .returned (.int .i64 (faultE st [o] [a, b])) ∧ Below w.heap.size w w') := by
  have B2 : Below w.heap.size w ((w.alloc (.cells #[.int .i64 o] 3)).alloc (.cells #[.int .i64 a, .int .i64 b] 3)) := ((Below.refl _ w).alloc (Nat.le_refl _) _).alloc (by simp) _
  have r1 := (reads_one w o 3).below ((Below.refl _ (w.alloc (.cells #[.int .i64 o] 3))).alloc (Nat.le_refl _) (.cells #[.int .i64 a, .int .i64 b] 3)) rfl
  have r2 := reads_two (w.alloc (.cells #[.int .i64 o] 3)) a b
  rw [World.size_alloc] at r2
  refine (faultR_any p _ _ [o] [a, b] _ F st _ wh 40 (hb.below B2) r1 r2).mono ?_
  rintro e w' ⟨h1, h2⟩
  exact ⟨h1, B2.trans (h2.mono B2.size)⟩
theorem fault_on3 (p : Nat) (a b n : Int) (w : World) (F : Nat → Prop) (st : BookSt) (wh : Bool) (hb : RB w F p st wh) :
    Calls Tryz.prog 27 #[.pointer (some ⟨p, 0, none⟩), .slice (some ⟨w.heap.size, 0, none⟩) 2 2, .slice (some ⟨w.heap.size + 1, 0, none⟩) 1 1]
      ((w.alloc (.cells #[.int .i64 a, .int .i64 b] 3)).alloc (.cells #[.int .i64 n] 3)) (fun e w' => e = .returned (.int .i64 (faultE st [a, b] [n])) ∧ Below w.heap.size w w') := by
  have B2 : Below w.heap.size w ((w.alloc (.cells #[.int .i64 a, .int .i64 b] 3)).alloc (.cells #[.int .i64 n] 3)) := ((Below.refl _ w).alloc (Nat.le_refl _) _).alloc (by simp) _
  have r1 := (reads_two w a b).below ((Below.refl _ (w.alloc (.cells #[.int .i64 a, .int .i64 b] 3))).alloc (Nat.le_refl _) (.cells #[.int .i64 n] 3)) rfl
  have r2 := reads_one (w.alloc (.cells #[.int .i64 a, .int .i64 b] 3)) n 3
  rw [World.size_alloc] at r2
  refine (faultR_any p _ _ [a, b] [n] _ F st _ wh 40 (hb.below B2) r1 r2).mono ?_
  rintro e w' ⟨h1, h2⟩
  exact ⟨h1, B2.trans (h2.mono B2.size)⟩

set_option maxHeartbeats 1000000 in
set_option maxRecDepth 100000 in
theorem takeR_err (p : Nat) (o n : Int) (w : World) (F : Nat → Prop) (st : BookSt) (wh : Bool) (hb : RB w F p st wh) (e : Int) (he : faultE st [o] [n] = e) (hv : e = 2 ∨ e = 7) :
    Calls Tryz.prog 71 #[.pointer (some ⟨p, 0, none⟩), .int .i64 o, .int .i64 n] w (RP e F p st wh w) := by
  have HF := Lib.hid (fault_on p o n w F st wh hb)
  rw [he] at HF
  have HB := Lib.hid hb
  clear he hb
  rcases hv with rfl | rfl
  all_goals
    go_enter Tryz.func71, Tryz.ntmps71
    go_wp2_with fail
    refine HF.out.mono ?_
    rintro e w1 ⟨rfl, hb1⟩
    have FIN := Lib.hid (HB.out.fin hb1)
    clear hb1
    go_wp2_with fail
    go_ret
    exact ⟨rfl, FIN.out.1, FIN.out.2⟩
set_option maxHeartbeats 2000000 in
set_option maxRecDepth 100000 in
theorem takeR_ok (p : Nat) (o n l h s : Int) (w : World) (F : Nat → Prop) (st : BookSt) (wh : Bool) (hb : RB w F p st wh) (g : GoodE st) (hw : wh = true → st.entries.length ≤ 9999) (he : faultE st [o] [n] = 0) (hc : chkE o [n] = 0) (ha : st.acc o = some (l, h, s)) :
    Calls Tryz.prog 71 #[.pointer (some ⟨p, 0, none⟩), .int .i64 o, .int .i64 n] w (RP (takeE st l h s n) F p (takeSt st o l h s n) wh w) := by
  have HF := Lib.hid (fault_on p o n w F st wh hb)
  rw [he] at HF
  have HB := Lib.hid hb
  have HG := Lib.hid g
  obtain ⟨ho, hn0⟩ := chkE_zero hc
  have hn := hn0 n (by simp)
  have hb1 := (g.own o l h s ha).2
  have hs0 := g.s0 ha
  have HACC := Lib.hid ha
  have HW := Lib.hid hw
  have LF : Hid (∀ W, Below w.heap.size w W → Calls Tryz.prog 82 #[.pointer (some ⟨p, 0, none⟩), .int .i64 o] W (fun e w' => e = .returned (.int .i64 (min (l - (h + s)) (st.budget - st.total))) ∧ Below w.heap.size w w')) := Lib.hid (fun W hW => by
    refine (leftR_any p o l h s W F st _ wh 40 (HB.out.below hW) HG.out ho HACC.out).mono ?_
    rintro e w' ⟨h1, h2⟩
    exact ⟨h1, hW.trans (h2.mono hW.size)⟩)
  have ht0 := g.tot0
  have ht1 := g.totb
  have hbu := g.bud
  have e1' : takeE st l h s n = if min (l - (h + s)) (st.budget - st.total) < n then 12 else 0 := rfl
  have e2' : takeSt st o l h s n = if takeE st l h s n = 0 then { heldSt st o l h s n with entries := trimE (st.entries ++ [holdEnt o n]) } else st := rfl
  obtain ⟨q1, q2, q3, q4⟩ := hb1
  obtain ⟨n1, n2⟩ := hn
  clear q4 he hb hc ha hn0 hw g
  generalize hm0 : min (l - (h + s)) (st.budget - st.total) = m at *
  have mb1 : -4000000000 ≤ m ∧ m ≤ 4000000000 := by omega
  have hml : m ≤ l - (h + s) := by omega
  obtain ⟨mb1a, mb1b⟩ := mb1
  clear hm0
  by_cases hlt : m < n
  · have HE := Lib.hid (show takeE st l h s n = 12 by rw [e1', if_pos hlt])
    have HS := Lib.hid (show takeSt st o l h s n = st by rw [e2', if_neg (by rw [HE.out]; decide)])
    clear e1' e2'
    go_enter Tryz.func71, Tryz.ntmps71
    go_wp2_with fail
    refine HF.out.mono ?_
    rintro e w1 ⟨rfl, hb1⟩
    have B1 := Lib.hid hb1
    clear hb1
    go_wp2_with fail
    refine (LF.out w1 B1.out).mono ?_
    rintro e w2 ⟨rfl, hb2⟩
    have FIN := Lib.hid (HB.out.fin hb2)
    clear hb2
    go_wp2_with fail
    go_ret
    refine ⟨by rw [HE.out]; rfl, ?_, FIN.out.2⟩
    rw [HS.out]
    exact FIN.out.1
  · have HE := Lib.hid (show takeE st l h s n = 0 by rw [e1', if_neg hlt])
    have hen : holdEnt o n = ⟨3, o, 0, n, 0, 0⟩ := if_pos n1
    have HS := Lib.hid (show takeSt st o l h s n = { heldSt st o l h s n with entries := trimE (st.entries ++ [⟨3, o, 0, n, 0, 0⟩]) } by rw [e2', if_pos HE.out, hen])
    clear e1' e2' hen
    go_enter Tryz.func71, Tryz.ntmps71
    go_wp2_with fail
    refine HF.out.mono ?_
    rintro e w1 ⟨rfl, hb1⟩
    have B1 := Lib.hid hb1
    clear hb1
    go_wp2_with fail
    refine (LF.out w1 B1.out).mono ?_
    rintro e w2 ⟨rfl, hb2⟩
    have B2 := Lib.hid hb2
    clear hb2
    go_wp2_with fail
    refine (holdR_st p o n l h s w2 F st wh (HB.out.below B2.out) ho HACC.out (by omega)).mono ?_
    rintro e w3 ⟨rfl, hb3, ht3⟩
    obtain ⟨k1, k2⟩ := RB.then (Touch.of_below B2.out) hb3 ht3 (fun k hk => Or.inl hk)
    have K1 := Lib.hid k1
    have K2 := Lib.hid k2
    clear hb3 ht3 k1 k2
    go_wp2_with fail
    refine (noteR_st p ⟨3, o, 0, n, 0, 0⟩ w3 _ _ wh K1.out HW.out).mono ?_
    rintro e w4 ⟨rfl, hb4, ht4⟩
    obtain ⟨k3, k4⟩ := RB.then K2.out hb4 ht4 (fun k hk => hk)
    have K3 := Lib.hid k3
    have K4 := Lib.hid k4
    clear hb4 ht4 k3 k4
    go_wp2_with fail
    go_ret
    refine ⟨by rw [HE.out]; rfl, ?_, K4.out⟩
    rw [HS.out]
    exact K3.out.st rfl rfl rfl rfl rfl rfl
theorem takeR_all (p : Nat) (o n : Int) (w : World) (F : Nat → Prop) (st : BookSt) (wh : Bool) (hb : RB w F p st wh) (g : GoodE st) (hw : wh = true → st.entries.length ≤ 9999) :
    Calls Tryz.prog 71 #[.pointer (some ⟨p, 0, none⟩), .int .i64 o, .int .i64 n] w (RP (takeR st o n).1 F p (takeR st o n).2 wh w) := by
  unfold takeR
  rcases fault_cases st o [n] with ⟨h1, h2⟩ | ⟨h1, h2, h3⟩ | ⟨h1, h2, l, h, s, h3⟩
  · rw [if_neg (by rw [h2]; decide)]
    exact takeR_err p o n w F st wh hb 2 h1 (Or.inl rfl)
  · rw [if_pos h2, h3]
    exact takeR_err p o n w F st wh hb 7 h1 (Or.inr rfl)
  · rw [if_pos h2, h3]
    exact takeR_ok p o n l h s w F st wh hb g hw h1 h2 h3

set_option maxHeartbeats 1000000 in
set_option maxRecDepth 100000 in
theorem giveR_err (p : Nat) (o n : Int) (w : World) (F : Nat → Prop) (st : BookSt) (wh : Bool) (hb : RB w F p st wh) (e : Int) (he : faultE st [o] [n] = e) (hv : e = 2 ∨ e = 7) :
    Calls Tryz.prog 74 #[.pointer (some ⟨p, 0, none⟩), .int .i64 o, .int .i64 n] w (RP e F p st wh w) := by
  have HF := Lib.hid (fault_on p o n w F st wh hb)
  rw [he] at HF
  have HB := Lib.hid hb
  clear he hb
  rcases hv with rfl | rfl
  all_goals
    go_enter Tryz.func74, Tryz.ntmps74
    go_wp2_with fail
    refine HF.out.mono ?_
    rintro e w1 ⟨rfl, hb1⟩
    have FIN := Lib.hid (HB.out.fin hb1)
    clear hb1
    go_wp2_with fail
    go_ret
    exact ⟨rfl, FIN.out.1, FIN.out.2⟩
set_option maxHeartbeats 2000000 in
set_option maxRecDepth 100000 in
theorem giveR_ok (p : Nat) (o n l h s : Int) (w : World) (F : Nat → Prop) (st : BookSt) (wh : Bool) (hb : RB w F p st wh) (g : GoodE st) (hw : wh = true → st.entries.length ≤ 9999) (he : faultE st [o] [n] = 0) (hc : chkE o [n] = 0) (ha : st.acc o = some (l, h, s)) :
    Calls Tryz.prog 74 #[.pointer (some ⟨p, 0, none⟩), .int .i64 o, .int .i64 n] w (RP (giveE h n) F p (giveSt st o l h s n) wh w) := by
  have HF := Lib.hid (fault_on p o n w F st wh hb)
  rw [he] at HF
  have HB := Lib.hid hb
  obtain ⟨ho, hn0⟩ := chkE_zero hc
  have hn := hn0 n (by simp)
  have hb1 := (g.own o l h s ha).2
  have hs0 := g.s0 ha
  have HACC := Lib.hid ha
  have HW := Lib.hid hw
  have e1' : giveE h n = if h < n then 5 else 0 := rfl
  have e2' : giveSt st o l h s n = if giveE h n = 0 then { heldSt st o l h s (-n) with entries := trimE (st.entries ++ [⟨4, o, 0, n, 0, 0⟩]) } else st := rfl
  obtain ⟨q1, q2, q3, q4⟩ := hb1
  obtain ⟨n1, n2⟩ := hn
  have FD := fun W => accField1 l h W
  obtain ⟨mb, lv, ev, D, hm⟩ := hb
  have HM := Lib.hid hm
  clear q4 he hc ha hn0 hw g hm
  by_cases hlt : h < n
  · have HE := Lib.hid (show giveE h n = 5 by rw [e1', if_pos hlt])
    have HS := Lib.hid (show giveSt st o l h s n = st by rw [e2', if_neg (by rw [HE.out]; decide)])
    clear e1' e2'
    go_enter Tryz.func74, Tryz.ntmps74
    go_wp2_with fail
    refine HF.out.mono ?_
    rintro e w1 ⟨rfl, hb1⟩
    have FIN := Lib.hid (HB.out.fin hb1)
    have c1 : w1.cell? ⟨p, 1, none⟩ = some (.map (some mb)) := by rw [cell_of (HM.out.same (Below.same_on hb1)).self]; rfl
    have LK := ref_lookup (HM.out.same (Below.same_on hb1)) o ho HACC.out
    clear hb1
    go_wp2_with fail
    go_ret
    refine ⟨by rw [HE.out]; rfl, ?_, FIN.out.2⟩
    rw [HS.out]
    exact FIN.out.1
  · have HE := Lib.hid (show giveE h n = 0 by rw [e1', if_neg hlt])
    have HS := Lib.hid (show giveSt st o l h s n = { heldSt st o l h s (-n) with entries := trimE (st.entries ++ [⟨4, o, 0, n, 0, 0⟩]) } by rw [e2', if_pos HE.out])
    clear e1' e2'
    go_enter Tryz.func74, Tryz.ntmps74
    go_wp2_with fail
    refine HF.out.mono ?_
    rintro e w1 ⟨rfl, hb1⟩
    have B1 := Lib.hid hb1
    have c1 : w1.cell? ⟨p, 1, none⟩ = some (.map (some mb)) := by rw [cell_of (HM.out.same (Below.same_on hb1)).self]; rfl
    have LK := ref_lookup (HM.out.same (Below.same_on hb1)) o ho HACC.out
    clear hb1
    go_wp2_with fail
    refine (holdR_st p o (-n) l h s w1 F st wh (HB.out.below B1.out) ho HACC.out (by omega)).mono ?_
    rintro e w3 ⟨rfl, hb3, ht3⟩
    obtain ⟨k1, k2⟩ := RB.then (Touch.of_below B1.out) hb3 ht3 (fun k hk => Or.inl hk)
    have K1 := Lib.hid k1
    have K2 := Lib.hid k2
    clear hb3 ht3 k1 k2 c1 LK
    go_wp2_with fail
    refine (noteR_st p ⟨4, o, 0, n, 0, 0⟩ w3 _ _ wh K1.out HW.out).mono ?_
    rintro e w4 ⟨rfl, hb4, ht4⟩
    obtain ⟨k3, k4⟩ := RB.then K2.out hb4 ht4 (fun k hk => hk)
    have K3 := Lib.hid k3
    have K4 := Lib.hid k4
    clear hb4 ht4 k3 k4
    go_wp2_with fail
    go_ret
    refine ⟨by rw [HE.out]; rfl, ?_, K4.out⟩
    rw [HS.out]
    exact K3.out.st rfl rfl rfl rfl rfl rfl
theorem giveR_all (p : Nat) (o n : Int) (w : World) (F : Nat → Prop) (st : BookSt) (wh : Bool) (hb : RB w F p st wh) (g : GoodE st) (hw : wh = true → st.entries.length ≤ 9999) :
    Calls Tryz.prog 74 #[.pointer (some ⟨p, 0, none⟩), .int .i64 o, .int .i64 n] w (RP (giveR st o n).1 F p (giveR st o n).2 wh w) := by
  unfold giveR
  rcases fault_cases st o [n] with ⟨h1, h2⟩ | ⟨h1, h2, h3⟩ | ⟨h1, h2, l, h, s, h3⟩
  · rw [if_neg (by rw [h2]; decide)]
    exact giveR_err p o n w F st wh hb 2 h1 (Or.inl rfl)
  · rw [if_pos h2, h3]
    exact giveR_err p o n w F st wh hb 7 h1 (Or.inr rfl)
  · rw [if_pos h2, h3]
    exact giveR_ok p o n l h s w F st wh hb g hw h1 h2 h3

end
end Go.Proofs.YtfnmjlnpfoclbaaGreat

namespace Go.Proofs.YtfnmjlnpfoclbaaGreat
section
open Go.RowKit
set_option linter.unusedVariables false

def rqCells (bp : Nat) (o k s m sz : Int) (cv : Value) (cl : Bool) : Array Value :=
  #[.pointer (some ⟨bp, 0, none⟩), .int .i64 o, .int .i64 k, .int .i64 s, .int .i64 m, .int .i64 sz, cv, .bool cl]

structure RqMem (w : World) (F : Nat → Prop) (I : QuId) (L : List QCh) (cv : Value) : Prop where
  self : w.heap[I.r]? = some (.cells (rqCells I.bp I.o I.k I.s I.m I.sz cv false) 83 (0, 0))
  fr : F I.r
  crow : w.ownsRow 0 101 3 cv L.length (L.flatMap QCh.cells)
  fc : ∀ k, cv.ownBlock = some k → F k
  mem : ∀ c ∈ L, byteRow w c.b c.os ∧ F c.b
  inj : (L.map QCh.b).Nodup

theorem RqMem.same {w w' : World} {F : Nat → Prop} {I : QuId} {L : List QCh} {cv : Value} (h : RqMem w F I L cv) (hs : SameOn F w w') : RqMem w' F I L cv where
  self := (hs _ h.fr (lt_of h.self)).trans h.self
  fr := h.fr
  crow := ownsRow_same h.crow (fun k hk => hs k (h.fc k hk) (h.crow.lt k hk).2)
  fc := h.fc
  mem := fun c hc => ⟨(hs _ (h.mem c hc).2 (lt_of (h.mem c hc).1)).trans (h.mem c hc).1, (h.mem c hc).2⟩
  inj := h.inj
theorem RqMem.below {w w' : World} {F : Nat → Prop} {I : QuId} {L : List QCh} {cv : Value} (h : RqMem w F I L cv) (hs : Below w.heap.size w w') : RqMem w' F I L cv := h.same (Below.same_on hs)
theorem RqMem.wider {w : World} {F G : Nat → Prop} {I : QuId} {L : List QCh} {cv : Value} (h : RqMem w F I L cv) (hG : ∀ k, F k → G k) : RqMem w G I L cv where
  self := h.self
  fr := hG _ h.fr
  crow := h.crow
  fc := fun k hk => hG _ (h.fc k hk)
  mem := fun c hc => ⟨(h.mem c hc).1, hG _ (h.mem c hc).2⟩
  inj := h.inj
theorem RqMem.chs {w : World} {F : Nat → Prop} {I : QuId} {L : List QCh} {cv : Value} (h : RqMem w F I L cv) : QChsIn w cv L := QChsIn.own h.crow

def SizesPost (L : List QCh) (w : World) : Ending → World → Prop := fun e w' => e = .returned (.tuple #[.int .i64 (qsum QCh.room L : Nat), .int .i64 (qsum QCh.len L : Nat)]) ∧ Below w.heap.size w w'
set_option maxHeartbeats 1000000 in
set_option maxRecDepth 100000 in
theorem sizes_any (r : Nat) (L : List QCh) (cv : Value) (w : World) (c7 : w.cell? ⟨r, 6, none⟩ = some cv) (hc : QChsIn w cv L) (hok : QChsOk L) :
    Calls Tryz.prog 10 #[.pointer (some ⟨r, 0, none⟩)] w (SizesPost L w) := by
  obtain ⟨a, cap, rfl, h1, h2, hc⟩ := hc
  have HC := Lib.hid hc
  have OK := Lib.hid hok
  clear hc hok
  have b63 : L.length ≤ 500 := OK.out.1
  go_enter Tryz.func10, Tryz.ntmps10
  go_wp2_with fail
  go_loopw [2, 3, 11] (fun m n i wr => ∃ k : Nat, k ≤ L.length ∧ i = .int .i64 k ∧ m = .int .i64 (qsum QCh.room (L.take k) : Nat) ∧ n = .int .i64 (qsum QCh.len (L.take k) : Nat) ∧ Below w.heap.size w wr) (fun _ _ i _ => L.length - (intOf i).toNat)
  case atStart => exact ⟨0, Nat.zero_le _, rfl, by simp [qsum], by simp [qsum], Below.refl _ _⟩
  case round =>
    obtain ⟨k, hk, rfl, rfl, rfl, hb⟩ := hrel
    have hs := OK.out.sum k
    have hr := OK.out.sumR k
    have hsz := hb.size
    have BL := Lib.hid hb
    by_cases hlt : k < L.length
    · obtain ⟨b, o, rfl, d0, d1, d2⟩ := HC.out k hlt
      have e0 := old_cell hb d0
      have e1 := old_cell hb d1
      have e2 := old_cell hb d2
      have S : Hid (qsum QCh.len (L.take (k + 1)) = qsum QCh.len (L.take k) + ((L.getD k QCh.zero).to - (L.getD k QCh.zero).fr)) := Lib.hid (qsum_take QCh.len L k hlt)
      have T : Hid (qsum QCh.room (L.take (k + 1)) = qsum QCh.room (L.take k) + (L.getD k QCh.zero).os.length) := Lib.hid (qsum_take QCh.room L k hlt)
      obtain ⟨q1, q2, q3⟩ := OK.out.2 _ (qgetD_in hlt)
      clear d0 d1 d2 hb
      generalize L.getD k QCh.zero = x at *
      generalize qsum QCh.len (L.take k) = N at *
      generalize qsum QCh.room (L.take k) = M at *
      go_wp2_with fail
      go_quiet (fail)
      go_wp2_with fail
      go_roundw
      case rel => exact ⟨k + 1, by omega, by go_num, by rw [T.out]; first | done | rfl | (congr 1; omega), by rw [S.out]; first | done | (congr 1; omega), bdrewN (BL.out.alloc hsz _) nq⟩
      case measure => simp [intOf]; omega
    · obtain rfl : k = L.length := by omega
      clear hlt hk hb
      rw [List.take_length] at hs hr ⊢
      go_wp2_with fail
      go_ret2
      exact ⟨rfl, BL.out⟩

theorem faultE_held (st : BookSt) (o : Int) : faultE st [o] [] = heldE st o := by
  rw [faultE_one]
  unfold chkE heldE
  by_cases h : 1 ≤ o ∧ o ≤ 40
  · rw [if_pos h, if_pos (show (if (1 ≤ o ∧ o ≤ 40) ∧ ∀ z ∈ ([] : List Int), 0 ≤ z ∧ z ≤ 10000000 then (0 : Int) else 2) = 0 from if_pos ⟨h, by simp⟩)]
    cases st.acc o <;> rfl
  · rw [if_neg h, if_neg (by rw [if_neg (fun x => h x.1)]; decide)]

set_option maxHeartbeats 2000000 in
set_option maxRecDepth 100000 in
theorem newQueueR_any (bp : Nat) (o k s m sz : Int) (w : World) (F : Nat → Prop) (bst : BookSt) (hb : RB w F bp bst false) :
    Calls Tryz.prog 6 #[.pointer (some ⟨bp, 0, none⟩), .int .i64 o, .agg #[.int .i64 k, .int .i64 s, .int .i64 m], .int .i64 sz] w (PtrPost (rqCells bp o k s m sz (.slice none 0 0) false) 83 (quErr bst k s m sz o) w) := by
  have HB := Lib.hid hb
  have W1 : Below w.heap.size w (w.alloc (.cells #[.int .i64 k, .int .i64 s, .int .i64 m] 23)) := by go_grown
  have X1 : (w.alloc (.cells #[.int .i64 k, .int .i64 s, .int .i64 m] 23)).heap[w.heap.size]? = some (.cells #[.int .i64 k, .int .i64 s, .int .i64 m] 23 (0, 0)) := heap_alloc_new w _
  have HW1 := Lib.hid W1
  have HX1 := Lib.hid X1
  have EQ : Hid (quErr bst k s m sz o = if polErr k s m = 0 then (if 1 ≤ sz ∧ sz ≤ 100000 then (if m < sz then 12 else heldE bst o) else 2) else polErr k s m) := Lib.hid rfl
  unfold PtrPost
  generalize quErr bst k s m sz o = qe at *
  clear hb W1 X1
  go_enter Tryz.func6, Tryz.ntmps6
  go_wp2_with fail
  refine (policyFault_any k s m _).mono ?_
  rintro e w2 ⟨rfl, rfl, _⟩
  have hs1 := HW1.out.size
  have B2 := Lib.hid (HW1.out.alloc hs1 (.cells #[.int .i64 k, .int .i64 s, .int .i64 m] 23))
  have X2 := Lib.hid ((heap_alloc_old (w.alloc (.cells #[.int .i64 k, .int .i64 s, .int .i64 m] 23)) (.cells #[.int .i64 k, .int .i64 s, .int .i64 m] 23) (lt_of HX1.out)).trans HX1.out)
  clear HX1 HW1 hs1
  generalize (w.alloc (.cells #[.int .i64 k, .int .i64 s, .int .i64 m] 23)).alloc (.cells #[.int .i64 k, .int .i64 s, .int .i64 m] 23) = w2 at *
  by_cases e1 : polErr k s m = 0
  case neg =>
    have HE1 := Lib.hid e1
    have e1' : (polErr k s m == 0) = false := by simpa using e1
    have EQ2 : Hid (qe = polErr k s m) := Lib.hid (by rw [EQ.out, if_neg e1])
    clear EQ e1
    generalize polErr k s m = E at *
    go_wp2_with fail
    go_ret2
    refine ⟨B2.out, Or.inl ?_⟩
    rw [EQ2.out]
    exact ⟨HE1.out, rfl⟩
  have EQ2 : Hid (qe = if 1 ≤ sz ∧ sz ≤ 100000 then (if m < sz then 12 else heldE bst o) else 2) := Lib.hid (by rw [EQ.out, if_pos e1])
  rw [e1]
  clear e1 EQ
  have x0 : w2.cell? ⟨w.heap.size, 0, none⟩ = some (.int .i64 k) := by rw [cell_of X2.out]; rfl
  have x1 : w2.cell? ⟨w.heap.size, 1, none⟩ = some (.int .i64 s) := by rw [cell_of X2.out]; rfl
  have x2 : w2.cell? ⟨w.heap.size, 2, none⟩ = some (.int .i64 m) := by rw [cell_of X2.out]; rfl
  have hs2 := B2.out.size
  by_cases z1 : sz < 1
  case pos =>
    have EQ3 : Hid (qe = 2) := Lib.hid (by rw [EQ2.out, if_neg (by omega)])
    clear EQ2
    go_wp2_with fail
    go_ret2
    refine ⟨B2.out, Or.inl ?_⟩
    rw [EQ3.out]
    exact ⟨by simp, rfl⟩
  by_cases z2 : 100000 < sz
  case pos =>
    have EQ3 : Hid (qe = 2) := Lib.hid (by rw [EQ2.out, if_neg (by omega)])
    clear EQ2
    go_wp2_with fail
    go_ret2
    refine ⟨B2.out, Or.inl ?_⟩
    rw [EQ3.out]
    exact ⟨by simp, rfl⟩
  have EQ3 : Hid (qe = if m < sz then 12 else heldE bst o) := Lib.hid (by rw [EQ2.out, if_pos (by omega)])
  clear EQ2
  by_cases hm : m < sz
  · have EQ4 : Hid (qe = 12) := Lib.hid (by rw [EQ3.out, if_pos hm])
    clear EQ3
    go_wp2_with fail
    go_ret2
    refine ⟨B2.out, Or.inl ?_⟩
    rw [EQ4.out]
    exact ⟨by simp, rfl⟩
  · have HH := Lib.hid (fault_on1 bp o w2 F bst false (hb := HB.out.below B2.out))
    rw [faultE_held] at HH
    have EQ4 : Hid (qe = heldE bst o) := Lib.hid (by rw [EQ3.out, if_neg hm])
    clear EQ3
    generalize heldE bst o = he at *
    go_wp2_with fail
    refine HH.out.mono ?_
    rintro e w3 ⟨rfl, hb3⟩
    have B3 := Lib.hid (B2.out.trans (hb3.mono hs2))
    have hs3 := B3.out.size
    have x0' := old_cell hb3 x0
    have x1' := old_cell hb3 x1
    have x2' := old_cell hb3 x2
    clear hb3 x0 x1 x2
    by_cases h0 : he = 0
    · subst h0
      go_wp2_with fail
      go_ret2
      refine ⟨B3.out.alloc hs3 _, Or.inr ?_⟩
      exact ⟨EQ4.out, w3.heap.size, rfl, hs3, heap_alloc_new w3 _⟩
    · have H0 := Lib.hid h0
      go_wp2_with fail
      go_ret2
      refine ⟨B3.out, Or.inl ?_⟩
      rw [EQ4.out]
      exact ⟨H0.out, rfl⟩

end
end Go.Proofs.YtfnmjlnpfoclbaaGreat
