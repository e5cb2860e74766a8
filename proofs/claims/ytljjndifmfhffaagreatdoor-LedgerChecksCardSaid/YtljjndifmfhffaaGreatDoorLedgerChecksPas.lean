/-
  The reference's book: what its calls lean on; Take and Give. No conditions but what always holds of a book.
-/
import Derived.Test.YtljjndifmfhffaaGreatDoorLedgerChecksPar
namespace Go.Proofs.YtljjndifmfhffaaGreatDoor
open Go.RowKit Go.Maps
set_option linter.unusedVariables false

/-- The book as the reference has it, beside the plain machine. -/
def RB (w : World) (F : Nat → Prop) (p : Nat) (st : BookSt) (wh : Bool) : Prop := RefAt w F p st (seenE wh st.entries) wh 40
def RP (err : Int) (F : Nat → Prop) (p : Nat) (st : BookSt) (wh : Bool) (w : World) : Ending → World → Prop := fun e w' =>
  e = .returned (.int .i64 err) ∧ RB w' (fun k => F k ∨ w.heap.size ≤ k) p st wh ∧ Touch F w w'
theorem RB.same {w w' : World} {F : Nat → Prop} {p : Nat} {st : BookSt} {wh : Bool} (h : RB w F p st wh) (hs : SameOn F w w') : RB w' F p st wh := RefAt.same h hs
theorem RB.below {w w' : World} {F : Nat → Prop} {p : Nat} {st : BookSt} {wh : Bool} (h : RB w F p st wh) (B : Below w.heap.size w w') : RB w' F p st wh := RefAt.same h (Below.same_on B)
theorem RB.fin {w W : World} {F : Nat → Prop} {p : Nat} {st : BookSt} {wh : Bool} (hb : RB w F p st wh) (B : Below w.heap.size w W) : RB W (fun k => F k ∨ w.heap.size ≤ k) p st wh ∧ Touch F w W := ref_fin hb B
theorem RB.st {w : World} {F : Nat → Prop} {p : Nat} {st : BookSt} {wh : Bool} (h : RB w F p st wh) {st' : BookSt}
    (h1 : st'.budget = st.budget) (h2 : st'.acc = st.acc) (h3 : st'.leases = st.leases) (h4 : st'.last = st.last) (h5 : st'.time = st.time) (h6 : st'.entries = st.entries) : RB w F p st' wh := by
  unfold RB
  rw [h6]
  exact RefAt.st h h1 h2 h3 h4 h5
theorem RB.then {F G : Nat → Prop} {w w1 w2 : World} {p : Nat} {st : BookSt} {wh : Bool} (ht1 : Touch F w w1) (hb : RB w2 (fun k => G k ∨ w1.heap.size ≤ k) p st wh) (ht2 : Touch G w1 w2) (hG : ∀ k, G k → F k ∨ w.heap.size ≤ k) :
    RB w2 (fun k => F k ∨ w.heap.size ≤ k) p st wh ∧ Touch F w w2 :=
  ⟨RefAt.wider hb (fun k hk => hk.elim (hG k) (fun x => Or.inr (Nat.le_trans ht1.size x))), ht1.trans ht2 hG⟩

theorem noteR_st (p : Nat) (en : Ent) (w : World) (F : Nat → Prop) (st : BookSt) (wh : Bool) (hb : RB w F p st wh) (hw : wh = true → st.entries.length ≤ 9999) :
    Calls Tryz.prog 68 #[.pointer (some ⟨p, 0, none⟩), .agg #[.int .i64 en.kind, .int .i64 en.owner, .int .i64 en.other, .int .i64 en.amount, .int .i64 en.lease, .int .i64 en.untl]] w
      (fun e w' => e = .returned (.tuple #[]) ∧ RB w' (fun k => F k ∨ w.heap.size ≤ k) p (st.note en) wh ∧ Touch F w w') := by
  refine (noteR_any p en w F st _ wh hb (seen_len wh st hw) (fun h => by subst h; exact seen_len5 st)).mono ?_
  rintro e w' ⟨h1, h2, h3⟩
  refine ⟨h1, ?_, h3⟩
  unfold RB
  rw [← seen_note wh st en hw]
  exact RefAt.st h2 rfl rfl rfl rfl rfl
theorem holdR_st (p : Nat) (o by_ l h s : Int) (w : World) (F : Nat → Prop) (st : BookSt) (wh : Bool) (hb : RB w F p st wh) (ho : 1 ≤ o ∧ o ≤ 40) (ha : st.acc o = some (l, h, s)) (hr : -1000000000 ≤ h + by_ ∧ h + by_ ≤ 1000000000) :
    Calls Tryz.prog 70 #[.pointer (some ⟨p, 0, none⟩), .int .i64 o, .int .i64 by_] w
      (fun e w' => e = .returned (.tuple #[]) ∧ RB w' (fun k => F k ∨ w.heap.size ≤ k) p (st.put o (some (l, h + by_, s))) wh ∧ Touch F w w') :=
  holdR_any p o by_ l h s w F st _ wh hb ho ha hr

/-- The rows that a call makes for fault. -/
theorem fault_on (p : Nat) (o n : Int) (w : World) (F : Nat → Prop) (st : BookSt) (wh : Bool) (hb : RB w F p st wh) :
    Calls Tryz.prog 67 #[.pointer (some ⟨p, 0, none⟩), .slice (some ⟨w.heap.size, 0, none⟩) 1 1, .slice (some ⟨w.heap.size + 1, 0, none⟩) 1 1]
      ((w.alloc (.cells #[.int .i64 o] 3)).alloc (.cells #[.int .i64 n] 3)) (fun e w' => e = .returned (.int .i64 (faultE st [o] [n])) ∧ Below w.heap.size w w') := by
  have B2 : Below w.heap.size w ((w.alloc (.cells #[.int .i64 o] 3)).alloc (.cells #[.int .i64 n] 3)) := ((Below.refl _ w).alloc (Nat.le_refl _) _).alloc (by simp) _
  have r1 := (reads_one w o 3).below ((Below.refl _ (w.alloc (.cells #[.int .i64 o] 3))).alloc (Nat.le_refl _) (.cells #[.int .i64 n] 3)) rfl
  have r2 := reads_one (w.alloc (.cells #[.int .i64 o] 3)) n 3
  rw [World.size_alloc] at r2
  refine (faultR_any p _ _ [o] [n] _ F st _ wh 40 (hb.below B2) r1 r2).mono ?_
  rintro e w' ⟨h1, h2⟩
  exact ⟨h1, B2.trans (h2.mono B2.size)⟩
theorem fault_on1 (p : Nat) (o : Int) (w : World) (F : Nat → Prop) (st : BookSt) (wh : Bool) (hb : RB w F p st wh) :
    Calls Tryz.prog 67 #[.pointer (some ⟨p, 0, none⟩), .slice (some ⟨w.heap.size, 0, none⟩) 1 1, .slice none 0 0]
      (w.alloc (.cells #[.int .i64 o] 3)) (fun e w' => e = .returned (.int .i64 (faultE st [o] [])) ∧ Below w.heap.size w w') := by
  have B2 : Below w.heap.size w (w.alloc (.cells #[.int .i64 o] 3)) := (Below.refl _ w).alloc (Nat.le_refl _) _
  refine (faultR_any p _ _ [o] [] _ F st _ wh 40 (hb.below B2) (reads_one w o 3) (reads_nil _)).mono ?_
  rintro e w' ⟨h1, h2⟩
  exact ⟨h1, B2.trans (h2.mono B2.size)⟩
theorem fault_on2 (p : Nat) (o a b : Int) (w : World) (F : Nat → Prop) (st : BookSt) (wh : Bool) (hb : RB w F p st wh) :
    Calls Tryz.prog 67 #[.pointer (some ⟨p, 0, none⟩), .slice (some ⟨w.heap.size, 0, none⟩) 1 1, .slice (some ⟨w.heap.size + 1, 0, none⟩) 2 2]
      ((w.alloc (.cells #[.int .i64 o] 3)).alloc (.cells #[.int .i64 a, .int .i64 b] 3)) (fun e w' => e = .returned (.int .i64 (faultE st [o] [a, b])) ∧ Below w.heap.size w w') := by
  have B2 : Below w.heap.size w ((w.alloc (.cells #[.int .i64 o] 3)).alloc (.cells #[.int .i64 a, .int .i64 b] 3)) := ((Below.refl _ w).alloc (Nat.le_refl _) _).alloc (by simp) _
  have r1 := (reads_one w o 3).below ((Below.refl _ (w.alloc (.cells #[.int .i64 o] 3))).alloc (Nat.le_refl _) (.cells #[.int .i64 a, .int .i64 b] 3)) rfl
  have r2 := reads_two (w.alloc (.cells #[.int .i64 o] 3)) a b
  rw [World.size_alloc] at r2
  refine (faultR_any p _ _ [o] [a, b] _ F st _ wh 40 (hb.below B2) r1 r2).mono ?_
  rintro e w' ⟨h1, h2⟩
  exact ⟨h1, B2.trans (h2.mono B2.size)⟩
theorem fault_on3 (p : Nat) (a b n : Int) (w : World) (F : Nat → Prop) (st : BookSt) (wh : Bool) (hb : RB w F p st wh) :
    Calls Tryz.prog 67 #[.pointer (some ⟨p, 0, none⟩), .slice (some ⟨w.heap.size, 0, none⟩) 2 2, .slice (some ⟨w.heap.size + 1, 0, none⟩) 1 1]
      ((w.alloc (.cells #[.int .i64 a, .int .i64 b] 3)).alloc (.cells #[.int .i64 n] 3)) (fun e w' => e = .returned (.int .i64 (faultE st [a, b] [n])) ∧ Below w.heap.size w w') := by
  have B2 : Below w.heap.size w ((w.alloc (.cells #[.int .i64 a, .int .i64 b] 3)).alloc (.cells #[.int .i64 n] 3)) := ((Below.refl _ w).alloc (Nat.le_refl _) _).alloc (by simp) _
  have r1 := (reads_two w a b).below ((Below.refl _ (w.alloc (.cells #[.int .i64 a, .int .i64 b] 3))).alloc (Nat.le_refl _) (.cells #[.int .i64 n] 3)) rfl
  have r2 := reads_one (w.alloc (.cells #[.int .i64 a, .int .i64 b] 3)) n 3
  rw [World.size_alloc] at r2
  refine (faultR_any p _ _ [a, b] [n] _ F st _ wh 40 (hb.below B2) r1 r2).mono ?_
  rintro e w' ⟨h1, h2⟩
  exact ⟨h1, B2.trans (h2.mono B2.size)⟩

set_option maxHeartbeats 1000000 in
set_option maxRecDepth 100000 in
theorem takeR_err (p : Nat) (o n : Int) (w : World) (F : Nat → Prop) (st : BookSt) (wh : Bool) (hb : RB w F p st wh) (e : Int) (he : faultE st [o] [n] = e) (hv : e = 2 ∨ e = 7) :
    Calls Tryz.prog 37 #[.pointer (some ⟨p, 0, none⟩), .int .i64 o, .int .i64 n] w (RP e F p st wh w) := by
  have HF := Lib.hid (fault_on p o n w F st wh hb)
  rw [he] at HF
  have HB := Lib.hid hb
  clear he hb
  rcases hv with rfl | rfl
  all_goals
    go_enter Tryz.func37, Tryz.ntmps37
    go_wp2_with fail
    refine HF.out.mono ?_
    rintro e w1 ⟨rfl, hb1⟩
    have FIN := Lib.hid (HB.out.fin hb1)
    clear hb1
    go_wp2_with fail
    go_ret
    exact ⟨rfl, FIN.out.1, FIN.out.2⟩
set_option maxHeartbeats 2000000 in
set_option maxRecDepth 100000 in
theorem takeR_ok (p : Nat) (o n l h s : Int) (w : World) (F : Nat → Prop) (st : BookSt) (wh : Bool) (hb : RB w F p st wh) (g : GoodE st) (hw : wh = true → st.entries.length ≤ 9999) (he : faultE st [o] [n] = 0) (hc : chkE o [n] = 0) (ha : st.acc o = some (l, h, s)) :
    Calls Tryz.prog 37 #[.pointer (some ⟨p, 0, none⟩), .int .i64 o, .int .i64 n] w (RP (takeE st l h s n) F p (takeSt st o l h s n) wh w) := by
  have HF := Lib.hid (fault_on p o n w F st wh hb)
  rw [he] at HF
  have HB := Lib.hid hb
  have HG := Lib.hid g
  obtain ⟨ho, hn0⟩ := chkE_zero hc
  have hn := hn0 n (by simp)
  have hb1 := (g.own o l h s ha).2
  have hs0 := g.s0 ha
  have HACC := Lib.hid ha
  have HW := Lib.hid hw
  have LF : Hid (∀ W, Below w.heap.size w W → Calls Tryz.prog 69 #[.pointer (some ⟨p, 0, none⟩), .int .i64 o] W (fun e w' => e = .returned (.int .i64 (min (l - (h + s)) (st.budget - st.total))) ∧ Below w.heap.size w w')) := Lib.hid (fun W hW => by
    refine (leftR_any p o l h s W F st _ wh 40 (HB.out.below hW) HG.out ho HACC.out).mono ?_
    rintro e w' ⟨h1, h2⟩
    exact ⟨h1, hW.trans (h2.mono hW.size)⟩)
  have ht0 := g.tot0
  have ht1 := g.totb
  have hbu := g.bud
  have e1' : takeE st l h s n = if min (l - (h + s)) (st.budget - st.total) < n then 12 else 0 := rfl
  have e2' : takeSt st o l h s n = if takeE st l h s n = 0 then { heldSt st o l h s n with entries := trimE (st.entries ++ [holdEnt o n]) } else st := rfl
  obtain ⟨q1, q2, q3, q4⟩ := hb1
  obtain ⟨n1, n2⟩ := hn
  clear q4 he hb hc ha hn0 hw g
  generalize hm0 : min (l - (h + s)) (st.budget - st.total) = m at *
  have mb1 : -4000000000 ≤ m ∧ m ≤ 4000000000 := by omega
  have hml : m ≤ l - (h + s) := by omega
  obtain ⟨mb1a, mb1b⟩ := mb1
  clear hm0
  by_cases hlt : m < n
  · have HE := Lib.hid (show takeE st l h s n = 12 by rw [e1', if_pos hlt])
    have HS := Lib.hid (show takeSt st o l h s n = st by rw [e2', if_neg (by rw [HE.out]; decide)])
    clear e1' e2'
    go_enter Tryz.func37, Tryz.ntmps37
    go_wp2_with fail
    refine HF.out.mono ?_
    rintro e w1 ⟨rfl, hb1⟩
    have B1 := Lib.hid hb1
    clear hb1
    go_wp2_with fail
    refine (LF.out w1 B1.out).mono ?_
    rintro e w2 ⟨rfl, hb2⟩
    have FIN := Lib.hid (HB.out.fin hb2)
    clear hb2
    go_wp2_with fail
    go_ret
    refine ⟨by rw [HE.out]; rfl, ?_, FIN.out.2⟩
    rw [HS.out]
    exact FIN.out.1
  · have HE := Lib.hid (show takeE st l h s n = 0 by rw [e1', if_neg hlt])
    have hen : holdEnt o n = ⟨3, o, 0, n, 0, 0⟩ := if_pos n1
    have HS := Lib.hid (show takeSt st o l h s n = { heldSt st o l h s n with entries := trimE (st.entries ++ [⟨3, o, 0, n, 0, 0⟩]) } by rw [e2', if_pos HE.out, hen])
    clear e1' e2' hen
    go_enter Tryz.func37, Tryz.ntmps37
    go_wp2_with fail
    refine HF.out.mono ?_
    rintro e w1 ⟨rfl, hb1⟩
    have B1 := Lib.hid hb1
    clear hb1
    go_wp2_with fail
    refine (LF.out w1 B1.out).mono ?_
    rintro e w2 ⟨rfl, hb2⟩
    have B2 := Lib.hid hb2
    clear hb2
    go_wp2_with fail
    refine (holdR_st p o n l h s w2 F st wh (HB.out.below B2.out) ho HACC.out (by omega)).mono ?_
    rintro e w3 ⟨rfl, hb3, ht3⟩
    obtain ⟨k1, k2⟩ := RB.then (Touch.of_below B2.out) hb3 ht3 (fun k hk => Or.inl hk)
    have K1 := Lib.hid k1
    have K2 := Lib.hid k2
    clear hb3 ht3 k1 k2
    go_wp2_with fail
    refine (noteR_st p ⟨3, o, 0, n, 0, 0⟩ w3 _ _ wh K1.out HW.out).mono ?_
    rintro e w4 ⟨rfl, hb4, ht4⟩
    obtain ⟨k3, k4⟩ := RB.then K2.out hb4 ht4 (fun k hk => hk)
    have K3 := Lib.hid k3
    have K4 := Lib.hid k4
    clear hb4 ht4 k3 k4
    go_wp2_with fail
    go_ret
    refine ⟨by rw [HE.out]; rfl, ?_, K4.out⟩
    rw [HS.out]
    exact K3.out.st rfl rfl rfl rfl rfl rfl
theorem takeR_all (p : Nat) (o n : Int) (w : World) (F : Nat → Prop) (st : BookSt) (wh : Bool) (hb : RB w F p st wh) (g : GoodE st) (hw : wh = true → st.entries.length ≤ 9999) :
    Calls Tryz.prog 37 #[.pointer (some ⟨p, 0, none⟩), .int .i64 o, .int .i64 n] w (RP (takeR st o n).1 F p (takeR st o n).2 wh w) := by
  unfold takeR
  rcases fault_cases st o [n] with ⟨h1, h2⟩ | ⟨h1, h2, h3⟩ | ⟨h1, h2, l, h, s, h3⟩
  · rw [if_neg (by rw [h2]; decide)]
    exact takeR_err p o n w F st wh hb 2 h1 (Or.inl rfl)
  · rw [if_pos h2, h3]
    exact takeR_err p o n w F st wh hb 7 h1 (Or.inr rfl)
  · rw [if_pos h2, h3]
    exact takeR_ok p o n l h s w F st wh hb g hw h1 h2 h3

set_option maxHeartbeats 1000000 in
set_option maxRecDepth 100000 in
theorem giveR_err (p : Nat) (o n : Int) (w : World) (F : Nat → Prop) (st : BookSt) (wh : Bool) (hb : RB w F p st wh) (e : Int) (he : faultE st [o] [n] = e) (hv : e = 2 ∨ e = 7) :
    Calls Tryz.prog 38 #[.pointer (some ⟨p, 0, none⟩), .int .i64 o, .int .i64 n] w (RP e F p st wh w) := by
  have HF := Lib.hid (fault_on p o n w F st wh hb)
  rw [he] at HF
  have HB := Lib.hid hb
  clear he hb
  rcases hv with rfl | rfl
  all_goals
    go_enter Tryz.func38, Tryz.ntmps38
    go_wp2_with fail
    refine HF.out.mono ?_
    rintro e w1 ⟨rfl, hb1⟩
    have FIN := Lib.hid (HB.out.fin hb1)
    clear hb1
    go_wp2_with fail
    go_ret
    exact ⟨rfl, FIN.out.1, FIN.out.2⟩
set_option maxHeartbeats 2000000 in
set_option maxRecDepth 100000 in
theorem giveR_ok (p : Nat) (o n l h s : Int) (w : World) (F : Nat → Prop) (st : BookSt) (wh : Bool) (hb : RB w F p st wh) (g : GoodE st) (hw : wh = true → st.entries.length ≤ 9999) (he : faultE st [o] [n] = 0) (hc : chkE o [n] = 0) (ha : st.acc o = some (l, h, s)) :
    Calls Tryz.prog 38 #[.pointer (some ⟨p, 0, none⟩), .int .i64 o, .int .i64 n] w (RP (giveE h n) F p (giveSt st o l h s n) wh w) := by
  have HF := Lib.hid (fault_on p o n w F st wh hb)
  rw [he] at HF
  have HB := Lib.hid hb
  obtain ⟨ho, hn0⟩ := chkE_zero hc
  have hn := hn0 n (by simp)
  have hb1 := (g.own o l h s ha).2
  have hs0 := g.s0 ha
  have HACC := Lib.hid ha
  have HW := Lib.hid hw
  have e1' : giveE h n = if h < n then 5 else 0 := rfl
  have e2' : giveSt st o l h s n = if giveE h n = 0 then { heldSt st o l h s (-n) with entries := trimE (st.entries ++ [⟨4, o, 0, n, 0, 0⟩]) } else st := rfl
  obtain ⟨q1, q2, q3, q4⟩ := hb1
  obtain ⟨n1, n2⟩ := hn
  have FD := fun W => accField1 l h W
  obtain ⟨mb, lv, ev, D, hm⟩ := hb
  have HM := Lib.hid hm
  clear q4 he hc ha hn0 hw g hm
  by_cases hlt : h < n
  · have HE := Lib.hid (show giveE h n = 5 by rw [e1', if_pos hlt])
    have HS := Lib.hid (show giveSt st o l h s n = st by rw [e2', if_neg (by rw [HE.out]; decide)])
    clear e1' e2'
    go_enter Tryz.func38, Tryz.ntmps38
    go_wp2_with fail
    refine HF.out.mono ?_
    rintro e w1 ⟨rfl, hb1⟩
    have FIN := Lib.hid (HB.out.fin hb1)
    have c1 : w1.cell? ⟨p, 1, none⟩ = some (.map (some mb)) := by rw [cell_of (HM.out.same (Below.same_on hb1)).self]; rfl
    have LK := ref_lookup (HM.out.same (Below.same_on hb1)) o ho HACC.out
    clear hb1
    go_wp2_with fail
    go_ret
    refine ⟨by rw [HE.out]; rfl, ?_, FIN.out.2⟩
    rw [HS.out]
    exact FIN.out.1
  · have HE := Lib.hid (show giveE h n = 0 by rw [e1', if_neg hlt])
    have HS := Lib.hid (show giveSt st o l h s n = { heldSt st o l h s (-n) with entries := trimE (st.entries ++ [⟨4, o, 0, n, 0, 0⟩]) } by rw [e2', if_pos HE.out])
    clear e1' e2'
    go_enter Tryz.func38, Tryz.ntmps38
    go_wp2_with fail
    refine HF.out.mono ?_
    rintro e w1 ⟨rfl, hb1⟩
    have B1 := Lib.hid hb1
    have c1 : w1.cell? ⟨p, 1, none⟩ = some (.map (some mb)) := by rw [cell_of (HM.out.same (Below.same_on hb1)).self]; rfl
    have LK := ref_lookup (HM.out.same (Below.same_on hb1)) o ho HACC.out
    clear hb1
    go_wp2_with fail
    refine (holdR_st p o (-n) l h s w1 F st wh (HB.out.below B1.out) ho HACC.out (by omega)).mono ?_
    rintro e w3 ⟨rfl, hb3, ht3⟩
    obtain ⟨k1, k2⟩ := RB.then (Touch.of_below B1.out) hb3 ht3 (fun k hk => Or.inl hk)
    have K1 := Lib.hid k1
    have K2 := Lib.hid k2
    clear hb3 ht3 k1 k2 c1 LK
    go_wp2_with fail
    refine (noteR_st p ⟨4, o, 0, n, 0, 0⟩ w3 _ _ wh K1.out HW.out).mono ?_
    rintro e w4 ⟨rfl, hb4, ht4⟩
    obtain ⟨k3, k4⟩ := RB.then K2.out hb4 ht4 (fun k hk => hk)
    have K3 := Lib.hid k3
    have K4 := Lib.hid k4
    clear hb4 ht4 k3 k4
    go_wp2_with fail
    go_ret
    refine ⟨by rw [HE.out]; rfl, ?_, K4.out⟩
    rw [HS.out]
    exact K3.out.st rfl rfl rfl rfl rfl rfl
theorem giveR_all (p : Nat) (o n : Int) (w : World) (F : Nat → Prop) (st : BookSt) (wh : Bool) (hb : RB w F p st wh) (g : GoodE st) (hw : wh = true → st.entries.length ≤ 9999) :
    Calls Tryz.prog 38 #[.pointer (some ⟨p, 0, none⟩), .int .i64 o, .int .i64 n] w (RP (giveR st o n).1 F p (giveR st o n).2 wh w) := by
  unfold giveR
  rcases fault_cases st o [n] with ⟨h1, h2⟩ | ⟨h1, h2, h3⟩ | ⟨h1, h2, l, h, s, h3⟩
  · rw [if_neg (by rw [h2]; decide)]
    exact giveR_err p o n w F st wh hb 2 h1 (Or.inl rfl)
  · rw [if_pos h2, h3]
    exact giveR_err p o n w F st wh hb 7 h1 (Or.inr rfl)
  · rw [if_pos h2, h3]
    exact giveR_ok p o n l h s w F st wh hb g hw h1 h2 h3

end Go.Proofs.YtljjndifmfhffaaGreatDoor
