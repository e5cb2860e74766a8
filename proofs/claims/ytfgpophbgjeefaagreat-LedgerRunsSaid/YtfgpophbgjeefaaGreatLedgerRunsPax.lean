/-
  The reference's book: Change, Pay, Ask. No conditions but what always holds of a book.
-/
import Derived.Test.YtfgpophbgjeefaaGreatLedgerRunsPaw
namespace Go.Proofs.YtfgpophbgjeefaaGreat
open Go.RowKit Go.Maps
set_option linter.unusedVariables false

theorem leftR_on (p : Nat) (o l h s : Int) (w : World) (F : Nat → Prop) (st : BookSt) (wh : Bool) (hb : RB w F p st wh) (g : GoodE st) (ho : 1 ≤ o ∧ o ≤ 40) (ha : st.acc o = some (l, h, s)) (W : World) (hW : Below w.heap.size w W) :
    Calls Tryz.prog 189 #[.pointer (some ⟨p, 0, none⟩), .int .i64 o] W (fun e w' => e = .returned (.int .i64 (min (l - (h + s)) (st.budget - st.total))) ∧ Below w.heap.size w w') := by
  refine (leftR_any p o l h s W F st _ wh 40 (hb.below hW) g ho ha).mono ?_
  rintro e w' ⟨h1, h2⟩
  exact ⟨h1, hW.trans (h2.mono hW.size)⟩
theorem leasedR_on (p : Nat) (o : Int) (w : World) (F : Nat → Prop) (st : BookSt) (wh : Bool) (hb : RB w F p st wh) (g : GoodE st) (W : World) (hW : Below w.heap.size w W) :
    Calls Tryz.prog 188 #[.pointer (some ⟨p, 0, none⟩), .int .i64 o] W (fun e w' => e = .returned (.int .i64 (leasedOf o st.leases)) ∧ Below w.heap.size w w') := by
  refine (leasedR_any p o W F st _ wh 40 (hb.below hW) g).mono ?_
  rintro e w' ⟨h1, h2⟩
  exact ⟨h1, hW.trans (h2.mono hW.size)⟩

set_option maxHeartbeats 1000000 in
set_option maxRecDepth 100000 in
theorem changeR_err (p : Nat) (o n t : Int) (w : World) (F : Nat → Prop) (st : BookSt) (wh : Bool) (hb : RB w F p st wh) (e : Int) (he : faultE st [o] [n, t] = e) (hv : e = 2 ∨ e = 7) :
    Calls Tryz.prog 156 #[.pointer (some ⟨p, 0, none⟩), .int .i64 o, .int .i64 n, .int .i64 t] w (RP e F p st wh w) := by
  have HF := Lib.hid (fault_on2 p o n t w F st wh hb)
  rw [he] at HF
  have HB := Lib.hid hb
  clear he hb
  rcases hv with rfl | rfl
  all_goals
    go_enter Tryz.func156, Tryz.ntmps156
    go_wp2_with fail
    refine HF.out.mono ?_
    rintro e w1 ⟨rfl, hb1⟩
    have FIN := Lib.hid (HB.out.fin hb1)
    clear hb1
    go_wp2_with fail
    go_ret
    exact ⟨rfl, FIN.out.1, FIN.out.2⟩

set_option maxHeartbeats 1000000 in
set_option maxRecDepth 100000 in
theorem payR_err (p : Nat) (f t n : Int) (w : World) (F : Nat → Prop) (st : BookSt) (wh : Bool) (hb : RB w F p st wh) (e : Int) (he : faultE st [f, t] [n] = e) (hv : e = 2 ∨ e = 7) :
    Calls Tryz.prog 158 #[.pointer (some ⟨p, 0, none⟩), .int .i64 f, .int .i64 t, .int .i64 n] w (RP e F p st wh w) := by
  have HF := Lib.hid (fault_on3 p f t n w F st wh hb)
  rw [he] at HF
  have HB := Lib.hid hb
  clear he hb
  rcases hv with rfl | rfl
  all_goals
    go_enter Tryz.func158, Tryz.ntmps158
    go_wp2_with fail
    refine HF.out.mono ?_
    rintro e w1 ⟨rfl, hb1⟩
    have FIN := Lib.hid (HB.out.fin hb1)
    clear hb1
    go_wp2_with fail
    go_ret
    exact ⟨rfl, FIN.out.1, FIN.out.2⟩

set_option maxHeartbeats 4000000 in
set_option maxRecDepth 100000 in
theorem changeR_ok (p : Nat) (o n t l h s : Int) (w : World) (F : Nat → Prop) (st : BookSt) (wh : Bool) (hb : RB w F p st wh) (g : GoodE st) (hw : wh = true → st.entries.length ≤ 9999) (he : faultE st [o] [n, t] = 0) (hc : chkE o [n, t] = 0) (ha : st.acc o = some (l, h, s)) :
    Calls Tryz.prog 156 #[.pointer (some ⟨p, 0, none⟩), .int .i64 o, .int .i64 n, .int .i64 t] w (RP (changeE st l h s n t) F p (changeSt st o l h s n t) wh w) := by
  have HF := Lib.hid (fault_on2 p o n t w F st wh hb)
  rw [he] at HF
  have HB := Lib.hid hb
  obtain ⟨ho, hn0⟩ := chkE_zero hc
  have hn := hn0 n (by simp)
  have ht := hn0 t (by simp)
  have hb1 := (g.own o l h s ha).2
  have hs0 := g.s0 ha
  have HW := Lib.hid hw
  have HACC := Lib.hid ha
  have LF := Lib.hid (leftR_on p o l h s w F st wh hb g ho ha)
  have ht0 := g.tot0
  have ht1 := g.totb
  have hbu := g.bud
  have e1' : changeE st l h s n t = if h < n then 5 else if min (l - (h + s)) (st.budget - st.total) < t - n then 12 else 0 := rfl
  have e2' : changeSt st o l h s n t = if changeE st l h s n t = 0 ∧ n ≠ t then { heldSt st o l h s (t - n) with entries := trimE (st.entries ++ [holdEnt o (t - n)]) } else st := rfl
  have HTK : Hid (t > n → ¬ min (l - (h + s)) (st.budget - st.total) < t - n → ∀ W, Below w.heap.size w W → Calls Tryz.prog 152 #[.pointer (some ⟨p, 0, none⟩), .int .i64 o, .int .i64 (t - n)] W (RP 0 F p { heldSt st o l h s (t - n) with entries := trimE (st.entries ++ [holdEnt o (t - n)]) } wh W)) := Lib.hid (by
    intro h1 h2 W hW
    have hc2 : chkE o [t - n] = 0 := by unfold chkE; rw [if_pos ⟨ho, by simp; omega⟩]
    have := takeR_ok p o (t - n) l h s W F st wh (HB.out.below hW) g hw (by rw [faultE_one, if_pos hc2, ha]; rfl) hc2 ha
    have e : takeE st l h s (t - n) = 0 := if_neg h2
    rw [e] at this
    have e2 : takeSt st o l h s (t - n) = { heldSt st o l h s (t - n) with entries := trimE (st.entries ++ [holdEnt o (t - n)]) } := if_pos e
    rw [e2] at this
    exact this)
  have HGV : Hid (t < n → ¬ h < n → ∀ W, Below w.heap.size w W → Calls Tryz.prog 154 #[.pointer (some ⟨p, 0, none⟩), .int .i64 o, .int .i64 (n - t)] W (RP 0 F p { heldSt st o l h s (t - n) with entries := trimE (st.entries ++ [holdEnt o (t - n)]) } wh W)) := Lib.hid (by
    intro h1 h2 W hW
    have hc2 : chkE o [n - t] = 0 := by unfold chkE; rw [if_pos ⟨ho, by simp; omega⟩]
    have := giveR_ok p o (n - t) l h s W F st wh (HB.out.below hW) g hw (by rw [faultE_one, if_pos hc2, ha]; rfl) hc2 ha
    have e : giveE h (n - t) = 0 := if_neg (by omega)
    rw [e] at this
    have e2 : giveSt st o l h s (n - t) = { heldSt st o l h s (-(n - t)) with entries := trimE (st.entries ++ [⟨4, o, 0, n - t, 0, 0⟩]) } := if_pos e
    rw [e2] at this
    have e3 : holdEnt o (t - n) = ⟨4, o, 0, n - t, 0, 0⟩ := by
      unfold holdEnt
      rw [if_neg (by omega), Int.neg_sub]
    rw [e3, ← Int.neg_sub n t]
    exact this)
  obtain ⟨q1, q2, q3, q4⟩ := hb1
  obtain ⟨n1, n2⟩ := hn
  obtain ⟨t1, t2⟩ := ht
  have FD := fun W => accField1 l h W
  obtain ⟨mb, lv, ev, D, hm⟩ := hb
  have HM := Lib.hid hm
  clear q4 he hc ha hn0 hw g hm
  generalize hm0 : min (l - (h + s)) (st.budget - st.total) = m at *
  have mb1 : -4000000000 ≤ m ∧ m ≤ 4000000000 := by omega
  obtain ⟨mb1a, mb1b⟩ := mb1
  clear hm0
  by_cases hlt : h < n
  · have HE := Lib.hid (show changeE st l h s n t = 5 by rw [e1', if_pos hlt])
    have HS := Lib.hid (show changeSt st o l h s n t = st by rw [e2', if_neg (by rw [HE.out]; simp)])
    clear e1' e2'
    go_enter Tryz.func156, Tryz.ntmps156
    go_wp2_with fail
    refine HF.out.mono ?_
    rintro e w1 ⟨rfl, hb1⟩
    have FIN := Lib.hid (HB.out.fin hb1)
    have c1 : w1.cell? ⟨p, 1, none⟩ = some (.map (some mb)) := by rw [cell_of (HM.out.same (Below.same_on hb1)).self]; rfl
    have LK := ref_lookup (HM.out.same (Below.same_on hb1)) o ho HACC.out
    clear hb1
    go_wp2_with fail
    go_ret
    refine ⟨by rw [HE.out]; rfl, ?_, FIN.out.2⟩
    rw [HS.out]
    exact FIN.out.1
  rw [if_neg hlt] at e1'
  by_cases hlm : m < t - n
  · have HE := Lib.hid (show changeE st l h s n t = 12 by rw [e1', if_pos hlm])
    have HS := Lib.hid (show changeSt st o l h s n t = st by rw [e2', if_neg (by rw [HE.out]; simp)])
    clear e1' e2'
    go_enter Tryz.func156, Tryz.ntmps156
    go_wp2_with fail
    refine HF.out.mono ?_
    rintro e w1 ⟨rfl, hb1⟩
    have B1 := Lib.hid hb1
    have c1 : w1.cell? ⟨p, 1, none⟩ = some (.map (some mb)) := by rw [cell_of (HM.out.same (Below.same_on hb1)).self]; rfl
    have LK := ref_lookup (HM.out.same (Below.same_on hb1)) o ho HACC.out
    clear hb1
    go_wp2_with fail
    refine (LF.out w1 B1.out).mono ?_
    rintro e w2 ⟨rfl, hb2⟩
    have FIN := Lib.hid (HB.out.fin hb2)
    clear hb2 c1 LK
    go_wp2_with fail
    go_ret
    refine ⟨by rw [HE.out]; rfl, ?_, FIN.out.2⟩
    rw [HS.out]
    exact FIN.out.1
  have HE := Lib.hid (show changeE st l h s n t = 0 by rw [e1', if_neg hlm])
  rw [HE.out] at e2'
  by_cases hgt : t > n
  · have HS := Lib.hid (show changeSt st o l h s n t = { heldSt st o l h s (t - n) with entries := trimE (st.entries ++ [holdEnt o (t - n)]) } by rw [e2', if_pos ⟨rfl, by omega⟩])
    have TK := Lib.hid (HTK.out hgt hlm)
    clear e1' e2' HTK HGV
    have hgt' : n < t := hgt
    go_enter Tryz.func156, Tryz.ntmps156
    go_wp2_with fail
    refine HF.out.mono ?_
    rintro e w1 ⟨rfl, hb1⟩
    have B1 := Lib.hid hb1
    have c1 : w1.cell? ⟨p, 1, none⟩ = some (.map (some mb)) := by rw [cell_of (HM.out.same (Below.same_on hb1)).self]; rfl
    have LK := ref_lookup (HM.out.same (Below.same_on hb1)) o ho HACC.out
    clear hb1
    go_wp2_with fail
    refine (LF.out w1 B1.out).mono ?_
    rintro e w2 ⟨rfl, hb2⟩
    have B2 := Lib.hid hb2
    clear hb2 c1 LK
    go_wp2_with fail
    refine (TK.out w2 B2.out).mono ?_
    rintro e w3 ⟨rfl, hb3, ht3⟩
    have K := Lib.hid (RB.then (Touch.of_below (F := F) B2.out) hb3 ht3 (fun k hk => Or.inl hk))
    clear hb3 ht3
    go_wp2_with fail
    go_ret
    refine ⟨by rw [HE.out]; rfl, ?_, K.out.2⟩
    rw [HS.out]
    exact K.out.1
  by_cases hls : t < n
  · have HS := Lib.hid (show changeSt st o l h s n t = { heldSt st o l h s (t - n) with entries := trimE (st.entries ++ [holdEnt o (t - n)]) } by rw [e2', if_pos ⟨rfl, by omega⟩])
    have GV := Lib.hid (HGV.out hls hlt)
    clear e1' e2' HTK HGV
    have hgt' : ¬ n < t := hgt
    go_enter Tryz.func156, Tryz.ntmps156
    go_wp2_with fail
    refine HF.out.mono ?_
    rintro e w1 ⟨rfl, hb1⟩
    have B1 := Lib.hid hb1
    have c1 : w1.cell? ⟨p, 1, none⟩ = some (.map (some mb)) := by rw [cell_of (HM.out.same (Below.same_on hb1)).self]; rfl
    have LK := ref_lookup (HM.out.same (Below.same_on hb1)) o ho HACC.out
    clear hb1
    go_wp2_with fail
    refine (LF.out w1 B1.out).mono ?_
    rintro e w2 ⟨rfl, hb2⟩
    have B2 := Lib.hid hb2
    clear hb2 c1 LK
    go_wp2_with fail
    refine (GV.out w2 B2.out).mono ?_
    rintro e w3 ⟨rfl, hb3, ht3⟩
    have K := Lib.hid (RB.then (Touch.of_below (F := F) B2.out) hb3 ht3 (fun k hk => Or.inl hk))
    clear hb3 ht3
    go_wp2_with fail
    go_ret
    refine ⟨by rw [HE.out]; rfl, ?_, K.out.2⟩
    rw [HS.out]
    exact K.out.1
  obtain rfl : n = t := by omega
  have HS := Lib.hid (show changeSt st o l h s n n = st by rw [e2', if_neg (by simp)])
  clear e1' e2' HTK HGV hgt hls
  go_enter Tryz.func156, Tryz.ntmps156
  go_wp2_with fail
  refine HF.out.mono ?_
  rintro e w1 ⟨rfl, hb1⟩
  have B1 := Lib.hid hb1
  have c1 : w1.cell? ⟨p, 1, none⟩ = some (.map (some mb)) := by rw [cell_of (HM.out.same (Below.same_on hb1)).self]; rfl
  have LK := ref_lookup (HM.out.same (Below.same_on hb1)) o ho HACC.out
  clear hb1
  go_wp2_with fail
  refine (LF.out w1 B1.out).mono ?_
  rintro e w2 ⟨rfl, hb2⟩
  have FIN := Lib.hid (HB.out.fin hb2)
  clear hb2 c1 LK
  go_wp2_with fail
  go_ret
  refine ⟨by rw [HE.out]; rfl, ?_, FIN.out.2⟩
  rw [HS.out]
  exact FIN.out.1
theorem changeR_all (p : Nat) (o n t : Int) (w : World) (F : Nat → Prop) (st : BookSt) (wh : Bool) (hb : RB w F p st wh) (g : GoodE st) (hw : wh = true → st.entries.length ≤ 9999) :
    Calls Tryz.prog 156 #[.pointer (some ⟨p, 0, none⟩), .int .i64 o, .int .i64 n, .int .i64 t] w (RP (changeR st o n t).1 F p (changeR st o n t).2 wh w) := by
  unfold changeR
  rcases fault_cases st o [n, t] with ⟨h1, h2⟩ | ⟨h1, h2, h3⟩ | ⟨h1, h2, l, h, s, h3⟩
  · rw [if_neg (by rw [h2]; decide)]
    exact changeR_err p o n t w F st wh hb 2 h1 (Or.inl rfl)
  · rw [if_pos h2, h3]
    exact changeR_err p o n t w F st wh hb 7 h1 (Or.inr rfl)
  · rw [if_pos h2, h3]
    exact changeR_ok p o n t l h s w F st wh hb g hw h1 h2 h3

theorem faultE_pay (st : BookSt) (f t n : Int) : (faultE st [f, t] [n] = 2 ∧ ¬ (chkE f [] = 0 ∧ chkE t [n] = 0)) ∨ (faultE st [f, t] [n] = 7 ∧ (chkE f [] = 0 ∧ chkE t [n] = 0) ∧ (st.acc f = none ∨ st.acc t = none)) ∨
    (faultE st [f, t] [n] = 0 ∧ (chkE f [] = 0 ∧ chkE t [n] = 0) ∧ ∃ l h s l' h' s', st.acc f = some (l, h, s) ∧ st.acc t = some (l', h', s')) := by
  have k1 : faultE st [f, t] [n] = if ([f, t].any ownBad || [n].any numBad) then 2 else if [f, t].all (fun o => (st.acc o).isSome) then 0 else 7 := rfl
  by_cases h1 : (1 ≤ f ∧ f ≤ 40) ∧ (1 ≤ t ∧ t ≤ 40) ∧ 0 ≤ n ∧ n ≤ 10000000
  · have e1 := (ownBad_iff f).2 h1.1
    have e2 := (ownBad_iff t).2 h1.2.1
    have e3 : [n].any numBad = false := (numBad_any [n]).2 (by simpa using h1.2.2)
    have c1 : chkE f [] = 0 := by unfold chkE; rw [if_pos ⟨h1.1, by simp⟩]
    have c2 : chkE t [n] = 0 := by unfold chkE; rw [if_pos ⟨h1.2.1, by simpa using h1.2.2⟩]
    rw [if_neg (by simp only [List.any_cons, List.any_nil, e1, e2, Bool.or_false] at e3 ⊢; simp [e3])] at k1
    cases hf : st.acc f with
    | none => exact Or.inr (Or.inl ⟨by rw [k1]; simp [hf], ⟨c1, c2⟩, Or.inl rfl⟩)
    | some a =>
      cases ht : st.acc t with
      | none => exact Or.inr (Or.inl ⟨by rw [k1]; simp [ht], ⟨c1, c2⟩, Or.inr rfl⟩)
      | some b => exact Or.inr (Or.inr ⟨by rw [k1]; simp [hf, ht], ⟨c1, c2⟩, a.1, a.2.1, a.2.2, b.1, b.2.1, b.2.2, rfl, rfl⟩)
  · refine Or.inl ⟨?_, fun h => h1 ?_⟩
    · rw [k1, if_pos]
      by_cases a1 : ownBad f = false
      · by_cases a2 : ownBad t = false
        · have a3 : ¬ [n].any numBad = false := fun h => h1 ⟨(ownBad_iff f).1 a1, (ownBad_iff t).1 a2, by simpa using (numBad_any [n]).1 h⟩
          simp at a3
          simp [a3]
        · simp at a2; simp [a2]
      · simp at a1; simp [a1]
    · have r1 := chkE_zero h.1
      have r2 := chkE_zero h.2
      exact ⟨r1.1, r2.1, r2.2 n (by simp)⟩

end Go.Proofs.YtfgpophbgjeefaaGreat
