/-
  The reference's book: Shut, SetLimit, SetBudget, Open. No conditions but what always holds of a book.
-/
import Derived.Test.YtljjndifmfhffaaGreatDoorLedgerChecksPas
namespace Go.Proofs.YtljjndifmfhffaaGreatDoor
open Go.RowKit Go.Maps
set_option linter.unusedVariables false

theorem countsR_on (p : Nat) (o l h s : Int) (w : World) (F : Nat → Prop) (st : BookSt) (wh : Bool) (hb : RB w F p st wh) (g : GoodE st) (ho : 1 ≤ o ∧ o ≤ 40) (ha : st.acc o = some (l, h, s)) (W : World) (hW : Below w.heap.size w W) :
    Calls Tryz.prog 46 #[.pointer (some ⟨p, 0, none⟩), .int .i64 o] W (fun e w' => e = .returned (.int .i64 (h + s)) ∧ Below w.heap.size w w') := by
  refine (countsR_any p o l h s W F st _ wh 40 (hb.below hW) g ho ha).mono ?_
  rintro e w' ⟨h1, h2⟩
  exact ⟨h1, hW.trans (h2.mono hW.size)⟩
theorem totalR_on (p : Nat) (w : World) (F : Nat → Prop) (st : BookSt) (wh : Bool) (hb : RB w F p st wh) (g : GoodE st) (W : World) (hW : Below w.heap.size w W) :
    Calls Tryz.prog 15 #[.pointer (some ⟨p, 0, none⟩)] W (fun e w' => e = .returned (.int .i64 st.total) ∧ Below w.heap.size w w') := by
  refine (totalR_any p W F st _ wh 40 (hb.below hW) g).mono ?_
  rintro e w' ⟨h1, h2⟩
  exact ⟨h1, hW.trans (h2.mono hW.size)⟩

set_option maxHeartbeats 1000000 in
set_option maxRecDepth 100000 in
theorem shutR_err (p : Nat) (o : Int) (w : World) (F : Nat → Prop) (st : BookSt) (wh : Bool) (hb : RB w F p st wh) (e : Int) (he : faultE st [o] [] = e) (hv : e = 2 ∨ e = 7) :
    Calls Tryz.prog 36 #[.pointer (some ⟨p, 0, none⟩), .int .i64 o] w (RP e F p st wh w) := by
  have HF := Lib.hid (fault_on1 p o w F st wh hb)
  rw [he] at HF
  have HB := Lib.hid hb
  clear he hb
  rcases hv with rfl | rfl
  all_goals
    go_enter Tryz.func36, Tryz.ntmps36
    go_wp2_with fail
    refine HF.out.mono ?_
    rintro e w1 ⟨rfl, hb1⟩
    have FIN := Lib.hid (HB.out.fin hb1)
    clear hb1
    go_wp2_with fail
    go_ret
    exact ⟨rfl, FIN.out.1, FIN.out.2⟩

set_option maxHeartbeats 1000000 in
set_option maxRecDepth 100000 in
theorem limR_err (p : Nat) (o n : Int) (w : World) (F : Nat → Prop) (st : BookSt) (wh : Bool) (hb : RB w F p st wh) (e : Int) (he : faultE st [o] [n] = e) (hv : e = 2 ∨ e = 7) :
    Calls Tryz.prog 40 #[.pointer (some ⟨p, 0, none⟩), .int .i64 o, .int .i64 n] w (RP e F p st wh w) := by
  have HF := Lib.hid (fault_on p o n w F st wh hb)
  rw [he] at HF
  have HB := Lib.hid hb
  clear he hb
  rcases hv with rfl | rfl
  all_goals
    go_enter Tryz.func40, Tryz.ntmps40
    go_wp2_with fail
    refine HF.out.mono ?_
    rintro e w1 ⟨rfl, hb1⟩
    have FIN := Lib.hid (HB.out.fin hb1)
    clear hb1
    go_wp2_with fail
    go_ret
    exact ⟨rfl, FIN.out.1, FIN.out.2⟩

set_option maxHeartbeats 2000000 in
set_option maxRecDepth 100000 in
theorem shutR_ok (p : Nat) (o l h s : Int) (w : World) (F : Nat → Prop) (st : BookSt) (wh : Bool) (hb : RB w F p st wh) (g : GoodE st) (hw : wh = true → st.entries.length ≤ 9999) (he : faultE st [o] [] = 0) (hc : chkE o [] = 0) (ha : st.acc o = some (l, h, s)) :
    Calls Tryz.prog 36 #[.pointer (some ⟨p, 0, none⟩), .int .i64 o] w (RP (if 0 < h + s then 11 else 0) F p (if 0 < h + s then st else (st.put o none).note ⟨2, o, 0, 0, 0, 0⟩) wh w) := by
  have HF := Lib.hid (fault_on1 p o w F st wh hb)
  rw [he] at HF
  have HB := Lib.hid hb
  obtain ⟨ho, _⟩ := chkE_zero hc
  have hb1 := (g.own o l h s ha).2
  have hs0 := g.s0 ha
  have HW := Lib.hid hw
  have CN := Lib.hid (countsR_on p o l h s w F st wh hb g ho ha)
  obtain ⟨q1, q2, q3, q4⟩ := hb1
  clear q4 he hc ha hw g
  have hwf : (Lit.int .i64 o).wf = true := WalkArith.wf_i64 (by omega)
  by_cases hlt : 0 < h + s
  · rw [if_pos hlt, if_pos hlt]
    clear hb
    go_enter Tryz.func36, Tryz.ntmps36
    go_wp2_with fail
    refine HF.out.mono ?_
    rintro e w1 ⟨rfl, hb1⟩
    have B1 := Lib.hid hb1
    clear hb1
    go_wp2_with fail
    refine (CN.out w1 B1.out).mono ?_
    rintro e w2 ⟨rfl, hb2⟩
    have FIN := Lib.hid (HB.out.fin hb2)
    clear hb2
    go_wp2_with fail
    go_ret
    exact ⟨rfl, FIN.out.1, FIN.out.2⟩
  · rw [if_neg hlt, if_neg hlt]
    obtain ⟨mb, lv, ev, D, hm⟩ := hb
    have HM := Lib.hid hm
    clear hm
    go_enter Tryz.func36, Tryz.ntmps36
    go_wp2_with fail
    refine HF.out.mono ?_
    rintro e w1 ⟨rfl, hb1⟩
    have B1 := Lib.hid hb1
    clear hb1
    go_wp2_with fail
    refine (CN.out w1 B1.out).mono ?_
    rintro e w2 ⟨rfl, hb2⟩
    have B2 := Lib.hid hb2
    have hm2 := HM.out.same (Below.same_on hb2)
    have c1 : w2.cell? ⟨p, 1, none⟩ = some (.map (some mb)) := by rw [cell_of hm2.self]; rfl
    have HM2 := Lib.hid hm2
    clear hb2 hm2
    obtain ⟨w3, hrun, hown3, hturn3⟩ := HM2.out.map.drop intKey Tryz.underlying44 (Maps.keyOf_int_mk Tryz.underlying3 hwf) 0
    obtain ⟨k1, k2⟩ := HM2.out.delAcc o ho hown3 hturn3.grown
    have K1 : Hid (RB w3 F p (st.put o none) wh) := Lib.hid k1
    have K2 := Lib.hid ((Touch.of_below B2.out).then k2)
    clear hown3 hturn3 k1 k2
    go_wp2_with fail
    refine (noteR_st p ⟨2, o, 0, 0, 0, 0⟩ w3 _ _ wh K1.out HW.out).mono ?_
    rintro e w4 ⟨rfl, hb4, ht4⟩
    obtain ⟨k3, k4⟩ := RB.then K2.out hb4 ht4 (fun k hk => Or.inl hk)
    have K3 := Lib.hid k3
    have K4 := Lib.hid k4
    clear hb4 ht4 k3 k4
    go_wp2_with fail
    go_ret
    exact ⟨rfl, K3.out, K4.out⟩
theorem shutR_all (p : Nat) (o : Int) (w : World) (F : Nat → Prop) (st : BookSt) (wh : Bool) (hb : RB w F p st wh) (g : GoodE st) (hw : wh = true → st.entries.length ≤ 9999) :
    Calls Tryz.prog 36 #[.pointer (some ⟨p, 0, none⟩), .int .i64 o] w (RP (shutR st o).1 F p (shutR st o).2 wh w) := by
  unfold shutR
  rcases fault_cases st o [] with ⟨h1, h2⟩ | ⟨h1, h2, h3⟩ | ⟨h1, h2, l, h, s, h3⟩
  · rw [if_neg (by rw [h2]; decide)]
    exact shutR_err p o w F st wh hb 2 h1 (Or.inl rfl)
  · rw [if_pos h2, h3]
    exact shutR_err p o w F st wh hb 7 h1 (Or.inr rfl)
  · rw [if_pos h2, h3]
    have := shutR_ok p o l h s w F st wh hb g hw h1 h2 h3
    simp only
    split
    · next hlt => rw [if_pos hlt, if_pos hlt] at this; exact this
    · next hlt => rw [if_neg hlt, if_neg hlt] at this; exact this

set_option maxHeartbeats 2000000 in
set_option maxRecDepth 100000 in
theorem limR_ok (p : Nat) (o n l h s : Int) (w : World) (F : Nat → Prop) (st : BookSt) (wh : Bool) (hb : RB w F p st wh) (g : GoodE st) (hw : wh = true → st.entries.length ≤ 9999) (he : faultE st [o] [n] = 0) (hc : chkE o [n] = 0) (ha : st.acc o = some (l, h, s)) :
    Calls Tryz.prog 40 #[.pointer (some ⟨p, 0, none⟩), .int .i64 o, .int .i64 n] w (RP (if n < h + s then 12 else 0) F p (if n < h + s then st else (st.put o (some (n, h, s))).note ⟨6, o, 0, n, 0, 0⟩) wh w) := by
  have HF := Lib.hid (fault_on p o n w F st wh hb)
  rw [he] at HF
  have HB := Lib.hid hb
  obtain ⟨ho, hn0⟩ := chkE_zero hc
  have hn := hn0 n (by simp)
  have hb1 := (g.own o l h s ha).2
  have hs0 := g.s0 ha
  have HW := Lib.hid hw
  have CN := Lib.hid (countsR_on p o l h s w F st wh hb g ho ha)
  have HACC := Lib.hid ha
  obtain ⟨q1, q2, q3, q4⟩ := hb1
  obtain ⟨n1, n2⟩ := hn
  clear q4 he hc ha hn0 hw g
  by_cases hlt : n < h + s
  · rw [if_pos hlt, if_pos hlt]
    clear hb
    go_enter Tryz.func40, Tryz.ntmps40
    go_wp2_with fail
    refine HF.out.mono ?_
    rintro e w1 ⟨rfl, hb1⟩
    have B1 := Lib.hid hb1
    clear hb1
    go_wp2_with fail
    refine (CN.out w1 B1.out).mono ?_
    rintro e w2 ⟨rfl, hb2⟩
    have FIN := Lib.hid (HB.out.fin hb2)
    clear hb2
    go_wp2_with fail
    go_ret
    exact ⟨rfl, FIN.out.1, FIN.out.2⟩
  · rw [if_neg hlt, if_neg hlt]
    obtain ⟨mb, lv, ev, D, hm⟩ := hb
    have HM := Lib.hid hm
    clear hm
    go_enter Tryz.func40, Tryz.ntmps40
    go_wp2_with fail
    refine HF.out.mono ?_
    rintro e w1 ⟨rfl, hb1⟩
    have B1 := Lib.hid hb1
    clear hb1
    go_wp2_with fail
    refine (CN.out w1 B1.out).mono ?_
    rintro e w2 ⟨rfl, hb2⟩
    have B2 := Lib.hid hb2
    have hm2 := HM.out.same (Below.same_on hb2)
    have c1 : w2.cell? ⟨p, 1, none⟩ = some (.map (some mb)) := by rw [cell_of hm2.self]; rfl
    have LK := ref_lookup hm2 o ho HACC.out
    have c2 : (w2.alloc (.cells #[.int .i64 n, .int .i64 h] 99)).cell? ⟨p, 1, none⟩ = some (.map (some mb)) := old_cell ((Below.refl _ w2).alloc (Nat.le_refl _) _) c1
    obtain ⟨w3, hrun, k1, k2⟩ := hm2.putRun (W := (w2.alloc (.cells #[.int .i64 n, .int .i64 h] 99)).drew) (bdrewN ((Below.refl _ w2).alloc (Nat.le_refl _) _) 1) o n h s ho
    have K0 : RB w3 (fun k => F k ∨ w2.heap.size ≤ k) p (st.put o (some (n, h, s))) wh := k1
    obtain ⟨k3, k4⟩ := RB.then (Touch.of_below hb2) K0 k2 (fun k hk => Or.inl hk)
    have K1 := Lib.hid k3
    have K2 := Lib.hid k4
    clear hb2 hm2 k1 k2 K0 k3 k4
    go_wp2_with fail
    go_upto_region 8 with fail
    go_region_law (fail)
    all_goals
      clear c1 c2 LK hrun
      go_wp2_with fail
      refine (noteR_st p ⟨6, o, 0, n, 0, 0⟩ w3 _ _ wh K1.out HW.out).mono ?_
      rintro e w4 ⟨rfl, hb4, ht4⟩
      obtain ⟨k3, k4⟩ := RB.then K2.out hb4 ht4 (fun k hk => hk)
      have K3 := Lib.hid k3
      have K4 := Lib.hid k4
      clear hb4 ht4 k3 k4
      go_wp2_with fail
      go_ret
      exact ⟨rfl, K3.out, K4.out⟩
theorem limR_all (p : Nat) (o n : Int) (w : World) (F : Nat → Prop) (st : BookSt) (wh : Bool) (hb : RB w F p st wh) (g : GoodE st) (hw : wh = true → st.entries.length ≤ 9999) :
    Calls Tryz.prog 40 #[.pointer (some ⟨p, 0, none⟩), .int .i64 o, .int .i64 n] w (RP (limR st o n).1 F p (limR st o n).2 wh w) := by
  unfold limR
  rcases fault_cases st o [n] with ⟨h1, h2⟩ | ⟨h1, h2, h3⟩ | ⟨h1, h2, l, h, s, h3⟩
  · rw [if_neg (by rw [h2]; decide)]
    exact limR_err p o n w F st wh hb 2 h1 (Or.inl rfl)
  · rw [if_pos h2, h3]
    exact limR_err p o n w F st wh hb 7 h1 (Or.inr rfl)
  · rw [if_pos h2, h3]
    have := limR_ok p o n l h s w F st wh hb g hw h1 h2 h3
    simp only
    split
    · next hlt => rw [if_pos hlt, if_pos hlt] at this; exact this
    · next hlt => rw [if_neg hlt, if_neg hlt] at this; exact this

set_option maxHeartbeats 2000000 in
set_option maxRecDepth 100000 in
theorem budR_all (p : Nat) (b : Int) (w : World) (F : Nat → Prop) (st : BookSt) (wh : Bool) (hb : RB w F p st wh) (g : GoodE st) (hw : wh = true → st.entries.length ≤ 9999) :
    Calls Tryz.prog 41 #[.pointer (some ⟨p, 0, none⟩), .int .i64 b] w (RP (budR st b).1 F p (budR st b).2 wh w) := by
  have HB := Lib.hid hb
  have HW := Lib.hid hw
  have TT := Lib.hid (totalR_on p w F st wh hb g)
  have T := Lib.hid (inBudgetR_any b w)
  have ht0 := g.tot0
  have ht1 := g.totb
  have hbu := g.bud
  have e1 : budR st b = if 0 ≤ b ∧ b ≤ 10000000 then (if b < st.total then (12, st) else (0, ({ st with budget := b } : BookSt).note ⟨7, 0, 0, b, 0, 0⟩)) else (2, st) := rfl
  clear g hw
  by_cases h1 : 0 ≤ b ∧ b ≤ 10000000
  · rw [show decide (0 ≤ b ∧ b ≤ 10000000) = true from decide_eq_true h1] at T
    rw [if_pos h1] at e1
    obtain ⟨b1, b2⟩ := h1
    by_cases hlt : b < st.total
    · have E := Lib.hid (show budR st b = (12, st) by rw [e1, if_pos hlt])
      clear e1 hb
      generalize st.total = tt at *
      rw [E.out]
      show Calls _ _ _ _ (RP 12 F p st wh w)
      go_enter Tryz.func41, Tryz.ntmps41
      go_wp2_with fail
      refine T.out.mono ?_
      rintro e w' ⟨rfl, rfl⟩
      go_wp2_with fail
      refine (TT.out w (Below.refl _ w)).mono ?_
      rintro e w2 ⟨rfl, hb2⟩
      have FIN := Lib.hid (HB.out.fin hb2)
      clear hb2
      go_wp2_with fail
      go_ret
      exact ⟨rfl, FIN.out.1, FIN.out.2⟩
    · have E := Lib.hid (show budR st b = (0, ({ st with budget := b } : BookSt).note ⟨7, 0, 0, b, 0, 0⟩) by rw [e1, if_neg hlt])
      obtain ⟨mb, lv, ev, D, hm⟩ := hb
      have HM := Lib.hid hm
      rw [E.out]
      show Calls _ _ _ _ (RP 0 F p (({ st with budget := b } : BookSt).note ⟨7, 0, 0, b, 0, 0⟩) wh w)
      clear e1 hm E
      generalize htt : st.total = tt at *
      clear htt
      go_enter Tryz.func41, Tryz.ntmps41
      go_wp2_with fail
      refine T.out.mono ?_
      rintro e w' ⟨rfl, rfl⟩
      go_wp2_with fail
      refine (TT.out w (Below.refl _ w)).mono ?_
      rintro e w2 ⟨rfl, hb2⟩
      have hm2 := HM.out.same (Below.same_on hb2)
      have c0 : w2.cell? ⟨p, 0, none⟩ = some (.int .i64 st.budget) := by rw [cell_of hm2.self]; rfl
      have f0 : w2.frozen? ⟨p, 0, none⟩ = false := free_of hm2.self 0
      have hm3 : RefMem (w2.setCell ⟨p, 0, none⟩ (.int .i64 b)) F p ({ st with budget := b } : BookSt) (seenE wh st.entries) wh 40 mb lv ev D := hm2.nums rfl rfl (by rw [block_setCell hm2.self]; rfl) (fun k hk hne => Below.heap_setCell _ _ _ _ hne)
      have K1 : Hid (RB (w2.setCell ⟨p, 0, none⟩ (.int .i64 b)) F p ({ st with budget := b } : BookSt) wh) := Lib.hid ⟨mb, lv, ev, D, hm3⟩
      have K2 := Lib.hid (Touch.setCell (Touch.of_below (F := F) hb2) (p := ⟨p, 0, none⟩) (Or.inl hm2.fp) (.int .i64 b))
      clear hm2 hm3 hb2
      go_wp2_with fail
      refine (noteR_st p ⟨7, 0, 0, b, 0, 0⟩ _ _ _ wh K1.out HW.out).mono ?_
      rintro e w4 ⟨rfl, hb4, ht4⟩
      obtain ⟨k3, k4⟩ := RB.then K2.out hb4 ht4 (fun k hk => Or.inl hk)
      have K3 := Lib.hid k3
      have K4 := Lib.hid k4
      clear hb4 ht4 k3 k4
      go_wp2_with fail
      go_ret
      exact ⟨rfl, K3.out.st rfl rfl rfl rfl rfl rfl, K4.out⟩
  · rw [show decide (0 ≤ b ∧ b ≤ 10000000) = false from decide_eq_false h1] at T
    rw [if_neg h1] at e1
    rw [e1]
    show Calls _ _ _ _ (RP 2 F p st wh w)
    have FIN := Lib.hid (HB.out.fin (Below.refl _ w))
    clear e1 hb h1
    go_enter Tryz.func41, Tryz.ntmps41
    go_wp2_with fail
    refine T.out.mono ?_
    rintro e w' ⟨rfl, rfl⟩
    go_wp2_with fail
    go_ret
    exact ⟨rfl, FIN.out.1, FIN.out.2⟩

set_option maxHeartbeats 1000000 in
set_option maxRecDepth 100000 in
theorem openR_bad (p : Nat) (o n : Int) (w : World) (F : Nat → Prop) (st : BookSt) (wh : Bool) (hb : RB w F p st wh) (e x : Int) (he : faultE st [o] [n] = e) (hv : (e = 2 ∧ x = 2) ∨ (e = 0 ∧ x = 6)) :
    Calls Tryz.prog 35 #[.pointer (some ⟨p, 0, none⟩), .int .i64 o, .int .i64 n] w (RP x F p st wh w) := by
  have HF := Lib.hid (fault_on p o n w F st wh hb)
  rw [he] at HF
  have HB := Lib.hid hb
  clear he hb
  rcases hv with ⟨rfl, rfl⟩ | ⟨rfl, rfl⟩
  all_goals
    go_enter Tryz.func35, Tryz.ntmps35
    go_wp2_with fail
    refine HF.out.mono ?_
    rintro e w1 ⟨rfl, hb1⟩
    have FIN := Lib.hid (HB.out.fin hb1)
    clear hb1
    go_wp2_with fail
    go_ret
    exact ⟨rfl, FIN.out.1, FIN.out.2⟩
set_option maxHeartbeats 2000000 in
set_option maxRecDepth 100000 in
theorem openR_new (p : Nat) (o n : Int) (w : World) (F : Nat → Prop) (st : BookSt) (wh : Bool) (hb : RB w F p st wh) (hw : wh = true → st.entries.length ≤ 9999) (he : faultE st [o] [n] = 7) (hc : chkE o [n] = 0) :
    Calls Tryz.prog 35 #[.pointer (some ⟨p, 0, none⟩), .int .i64 o, .int .i64 n] w (RP 0 F p ((st.put o (some (n, 0, 0))).note ⟨1, o, 0, n, 0, 0⟩) wh w) := by
  have HF := Lib.hid (fault_on p o n w F st wh hb)
  rw [he] at HF
  obtain ⟨ho, hn0⟩ := chkE_zero hc
  have hn := hn0 n (by simp)
  have HW := Lib.hid hw
  obtain ⟨mb, lv, ev, D, hm⟩ := hb
  have HM := Lib.hid hm
  obtain ⟨n1, n2⟩ := hn
  clear he hc hn0 hw hm
  go_enter Tryz.func35, Tryz.ntmps35
  go_wp2_with fail
  refine HF.out.mono ?_
  rintro e w2 ⟨rfl, hb2⟩
  have hm2 := HM.out.same (Below.same_on hb2)
  have c1 : w2.cell? ⟨p, 1, none⟩ = some (.map (some mb)) := by rw [cell_of hm2.self]; rfl
  obtain ⟨w3, hrun, k1, k2⟩ := hm2.putRun (W := w2) (Below.refl _ w2) o n 0 0 ho
  have K0 : RB w3 (fun k => F k ∨ w2.heap.size ≤ k) p (st.put o (some (n, 0, 0))) wh := k1
  obtain ⟨k3, k4⟩ := RB.then (Touch.of_below hb2) K0 k2 (fun k hk => Or.inl hk)
  have K1 := Lib.hid k3
  have K2 := Lib.hid k4
  clear hb2 hm2 k1 k2 K0 k3 k4
  go_wp2_with fail
  refine (noteR_st p ⟨1, o, 0, n, 0, 0⟩ w3 _ _ wh K1.out HW.out).mono ?_
  rintro e w4 ⟨rfl, hb4, ht4⟩
  obtain ⟨k3, k4⟩ := RB.then K2.out hb4 ht4 (fun k hk => hk)
  have K3 := Lib.hid k3
  have K4 := Lib.hid k4
  clear hb4 ht4 k3 k4
  go_wp2_with fail
  go_ret
  exact ⟨rfl, K3.out, K4.out⟩
theorem openR_all (p : Nat) (o n : Int) (w : World) (F : Nat → Prop) (st : BookSt) (wh : Bool) (hb : RB w F p st wh) (hw : wh = true → st.entries.length ≤ 9999) :
    Calls Tryz.prog 35 #[.pointer (some ⟨p, 0, none⟩), .int .i64 o, .int .i64 n] w (RP (openR st o n).1 F p (openR st o n).2 wh w) := by
  unfold openR
  rcases fault_cases st o [n] with ⟨h1, h2⟩ | ⟨h1, h2, h3⟩ | ⟨h1, h2, l, h, s, h3⟩
  · rw [if_neg (by rw [h2]; decide)]
    exact openR_bad p o n w F st wh hb 2 2 h1 (Or.inl ⟨rfl, rfl⟩)
  · rw [if_pos h2, h3]
    exact openR_new p o n w F st wh hb hw h1 h2
  · rw [if_pos h2, h3]
    exact openR_bad p o n w F st wh hb 0 6 h1 (Or.inr ⟨rfl, rfl⟩)

end Go.Proofs.YtljjndifmfhffaaGreatDoor
