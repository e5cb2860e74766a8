/-
  The reference's book: Change, Pay, Ask. No conditions but what always holds of a book.
  The reference's book: Pay, Ask. No conditions but what always holds of a book.
-/
import Derived.Test.YtljjndifmfhffaaGreatDoorLedgerChecksPat

namespace Go.Proofs.YtljjndifmfhffaaGreatDoor
section
open Go.RowKit Go.Maps
set_option linter.unusedVariables false

theorem leftR_on (p : Nat) (o l h s : Int) (w : World) (F : Nat → Prop) (st : BookSt) (wh : Bool) (hb : RB w F p st wh) (g : GoodE st) (ho : 1 ≤ o ∧ o ≤ 40) (ha : st.acc o = some (l, h, s)) (W : World) (hW : Below w.heap.size w W) :
    Calls Tryz.prog 69 #[.pointer (some ⟨p, 0, none⟩), .int .i64 o] W (fun e w' => e = .returned (.int .i64 (min (l - (h + s)) (st.budget - st.total))) ∧ Below w.heap.size w w') := by
  refine (leftR_any p o l h s W F st _ wh 40 (hb.below hW) g ho ha).mono ?_
  rintro e w' ⟨h1, h2⟩
  exact ⟨h1, hW.trans (h2.mono hW.size)⟩
theorem leasedR_on (p : Nat) (o : Int) (w : World) (F : Nat → Prop) (st : BookSt) (wh : Bool) (hb : RB w F p st wh) (g : GoodE st) (W : World) (hW : Below w.heap.size w W) :
    Calls Tryz.prog 74 #[.pointer (some ⟨p, 0, none⟩), .int .i64 o] W (fun e w' => e = .returned (.int .i64 (leasedOf o st.leases)) ∧ Below w.heap.size w w') := by
  refine (leasedR_any p o W F st _ wh 40 (hb.below hW) g).mono ?_
  rintro e w' ⟨h1, h2⟩
  exact ⟨h1, hW.trans (h2.mono hW.size)⟩

set_option maxHeartbeats 1000000 in
set_option maxRecDepth 100000 in
theorem payR_err (p : Nat) (f t n : Int) (w : World) (F : Nat → Prop) (st : BookSt) (wh : Bool) (hb : RB w F p st wh) (e : Int) (he : faultE st [f, t] [n] = e) (hv : e = 2 ∨ e = 7) :
    Calls Tryz.prog 39 #[.pointer (some ⟨p, 0, none⟩), .int .i64 f, .int .i64 t, .int .i64 n] w (RP e F p st wh w) := by
  have HF := Lib.hid (fault_on3 p f t n w F st wh hb)
  rw [he] at HF
  have HB := Lib.hid hb
  clear he hb
  rcases hv with rfl | rfl
  all_goals
    go_enter Tryz.func39, Tryz.ntmps39
    go_wp2_with fail
    refine HF.out.mono ?_
    rintro e w1 ⟨rfl, hb1⟩
    have FIN := Lib.hid (HB.out.fin hb1)
    clear hb1
    go_wp2_with fail
    go_ret
    exact ⟨rfl, FIN.out.1, FIN.out.2⟩

theorem faultE_pay (st : BookSt) (f t n : Int) : (faultE st [f, t] [n] = 2 ∧ ¬ (chkE f [] = 0 ∧ chkE t [n] = 0)) ∨ (faultE st [f, t] [n] = 7 ∧ (chkE f [] = 0 ∧ chkE t [n] = 0) ∧ (st.acc f = none ∨ st.acc t = none)) ∨
    (faultE st [f, t] [n] = 0 ∧ (chkE f [] = 0 ∧ chkE t [n] = 0) ∧ ∃ l h s l' h' s', st.acc f = some (l, h, s) ∧ st.acc t = some (l', h', s')) := by
  have k1 : faultE st [f, t] [n] = if ([f, t].any ownBad || [n].any numBad) then 2 else if [f, t].all (fun o => (st.acc o).isSome) then 0 else 7 := rfl
  by_cases h1 : (1 ≤ f ∧ f ≤ 40) ∧ (1 ≤ t ∧ t ≤ 40) ∧ 0 ≤ n ∧ n ≤ 10000000
  · have e1 := (ownBad_iff f).2 h1.1
    have e2 := (ownBad_iff t).2 h1.2.1
    have e3 : [n].any numBad = false := (numBad_any [n]).2 (by simpa using h1.2.2)
    have c1 : chkE f [] = 0 := by unfold chkE; rw [if_pos ⟨h1.1, by simp⟩]
    have c2 : chkE t [n] = 0 := by unfold chkE; rw [if_pos ⟨h1.2.1, by simpa using h1.2.2⟩]
    rw [if_neg (by simp only [List.any_cons, List.any_nil, e1, e2, Bool.or_false] at e3 ⊢; simp [e3])] at k1
    cases hf : st.acc f with
    | none => exact Or.inr (Or.inl ⟨by rw [k1]; simp [hf], ⟨c1, c2⟩, Or.inl rfl⟩)
    | some a =>
      cases ht : st.acc t with
      | none => exact Or.inr (Or.inl ⟨by rw [k1]; simp [ht], ⟨c1, c2⟩, Or.inr rfl⟩)
      | some b => exact Or.inr (Or.inr ⟨by rw [k1]; simp [hf, ht], ⟨c1, c2⟩, a.1, a.2.1, a.2.2, b.1, b.2.1, b.2.2, rfl, rfl⟩)
  · refine Or.inl ⟨?_, fun h => h1 ?_⟩
    · rw [k1, if_pos]
      by_cases a1 : ownBad f = false
      · by_cases a2 : ownBad t = false
        · have a3 : ¬ [n].any numBad = false := fun h => h1 ⟨(ownBad_iff f).1 a1, (ownBad_iff t).1 a2, by simpa using (numBad_any [n]).1 h⟩
          simp at a3
          simp [a3]
        · simp at a2; simp [a2]
      · simp at a1; simp [a1]
    · have r1 := chkE_zero h.1
      have r2 := chkE_zero h.2
      exact ⟨r1.1, r2.1, r2.2 n (by simp)⟩

end
end Go.Proofs.YtljjndifmfhffaaGreatDoor

namespace Go.Proofs.YtljjndifmfhffaaGreatDoor
section
open Go.RowKit Go.Maps
set_option linter.unusedVariables false

def payStF (st : BookSt) (f t n : Int) (a b : Int × Int × Int) : BookSt := (paid st f t n a b).note ⟨5, f, t, n, 0, 0⟩

set_option maxHeartbeats 4000000 in
set_option maxRecDepth 100000 in
theorem payR_few (p : Nat) (f t n l h s l' h' s' : Int) (w : World) (F : Nat → Prop) (st : BookSt) (wh : Bool) (hb : RB w F p st wh) (g : GoodE st) (hw : wh = true → st.entries.length ≤ 9999) (he : faultE st [f, t] [n] = 0) (hc1 : chkE f [] = 0) (hc2 : chkE t [n] = 0) (ha : st.acc f = some (l, h, s)) (hb' : st.acc t = some (l', h', s')) (hne : f = t ∨ h < n) :
    Calls Tryz.prog 39 #[.pointer (some ⟨p, 0, none⟩), .int .i64 f, .int .i64 t, .int .i64 n] w (RP (if h < n then 5 else 0) F p (if h < n then st else payStF st f t n (l, h, s) (l', h', s')) wh w) := by
  have HF := Lib.hid (fault_on3 p f t n w F st wh hb)
  rw [he] at HF
  have HB := Lib.hid hb
  have hf := (chkE_zero hc1).1
  obtain ⟨ht, hn0⟩ := chkE_zero hc2
  have hn := hn0 n (by simp)
  have HW := Lib.hid hw
  have HACC := Lib.hid ha
  have HACC' := Lib.hid hb'
  have hq := (g.own f l h s ha).2
  obtain ⟨q1, q2, q3, q4⟩ := hq
  obtain ⟨n1, n2⟩ := hn
  have hs0 := g.s0 ha
  have FD := fun W => accField1 l h W
  obtain ⟨mb, lv, ev, D, hm⟩ := hb
  have HM := Lib.hid hm
  clear q4 he hc1 hc2 ha hb' hn0 hw g hm
  by_cases hlt : h < n
  · rw [if_pos hlt, if_pos hlt]
    clear hne
    go_enter Tryz.func39, Tryz.ntmps39
    go_wp2_with fail
    refine HF.out.mono ?_
    rintro e w1 ⟨rfl, hb1⟩
    have FIN := Lib.hid (HB.out.fin hb1)
    have c1 : w1.cell? ⟨p, 1, none⟩ = some (.map (some mb)) := by rw [cell_of (HM.out.same (Below.same_on hb1)).self]; rfl
    have LK := ref_lookup (HM.out.same (Below.same_on hb1)) f hf HACC.out
    clear hb1
    go_wp2_with fail
    go_ret
    exact ⟨rfl, FIN.out.1, FIN.out.2⟩
  · rw [if_neg hlt, if_neg hlt]
    obtain rfl : f = t := hne.resolve_right hlt
    have hps : ∀ W G, RB W G p (st.note ⟨5, f, f, n, 0, 0⟩) wh → RB W G p (payStF st f f n (l, h, s) (l', h', s')) wh := fun W G hx => by
      have ea : (payStF st f f n (l, h, s) (l', h', s')).acc = st.acc := by
        unfold payStF paid
        rw [if_pos rfl]
        funext x
        show (if x = f then some (l, h, s) else st.acc x) = st.acc x
        by_cases e : x = f
        · rw [if_pos e, e, HACC.out]
        · rw [if_neg e]
      have eb : payStF st f f n (l, h, s) (l', h', s') = (st.put f (some (l, h, s))).note ⟨5, f, f, n, 0, 0⟩ := by unfold payStF paid; rw [if_pos rfl]
      refine hx.st ?_ ea ?_ ?_ ?_ ?_ <;> (rw [eb]; rfl)
    have HPS := Lib.hid hps
    clear hne hps
    go_enter Tryz.func39, Tryz.ntmps39
    go_wp2_with fail
    refine HF.out.mono ?_
    rintro e w1 ⟨rfl, hb1⟩
    have B1 := Lib.hid hb1
    have c1 : w1.cell? ⟨p, 1, none⟩ = some (.map (some mb)) := by rw [cell_of (HM.out.same (Below.same_on hb1)).self]; rfl
    have LK := ref_lookup (HM.out.same (Below.same_on hb1)) f hf HACC.out
    clear hb1
    go_wp2_with fail
    refine (noteR_st p ⟨5, f, f, n, 0, 0⟩ w1 F st wh (HB.out.below B1.out) HW.out).mono ?_
    rintro e w4 ⟨rfl, hb4, ht4⟩
    have K := Lib.hid (RB.then (Touch.of_below (F := F) B1.out) hb4 ht4 (fun k hk => Or.inl hk))
    clear hb4 ht4 c1 LK
    go_wp2_with fail
    go_ret
    exact ⟨rfl, HPS.out _ _ K.out.1, K.out.2⟩

set_option maxHeartbeats 4000000 in
set_option maxRecDepth 100000 in
theorem payR_two (p : Nat) (f t n l h s l' h' s' : Int) (w : World) (F : Nat → Prop) (st : BookSt) (wh : Bool) (hb : RB w F p st wh) (g : GoodE st) (hw : wh = true → st.entries.length ≤ 9999) (he : faultE st [f, t] [n] = 0) (hc1 : chkE f [] = 0) (hc2 : chkE t [n] = 0) (ha : st.acc f = some (l, h, s)) (hb' : st.acc t = some (l', h', s')) (hne : f ≠ t) (hhn : ¬ h < n) (err : Int) (st' : BookSt) (hE : err = (if l' - (h' + s') < n then 12 else 0)) (hS : st' = (if l' - (h' + s') < n then st else payStF st f t n (l, h, s) (l', h', s'))) :
    Calls Tryz.prog 39 #[.pointer (some ⟨p, 0, none⟩), .int .i64 f, .int .i64 t, .int .i64 n] w (RP err F p st' wh w) := by
  have HE := Lib.hid hE
  have HSS := Lib.hid hS
  clear hE hS
  have HF := Lib.hid (fault_on3 p f t n w F st wh hb)
  rw [he] at HF
  have HB := Lib.hid hb
  have hf := (chkE_zero hc1).1
  obtain ⟨ht, hn0⟩ := chkE_zero hc2
  have hn := hn0 n (by simp)
  have HW := Lib.hid hw
  have HACC := Lib.hid ha
  have HACC' := Lib.hid hb'
  have CN := Lib.hid (countsR_on p t l' h' s' w F st wh hb g ht hb')
  obtain ⟨q1, q2, q3, q4⟩ := (g.own f l h s ha).2
  obtain ⟨q1', q2', q3', q4'⟩ := (g.own t l' h' s' hb').2
  obtain ⟨n1, n2⟩ := hn
  have hs0 := g.s0 ha
  have hs0' := g.s0 hb'
  have FD := fun W => accField1 l h W
  have FD0 := fun W => accField0 l' h' W
  obtain ⟨mb, lv, ev, D, hm⟩ := hb
  have HM := Lib.hid hm
  have HS : Hid (∀ W, Below w.heap.size w W → CntS p mb t l' h' W) := Lib.hid (fun W hW => ⟨by rw [cell_of (HM.out.same (Below.same_on hW)).self]; rfl, ref_lookup (HM.out.same (Below.same_on hW)) t ht HACC'.out⟩)
  have s1 : ∀ y : WIn (CntS p mb t l' h'), y.w.cell? ⟨p, 1, none⟩ = some (.map (some mb)) := fun y => y.h.1
  have s2 : ∀ y : WIn (CntS p mb t l' h'), (Instr.lookup 44 (.map (some mb)) (.int .i64 t) false).run Tryz.prog y.w = .ok (.agg #[.int .i64 l', .int .i64 h']) y.w := fun y => y.h.2
  haveI ne : Nonempty (WIn (CntS p mb t l' h')) := ⟨⟨w, HS.out w (Below.refl _ w)⟩⟩
  clear q4 q4' he hc1 hc2 ha hb' hn0 hw g hm
  have hne' : (f == t) = false := by simpa using hne
  go_enter Tryz.func39, Tryz.ntmps39
  go_wp2_with fail
  refine HF.out.mono ?_
  rintro e w1 ⟨rfl, hb1⟩
  have B1 := Lib.hid hb1
  have c1 : w1.cell? ⟨p, 1, none⟩ = some (.map (some mb)) := by rw [cell_of (HM.out.same (Below.same_on hb1)).self]; rfl
  have LK := ref_lookup (HM.out.same (Below.same_on hb1)) f hf HACC.out
  clear hb1
  go_wp2_with fail
  go_upto_region 7 with fail
  clear c1 LK
  have B1' := Lib.hid (bdrewN B1.out 1)
  have S0 : CntS p mb t l' h' w1.drew := HS.out _ B1'.out
  refine wp_normal ?_
  refine wp_region_plan 12 (CntS p mb t l' h') rfl ?_
  refine wpN_seg [0, 1, 2, 3, 4, 5, 6, 7, 8, 9] (by kernel_rfl) (by kernel_rfl) (by kernel_rfl) (by kernel_rfl) (by decide) (fun _ _ _ _ _ h => h) S0 ?_
  simp only [pick, List.map_cons, List.map_nil, List.getElem?_cons_succ, List.getElem?_cons_zero, Option.getD_some]
  repeat (go_big_quiet_step (fail))
  refine wpQuiet_nil ?_
  refine wpN_one 10 _ (by kernel_rfl) rfl ?_
  refine NextAt.held ?_
  intro K hK
  go_simp
  refine (CN.out _ B1'.out).mono ?_
  rintro e w2 ⟨rfl, hb2⟩
  have B2 := Lib.hid hb2
  have S1 := HS.out w2 B2.out
  clear hb2
  go_simp
  refine hK _ _ S1 ?_
  clear hK K
  refine wpN_pure [11] (by kernel_rfl) (by kernel_rfl) (by kernel_rfl) (fun _ _ _ _ _ h => h) (fun _ => S1) ?_
  simp only [pick, List.map_cons, List.map_nil, List.getElem?_cons_succ, List.getElem?_cons_zero, Option.getD_some]
  repeat (go_big_quiet_step (fail))
  refine wpQuiet_nil ?_
  refine wpN_one 12 _ (by kernel_rfl) rfl ?_
  refine NextAt.free (by kernel_rfl) ?_
  intro K hK
  go_simp
  refine hK _ _ ?_
  clear hK K
  refine wpN_done (by kernel_rfl) ?_
  by_cases hlt : l' - (h' + s') < n
  · have hE := HE.out
    have hS := HSS.out
    rw [if_pos hlt] at hE hS
    subst hE hS
    have FIN := Lib.hid (HB.out.fin B2.out)
    go_wp2_with fail
    go_ret
    exact ⟨rfl, FIN.out.1, FIN.out.2⟩
  · have hE := HE.out
    have hS := HSS.out
    rw [if_neg hlt] at hE hS
    subst hE hS
    clear HE HSS
    have E1 : Hid (h + -n = h - n) := Lib.hid (by omega)
    clear S0 S1 s1 s2 ne
    go_wp2_with fail
    refine (holdR_st p f (-n) l h s w2 F st wh (HB.out.below B2.out) hf HACC.out (by omega)).mono ?_
    rintro e w3 ⟨rfl, hb3, ht3⟩
    have K := Lib.hid (RB.then (Touch.of_below (F := F) B2.out) hb3 ht3 (fun k hk => Or.inl hk))
    clear hb3 ht3
    go_wp2_with fail
    refine (holdR_st p t n l' h' s' w3 _ _ wh K.out.1 ht (show (if t = f then some (l, h + -n, s) else st.acc t) = some (l', h', s') by rw [if_neg (fun e => hne e.symm), HACC'.out]) (by omega)).mono ?_
    rintro e w4 ⟨rfl, hb4, ht4⟩
    have K4 := Lib.hid (RB.then K.out.2 hb4 ht4 (fun k hk => hk))
    clear hb4 ht4
    go_wp2_with fail
    refine (noteR_st p ⟨5, f, t, n, 0, 0⟩ w4 _ _ wh K4.out.1 HW.out).mono ?_
    rintro e w5 ⟨rfl, hb5, ht5⟩
    have K5 := Lib.hid (RB.then K4.out.2 hb5 ht5 (fun k hk => hk))
    clear hb5 ht5
    go_wp2_with fail
    go_ret
    refine ⟨rfl, ?_, K5.out.2⟩
    have := K5.out.1
    rw [E1.out] at this
    have e : payStF st f t n (l, h, s) (l', h', s') = ((st.put f (some (l, h - n, s))).put t (some (l', h' + n, s'))).note ⟨5, f, t, n, 0, 0⟩ := by unfold payStF paid; rw [if_neg hne]
    rw [e]
    exact this

theorem payR_all (p : Nat) (f t n : Int) (w : World) (F : Nat → Prop) (st : BookSt) (wh : Bool) (hb : RB w F p st wh) (g : GoodE st) (hw : wh = true → st.entries.length ≤ 9999) :
    Calls Tryz.prog 39 #[.pointer (some ⟨p, 0, none⟩), .int .i64 f, .int .i64 t, .int .i64 n] w (RP (payR st f t n).1 F p (payR st f t n).2 wh w) := by
  rcases faultE_pay st f t n with ⟨h1, h2⟩ | ⟨h1, h2, h3⟩ | ⟨h1, h2, l, h, s, l', h', s', h3, h4⟩
  · have e : payR st f t n = (2, st) := by unfold payR; rw [if_neg h2]
    rw [e]
    exact payR_err p f t n w F st wh hb 2 h1 (Or.inl rfl)
  · have e : payR st f t n = (7, st) := by
      unfold payR
      rw [if_pos h2]
      rcases h3 with h3 | h3
      · rw [h3]
      · rw [h3]; cases st.acc f <;> rfl
    rw [e]
    exact payR_err p f t n w F st wh hb 7 h1 (Or.inr rfl)
  · have e : payR st f t n = if h < n then (5, st) else if f ≠ t ∧ l' - (h' + s') < n then (12, st) else (0, payStF st f t n (l, h, s) (l', h', s')) := by
      unfold payR
      rw [if_pos h2, h3, h4]; rfl
    by_cases hne : f = t ∨ h < n
    · have k := payR_few p f t n l h s l' h' s' w F st wh hb g hw h1 h2.1 h2.2 h3 h4 hne
      rw [e]
      by_cases hlt : h < n
      · rw [if_pos hlt, if_pos hlt] at k
        rw [if_pos hlt]
        exact k
      · rw [if_neg hlt, if_neg hlt] at k
        rw [if_neg hlt, if_neg (fun x => x.1 (hne.resolve_right hlt))]
        exact k
    · have hnt : f ≠ t := fun x => hne (Or.inl x)
      have hhn : ¬ h < n := fun x => hne (Or.inr x)
      have k := payR_two p f t n l h s l' h' s' w F st wh hb g hw h1 h2.1 h2.2 h3 h4 hnt hhn _ _ rfl rfl
      rw [e, if_neg hhn]
      by_cases hlt : l' - (h' + s') < n
      · rw [if_pos hlt, if_pos hlt] at k
        rw [if_pos ⟨hnt, hlt⟩]
        exact k
      · rw [if_neg hlt, if_neg hlt] at k
        rw [if_neg (fun x => hlt x.2)]
        exact k

theorem results_tmp4 {fn : Func} {t u v x : Tmp} (h : fn.results = #[.tmp t, .tmp u, .tmp v, .tmp x]) (tmps : Array Value) (P : Program) (w : World) :
    (results fn tmps).run P w = .ok (.tuple #[tmps.getD t undef, tmps.getD u undef, tmps.getD v undef, tmps.getD x undef]) w := by
  simp [results, h]

end
end Go.Proofs.YtljjndifmfhffaaGreatDoor
