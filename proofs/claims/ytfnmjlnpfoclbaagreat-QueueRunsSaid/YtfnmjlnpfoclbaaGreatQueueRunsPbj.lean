/-
  'append(v, s...)' onto a row of the call's own, whatever s is: its run. No conditions.
  The reference's book: Shut, SetLimit, SetBudget, Open. No conditions but what always holds of a book.
  The reference's book: Change, Pay, Ask. No conditions but what always holds of a book.
  The reference's book: Pay, Ask. No conditions but what always holds of a book.
  append whose run is known, as a step of a plan. No conditions.
-/
import Derived.Test.YtfnmjlnpfoclbaaGreatQueueRunsPbd
import Derived.Test.YtfnmjlnpfoclbaaGreatQueueRunsPay
import Derived.Test.YtfnmjlnpfoclbaaGreatQueueRunsPaa
import Derived.Test.YtfnmjlnpfoclbaaGreatQueueRunsPaq

namespace Go.Proofs.YtfnmjlnpfoclbaaGreat
section
open Go.RowKit
set_option linter.unusedVariables false

theorem run_append_seg {P : Program} (w : World) (base : Nat) (t ty e : TypeId) (i : TypeInfo) (z : Value) (size bytes : Nat) (ht : P.underlying t = some (.slice e)) (hi : P.info? e = some i) (hz : i.zero = some z)
    (hsize : i.size = size) (hby : i.bytes = bytes) (hzs : z.cells.size = size) (hsz : 0 < size) (v : Value) (n : Nat) (xs : List Value) (hown : w.ownsRow base e size v n xs)
    (sv : Value) (m : Nat) (zs : List Value) (hr : Seg w size sv m zs) (h63 : n + m ≤ maxLen) (hbytes : (n + m) * bytes ≤ 140737488355328) (hbase : base ≤ w.heap.size) :
    ∃ v' w', (Builtin.append_ #[t, t] ty #[v, sv]).run P w = .ok v' w' ∧ w'.ownsRow base e size v' (n + m) (xs ++ zs) ∧ w.grownBy w' v.ownBlock := by
  obtain ⟨hl, h1, sa, cap, rfl, hle, hcap, hc⟩ := hr
  cases sa with
  | none =>
    have hz : zs = [] := by
      rcases List.eq_nil_or_concat zs with h' | ⟨l, y, h'⟩
      · exact h'
      · obtain ⟨b, o, h1, _⟩ := hc l.length y (by rw [h']; simp)
        cases h1
    subst hz
    have hm : m = 0 := by
      rcases Nat.eq_zero_or_pos m with e | e
      · exact e
      · have := Nat.mul_pos e hsz
        simp at hl
        omega
    subst hm
    obtain ⟨a1, c1, rfl⟩ := wrow_sh hown
    have h1' : n ≤ c1 := by
      rcases hown.2 with ⟨hv, h0⟩ | ⟨g, cap', cur, hv, _, _, hn, _⟩
      · simp only [Value.slice.injEq] at hv; omega
      · simp only [Value.slice.injEq] at hv; omega
    have hrun := run_append_nothing (P := P) w t t ty e i ht hi a1 n c1 h1' (.slice none 0 cap) (Src.ofNil w ht cap)
    exact ⟨_, _, hrun, by simpa using hown, World.grownBy.refl _ _⟩
  | some ad =>
    obtain ⟨v', w', h2, h3, h4, _⟩ := run_append_own (P := P) w base t ty e i z size bytes ht hi hz hsize hby hzs hsz v n xs hown ad m cap zs hl (fun j u hu => by
      obtain ⟨b, o, e', hcell⟩ := hc j u hu
      cases e'
      have e1 : (⟨b, o, none⟩ : Addr).add j = ⟨b, o + j, none⟩ := by unfold Addr.add; split <;> simp_all
      rw [e1]
      exact hcell) h1 h63 hbytes hbase
    exact ⟨v', w', h2, h3, h4⟩

end
end Go.Proofs.YtfnmjlnpfoclbaaGreat

namespace Go.Proofs.YtfnmjlnpfoclbaaGreat
section
open Go.RowKit Go.Maps
set_option linter.unusedVariables false

theorem countsR_on (p : Nat) (o l h s : Int) (w : World) (F : Nat → Prop) (st : BookSt) (wh : Bool) (hb : RB w F p st wh) (g : GoodE st) (ho : 1 ≤ o ∧ o ≤ 40) (ha : st.acc o = some (l, h, s)) (W : World) (hW : Below w.heap.size w W) :
    Calls Tryz.prog 83 #[.pointer (some ⟨p, 0, none⟩), .int .i64 o] W (fun e w' => e = .returned (.int .i64 (h + s)) ∧ Below w.heap.size w w') := by
  refine (countsR_any p o l h s W F st _ wh 40 (hb.below hW) g ho ha).mono ?_
  rintro e w' ⟨h1, h2⟩
  exact ⟨h1, hW.trans (h2.mono hW.size)⟩
theorem totalR_on (p : Nat) (w : World) (F : Nat → Prop) (st : BookSt) (wh : Bool) (hb : RB w F p st wh) (g : GoodE st) (W : World) (hW : Below w.heap.size w W) :
    Calls Tryz.prog 45 #[.pointer (some ⟨p, 0, none⟩)] W (fun e w' => e = .returned (.int .i64 st.total) ∧ Below w.heap.size w w') := by
  refine (totalR_any p W F st _ wh 40 (hb.below hW) g).mono ?_
  rintro e w' ⟨h1, h2⟩
  exact ⟨h1, hW.trans (h2.mono hW.size)⟩

set_option maxHeartbeats 1000000 in
set_option maxRecDepth 100000 in
theorem openR_bad (p : Nat) (o n : Int) (w : World) (F : Nat → Prop) (st : BookSt) (wh : Bool) (hb : RB w F p st wh) (e x : Int) (he : faultE st [o] [n] = e) (hv : (e = 2 ∧ x = 2) ∨ (e = 0 ∧ x = 6)) :
    Calls Tryz.prog 22 #[.pointer (some ⟨p, 0, none⟩), .int .i64 o, .int .i64 n] w (RP x F p st wh w) := by
  have HF := Lib.hid (fault_on p o n w F st wh hb)
  rw [he] at HF
  have HB := Lib.hid hb
  clear he hb
  rcases hv with ⟨rfl, rfl⟩ | ⟨rfl, rfl⟩
  all_goals
    go_enter Tryz.func22, Tryz.ntmps22
    go_wp2_with fail
    refine HF.out.mono ?_
    rintro e w1 ⟨rfl, hb1⟩
    have FIN := Lib.hid (HB.out.fin hb1)
    clear hb1
    go_wp2_with fail
    go_ret
    exact ⟨rfl, FIN.out.1, FIN.out.2⟩
set_option maxHeartbeats 2000000 in
set_option maxRecDepth 100000 in
theorem openR_new (p : Nat) (o n : Int) (w : World) (F : Nat → Prop) (st : BookSt) (wh : Bool) (hb : RB w F p st wh) (hw : wh = true → st.entries.length ≤ 9999) (he : faultE st [o] [n] = 7) (hc : chkE o [n] = 0) :
    Calls Tryz.prog 22 #[.pointer (some ⟨p, 0, none⟩), .int .i64 o, .int .i64 n] w (RP 0 F p ((st.put o (some (n, 0, 0))).note ⟨1, o, 0, n, 0, 0⟩) wh w) := by
  have HF := Lib.hid (fault_on p o n w F st wh hb)
  rw [he] at HF
  obtain ⟨ho, hn0⟩ := chkE_zero hc
  have hn := hn0 n (by simp)
  have HW := Lib.hid hw
  obtain ⟨mb, lv, ev, D, hm⟩ := hb
  have HM := Lib.hid hm
  obtain ⟨n1, n2⟩ := hn
  clear he hc hn0 hw hm
  go_enter Tryz.func22, Tryz.ntmps22
  go_wp2_with fail
  refine HF.out.mono ?_
  rintro e w2 ⟨rfl, hb2⟩
  have hm2 := HM.out.same (Below.same_on hb2)
  have c1 : w2.cell? ⟨p, 1, none⟩ = some (.map (some mb)) := by rw [cell_of hm2.self]; rfl
  obtain ⟨w3, hrun, k1, k2⟩ := hm2.putRun (W := w2) (Below.refl _ w2) o n 0 0 ho
  have K0 : RB w3 (fun k => F k ∨ w2.heap.size ≤ k) p (st.put o (some (n, 0, 0))) wh := k1
  obtain ⟨k3, k4⟩ := RB.then (Touch.of_below hb2) K0 k2 (fun k hk => Or.inl hk)
  have K1 := Lib.hid k3
  have K2 := Lib.hid k4
  clear hb2 hm2 k1 k2 K0 k3 k4
  go_wp2_with fail
  refine (noteR_st p ⟨1, o, 0, n, 0, 0⟩ w3 _ _ wh K1.out HW.out).mono ?_
  rintro e w4 ⟨rfl, hb4, ht4⟩
  obtain ⟨k3, k4⟩ := RB.then K2.out hb4 ht4 (fun k hk => hk)
  have K3 := Lib.hid k3
  have K4 := Lib.hid k4
  clear hb4 ht4 k3 k4
  go_wp2_with fail
  go_ret
  exact ⟨rfl, K3.out, K4.out⟩
theorem openR_all (p : Nat) (o n : Int) (w : World) (F : Nat → Prop) (st : BookSt) (wh : Bool) (hb : RB w F p st wh) (hw : wh = true → st.entries.length ≤ 9999) :
    Calls Tryz.prog 22 #[.pointer (some ⟨p, 0, none⟩), .int .i64 o, .int .i64 n] w (RP (openR st o n).1 F p (openR st o n).2 wh w) := by
  unfold openR
  rcases fault_cases st o [n] with ⟨h1, h2⟩ | ⟨h1, h2, h3⟩ | ⟨h1, h2, l, h, s, h3⟩
  · rw [if_neg (by rw [h2]; decide)]
    exact openR_bad p o n w F st wh hb 2 2 h1 (Or.inl ⟨rfl, rfl⟩)
  · rw [if_pos h2, h3]
    exact openR_new p o n w F st wh hb hw h1 h2
  · rw [if_pos h2, h3]
    exact openR_bad p o n w F st wh hb 0 6 h1 (Or.inr ⟨rfl, rfl⟩)

end
end Go.Proofs.YtfnmjlnpfoclbaaGreat

namespace Go.Proofs.YtfnmjlnpfoclbaaGreat
section
open Go.RowKit Go.Maps
set_option linter.unusedVariables false

theorem leftR_on (p : Nat) (o l h s : Int) (w : World) (F : Nat → Prop) (st : BookSt) (wh : Bool) (hb : RB w F p st wh) (g : GoodE st) (ho : 1 ≤ o ∧ o ≤ 40) (ha : st.acc o = some (l, h, s)) (W : World) (hW : Below w.heap.size w W) :
    Calls Tryz.prog 82 #[.pointer (some ⟨p, 0, none⟩), .int .i64 o] W (fun e w' => e = .returned (.int .i64 (min (l - (h + s)) (st.budget - st.total))) ∧ Below w.heap.size w w') := by
  refine (leftR_any p o l h s W F st _ wh 40 (hb.below hW) g ho ha).mono ?_
  rintro e w' ⟨h1, h2⟩
  exact ⟨h1, hW.trans (h2.mono hW.size)⟩
theorem leasedR_on (p : Nat) (o : Int) (w : World) (F : Nat → Prop) (st : BookSt) (wh : Bool) (hb : RB w F p st wh) (g : GoodE st) (W : World) (hW : Below w.heap.size w W) :
    Calls Tryz.prog 81 #[.pointer (some ⟨p, 0, none⟩), .int .i64 o] W (fun e w' => e = .returned (.int .i64 (leasedOf o st.leases)) ∧ Below w.heap.size w w') := by
  refine (leasedR_any p o W F st _ wh 40 (hb.below hW) g).mono ?_
  rintro e w' ⟨h1, h2⟩
  exact ⟨h1, hW.trans (h2.mono hW.size)⟩

set_option maxHeartbeats 1000000 in
set_option maxRecDepth 100000 in
theorem payR_err (p : Nat) (f t n : Int) (w : World) (F : Nat → Prop) (st : BookSt) (wh : Bool) (hb : RB w F p st wh) (e : Int) (he : faultE st [f, t] [n] = e) (hv : e = 2 ∨ e = 7) :
    Calls Tryz.prog 78 #[.pointer (some ⟨p, 0, none⟩), .int .i64 f, .int .i64 t, .int .i64 n] w (RP e F p st wh w) := by
  have HF := Lib.hid (fault_on3 p f t n w F st wh hb)
  rw [he] at HF
  have HB := Lib.hid hb
  clear he hb
  rcases hv with rfl | rfl
  all_goals
    go_enter Tryz.func78, Tryz.ntmps78
    go_wp2_with fail
    refine HF.out.mono ?_
    rintro e w1 ⟨rfl, hb1⟩
    have FIN := Lib.hid (HB.out.fin hb1)
    clear hb1
    go_wp2_with fail
    go_ret
    exact ⟨rfl, FIN.out.1, FIN.out.2⟩

theorem faultE_pay (st : BookSt) (f t n : Int) : (faultE st [f, t] [n] = 2 ∧ ¬ (chkE f [] = 0 ∧ chkE t [n] = 0)) ∨ (faultE st [f, t] [n] = 7 ∧ (chkE f [] = 0 ∧ chkE t [n] = 0) ∧ (st.acc f = none ∨ st.acc t = none)) ∨
    (faultE st [f, t] [n] = 0 ∧ (chkE f [] = 0 ∧ chkE t [n] = 0) ∧ ∃ l h s l' h' s', st.acc f = some (l, h, s) ∧ st.acc t = some (l', h', s')) := by
  have k1 : faultE st [f, t] [n] = if ([f, t].any ownBad || [n].any numBad) then 2 else if [f, t].all (fun o => (st.acc o).isSome) then 0 else 7 := rfl
  by_cases h1 : (1 ≤ f ∧ f ≤ 40) ∧ (1 ≤ t ∧ t ≤ 40) ∧ 0 ≤ n ∧ n ≤ 10000000
  · have e1 := (ownBad_iff f).2 h1.1
    have e2 := (ownBad_iff t).2 h1.2.1
    have e3 : [n].any numBad = false := (numBad_any [n]).2 (by simpa using h1.2.2)
    have c1 : chkE f [] = 0 := by unfold chkE; rw [if_pos ⟨h1.1, by simp⟩]
    have c2 : chkE t [n] = 0 := by unfold chkE; rw [if_pos ⟨h1.2.1, by simpa using h1.2.2⟩]
    rw [if_neg (by simp only [List.any_cons, List.any_nil, e1, e2, Bool.or_false] at e3 ⊢; simp [e3])] at k1
    cases hf : st.acc f with
    | none => exact Or.inr (Or.inl ⟨by rw [k1]; simp [hf], ⟨c1, c2⟩, Or.inl rfl⟩)
    | some a =>
      cases ht : st.acc t with
      | none => exact Or.inr (Or.inl ⟨by rw [k1]; simp [ht], ⟨c1, c2⟩, Or.inr rfl⟩)
      | some b => exact Or.inr (Or.inr ⟨by rw [k1]; simp [hf, ht], ⟨c1, c2⟩, a.1, a.2.1, a.2.2, b.1, b.2.1, b.2.2, rfl, rfl⟩)
  · refine Or.inl ⟨?_, fun h => h1 ?_⟩
    · rw [k1, if_pos]
      by_cases a1 : ownBad f = false
      · by_cases a2 : ownBad t = false
        · have a3 : ¬ [n].any numBad = false := fun h => h1 ⟨(ownBad_iff f).1 a1, (ownBad_iff t).1 a2, by simpa using (numBad_any [n]).1 h⟩
          simp at a3
          simp [a3]
        · simp at a2; simp [a2]
      · simp at a1; simp [a1]
    · have r1 := chkE_zero h.1
      have r2 := chkE_zero h.2
      exact ⟨r1.1, r2.1, r2.2 n (by simp)⟩

end
end Go.Proofs.YtfnmjlnpfoclbaaGreat

namespace Go.Proofs.YtfnmjlnpfoclbaaGreat
section
open Go.RowKit Go.Maps
set_option linter.unusedVariables false

def payStF (st : BookSt) (f t n : Int) (a b : Int × Int × Int) : BookSt := (paid st f t n a b).note ⟨5, f, t, n, 0, 0⟩

set_option maxHeartbeats 4000000 in
set_option maxRecDepth 100000 in
theorem payR_few (p : Nat) (f t n l h s l' h' s' : Int) (w : World) (F : Nat → Prop) (st : BookSt) (wh : Bool) (hb : RB w F p st wh) (g : GoodE st) (hw : wh = true → st.entries.length ≤ 9999) (he : faultE st [f, t] [n] = 0) (hc1 : chkE f [] = 0) (hc2 : chkE t [n] = 0) (ha : st.acc f = some (l, h, s)) (hb' : st.acc t = some (l', h', s')) (hne : f = t ∨ h < n) :
    Calls Tryz.prog 78 #[.pointer (some ⟨p, 0, none⟩), .int .i64 f, .int .i64 t, .int .i64 n] w (RP (if h < n then 5 else 0) F p (if h < n then st else payStF st f t n (l, h, s) (l', h', s')) wh w) := by
  have HF := Lib.hid (fault_on3 p f t n w F st wh hb)
  rw [he] at HF
  have HB := Lib.hid hb
  have hf := (chkE_zero hc1).1
  obtain ⟨ht, hn0⟩ := chkE_zero hc2
  have hn := hn0 n (by simp)
  have HW := Lib.hid hw
  have HACC := Lib.hid ha
  have HACC' := Lib.hid hb'
  have hq := (g.own f l h s ha).2
  obtain ⟨q1, q2, q3, q4⟩ := hq
  obtain ⟨n1, n2⟩ := hn
  have hs0 := g.s0 ha
  have FD := fun W => accField1 l h W
  obtain ⟨mb, lv, ev, D, hm⟩ := hb
  have HM := Lib.hid hm
  clear q4 he hc1 hc2 ha hb' hn0 hw g hm
  by_cases hlt : h < n
  · rw [if_pos hlt, if_pos hlt]
    clear hne
    go_enter Tryz.func78, Tryz.ntmps78
    go_wp2_with fail
    refine HF.out.mono ?_
    rintro e w1 ⟨rfl, hb1⟩
    have FIN := Lib.hid (HB.out.fin hb1)
    have c1 : w1.cell? ⟨p, 1, none⟩ = some (.map (some mb)) := by rw [cell_of (HM.out.same (Below.same_on hb1)).self]; rfl
    have LK := ref_lookup (HM.out.same (Below.same_on hb1)) f hf HACC.out
    clear hb1
    go_wp2_with fail
    go_ret
    exact ⟨rfl, FIN.out.1, FIN.out.2⟩
  · rw [if_neg hlt, if_neg hlt]
    obtain rfl : f = t := hne.resolve_right hlt
    have hps : ∀ W G, RB W G p (st.note ⟨5, f, f, n, 0, 0⟩) wh → RB W G p (payStF st f f n (l, h, s) (l', h', s')) wh := fun W G hx => by
      have ea : (payStF st f f n (l, h, s) (l', h', s')).acc = st.acc := by
        unfold payStF paid
        rw [if_pos rfl]
        funext x
        show (if x = f then some (l, h, s) else st.acc x) = st.acc x
        by_cases e : x = f
        · rw [if_pos e, e, HACC.out]
        · rw [if_neg e]
      have eb : payStF st f f n (l, h, s) (l', h', s') = (st.put f (some (l, h, s))).note ⟨5, f, f, n, 0, 0⟩ := by unfold payStF paid; rw [if_pos rfl]
      refine hx.st ?_ ea ?_ ?_ ?_ ?_ <;> (rw [eb]; rfl)
    have HPS := Lib.hid hps
    clear hne hps
    go_enter Tryz.func78, Tryz.ntmps78
    go_wp2_with fail
    refine HF.out.mono ?_
    rintro e w1 ⟨rfl, hb1⟩
    have B1 := Lib.hid hb1
    have c1 : w1.cell? ⟨p, 1, none⟩ = some (.map (some mb)) := by rw [cell_of (HM.out.same (Below.same_on hb1)).self]; rfl
    have LK := ref_lookup (HM.out.same (Below.same_on hb1)) f hf HACC.out
    clear hb1
    go_wp2_with fail
    refine (noteR_st p ⟨5, f, f, n, 0, 0⟩ w1 F st wh (HB.out.below B1.out) HW.out).mono ?_
    rintro e w4 ⟨rfl, hb4, ht4⟩
    have K := Lib.hid (RB.then (Touch.of_below (F := F) B1.out) hb4 ht4 (fun k hk => Or.inl hk))
    clear hb4 ht4 c1 LK
    go_wp2_with fail
    go_ret
    exact ⟨rfl, HPS.out _ _ K.out.1, K.out.2⟩

set_option maxHeartbeats 4000000 in
set_option maxRecDepth 100000 in
theorem payR_two (p : Nat) (f t n l h s l' h' s' : Int) (w : World) (F : Nat → Prop) (st : BookSt) (wh : Bool) (hb : RB w F p st wh) (g : GoodE st) (hw : wh = true → st.entries.length ≤ 9999) (he : faultE st [f, t] [n] = 0) (hc1 : chkE f [] = 0) (hc2 : chkE t [n] = 0) (ha : st.acc f = some (l, h, s)) (hb' : st.acc t = some (l', h', s')) (hne : f ≠ t) (hhn : ¬ h < n) (err : Int) (st' : BookSt) (hE : err = (if l' - (h' + s') < n then 12 else 0)) (hS : st' = (if l' - (h' + s') < n then st else payStF st f t n (l, h, s) (l', h', s'))) :
    Calls Tryz.prog 78 #[.pointer (some ⟨p, 0, none⟩), .int .i64 f, .int .i64 t, .int .i64 n] w (RP err F p st' wh w) := by
  have HE := Lib.hid hE
  have HSS := Lib.hid hS
  clear hE hS
  have HF := Lib.hid (fault_on3 p f t n w F st wh hb)
  rw [he] at HF
  have HB := Lib.hid hb
  have hf := (chkE_zero hc1).1
  obtain ⟨ht, hn0⟩ := chkE_zero hc2
  have hn := hn0 n (by simp)
  have HW := Lib.hid hw
  have HACC := Lib.hid ha
  have HACC' := Lib.hid hb'
  have CN := Lib.hid (countsR_on p t l' h' s' w F st wh hb g ht hb')
  obtain ⟨q1, q2, q3, q4⟩ := (g.own f l h s ha).2
  obtain ⟨q1', q2', q3', q4'⟩ := (g.own t l' h' s' hb').2
  obtain ⟨n1, n2⟩ := hn
  have hs0 := g.s0 ha
  have hs0' := g.s0 hb'
  have FD := fun W => accField1 l h W
  have FD0 := fun W => accField0 l' h' W
  obtain ⟨mb, lv, ev, D, hm⟩ := hb
  have HM := Lib.hid hm
  have HS : Hid (∀ W, Below w.heap.size w W → CntS p mb t l' h' W) := Lib.hid (fun W hW => ⟨by rw [cell_of (HM.out.same (Below.same_on hW)).self]; rfl, ref_lookup (HM.out.same (Below.same_on hW)) t ht HACC'.out⟩)
  have s1 : ∀ y : WIn (CntS p mb t l' h'), y.w.cell? ⟨p, 1, none⟩ = some (.map (some mb)) := fun y => y.h.1
  have s2 : ∀ y : WIn (CntS p mb t l' h'), (Instr.lookup 63 (.map (some mb)) (.int .i64 t) false).run Tryz.prog y.w = .ok (.agg #[.int .i64 l', .int .i64 h']) y.w := fun y => y.h.2
  haveI ne : Nonempty (WIn (CntS p mb t l' h')) := ⟨⟨w, HS.out w (Below.refl _ w)⟩⟩
  clear q4 q4' he hc1 hc2 ha hb' hn0 hw g hm
  have hne' : (f == t) = false := by simpa using hne
  go_enter Tryz.func78, Tryz.ntmps78
  go_wp2_with fail
  refine HF.out.mono ?_
  rintro e w1 ⟨rfl, hb1⟩
  have B1 := Lib.hid hb1
  have c1 : w1.cell? ⟨p, 1, none⟩ = some (.map (some mb)) := by rw [cell_of (HM.out.same (Below.same_on hb1)).self]; rfl
  have LK := ref_lookup (HM.out.same (Below.same_on hb1)) f hf HACC.out
  clear hb1
  go_wp2_with fail
  go_upto_region 7 with fail
  clear c1 LK
  have B1' := Lib.hid (bdrewN B1.out 1)
  have S0 : CntS p mb t l' h' w1.drew := HS.out _ B1'.out
  refine wp_normal ?_
  refine wp_region_plan 12 (CntS p mb t l' h') rfl ?_
  refine wpN_seg [0, 1, 2, 3, 4, 5, 6, 7, 8, 9] (by kernel_rfl) (by kernel_rfl) (by kernel_rfl) (by kernel_rfl) (by decide) (fun _ _ _ _ _ h => h) S0 ?_
  simp only [pick, List.map_cons, List.map_nil, List.getElem?_cons_succ, List.getElem?_cons_zero, Option.getD_some]
  repeat (go_big_quiet_step (fail))
  refine wpQuiet_nil ?_
  refine wpN_one 10 _ (by kernel_rfl) rfl ?_
  refine NextAt.held ?_
  intro K hK
  go_simp
  refine (CN.out _ B1'.out).mono ?_
  rintro e w2 ⟨rfl, hb2⟩
  have B2 := Lib.hid hb2
  have S1 := HS.out w2 B2.out
  clear hb2
  go_simp
  refine hK _ _ S1 ?_
  clear hK K
  refine wpN_pure [11] (by kernel_rfl) (by kernel_rfl) (by kernel_rfl) (fun _ _ _ _ _ h => h) (fun _ => S1) ?_
  simp only [pick, List.map_cons, List.map_nil, List.getElem?_cons_succ, List.getElem?_cons_zero, Option.getD_some]
  repeat (go_big_quiet_step (fail))
  refine wpQuiet_nil ?_
  refine wpN_one 12 _ (by kernel_rfl) rfl ?_
  refine NextAt.free (by kernel_rfl) ?_
  intro K hK
  go_simp
  refine hK _ _ ?_
  clear hK K
  refine wpN_done (by kernel_rfl) ?_
  by_cases hlt : l' - (h' + s') < n
  · have hE := HE.out
    have hS := HSS.out
    rw [if_pos hlt] at hE hS
    subst hE hS
    have FIN := Lib.hid (HB.out.fin B2.out)
    go_wp2_with fail
    go_ret
    exact ⟨rfl, FIN.out.1, FIN.out.2⟩
  · have hE := HE.out
    have hS := HSS.out
    rw [if_neg hlt] at hE hS
    subst hE hS
    clear HE HSS
    have E1 : Hid (h + -n = h - n) := Lib.hid (by omega)
    clear S0 S1 s1 s2 ne
    go_wp2_with fail
    refine (holdR_st p f (-n) l h s w2 F st wh (HB.out.below B2.out) hf HACC.out (by omega)).mono ?_
    rintro e w3 ⟨rfl, hb3, ht3⟩
    have K := Lib.hid (RB.then (Touch.of_below (F := F) B2.out) hb3 ht3 (fun k hk => Or.inl hk))
    clear hb3 ht3
    go_wp2_with fail
    refine (holdR_st p t n l' h' s' w3 _ _ wh K.out.1 ht (show (if t = f then some (l, h + -n, s) else st.acc t) = some (l', h', s') by rw [if_neg (fun e => hne e.symm), HACC'.out]) (by omega)).mono ?_
    rintro e w4 ⟨rfl, hb4, ht4⟩
    have K4 := Lib.hid (RB.then K.out.2 hb4 ht4 (fun k hk => hk))
    clear hb4 ht4
    go_wp2_with fail
    refine (noteR_st p ⟨5, f, t, n, 0, 0⟩ w4 _ _ wh K4.out.1 HW.out).mono ?_
    rintro e w5 ⟨rfl, hb5, ht5⟩
    have K5 := Lib.hid (RB.then K4.out.2 hb5 ht5 (fun k hk => hk))
    clear hb5 ht5
    go_wp2_with fail
    go_ret
    refine ⟨rfl, ?_, K5.out.2⟩
    have := K5.out.1
    rw [E1.out] at this
    have e : payStF st f t n (l, h, s) (l', h', s') = ((st.put f (some (l, h - n, s))).put t (some (l', h' + n, s'))).note ⟨5, f, t, n, 0, 0⟩ := by unfold payStF paid; rw [if_neg hne]
    rw [e]
    exact this

theorem payR_all (p : Nat) (f t n : Int) (w : World) (F : Nat → Prop) (st : BookSt) (wh : Bool) (hb : RB w F p st wh) (g : GoodE st) (hw : wh = true → st.entries.length ≤ 9999) :
    Calls Tryz.prog 78 #[.pointer (some ⟨p, 0, none⟩), .int .i64 f, .int .i64 t, .int .i64 n] w (RP (payR st f t n).1 F p (payR st f t n).2 wh w) := by
  rcases faultE_pay st f t n with ⟨h1, h2⟩ | ⟨h1, h2, h3⟩ | ⟨h1, h2, l, h, s, l', h', s', h3, h4⟩
  · have e : payR st f t n = (2, st) := by unfold payR; rw [if_neg h2]
    rw [e]
    exact payR_err p f t n w F st wh hb 2 h1 (Or.inl rfl)
  · have e : payR st f t n = (7, st) := by
      unfold payR
      rw [if_pos h2]
      rcases h3 with h3 | h3
      · rw [h3]
      · rw [h3]; cases st.acc f <;> rfl
    rw [e]
    exact payR_err p f t n w F st wh hb 7 h1 (Or.inr rfl)
  · have e : payR st f t n = if h < n then (5, st) else if f ≠ t ∧ l' - (h' + s') < n then (12, st) else (0, payStF st f t n (l, h, s) (l', h', s')) := by
      unfold payR
      rw [if_pos h2, h3, h4]; rfl
    by_cases hne : f = t ∨ h < n
    · have k := payR_few p f t n l h s l' h' s' w F st wh hb g hw h1 h2.1 h2.2 h3 h4 hne
      rw [e]
      by_cases hlt : h < n
      · rw [if_pos hlt, if_pos hlt] at k
        rw [if_pos hlt]
        exact k
      · rw [if_neg hlt, if_neg hlt] at k
        rw [if_neg hlt, if_neg (fun x => x.1 (hne.resolve_right hlt))]
        exact k
    · have hnt : f ≠ t := fun x => hne (Or.inl x)
      have hhn : ¬ h < n := fun x => hne (Or.inr x)
      have k := payR_two p f t n l h s l' h' s' w F st wh hb g hw h1 h2.1 h2.2 h3 h4 hnt hhn _ _ rfl rfl
      rw [e, if_neg hhn]
      by_cases hlt : l' - (h' + s') < n
      · rw [if_pos hlt, if_pos hlt] at k
        rw [if_pos ⟨hnt, hlt⟩]
        exact k
      · rw [if_neg hlt, if_neg hlt] at k
        rw [if_neg (fun x => hlt x.2)]
        exact k

theorem results_tmp4 {fn : Func} {t u v x : Tmp} (h : fn.results = #[.tmp t, .tmp u, .tmp v, .tmp x]) (tmps : Array Value) (P : Program) (w : World) :
    (results fn tmps).run P w = .ok (.tuple #[tmps.getD t undef, tmps.getD u undef, tmps.getD v undef, tmps.getD x undef]) w := by
  simp [results, h]

set_option maxHeartbeats 1000000 in
set_option maxRecDepth 100000 in
theorem askR_err (p : Nat) (o : Int) (w : World) (F : Nat → Prop) (st : BookSt) (wh : Bool) (hb : RB w F p st wh) (e : Int) (he : faultE st [o] [] = e) (hv : e = 2 ∨ e = 7) :
    Calls Tryz.prog 43 #[.pointer (some ⟨p, 0, none⟩), .int .i64 o] w (fun x w' => x = .returned (.tuple #[.int .i64 0, .int .i64 0, .int .i64 0, .int .i64 e]) ∧ Below w.heap.size w w') := by
  have HF := Lib.hid (fault_on1 p o w F st wh hb)
  rw [he] at HF
  clear he hb
  rcases hv with rfl | rfl
  all_goals
    go_enter Tryz.func43, Tryz.ntmps43
    go_wp2_with fail
    refine HF.out.mono ?_
    rintro e w1 ⟨rfl, hb1⟩
    have B1 := Lib.hid hb1
    clear hb1
    go_wp2_with fail
    ((try simp only [Exit.inBlock, Exit.then]); refine bodyPost_ret (results_tmp4 rfl _ _ _) rfl ?_)
    exact ⟨rfl, B1.out⟩

set_option maxHeartbeats 4000000 in
set_option maxRecDepth 100000 in
theorem askR_ok (p : Nat) (o l h s : Int) (w : World) (F : Nat → Prop) (st : BookSt) (wh : Bool) (hb : RB w F p st wh) (g : GoodE st) (he : faultE st [o] [] = 0) (hc : chkE o [] = 0) (ha : st.acc o = some (l, h, s)) :
    Calls Tryz.prog 43 #[.pointer (some ⟨p, 0, none⟩), .int .i64 o] w (fun x w' => x = .returned (.tuple #[.int .i64 h, .int .i64 s, .int .i64 (min (l - (h + s)) (st.budget - st.total)), .int .i64 0]) ∧ Below w.heap.size w w') := by
  have HF := Lib.hid (fault_on1 p o w F st wh hb)
  rw [he] at HF
  have ho := (chkE_zero hc).1
  have HACC := Lib.hid ha
  have LE := Lib.hid (leasedR_on p o w F st wh hb g)
  rw [← (g.own o l h s ha).2.2.2.2] at LE
  have LF := Lib.hid (leftR_on p o l h s w F st wh hb g ho ha)
  have FD := fun W => accField1 l h W
  obtain ⟨mb, lv, ev, D, hm⟩ := hb
  have HM := Lib.hid hm
  have HS : Hid (∀ W, Below w.heap.size w W → CntS p mb o l h W) := Lib.hid (fun W hW => ⟨by rw [cell_of (HM.out.same (Below.same_on hW)).self]; rfl, ref_lookup (HM.out.same (Below.same_on hW)) o ho HACC.out⟩)
  have s1 : ∀ y : WIn (CntS p mb o l h), y.w.cell? ⟨p, 1, none⟩ = some (.map (some mb)) := fun y => y.h.1
  have s2 : ∀ y : WIn (CntS p mb o l h), (Instr.lookup 63 (.map (some mb)) (.int .i64 o) false).run Tryz.prog y.w = .ok (.agg #[.int .i64 l, .int .i64 h]) y.w := fun y => y.h.2
  haveI ne : Nonempty (WIn (CntS p mb o l h)) := ⟨⟨w, HS.out w (Below.refl _ w)⟩⟩
  generalize min (l - (h + s)) (st.budget - st.total) = m at *
  clear he hc ha g hm
  go_enter Tryz.func43, Tryz.ntmps43
  go_wp2_with fail
  refine HF.out.mono ?_
  rintro e w1 ⟨rfl, hb1⟩
  have B1 := Lib.hid hb1
  clear hb1
  go_wp2_with fail
  go_upto_region 4 with fail
  have B1' := Lib.hid (bdrewN B1.out 1)
  have S0 : CntS p mb o l h w1.drew := HS.out _ B1'.out
  refine wp_normal ?_
  refine wp_region_plan 16 (CntS p mb o l h) rfl ?_
  refine wpN_seg [0, 1, 2, 3, 4, 5, 6, 7, 8, 10, 11] (by kernel_rfl) (by kernel_rfl) (by kernel_rfl) (by kernel_rfl) (by decide) (fun _ _ _ _ _ h => h) S0 ?_
  simp only [pick, List.map_cons, List.map_nil, List.getElem?_cons_succ, List.getElem?_cons_zero, Option.getD_some]
  repeat (go_big_quiet_step (fail))
  refine wpQuiet_nil ?_
  refine wpN_one 9 _ (by kernel_rfl) rfl ?_
  refine NextAt.held ?_
  intro K hK
  go_simp
  refine (LE.out _ B1'.out).mono ?_
  rintro e w2 ⟨rfl, hb2⟩
  have B2 := Lib.hid hb2
  have S1 := HS.out w2 B2.out
  clear hb2
  go_simp
  refine hK _ _ S1 ?_
  clear hK K
  refine wpN_one 12 _ (by kernel_rfl) rfl ?_
  refine NextAt.held ?_
  intro K hK
  go_simp
  refine (LF.out _ B2.out).mono ?_
  rintro e w3 ⟨rfl, hb3⟩
  have B3 := Lib.hid hb3
  have S2 := HS.out w3 B3.out
  clear hb3
  go_simp
  refine hK _ _ S2 ?_
  clear hK K
  refine wpN_one 13 _ (by kernel_rfl) rfl ?_
  refine NextAt.held ?_
  intro K hK
  go_simp
  refine hK _ _ S2 ?_
  clear hK K
  refine wpN_one 14 _ (by kernel_rfl) rfl ?_
  refine NextAt.held ?_
  intro K hK
  go_simp
  refine hK _ _ S2 ?_
  clear hK K
  refine wpN_one 15 _ (by kernel_rfl) rfl ?_
  refine NextAt.held ?_
  intro K hK
  go_simp
  refine hK _ _ S2 ?_
  clear hK K
  refine wpN_one 16 _ (by kernel_rfl) rfl ?_
  refine NextAt.free (by kernel_rfl) ?_
  intro K hK
  go_simp
  refine hK _ _ ?_
  clear hK K
  refine wpN_done (by kernel_rfl) ?_
  go_wp2_with fail
  ((try simp only [Exit.inBlock, Exit.then]); refine bodyPost_ret (results_tmp4 rfl _ _ _) rfl ?_)
  exact ⟨rfl, B3.out⟩

end
end Go.Proofs.YtfnmjlnpfoclbaaGreat

namespace Go.Proofs.YtfnmjlnpfoclbaaGreat
section
open Go.RowKit
set_option linter.unusedVariables false

theorem step_append_known {P : Program} {ops : Array Oper} {o : Oper} {a : Act} {w w' : World} {K : Act → World → Prop} {Q : Exit → Act → World → Prop} {E : Prop} (hg : o.guard = none) (s x : Operand) (t : TypeId)
    (hop : o.op = Op.call { callee := Callee.builtin Builtin.append, args := #[s, x], argTypes := #[t, t] }) (v1 v2 v : Value) (hs : a.eval s = v1) (hx : a.eval x = v2) (hr : (Builtin.append_ #[t, t] o.type #[v1, v2]).run P w = .ok v w') (h : K (a.put o.dst v) w') :
    if Region.wanted o (yielded ops a.tmps) = true then Oper.wp P o a w K Q else E := by
  have hw : Region.wanted o (yielded ops a.tmps) = true := by simp [Region.wanted, hg]
  rw [if_pos hw]
  unfold Oper.wp execOp
  simp only [hop, resolve, invoke, builtin, Sem.run_bind, Sem.run_pure, Result.andThen_ok, List.map_toArray, List.map_cons, List.map_nil, hs, hx, hr]
  exact h

end
end Go.Proofs.YtfnmjlnpfoclbaaGreat
