/-
  The reference's book: Lease. No conditions but what always holds of a book.
-/
import Derived.Test.YtljjndifmfhffaaGreatDoorLedgerChecksPbg
namespace Go.Proofs.YtljjndifmfhffaaGreatDoor
open Go.RowKit Go.Maps
set_option linter.unusedVariables false

def RP2 (r err : Int) (F : Nat → Prop) (p : Nat) (st : BookSt) (wh : Bool) (w : World) : Ending → World → Prop := fun e w' =>
  e = .returned (.tuple #[.int .i64 r, .int .i64 err]) ∧ RB w' (fun k => F k ∨ w.heap.size ≤ k) p st wh ∧ Touch F w w'

theorem lease_bad {st : BookSt} {o n u e : Int} (h : leaseE st o n u = e) (he : e ≠ 0) : (leaseR st o n u).1 = e ∧ (leaseR st o n u).2 = st ∧ leaseV st o n u = 0 := by
  have : ¬ leaseE st o n u = 0 := by rw [h]; exact he
  unfold leaseR leaseV
  rw [if_neg this, if_neg this, h]
  exact ⟨rfl, rfl, rfl⟩

set_option maxHeartbeats 1000000 in
set_option maxRecDepth 100000 in
theorem leaseRR_err (p : Nat) (o n u : Int) (w : World) (F : Nat → Prop) (st : BookSt) (wh : Bool) (hb : RB w F p st wh) (e : Int) (he : faultE st [o] [n] = e) (hv : e = 2 ∨ e = 7) :
    Calls Tryz.prog 42 #[.pointer (some ⟨p, 0, none⟩), .int .i64 o, .int .i64 n, .int .i64 u] w (RP2 0 e F p st wh w) := by
  have HF := Lib.hid (fault_on p o n w F st wh hb)
  rw [he] at HF
  have HB := Lib.hid hb
  clear he hb
  rcases hv with rfl | rfl
  all_goals
    go_enter Tryz.func42, Tryz.ntmps42
    go_wp2_with fail
    refine HF.out.mono ?_
    rintro e w1 ⟨rfl, hb1⟩
    have FIN := Lib.hid (HB.out.fin hb1)
    clear hb1
    go_wp2_with fail
    go_ret2
    exact ⟨rfl, FIN.out.1, FIN.out.2⟩

set_option maxHeartbeats 4000000 in
set_option maxRecDepth 100000 in
theorem leaseRR_until (p : Nat) (o n u : Int) (w : World) (F : Nat → Prop) (st : BookSt) (wh : Bool) (hb : RB w F p st wh) (he : faultE st [o] [n] = 0) (hu : untilE st u ≠ 0) :
    Calls Tryz.prog 42 #[.pointer (some ⟨p, 0, none⟩), .int .i64 o, .int .i64 n, .int .i64 u] w (RP2 0 (untilE st u) F p st wh w) := by
  have HF := Lib.hid (fault_on p o n w F st wh hb)
  rw [he] at HF
  have HB := Lib.hid hb
  obtain ⟨mb, lv, ev, D, hm⟩ := hb
  have HM := Lib.hid hm
  have e0 : untilE st u = if 0 ≤ u ∧ u ≤ 1000000 then (if u ≤ st.time then 5 else 0) else 2 := rfl
  have IT := Lib.hid (isTimeR_any u)
  generalize htm : st.time = tm at *
  clear he hm
  by_cases h1 : 0 ≤ u ∧ u ≤ 1000000
  · rw [if_pos h1] at e0
    have h2 : u ≤ tm := by
      by_cases h2 : u ≤ tm
      · exact h2
      · rw [if_neg h2] at e0; exact absurd e0 hu
    rw [if_pos h2] at e0
    rw [e0]
    rw [show decide (0 ≤ u ∧ u ≤ 1000000) = true by simp [h1]] at IT
    clear e0 hu h1
    have HT := Lib.hid htm
    clear htm
    go_enter Tryz.func42, Tryz.ntmps42
    go_wp2_with fail
    refine HF.out.mono ?_
    rintro e w' ⟨rfl, hb1⟩
    have FIN := Lib.hid (HB.out.fin hb1)
    have c4 : w'.cell? ⟨p, 4, none⟩ = some (.int .i64 tm) := by rw [cell_of (HM.out.same (Below.same_on hb1)).self, ← HT.out]; rfl
    clear hb1
    go_wp2_with fail
    refine (IT.out _).mono ?_
    rintro e w2 ⟨rfl, rfl⟩
    go_wp2_with fail
    go_ret2
    exact ⟨rfl, FIN.out.1, FIN.out.2⟩
  · rw [if_neg h1] at e0
    rw [e0]
    rw [show decide (0 ≤ u ∧ u ≤ 1000000) = false by simp [h1]] at IT
    clear e0 hu h1
    go_enter Tryz.func42, Tryz.ntmps42
    go_wp2_with fail
    refine HF.out.mono ?_
    rintro e w' ⟨rfl, hb1⟩
    have FIN := Lib.hid (HB.out.fin hb1)
    clear hb1
    go_wp2_with fail
    refine (IT.out _).mono ?_
    rintro e w2 ⟨rfl, rfl⟩
    go_wp2_with fail
    go_ret2
    exact ⟨rfl, FIN.out.1, FIN.out.2⟩

/-- The lease is appended in its book. -/
theorem leaseRR_mem {w w' : World} {F : Nat → Prop} {p : Nat} {st : BookSt} {es : List Ent} {wh : Bool} {mb : Nat} {lv ev : Value} {D : DataW Unit} (h : RefMem w F p st es wh 40 mb lv ev D) (l : Lea) (g cap : Nat)
    (hrow : w'.ownsRow 0 88 4 (.slice (some ⟨g, 0, none⟩) (st.leases.length + 1) cap) (st.leases.length + 1) (st.leases.flatMap Lea.cells ++ l.cells))
    (hgr : w.drew.grownBy w' lv.ownBlock) (hpl : lv.ownBlock = some g ∨ w.heap.size ≤ g) :
    RefMem (w'.setCell ⟨p, 2, none⟩ (.slice (some ⟨g, 0, none⟩) (st.leases.length + 1) cap)) (fun k => F k ∨ w.heap.size ≤ k) p { st with leases := st.leases ++ [l] } es wh 40 mb (.slice (some ⟨g, 0, none⟩) (st.leases.length + 1) cap) ev D ∧
      Touch F w (w'.setCell ⟨p, 2, none⟩ (.slice (some ⟨g, 0, none⟩) (st.leases.length + 1) cap)) := by
  have hp := lt_of h.self
  have blk' : ∀ k, k < w.heap.size → lv.ownBlock ≠ some k → w'.heap[k]? = w.heap[k]? := fun k hk hne => hgr.block k hk (fun e => hne e.symm)
  have hp' := (blk' p hp h.pl).trans h.self
  have hgp : g ≠ p := by
    rcases hpl with e | e
    · intro x; subst x; exact h.pl e
    · omega
  refine ⟨h.leasesTo _ { st with leases := st.leases ++ [l] } rfl ?_ ?_ ?_ ?_, ?_⟩
  · rw [block_setCell hp']; rfl
  · intro k hk hne hne2
    rw [Below.heap_setCell _ _ _ _ hne]
    exact blk' k hk hne2
  · have := ownsRow_setCell_other hrow (a := ⟨p, 2, none⟩) (by simp [Value.ownBlock]; exact hgp) (.slice (some ⟨g, 0, none⟩) (st.leases.length + 1) cap)
    simpa [List.flatMap_append] using this
  · intro k hk
    simp only [Value.ownBlock, Option.some.injEq] at hk
    subst hk
    rcases hpl with e | e
    · exact Or.inl (h.flea _ e)
    · exact Or.inr e
  · refine Touch.setCell ?_ (Or.inl h.fp) _
    exact (Touch.refl F w).drew.grown hgr (fun k hk => Or.inl (h.flea k hk))

set_option maxHeartbeats 8000000 in
set_option maxRecDepth 100000 in
theorem leaseRR_in (p : Nat) (o n u l h s : Int) (w : World) (F : Nat → Prop) (st : BookSt) (wh : Bool) (hb : RB w F p st wh) (g : GoodE st) (hw : wh = true → st.entries.length ≤ 9999) (he : faultE st [o] [n] = 0) (hc : chkE o [n] = 0) (ha : st.acc o = some (l, h, s)) (hu : untilE st u = 0) (hlast : st.last < 9223372036854775807) :
    Calls Tryz.prog 42 #[.pointer (some ⟨p, 0, none⟩), .int .i64 o, .int .i64 n, .int .i64 u] w (RP2 (leaseV st o n u) (leaseR st o n u).1 F p (leaseR st o n u).2 wh w) := by
  obtain ⟨i0, hi0, hz0, hz1, hz2⟩ := info_parts infoLea
  have hlen := g.leaLen
  have HF := Lib.hid (fault_on p o n w F st wh hb)
  rw [he] at HF
  have HB := Lib.hid hb
  have HW := Lib.hid hw
  obtain ⟨ho, hn0⟩ := chkE_zero hc
  have hn := hn0 n (by simp)
  have LF := Lib.hid (leftR_on p o l h s w F st wh hb g ho ha)
  have EL : leaseE st o n u = if st.leases.length = 200 then 4 else if min (l - (h + s)) (st.budget - st.total) < n then 12 else 0 := by
    unfold leaseE
    rw [if_pos hc, ha]
    simp only [if_pos hu]
  have RL : leaseE st o n u = 0 → leaseR st o n u = (0, leaseSt st o n u l h s) ∧ leaseV st o n u = st.last + 1 := by
    intro e
    unfold leaseR leaseV
    rw [if_pos e, if_pos e, ha]
    exact ⟨rfl, rfl⟩
  obtain ⟨h1, h2⟩ := untilE_zero hu
  have IT := Lib.hid (isTimeR_any u)
  rw [show decide (0 ≤ u ∧ u ≤ 1000000) = true by simp [h1]] at IT
  have h2' : ¬ u ≤ st.time := by omega
  have h0 := g.s0 ha
  have t1 := g.tot0
  have t2 := g.totb
  have t3 := g.bud
  have h4 := g.last
  obtain ⟨n1, n2⟩ := hn
  obtain ⟨a1, a2, a3, a4, a5⟩ := g.own o l h s ha
  have HACC : Hid (∀ W G, RB W G p (({ st with last := st.last + 1, leases := st.leases ++ [⟨st.last + 1, o, n, u⟩] } : BookSt).note ⟨8, o, 0, n, st.last + 1, u⟩) wh → RB W G p (leaseSt st o n u l h s) wh) := Lib.hid (fun W G hx => hx.accs (fun o' => by
    show (if o' = o then some (l, h, s + n) else st.acc o').map _ = (st.acc o').map _
    by_cases e : o' = o
    · rw [if_pos e, e, ha]; rfl
    · rw [if_neg e]) rfl rfl rfl rfl rfl)
  have ONE : ∀ v ∈ [Value.int .i64 (st.last + 1), .int .i64 o, .int .i64 n, .int .i64 u], v.oneCell' = true := by
    intro v hv
    simp at hv
    rcases hv with rfl | rfl | rfl | rfl <;> rfl
  have hmn : -1000000000 ≤ min (l - (h + s)) (st.budget - st.total) ∧ min (l - (h + s)) (st.budget - st.total) ≤ 1000000000 := by omega
  generalize min (l - (h + s)) (st.budget - st.total) = mn at *
  obtain ⟨mn1, mn2⟩ := hmn
  obtain ⟨mb, lv, ev, D, hm⟩ := hb
  have HM := Lib.hid hm
  obtain ⟨la, lc, hlv, hlv1, hlv2⟩ := ownsRow_sh hm.lrow
  subst hlv
  clear he hc ha hu h1 h2 a1 a2 a3 a4 a5 hw hn0 t1 t2 t3 g hm
  by_cases h200 : st.leases.length = 200
  · rw [if_pos h200] at EL
    obtain ⟨r1, r2, r3⟩ := lease_bad EL (by decide)
    rw [r1, r2, r3]
    clear EL RL LF r1 r2 r3 HACC
    have h200' : (st.leases.length : Int) = 200 := by omega
    clear h200
    go_enter Tryz.func42, Tryz.ntmps42
    go_wp2_with fail
    refine HF.out.mono ?_
    rintro e w1 ⟨rfl, hb1⟩
    have FIN := Lib.hid (HB.out.fin hb1)
    have hs1 := (HM.out.same (Below.same_on hb1)).self
    have c4 : w1.cell? ⟨p, 4, none⟩ = some (.int .i64 st.time) := by rw [cell_of hs1]; rfl
    have c2 : w1.cell? ⟨p, 2, none⟩ = some (.slice la st.leases.length lc) := by rw [cell_of hs1]; rfl
    clear hb1 hs1
    go_wp2_with fail
    refine (IT.out _).mono ?_
    rintro e w2 ⟨rfl, rfl⟩
    go_wp2_with fail
    go_ret2
    exact ⟨rfl, FIN.out.1, FIN.out.2⟩
  rw [if_neg h200] at EL
  have hlen2 : ¬ ((st.leases.length : Int) = 200) := by omega
  by_cases hlt : mn < n
  · rw [if_pos hlt] at EL
    obtain ⟨r1, r2, r3⟩ := lease_bad EL (by decide)
    rw [r1, r2, r3]
    clear EL RL r1 r2 r3 h200 HACC
    go_enter Tryz.func42, Tryz.ntmps42
    go_wp2_with fail
    refine HF.out.mono ?_
    rintro e w1 ⟨rfl, hb1⟩
    have B1 := Lib.hid hb1
    have hs1 := (HM.out.same (Below.same_on hb1)).self
    have c4 : w1.cell? ⟨p, 4, none⟩ = some (.int .i64 st.time) := by rw [cell_of hs1]; rfl
    have c2 : w1.cell? ⟨p, 2, none⟩ = some (.slice la st.leases.length lc) := by rw [cell_of hs1]; rfl
    clear hb1 hs1
    go_wp2_with fail
    refine (IT.out _).mono ?_
    rintro e w2 ⟨rfl, rfl⟩
    go_wp2_with fail
    refine (LF.out _ B1.out).mono ?_
    rintro e w3 ⟨rfl, hb3⟩
    have FIN := Lib.hid (HB.out.fin hb3)
    clear hb3
    go_wp2_with fail
    go_ret2
    exact ⟨rfl, FIN.out.1, FIN.out.2⟩
  · rw [if_neg hlt] at EL
    obtain ⟨r1, r2⟩ := RL EL
    rw [r1, r2]
    clear EL RL r1 r2 h200
    go_enter Tryz.func42, Tryz.ntmps42
    go_wp2_with fail
    refine HF.out.mono ?_
    rintro e w1 ⟨rfl, hb1⟩
    have B1 := Lib.hid hb1
    have hs1 := (HM.out.same (Below.same_on hb1)).self
    have c4 : w1.cell? ⟨p, 4, none⟩ = some (.int .i64 st.time) := by rw [cell_of hs1]; rfl
    have c2 : w1.cell? ⟨p, 2, none⟩ = some (.slice la st.leases.length lc) := by rw [cell_of hs1]; rfl
    clear hb1 hs1
    go_wp2_with fail
    refine (IT.out _).mono ?_
    rintro e w2 ⟨rfl, rfl⟩
    go_wp2_with fail
    refine (LF.out _ B1.out).mono ?_
    rintro e w3 ⟨rfl, hb3⟩
    have hm3 := HM.out.same (Below.same_on hb3)
    have c3 : w3.cell? ⟨p, 3, none⟩ = some (.int .i64 st.last) := by rw [cell_of hm3.self]; rfl
    have f3 : w3.frozen? ⟨p, 3, none⟩ = false := free_of hm3.self 3
    have hm4 := hm3.nums (W := w3.setCell ⟨p, 3, none⟩ (.int .i64 (st.last + 1))) (st' := { st with last := st.last + 1 }) rfl rfl (by rw [block_setCell hm3.self]; rfl) (fun k _ h2 => Below.heap_setCell _ _ _ k h2)
    have HM4 := Lib.hid hm4
    have T4 := Lib.hid ((Touch.of_below (F := F) hb3).setCell (p := ⟨p, 3, none⟩) (Or.inl hm3.fp) (.int .i64 (st.last + 1)))
    clear hb3 hm3 hm4 c4 c2
    go_upto_region 13 with fail
    clear c3 f3
    generalize w3.setCell ⟨p, 3, none⟩ (.int .i64 (st.last + 1)) = W3 at *
    have d2 : W3.cell? ⟨p, 2, none⟩ = some (.slice la st.leases.length lc) := by rw [cell_of HM4.out.self]; rfl
    have d3 : W3.cell? ⟨p, 3, none⟩ = some (.int .i64 (st.last + 1)) := by rw [cell_of HM4.out.self]; rfl
    have d2a : ∀ ob, (W3.alloc ob).cell? ⟨p, 2, none⟩ = some (.slice la st.leases.length lc) := fun ob => Lib.cell?_alloc_some _ d2
    have d3a : ∀ ob, (W3.alloc ob).cell? ⟨p, 3, none⟩ = some (.int .i64 (st.last + 1)) := fun ob => Lib.cell?_alloc_some _ d3
    have PC : ∀ w', W3.drew.grownBy w' (Value.slice la st.leases.length lc).ownBlock → w'.cell? ⟨p, 2, none⟩ = some (.slice la st.leases.length lc) ∧ w'.frozen? ⟨p, 2, none⟩ = false := fun w' hg => by
      have hs := (hg.block p (lt_of HM4.out.self) (fun e => HM4.out.pl e.symm)).trans (show W3.drew.heap[p]? = _ from HM4.out.self)
      exact ⟨(cell_of hs 2).trans rfl, free_of hs 2⟩
    have HPC := Lib.hid PC
    clear PC
    go_region_law ((go_loud (refine step_append_new rfl (.tmp 55) (.tmp 64) 37 rfl 0 88 i0 (.agg #[.int .i64 0, .int .i64 0, .int .i64 0, .int .i64 0]) 4 32 Tryz.underlying37 hi0 hz0 hz1 hz2 rfl (by decide) (.slice la st.leases.length lc) st.leases.length (st.leases.flatMap Lea.cells) W3.drew _ [.int .i64 (st.last + 1), .int .i64 o, .int .i64 n, .int .i64 u] (by simp [Act.eval]) (by exact HM4.out.lrow) (by simp [Act.eval]) rfl ONE (by unfold maxLen; omega) (by omega) (by omega) ?_); intro gb cap w' hrow hgr hpl hsz; have d6 := (HPC.out w' hgr).1; have f6 := (HPC.out w' hgr).2))
    all_goals
      obtain ⟨k1, k2⟩ := leaseRR_mem HM4.out ⟨st.last + 1, o, n, u⟩ gb cap hrow hgr hpl
      simp only at k1 k2
      have NT := Lib.hid (noteR_st p ⟨8, o, 0, n, st.last + 1, u⟩ _ _ _ wh ⟨mb, _, _, _, k1⟩ HW.out)
      have e3 : (w'.setCell ⟨p, 2, none⟩ (.slice (some ⟨gb, 0, none⟩) (st.leases.length + 1) cap)).cell? ⟨p, 3, none⟩ = some (.int .i64 (st.last + 1)) := by rw [cell_of k1.self]; rfl
      have T2 := Lib.hid (T4.out.then k2)
      have HS := Lib.hid T4.out.size
      clear k1 k2 hrow hgr hpl hsz d6 f6 d2 d3 d2a d3a
      go_wp2_with fail
      refine NT.out.mono ?_
      rintro e w5 ⟨rfl, hb5, ht5⟩
      obtain ⟨k5, k6⟩ := RB.then T2.out hb5 ht5 (fun k hk => hk.imp id (fun x => Nat.le_trans HS.out x))
      obtain ⟨mb5, lv5, ev5, D5, hm5⟩ := k5
      have e5 : w5.cell? ⟨p, 3, none⟩ = some (.int .i64 (st.last + 1)) := by rw [cell_of hm5.self]; rfl
      have K5 := Lib.hid (HACC.out _ _ ⟨mb5, lv5, ev5, D5, hm5⟩)
      have K6 := Lib.hid k6
      clear hm5 hb5 ht5 e3 k6
      go_wp2_with fail
      go_ret2
      exact ⟨rfl, K5.out, K6.out⟩

theorem leaseRR_all (p : Nat) (o n u : Int) (w : World) (F : Nat → Prop) (st : BookSt) (wh : Bool) (hb : RB w F p st wh) (g : GoodE st) (hw : wh = true → st.entries.length ≤ 9999) (hlast : st.last < 9223372036854775807) :
    Calls Tryz.prog 42 #[.pointer (some ⟨p, 0, none⟩), .int .i64 o, .int .i64 n, .int .i64 u] w (RP2 (leaseV st o n u) (leaseR st o n u).1 F p (leaseR st o n u).2 wh w) := by
  rcases fault_cases st o [n] with ⟨h1, h2⟩ | ⟨h1, h2, h3⟩ | ⟨h1, h2, l, h, s, h3⟩
  · obtain ⟨r1, r2, r3⟩ := lease_bad (st := st) (o := o) (n := n) (u := u) (e := 2) (by unfold leaseE; rw [if_neg (by rw [h2]; decide)]) (by decide)
    rw [r1, r2, r3]
    exact leaseRR_err p o n u w F st wh hb 2 h1 (Or.inl rfl)
  · obtain ⟨r1, r2, r3⟩ := lease_bad (st := st) (o := o) (n := n) (u := u) (e := 7) (by unfold leaseE; rw [if_pos h2, h3]) (by decide)
    rw [r1, r2, r3]
    exact leaseRR_err p o n u w F st wh hb 7 h1 (Or.inr rfl)
  · by_cases hu : untilE st u = 0
    · exact leaseRR_in p o n u l h s w F st wh hb g hw h1 h2 h3 hu hlast
    · obtain ⟨r1, r2, r3⟩ := lease_bad (st := st) (o := o) (n := n) (u := u) (e := untilE st u) (by unfold leaseE; rw [if_pos h2, h3]; simp only [if_neg hu]) hu
      rw [r1, r2, r3]
      exact leaseRR_until p o n u w F st wh hb h1 hu

end Go.Proofs.YtljjndifmfhffaaGreatDoor
