/-
  The reference's book: End, Renew. No conditions but what always holds of a book.
-/
import Derived.Test.YtljjndifmfhffaaGreatDoorLedgerChecksPbf
import Derived.Test.YtljjndifmfhffaaGreatDoorLedgerChecksPbc
import Derived.Test.YtljjndifmfhffaaGreatDoorLedgerChecksPba
namespace Go.Proofs.YtljjndifmfhffaaGreatDoor
open Go.RowKit Go.Maps
set_option linter.unusedVariables false

theorem leaseAt_on (p : Nat) (no : Int) (w : World) (F : Nat → Prop) (st : BookSt) (wh : Bool) (hb : RB w F p st wh) (hlen : st.leases.length ≤ 1000000) (W : World) (hW : Below w.heap.size w W) :
    Calls Tryz.prog 72 #[.pointer (some ⟨p, 0, none⟩), .int .i64 no] W (fun e w' => e = .returned (.int .i64 (findV st no)) ∧ Below w.heap.size w w') := by
  refine (leaseAt_any p no W F st wh (hb.below hW) hlen).mono ?_
  rintro e w' ⟨h1, h2⟩
  exact ⟨h1, hW.trans (h2.mono hW.size)⟩

/-- The leases are a row of the call's own, stored. -/
theorem RefMem.newLeases {w W : World} {F : Nat → Prop} {p : Nat} {st : BookSt} {es : List Ent} {wh : Bool} {mb : Nat} {lv ev : Value} {D : DataW Unit} (h : RefMem w F p st es wh 40 mb lv ev D) (B : Below w.heap.size w W) (v' : Value) (ls : List Lea)
    (hrow : W.ownsRow w.heap.size 88 4 v' ls.length (ls.flatMap Lea.cells)) :
    RefMem (W.setCell ⟨p, 2, none⟩ v') (fun k => F k ∨ w.heap.size ≤ k) p { st with leases := ls } es wh 40 mb v' ev D ∧ Touch F w (W.setCell ⟨p, 2, none⟩ v') := by
  have hp := lt_of h.self
  have hpW : W.heap[p]? = _ := (B.block p hp).trans h.self
  have hvp : v'.ownBlock ≠ some p := fun e => by have := (hrow.lt p e).1; omega
  refine ⟨h.leasesTo v' { st with leases := ls } rfl (by rw [block_setCell hpW]; rfl) (fun k h1 h2 _ => (Below.heap_setCell _ _ _ k h2).trans (B.block k h1)) ?_ (fun k hk => Or.inr (hrow.lt k hk).1), (Touch.of_below (F := F) B).setCell (p := ⟨p, 2, none⟩) (Or.inl h.fp) v'⟩
  have h0 := row_zero hrow
  exact ownsRow_same h0 (fun k hk => Below.heap_setCell _ _ _ k (fun e => by have e : k = p := e; subst e; exact hvp hk))

set_option maxHeartbeats 2000000 in
set_option maxRecDepth 100000 in
theorem endRR_none (p : Nat) (no : Int) (w : World) (F : Nat → Prop) (st : BookSt) (wh : Bool) (hb : RB w F p st wh) (g : GoodE st) (hf : findL no st.leases = none) :
    Calls Tryz.prog 44 #[.pointer (some ⟨p, 0, none⟩), .int .i64 no] w (RP 13 F p st wh w) := by
  have C := leaseAt_any p no w F st wh hb (by have := g.leaLen; omega)
  rw [show findV st no = -1 by unfold findV; rw [hf]] at C
  have HC := Lib.hid C
  have HB := Lib.hid hb
  clear C hb g hf
  go_enter Tryz.func44, Tryz.ntmps44
  go_wp2_with fail
  refine HC.out.mono ?_
  rintro e w' ⟨rfl, hb1⟩
  have FIN := Lib.hid (HB.out.fin hb1)
  clear hb1
  go_wp2_with fail
  go_ret
  exact ⟨rfl, FIN.out.1, FIN.out.2⟩

set_option maxHeartbeats 4000000 in
set_option maxRecDepth 100000 in
theorem endRR_some (p : Nat) (no : Int) (w : World) (F : Nat → Prop) (st : BookSt) (wh : Bool) (hb : RB w F p st wh) (g : GoodE st) (hw : wh = true → st.entries.length ≤ 9999) (i : Nat) (hf : findL no st.leases = some i) (l : Lea) (hl : st.leases[i]? = some l) :
    Calls Tryz.prog 44 #[.pointer (some ⟨p, 0, none⟩), .int .i64 no] w (RP 0 F p (({ st with total := st.total - l.amount, leases := st.leases.eraseIdx i, acc := endAcc st l } : BookSt).note ⟨10, 0, 0, 0, no, 0⟩) wh w) := by
  have hlen := g.leaLen
  have hi := findL_lt hf
  have C := leaseAt_any p no w F st wh hb (by omega)
  rw [show findV st no = i by unfold findV; rw [hf]] at C
  have HC := Lib.hid C
  have HW := Lib.hid hw
  have HACC : Hid (∀ W G, RB W G p (({ st with leases := st.leases.eraseIdx i } : BookSt).note ⟨10, 0, 0, 0, no, 0⟩) wh → RB W G p (({ st with total := st.total - l.amount, leases := st.leases.eraseIdx i, acc := endAcc st l } : BookSt).note ⟨10, 0, 0, 0, no, 0⟩) wh) := Lib.hid (fun W G h => h.accs (fun o => by
    show (endAcc st l o).map _ = (st.acc o).map _
    unfold endAcc
    by_cases e : o = l.owner
    · rw [if_pos e, Option.map_map]; rfl
    · rw [if_neg e]) rfl rfl rfl rfl rfl)
  obtain ⟨mb, lv, ev, D, hm⟩ := hb
  have HM := Lib.hid hm
  clear C g hf hm hw hl
  go_enter Tryz.func44, Tryz.ntmps44
  go_wp2_with fail
  refine HC.out.mono ?_
  rintro e w1 ⟨rfl, hb1⟩
  have B1 := Lib.hid hb1
  have hm1 := HM.out.same (Below.same_on hb1)
  have c2 : w1.cell? ⟨p, 2, none⟩ = some lv := by rw [cell_of hm1.self]; rfl
  have CL := Lib.hid (clone_lea lv 0 st.leases w1 hm1.lrow (by omega))
  obtain ⟨la, lc, hlv, _, _⟩ := ownsRow_sh hm1.lrow
  subst hlv
  clear hb1 hm1
  go_wp2_with fail
  refine CL.out.mono ?_
  rintro e w2 ⟨v2, rfl, hr2, hb2⟩
  obtain ⟨gb, cap, cur, hv2, hgB, hg, hn, hcm, hs, ht, _⟩ := lrow_open hr2 (by omega)
  subst hv2
  have DE := Lib.hid (delete_lea gb cap cur i (i + 1) st.leases w2 hg hn hcm hs ht hi rfl (by omega))
  have B2 := Lib.hid (B1.out.trans (hb2.mono B1.out.size))
  have hgb : w.heap.size ≤ gb := Nat.le_trans B1.out.size hgB
  clear hr2 hb2 hg hs ht c2
  go_wp2_with fail
  refine DE.out.mono ?_
  rintro e w3 ⟨rfl, hr3, ht3, hs3⟩
  have B3 := Lib.hid (B2.out.trans (ht3.below B2.out.size (fun k hk => hk ▸ hgb)))
  have hel : (st.leases.eraseIdx i).length = st.leases.length - 1 := List.length_eraseIdx_of_lt hi
  have hr3' : w3.ownsRow w.heap.size 88 4 (.slice (some ⟨gb, 0, none⟩) (st.leases.length - 1) cap) (st.leases.eraseIdx i).length ((st.leases.eraseIdx i).flatMap Lea.cells) := by
    rw [hel]
    refine ⟨hr3.1, ?_⟩
    rcases hr3.2 with ⟨h1, h2⟩ | ⟨g', cap', cur', h1, h2⟩
    · exact .inl ⟨h1, h2⟩
    · refine .inr ⟨g', cap', cur', h1, ?_, h2.2⟩
      simp only [Value.slice.injEq, Option.some.injEq, Addr.mk.injEq, and_true] at h1
      omega
  obtain ⟨k1, k2⟩ := HM.out.newLeases B3.out _ _ hr3'
  have K1 := Lib.hid k1
  have K2 := Lib.hid k2
  have hp3 : w3.heap[p]? = _ := (B3.out.block p (lt_of HM.out.self)).trans HM.out.self
  have f2 : w3.frozen? ⟨p, 2, none⟩ = false := free_of hp3 2
  have d2 : ∃ u, w3.cell? ⟨p, 2, none⟩ = some u := ⟨_, (cell_of hp3 2).trans rfl⟩
  obtain ⟨u2, d2⟩ := d2
  have NT := Lib.hid (noteR_st p ⟨10, 0, 0, 0, no, 0⟩ _ _ { st with leases := st.leases.eraseIdx i } wh ⟨mb, _, _, _, k1⟩ HW.out)
  clear hr3 ht3 hs3 k1 k2 hr3' hp3
  go_wp2_with fail
  refine NT.out.mono ?_
  rintro e w4 ⟨rfl, hb4, ht4⟩
  obtain ⟨k3, k4⟩ := RB.then K2.out hb4 ht4 (fun k hk => hk)
  have K3 := Lib.hid (HACC.out _ _ k3)
  have K4 := Lib.hid k4
  clear hb4 ht4 k3 k4
  go_wp2_with fail
  go_ret
  exact ⟨rfl, K3.out, K4.out⟩

theorem endRR_all (p : Nat) (no : Int) (w : World) (F : Nat → Prop) (st : BookSt) (wh : Bool) (hb : RB w F p st wh) (g : GoodE st) (hw : wh = true → st.entries.length ≤ 9999) :
    Calls Tryz.prog 44 #[.pointer (some ⟨p, 0, none⟩), .int .i64 no] w (RP (endR st no).1 F p (endR st no).2 wh w) := by
  cases hf : findL no st.leases with
  | none =>
    have := endRR_none p no w F st wh hb g hf
    unfold endR
    rw [hf]
    exact this
  | some i =>
    obtain ⟨l, hl⟩ : ∃ l, st.leases[i]? = some l := ⟨_, List.getElem?_eq_getElem (findL_lt hf)⟩
    have := endRR_some p no w F st wh hb g hw i hf l hl
    unfold endR
    rw [hf]
    simp only [hl]
    exact this

/-! Renew. -/
set_option maxHeartbeats 2000000 in
set_option maxRecDepth 100000 in
theorem renewRR_none (p : Nat) (no u : Int) (w : World) (F : Nat → Prop) (st : BookSt) (wh : Bool) (hb : RB w F p st wh) (g : GoodE st) (hf : findL no st.leases = none) :
    Calls Tryz.prog 43 #[.pointer (some ⟨p, 0, none⟩), .int .i64 no, .int .i64 u] w (RP 13 F p st wh w) := by
  have C := leaseAt_any p no w F st wh hb (by have := g.leaLen; omega)
  rw [show findV st no = -1 by unfold findV; rw [hf]] at C
  have HC := Lib.hid C
  have HB := Lib.hid hb
  clear C hb g hf
  go_enter Tryz.func43, Tryz.ntmps43
  go_wp2_with fail
  refine HC.out.mono ?_
  rintro e w' ⟨rfl, hb1⟩
  have FIN := Lib.hid (HB.out.fin hb1)
  clear hb1
  go_wp2_with fail
  go_ret
  exact ⟨rfl, FIN.out.1, FIN.out.2⟩

set_option maxHeartbeats 4000000 in
set_option maxRecDepth 100000 in
theorem renewRR_bad (p : Nat) (no u : Int) (w : World) (F : Nat → Prop) (st : BookSt) (wh : Bool) (hb : RB w F p st wh) (g : GoodE st) (i : Nat) (hf : findL no st.leases = some i) (hu : untilE st u ≠ 0) :
    Calls Tryz.prog 43 #[.pointer (some ⟨p, 0, none⟩), .int .i64 no, .int .i64 u] w (RP (untilE st u) F p st wh w) := by
  have C := leaseAt_any p no w F st wh hb (by have := g.leaLen; omega)
  rw [show findV st no = i by unfold findV; rw [hf]] at C
  have HC := Lib.hid C
  have HB := Lib.hid hb
  obtain ⟨mb, lv, ev, D, hm⟩ := hb
  have HM := Lib.hid hm
  have e0 : untilE st u = if 0 ≤ u ∧ u ≤ 1000000 then (if u ≤ st.time then 5 else 0) else 2 := rfl
  have IT := Lib.hid (isTimeR_any u)
  generalize htm : st.time = tm at *
  clear C g hf hm
  by_cases h1 : 0 ≤ u ∧ u ≤ 1000000
  · rw [if_pos h1] at e0
    have h2 : u ≤ tm := by
      by_cases h2 : u ≤ tm
      · exact h2
      · rw [if_neg h2] at e0; exact absurd e0 hu
    rw [if_pos h2] at e0
    rw [e0]
    rw [show decide (0 ≤ u ∧ u ≤ 1000000) = true by simp [h1]] at IT
    clear e0 hu h1
    have HT := Lib.hid htm
    clear htm
    go_enter Tryz.func43, Tryz.ntmps43
    go_wp2_with fail
    refine HC.out.mono ?_
    rintro e w' ⟨rfl, hb1⟩
    have FIN := Lib.hid (HB.out.fin hb1)
    have c4 : w'.cell? ⟨p, 4, none⟩ = some (.int .i64 tm) := by rw [cell_of (HM.out.same (Below.same_on hb1)).self, ← HT.out]; rfl
    clear hb1
    go_wp2_with fail
    refine (IT.out _).mono ?_
    rintro e w2 ⟨rfl, rfl⟩
    go_wp2_with fail
    go_ret
    exact ⟨rfl, FIN.out.1, FIN.out.2⟩
  · rw [if_neg h1] at e0
    rw [e0]
    rw [show decide (0 ≤ u ∧ u ≤ 1000000) = false by simp [h1]] at IT
    clear e0 hu h1
    go_enter Tryz.func43, Tryz.ntmps43
    go_wp2_with fail
    refine HC.out.mono ?_
    rintro e w' ⟨rfl, hb1⟩
    have FIN := Lib.hid (HB.out.fin hb1)
    clear hb1
    go_wp2_with fail
    refine (IT.out _).mono ?_
    rintro e w2 ⟨rfl, rfl⟩
    go_wp2_with fail
    go_ret
    exact ⟨rfl, FIN.out.1, FIN.out.2⟩

set_option maxHeartbeats 4000000 in
set_option maxRecDepth 100000 in
theorem renewRR_ok (p : Nat) (no u : Int) (w : World) (F : Nat → Prop) (st : BookSt) (wh : Bool) (hb : RB w F p st wh) (g : GoodE st) (hw : wh = true → st.entries.length ≤ 9999) (i : Nat) (hf : findL no st.leases = some i) (hu : untilE st u = 0) :
    Calls Tryz.prog 43 #[.pointer (some ⟨p, 0, none⟩), .int .i64 no, .int .i64 u] w (RP 0 F p (({ st with leases := setUntl u i st.leases } : BookSt).note ⟨9, 0, 0, 0, no, u⟩) wh w) := by
  have hlen := g.leaLen
  have hi := findL_lt hf
  have C := leaseAt_any p no w F st wh hb (by omega)
  rw [show findV st no = i by unfold findV; rw [hf]] at C
  have HC := Lib.hid C
  have HW := Lib.hid hw
  obtain ⟨mb, lv, ev, D, hm⟩ := hb
  have HM := Lib.hid hm
  obtain ⟨h1, h2⟩ := untilE_zero hu
  have IT := Lib.hid (isTimeR_any u)
  rw [show decide (0 ≤ u ∧ u ≤ 1000000) = true by simp [h1]] at IT
  clear C g hf hm hw hu h1
  have h2' : ¬ u ≤ st.time := by omega
  clear h2
  go_enter Tryz.func43, Tryz.ntmps43
  go_wp2_with fail
  refine HC.out.mono ?_
  rintro e w1 ⟨rfl, hb1⟩
  have B1 := Lib.hid hb1
  have hm1 := HM.out.same (Below.same_on hb1)
  have c4 : w1.cell? ⟨p, 4, none⟩ = some (.int .i64 st.time) := by rw [cell_of hm1.self]; rfl
  have c2 : w1.cell? ⟨p, 2, none⟩ = some lv := by rw [cell_of hm1.self]; rfl
  have CL := Lib.hid (clone_lea lv 0 st.leases w1 hm1.lrow (by omega))
  obtain ⟨la, lc, hlv, _, _⟩ := ownsRow_sh hm1.lrow
  subst hlv
  clear hb1 hm1
  go_wp2_with fail
  refine (IT.out _).mono ?_
  rintro e w1' ⟨rfl, rfl⟩
  go_wp2_with fail
  refine CL.out.mono ?_
  rintro e w2 ⟨v2, rfl, hr2, hb2⟩
  have B2 := Lib.hid (B1.out.trans (hb2.mono B1.out.size))
  have hr2' : w2.ownsRow w.heap.size 88 4 v2 st.leases.length (st.leases.flatMap Lea.cells) := by
    refine ⟨hr2.1, ?_⟩
    rcases hr2.2 with ⟨h1, h2⟩ | ⟨g', cap', cur', h1, h2, h3⟩
    · exact .inl ⟨h1, h2⟩
    · exact .inr ⟨g', cap', cur', h1, Nat.le_trans B1.out.size h2, h3⟩
  obtain ⟨k1, k2⟩ := HM.out.newLeases B2.out _ _ hr2'
  obtain ⟨gb, cap, cur, hv2, hgB, hg, hn, hcm, hs, ht, hcl⟩ := lrow_open hr2' (by omega)
  subst hv2
  have hp3 : w2.heap[p]? = _ := (B2.out.block p (lt_of HM.out.self)).trans HM.out.self
  have f2 : w2.frozen? ⟨p, 2, none⟩ = false := free_of hp3 2
  obtain ⟨u2, d2⟩ : ∃ u, w2.cell? ⟨p, 2, none⟩ = some u := ⟨_, (cell_of hp3 2).trans rfl⟩
  have K1 := Lib.hid k1
  have K2 := Lib.hid k2
  have d2' : (w2.setCell ⟨p, 2, none⟩ (.slice (some ⟨gb, 0, none⟩) st.leases.length cap)).cell? ⟨p, 2, none⟩ = some (.slice (some ⟨gb, 0, none⟩) st.leases.length cap) := by rw [cell_of k1.self]; rfl
  obtain ⟨gb', cap', cur', hv2', _, hg', _, _, hs', _, hcl'⟩ := lrow_open k1.lrow (by show 0 < st.leases.length; omega)
  simp only [Value.slice.injEq, Option.some.injEq, Addr.mk.injEq, and_true] at hv2'
  obtain ⟨rfl, _, rfl⟩ := hv2'
  obtain ⟨l, hl⟩ : ∃ l, st.leases[i]? = some l := ⟨_, List.getElem?_eq_getElem hi⟩
  have c3 : (w2.setCell ⟨p, 2, none⟩ (.slice (some ⟨gb, 0, none⟩) st.leases.length cap)).cell? ⟨gb, i * 4 + 3, none⟩ = some (.int .i64 l.untl) := (hcl' i l hl 3 (by omega)).trans rfl
  have f3 : (w2.setCell ⟨p, 2, none⟩ (.slice (some ⟨gb, 0, none⟩) st.leases.length cap)).frozen? ⟨gb, i * 4 + 3, none⟩ = false := free_of hg' _
  have hgp : gb ≠ p := by have := lt_of HM.out.self; omega
  have k3 := k1.leasesTo (W := (w2.setCell ⟨p, 2, none⟩ (.slice (some ⟨gb, 0, none⟩) st.leases.length cap)).setCell ⟨gb, i * 4 + 3, none⟩ (.int .i64 u)) (.slice (some ⟨gb, 0, none⟩) st.leases.length cap) { st with leases := setUntl u i st.leases } rfl
    ((Below.heap_setCell _ _ _ p (Ne.symm hgp)).trans k1.self) (fun k h1 h2 h3 => Below.heap_setCell _ _ _ k (fun e => h3 (by subst e; rfl)))
    (by have := ownsRow_set k1.lrow (i * 4 + 3) (by show _ < st.leases.length * 4; omega) (.int .i64 u); rw [setUntl_cells] at this; show World.ownsRow _ _ _ _ _ (setUntl u i st.leases).length _; rw [setUntl_len]; exact this) (fun k hk => Or.inl (k1.flea k hk))
  have k4 := k3.wider (G := fun k => F k ∨ w.heap.size ≤ k) (fun k hk => hk.elim id (fun x => Or.inr (Nat.le_trans k2.size x)))
  have NT := Lib.hid (noteR_st p ⟨9, 0, 0, 0, no, u⟩ _ _ { st with leases := setUntl u i st.leases } wh ⟨mb, _, _, _, k4⟩ HW.out)
  have K4 := Lib.hid (k2.setCell (p := ⟨gb, i * 4 + 3, none⟩) (Or.inr hgB) (.int .i64 u))
  clear hr2 hb2 hg hs ht hcl hr2' k1 k2 hp3 hg' hs' hcl' hl k3 k4 K1 K2
  go_wp2_with fail
  refine NT.out.mono ?_
  rintro e w4 ⟨rfl, hb4, ht4⟩
  obtain ⟨k3, k4⟩ := RB.then K4.out hb4 ht4 (fun k hk => hk)
  have K5 := Lib.hid k3
  have K6 := Lib.hid k4
  clear hb4 ht4 k3 k4
  go_wp2_with fail
  go_ret
  exact ⟨rfl, K5.out, K6.out⟩
theorem renewRR_all (p : Nat) (no u : Int) (w : World) (F : Nat → Prop) (st : BookSt) (wh : Bool) (hb : RB w F p st wh) (g : GoodE st) (hw : wh = true → st.entries.length ≤ 9999) :
    Calls Tryz.prog 43 #[.pointer (some ⟨p, 0, none⟩), .int .i64 no, .int .i64 u] w (RP (renewR st no u).1 F p (renewR st no u).2 wh w) := by
  cases hf : findL no st.leases with
  | none =>
    have := renewRR_none p no u w F st wh hb g hf
    unfold renewR
    rw [hf]
    exact this
  | some i =>
    by_cases hu : untilE st u = 0
    · have := renewRR_ok p no u w F st wh hb g hw i hf hu
      unfold renewR
      rw [hf]
      simp only [if_pos hu]
      exact this
    · have := renewRR_bad p no u w F st wh hb g i hf hu
      unfold renewR
      rw [hf]
      simp only [if_neg hu]
      exact this

end Go.Proofs.YtljjndifmfhffaaGreatDoor
