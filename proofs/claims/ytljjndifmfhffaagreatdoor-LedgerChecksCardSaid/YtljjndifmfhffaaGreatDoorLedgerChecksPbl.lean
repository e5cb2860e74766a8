/-
  The reference's book: Pass. No conditions but what always holds of a book.
-/
import Derived.Test.YtljjndifmfhffaaGreatDoorLedgerChecksPbh
import Derived.Test.YtljjndifmfhffaaGreatDoorLedgerChecksPbk
namespace Go.Proofs.YtljjndifmfhffaaGreatDoor
open Go.RowKit Go.Maps
set_option linter.unusedVariables false

def PassPostR (ns : List Int) (err : Int) (F : Nat → Prop) (p : Nat) (st : BookSt) (wh : Bool) (w : World) : Ending → World → Prop := fun e w' =>
  ∃ v, e = .returned (.tuple #[v, .int .i64 err]) ∧ Reads w' .i64 v ns ∧ (∀ b, v.ownBlock = some b → w.heap.size ≤ b) ∧ RB w' (fun k => F k ∨ w.heap.size ≤ k) p st wh ∧ Touch F w w'

/-- What is over of the first leases. -/
def overK (sl : List Lea) (now : Int) (k : Nat) : List Lea := (sl.take k).filter fun l => decide (l.untl ≤ now)
theorem overK_step (sl : List Lea) (now : Int) (k : Nat) (l : Lea) (h : sl[k]? = some l) : overK sl now (k + 1) = overK sl now k ++ (if l.untl ≤ now then [l] else []) := by
  unfold overK
  rw [List.take_add_one, h, List.filter_append]
  by_cases e : l.untl ≤ now <;> simp [e]
theorem overK_len (sl : List Lea) (now : Int) (k : Nat) : (overK sl now k).length ≤ k := by
  unfold overK
  have := List.length_filter_le (fun l : Lea => decide (l.untl ≤ now)) (sl.take k)
  rw [List.length_take] at this
  omega
theorem overK_len2 (sl : List Lea) (now : Int) (k : Nat) : (overK sl now k).length ≤ sl.length := by
  unfold overK
  have := List.length_filter_le (fun l : Lea => decide (l.untl ≤ now)) (sl.take k)
  rw [List.length_take] at this
  omega

theorem trimE_le (l : List Ent) : (trimE l).length ≤ l.length := by
  unfold trimE
  split
  · rw [List.length_drop]; omega
  · exact Nat.le_refl _
theorem endR_entsR (st : BookSt) (no : Int) : (endR st no).2.entries.length ≤ st.entries.length + 1 := by
  unfold endR
  split
  · exact Nat.le_succ _
  · split
    · exact Nat.le_succ _
    · exact Nat.le_trans (trimE_le _) (by rw [List.length_append]; exact Nat.le_refl _)
theorem endAll_entsR : ∀ (l : List Lea) (st : BookSt), (endAll st l).entries.length ≤ st.entries.length + l.length
  | [], st => Nat.le_refl _
  | x :: l, st => by
    have h1 := endAll_entsR l (endR st x.no).2
    have h2 := endR_entsR st x.no
    show (endAll (endR st x.no).2 l).entries.length ≤ _
    rw [List.length_cons]
    omega

/-- What holds between two rounds of Pass. -/
structure PassAtR (F : Nat → Prop) (p : Nat) (wh : Bool) (st1 : BookSt) (sl : List Lea) (now : Int) (sv : Value) (w : World) (k : Nat) (out : Value) (wr : World) (G : Nat → Prop) : Prop where
  book : RB wr G p (endAll st1 (overK sl now k)) wh
  lt : ∀ j, G j → j < wr.heap.size
  sub : ∀ j, G j → F j ∨ w.heap.size ≤ j
  svf : ∀ j, sv.ownBlock = some j → ¬ G j
  ovf : ∀ j, out.ownBlock = some j → ¬ G j
  srow : wr.ownsRow 0 88 4 sv sl.length (sl.flatMap Lea.cells)
  orow : wr.ownsRow w.heap.size 3 1 out (overK sl now k).length (noVals (overK sl now k))
  touch : Touch F w wr

theorem PassAtR.start {F : Nat → Prop} {p : Nat} {wh : Bool} {st1 : BookSt} {sl : List Lea} {now : Int} {sv : Value} {w wr : World} {G : Nat → Prop} (hb : RB wr G p st1 wh) (lt : ∀ j, G j → j < wr.heap.size) (sub : ∀ j, G j → F j ∨ w.heap.size ≤ j)
    (svf : ∀ j, sv.ownBlock = some j → ¬ G j) (srow : wr.ownsRow 0 88 4 sv sl.length (sl.flatMap Lea.cells)) (touch : Touch F w wr) : PassAtR F p wh st1 sl now sv w 0 (.slice none 0 0) wr G := by
  have e0 : overK sl now 0 = [] := by simp [overK]
  refine ⟨?_, lt, sub, svf, fun j hj => by simp [Value.ownBlock] at hj, srow, ?_, touch⟩
  · rw [e0]; exact hb
  · rw [e0]; exact World.ownsRow_nil _ _ _ _
/-- A round in which nothing ends. -/
theorem PassAtR.skip {F : Nat → Prop} {p : Nat} {wh : Bool} {st1 : BookSt} {sl : List Lea} {now : Int} {sv : Value} {w : World} {k : Nat} {out : Value} {wr : World} {G : Nat → Prop} (h : PassAtR F p wh st1 sl now sv w k out wr G) {l : Lea} (hl : sl[k]? = some l) (hn : ¬ l.untl ≤ now) (ob : Obj) :
    PassAtR F p wh st1 sl now sv w (k + 1) out (wr.alloc ob) G := by
  have e : overK sl now (k + 1) = overK sl now k := by rw [overK_step _ _ _ _ hl, if_neg hn, List.append_nil]
  have B : Below wr.heap.size wr (wr.alloc ob) := (Below.refl _ _).alloc (Nat.le_refl _) _
  refine ⟨by rw [e]; exact h.book.below B, fun j hj => Nat.lt_of_lt_of_le (h.lt j hj) B.size, h.sub, h.svf, h.ovf, h.srow.alloc _, by rw [e]; exact h.orow.alloc _, h.touch.alloc _⟩

/-- A round: the box, the append, End. -/
theorem PassAtR.step {F : Nat → Prop} {p : Nat} {wh : Bool} {st1 : BookSt} {sl : List Lea} {now : Int} {sv : Value} {w : World} {k : Nat} {out : Value} {wr : World} {G : Nat → Prop} (h : PassAtR F p wh st1 sl now sv w k out wr G) {l : Lea} (hl : sl[k]? = some l) (hn : l.untl ≤ now) (ob : Obj)
    {gb cap : Nat} {w3 w4 : World}
    (hown : w3.ownsRow w.heap.size 3 1 (.slice (some ⟨gb, 0, none⟩) ((overK sl now k).length + 1) cap) ((overK sl now k).length + 1) (noVals (overK sl now k) ++ [.int .i64 l.no])) (hgr : (wr.alloc ob).grownBy w3 out.ownBlock) (hpl : out.ownBlock = some gb ∨ (wr.alloc ob).heap.size ≤ gb)
    (hb4 : RB w4 (fun j => G j ∨ w3.heap.size ≤ j) p (endR (endAll st1 (overK sl now k)) l.no).2 wh) (ht4 : Touch G w3 w4) :
    PassAtR F p wh st1 sl now sv w (k + 1) (.slice (some ⟨gb, 0, none⟩) ((overK sl now k).length + 1) cap) w4 (fun j => (G j ∨ w3.heap.size ≤ j) ∧ j < w4.heap.size) := by
  have e : overK sl now (k + 1) = overK sl now k ++ [l] := by rw [overK_step _ _ _ _ hl, if_pos hn]
  have hs1 : (wr.alloc ob).heap.size = wr.heap.size + 1 := by simp
  have hs3 := hgr.size
  have hs4 := ht4.size
  have hout : ∀ j, out.ownBlock = some j → j < wr.heap.size := fun j hj => by obtain ⟨cur, hc⟩ := row_block h.orow hj; exact lt_of hc
  have hsv : ∀ j, sv.ownBlock = some j → j < wr.heap.size := fun j hj => by obtain ⟨cur, hc⟩ := row_block h.srow hj; exact lt_of hc
  have hdiff : ∀ j, sv.ownBlock = some j → out.ownBlock ≠ some j := by
    intro j hj hj2
    obtain ⟨c1, h1⟩ := row_block h.srow hj
    obtain ⟨c2, h2⟩ := row_block h.orow hj2
    rw [h1] at h2
    simp at h2
  have hgbG : ¬ G gb := by
    rcases hpl with e | e
    · exact h.ovf _ e
    · intro hG; have := h.lt _ hG; omega
  have hgb3 : gb < w3.heap.size := by obtain ⟨cur, hc⟩ := row_block hown (k := gb) rfl; exact lt_of hc
  refine ⟨?_, fun j hj => hj.2, ?_, ?_, ?_, ?_, ?_, ?_⟩
  · rw [e, endAll_snoc]; exact RefAt.narrow' hb4
  · intro j hj
    rcases hj.1 with h2 | h2
    · exact h.sub j h2
    · right; have := h.touch.size; omega
  · intro j hj hG
    have h1 := hsv j hj
    rcases hG.1 with h2 | h2
    · exact h.svf j hj h2
    · omega
  · intro j hj hG
    simp only [Value.ownBlock, Option.some.injEq] at hj
    subst hj
    rcases hG.1 with h2 | h2
    · exact hgbG h2
    · omega
  · refine ownsRow_same h.srow (fun j hj => ?_)
    have h1 := hsv j hj
    exact (ht4.block j (by omega) (h.svf j hj)).trans ((hgr.block j (by omega) (fun e => hdiff j hj e.symm)).trans (heap_alloc_old wr ob h1))
  · rw [e]
    unfold noVals at hown ⊢
    rw [List.map_append, List.length_append]
    refine ownsRow_same hown (fun j hj => ?_)
    simp only [Value.ownBlock, Option.some.injEq] at hj
    subst hj
    exact ht4.block gb hgb3 hgbG
  · refine ((h.touch.alloc ob).grown hgr ?_).trans ht4 (fun i hi => h.sub i hi)
    intro j hj
    exact Or.inr (h.orow.lt j hj).1

set_option maxHeartbeats 1000000 in
set_option maxRecDepth 100000 in
theorem passRR_bad (p : Nat) (now : Int) (w : World) (F : Nat → Prop) (st : BookSt) (wh : Bool) (hb : RB w F p st wh) (hz : passE st now ≠ 0) :
    Calls Tryz.prog 45 #[.pointer (some ⟨p, 0, none⟩), .int .i64 now] w (PassPostR [] (passE st now) F p st wh w) := by
  have FIN : Hid (PassPostR [] (passE st now) F p st wh w (.returned (.tuple #[.slice none 0 0, .int .i64 (passE st now)])) w) := Lib.hid ⟨_, rfl, reads_nil _, fun b hb => by simp [Value.ownBlock] at hb, (hb.fin (Below.refl _ w)).1, (hb.fin (Below.refl _ w)).2⟩
  obtain ⟨mb, lv, ev, D, hm⟩ := hb
  have c4 : w.cell? ⟨p, 4, none⟩ = some (.int .i64 st.time) := by rw [cell_of hm.self]; rfl
  have IT := Lib.hid (isTimeR_any now)
  unfold passE at hz FIN
  by_cases hin : 0 ≤ now ∧ now ≤ 1000000
  · rw [if_pos hin] at hz
    simp only [if_pos hin] at FIN
    have hlt : now < st.time := by
      by_cases h : now < st.time
      · exact h
      · rw [if_neg h] at hz; exact absurd rfl hz
    have e5 : passE st now = 5 := by unfold passE; rw [if_pos hin, if_pos hlt]
    rw [e5]
    simp only [if_pos hlt] at FIN
    rw [show decide (0 ≤ now ∧ now ≤ 1000000) = true by simp [hin]] at IT
    generalize st.time = tm at *
    clear hm hz hin e5
    go_enter Tryz.func45, Tryz.ntmps45
    go_wp2_with fail
    refine (IT.out _).mono ?_
    rintro e w' ⟨rfl, rfl⟩
    go_wp2_with fail
    go_ret2
    exact FIN.out
  · simp only [if_neg hin] at FIN
    have e2 : passE st now = 2 := by unfold passE; rw [if_neg hin]
    rw [e2]
    rw [show decide (0 ≤ now ∧ now ≤ 1000000) = false by simp [hin]] at IT
    clear hm hz hin e2 c4
    go_enter Tryz.func45, Tryz.ntmps45
    go_wp2_with fail
    refine (IT.out _).mono ?_
    rintro e w' ⟨rfl, rfl⟩
    go_wp2_with fail
    go_ret2
    exact FIN.out

set_option maxHeartbeats 8000000 in
set_option maxRecDepth 100000 in
theorem passRR_in (p : Nat) (now : Int) (w : World) (F : Nat → Prop) (st : BookSt) (wh : Bool) (hb : RB w F p st wh) (hF : ∀ k, F k → k < w.heap.size) (g : Good st) (hw : wh = true → st.entries.length + st.leases.length + 1 ≤ 9999) (hz : passE st now = 0) :
    Calls Tryz.prog 45 #[.pointer (some ⟨p, 0, none⟩), .int .i64 now] w (PassPostR ((overL st now).map Lea.no) 0 F p (passR st now).2 wh w) := by
  obtain ⟨i0, hi0, hz0, hz1, hz2⟩ := info_parts infoInt
  have hlen := g.leaLen
  have hgood := passE1 g hz
  have hpass : (passR st now).2 = endAll (({ st with time := now } : BookSt).note ⟨11, 0, 0, 0, 0, now⟩) (overL st now) := by unfold passR; rw [if_pos hz]
  have hover : overL st now = overK (st.leases.mergeSort leLea) now (st.leases.mergeSort leLea).length := by
    unfold overK; rw [List.take_length]; exact (over_sorted g now).symm
  rw [hpass]
  obtain ⟨⟨n1, n2⟩, n3⟩ := passE_zero hz
  have IT := Lib.hid (isTimeR_any now)
  rw [show decide (0 ≤ now ∧ now ≤ 1000000) = true by simp [n1, n2]] at IT
  obtain ⟨mb, lv, ev, D, hm⟩ := hb
  have c4 : w.cell? ⟨p, 4, none⟩ = some (.int .i64 st.time) := by rw [cell_of hm.self]; rfl
  have f4 : w.frozen? ⟨p, 4, none⟩ = false := free_of hm.self 4
  have hm1 := hm.nums (W := w.setCell ⟨p, 4, none⟩ (.int .i64 now)) (st' := { st with time := now }) rfl rfl (by rw [block_setCell hm.self]; rfl) (fun k _ h2 => Below.heap_setCell _ _ _ k h2)
  have NT := Lib.hid (noteR_st p ⟨11, 0, 0, 0, 0, now⟩ _ _ { st with time := now } wh ⟨mb, lv, ev, D, hm1⟩ (fun h => by have := hw h; show st.entries.length ≤ 9999; omega))
  have T1 := Lib.hid ((Touch.refl F w).setCell (p := ⟨p, 4, none⟩) (Or.inl hm.fp) (.int .i64 now))
  have HSZ := Lib.hid (show (w.setCell ⟨p, 4, none⟩ (.int .i64 now)).heap.size = w.heap.size by simp [World.setCell])
  have HNOS : Hid ((st.leases.map Lea.no).Pairwise (· < ·)) := Lib.hid g.nos
  have HOV := Lib.hid hover
  have HGOOD := Lib.hid hgood
  have HF := Lib.hid hF
  have HWW : Hid (∀ k, wh = true → (endAll (({ st with time := now } : BookSt).note ⟨11, 0, 0, 0, 0, now⟩) (overK (st.leases.mergeSort leLea) now k)).entries.length ≤ 9999) := Lib.hid (fun k h => by
    have h1 := hw h
    have h2 := endAll_entsR (overK (st.leases.mergeSort leLea) now k) (({ st with time := now } : BookSt).note ⟨11, 0, 0, 0, 0, now⟩)
    have h3 := overK_len2 (st.leases.mergeSort leLea) now k
    rw [List.length_mergeSort] at h3
    have h4 : (({ st with time := now } : BookSt).note ⟨11, 0, 0, 0, 0, now⟩).entries.length ≤ st.entries.length + 1 := Nat.le_trans (trimE_le _) (by rw [List.length_append]; exact Nat.le_refl _)
    omega)
  have hsl : (st.leases.mergeSort leLea).length = st.leases.length := List.length_mergeSort _
  generalize htm : st.time = tm at c4 n3
  have hnlt : ¬ now < tm := by omega
  clear hm hm1 hgood hpass hz g hF hw hover htm n3
  go_enter Tryz.func45, Tryz.ntmps45
  go_wp2_with fail
  refine (IT.out _).mono ?_
  rintro e w' ⟨rfl, rfl⟩
  go_wp2_with fail
  refine NT.out.mono ?_
  rintro e w2 ⟨rfl, hb2, ht2⟩
  have T2 := T1.out.then ht2
  have BK2 := RefAt.narrow' hb2
  rw [HSZ.out] at BK2
  obtain ⟨mb2, lv2, ev2, D2, hm2⟩ := BK2
  have HBK2 := Lib.hid (show RB w2 (fun k => (F k ∨ w.heap.size ≤ k) ∧ k < w2.heap.size) p (({ st with time := now } : BookSt).note ⟨11, 0, 0, 0, 0, now⟩) wh from ⟨mb2, lv2, ev2, D2, hm2⟩)
  have c2 : w2.cell? ⟨p, 2, none⟩ = some lv2 := by rw [cell_of hm2.self]; rfl
  have hrow2 : w2.ownsRow 0 88 4 lv2 st.leases.length (st.leases.flatMap Lea.cells) := hm2.lrow
  have CL := Lib.hid (clone_lea lv2 0 st.leases w2 hrow2 (by omega))
  obtain ⟨la, lc, hlv, _, _⟩ := ownsRow_sh hrow2
  have HT2 := Lib.hid T2
  clear hb2 ht2 hm2 hrow2 T2 NT T1 HSZ c4 f4 IT
  subst hlv
  go_wp2_with fail
  refine CL.out.mono ?_
  rintro e w3 ⟨v3, rfl, hrow3, hb3⟩
  obtain ⟨la3, lc3, hv3, _, _⟩ := ownsRow_sh hrow3
  have SF := Lib.hid (sort_anyR w2.heap.size v3 st.leases w3 hrow3 (by omega) hb3.size HNOS.out)
  have hv3b : ∀ j, v3.ownBlock = some j → w2.heap.size ≤ j := fun j hj => (hrow3.lt j hj).1
  have HV3 := Lib.hid hv3b
  have HB3 := Lib.hid hb3
  rw [← hsl] at hv3
  generalize st.leases.mergeSort leLea = sl at *
  subst hv3
  have hslb : sl.length ≤ 200 := by omega
  clear hrow3 hb3 c2 CL hv3b HNOS hsl hlen
  go_wp2_with fail
  refine SF.out.mono ?_
  rintro e w5 ⟨rfl, hrow5, hb5⟩
  have hb25 := HB3.out.trans hb5
  have P0 : Hid (PassAtR F p wh (({ st with time := now } : BookSt).note ⟨11, 0, 0, 0, 0, now⟩) sl now (.slice la3 sl.length lc3) w 0 (.slice none 0 0) w5 (fun k => (F k ∨ w.heap.size ≤ k) ∧ k < w2.heap.size)) := Lib.hid
    (PassAtR.start (HBK2.out.same (fun k hk hlt => hb25.block k hk.2)) (fun j hj => Nat.lt_of_lt_of_le hj.2 hb25.size) (fun j hj => hj.1) (fun j hj hG => by have := HV3.out j hj; omega)
      hrow5 (HT2.out.then (Touch.of_below hb25)))
  have HGE := Lib.hid (fun k => (HGOOD.out).endAll (l := overK sl now k))
  clear hrow5 hb5 hb25 SF HBK2 HT2 HV3 HB3
  go_wp2_with fail
  go_loopw [7, 36] (fun out vi wr => ∃ (k : Nat) (G : Nat → Prop), k ≤ sl.length ∧ vi = .int .i64 k ∧ PassAtR F p wh (({ st with time := now } : BookSt).note ⟨11, 0, 0, 0, 0, now⟩) sl now (.slice la3 sl.length lc3) w k out wr G) (fun _ vi _ => sl.length - (intOf vi).toNat)
  case atStart => exact ⟨0, _, Nat.zero_le _, rfl, P0.out⟩
  case round =>
    obtain ⟨k, G, hk, rfl, hP⟩ := hrel
    have HP := Lib.hid hP
    by_cases hlt : k < sl.length
    · obtain ⟨l, hl⟩ : ∃ l, sl[k]? = some l := ⟨_, List.getElem?_eq_getElem hlt⟩
      obtain ⟨g6, cap6, cur6, hv6, _, hg6, _, _, _, _, hc6⟩ := lrow_open hP.srow (by omega)
      simp only [Value.slice.injEq] at hv6
      obtain ⟨rfl, _, rfl⟩ := hv6
      have HL := Lib.hid hl
      obtain ⟨l1, l2, l3, l4⟩ := l
      have g0 : wr.cell? ⟨g6, k * 4, none⟩ = some (.int .i64 l1) := (hc6 k _ hl 0 (by omega)).trans rfl
      have g1 : wr.cell? ⟨g6, k * 4 + 1, none⟩ = some (.int .i64 l2) := (hc6 k _ hl 1 (by omega)).trans rfl
      have g2 : wr.cell? ⟨g6, k * 4 + 2, none⟩ = some (.int .i64 l3) := (hc6 k _ hl 2 (by omega)).trans rfl
      have g3 : wr.cell? ⟨g6, k * 4 + 3, none⟩ = some (.int .i64 l4) := (hc6 k _ hl 3 (by omega)).trans rfl
      by_cases hov : l4 ≤ now
      · have hbx := heap_alloc_new wr (.cells #[.int .i64 l1, .int .i64 l2, .int .i64 l3, .int .i64 l4] 88)
        have hso := HP.out.touch.size
        have hkl := overK_len2 sl now k
        have hout : ∀ j, u7.ownBlock = some j → j < wr.heap.size := fun j hj => by obtain ⟨cur, hc⟩ := row_block HP.out.orow hj; exact lt_of hc
        have OR : Hid ((wr.alloc (.cells #[.int .i64 l1, .int .i64 l2, .int .i64 l3, .int .i64 l4] 88)).ownsRow w.heap.size 3 1 u7 (overK sl now k).length (noVals (overK sl now k))) := Lib.hid (HP.out.orow.alloc _)
        have HBX := Lib.hid hbx
        have HOUT := Lib.hid hout
        have hws : w.heap.size ≤ (wr.alloc (.cells #[.int .i64 l1, .int .i64 l2, .int .i64 l3, .int .i64 l4] 88)).heap.size := by simp; omega
        have hkb : (overK sl now k).length ≤ 1000000 := by omega
        have HOV2 := Lib.hid hov
        clear hP hl hg6 hc6 hbx hout hso hkl
        go_wp2_with (at_builtin; go_must (refine wpList_append_at rfl (.tmp 44) (.tmp 47) 60 rfl w.heap.size 3 i0 (.int .i64 0) 1 8 Tryz.underlying60 hi0 hz0 hz1 hz2 rfl (by decide) u7 (overK sl now k).length (noVals (overK sl now k)) (wr.alloc (.cells #[.int .i64 l1, .int .i64 l2, .int .i64 l3, .int .i64 l4] 88)) _ [.int .i64 l1] rfl OR.out (by simp [Act.eval]) rfl (by intro u hu; simp at hu; subst hu; rfl) (by unfold maxLen; omega) (by omega) hws ?_))
        intro gb cap w5' hown hgr hpl
        have hbx5 := (hgr.block wr.heap.size (by simp) (fun e => by have := HOUT.out _ e.symm; omega)).trans HBX.out
        have v0 : w5'.cell? ⟨wr.heap.size, 0, none⟩ = some (.int .i64 l1) := (cell_of hbx5 0).trans rfl
        have EA := Lib.hid (endRR_all p l1 w5' G _ wh (HP.out.book.same (fun j hj hlt' => (hgr.block j (by simp; omega) (fun e => HP.out.ovf j e.symm hj)).trans (heap_alloc_old _ _ hlt'))) (HGE.out k) (HWW.out k))
        have HO := Lib.hid hown
        have HG := Lib.hid hgr
        have HPL := Lib.hid hpl
        clear hown hgr hpl hbx5 g0 g1 g2 g3 hov
        go_wp2_with fail
        refine EA.out.mono ?_
        rintro e w6 ⟨rfl, hb6, ht6⟩
        have PN := Lib.hid (HP.out.step HL.out HOV2.out _ HO.out HG.out (HPL.out.imp id (fun x => by simpa using x)) hb6 ht6)
        clear hb6 ht6 EA
        go_wp2_with fail
        go_roundw
        case rel => exact ⟨k + 1, _, by omega, by go_num, PN.out⟩
        case measure => simp [intOf]; omega
      · have PN := Lib.hid (hP.skip hl hov (.cells #[.int .i64 l1, .int .i64 l2, .int .i64 l3, .int .i64 l4] 88))
        clear hP hl hg6 hc6
        go_wp2_with fail
        go_roundw
        case rel => exact ⟨k + 1, _, by omega, by go_num, PN.out⟩
        case measure => simp [intOf]; omega
    · obtain rfl : k = sl.length := by omega
      have FIN : Hid (PassPostR ((overL st now).map Lea.no) 0 F p (endAll (({ st with time := now } : BookSt).note ⟨11, 0, 0, 0, 0, now⟩) (overL st now)) wh w (.returned (.tuple #[u7, .int .i64 0])) wr) := Lib.hid (by
        rw [HOV.out]
        have hl2 := overK_len2 sl now sl.length
        refine ⟨u7, rfl, Reads.own (B := w.heap.size) (t := 3) (by rw [List.length_map, List.map_map]; exact hP.orow) (by rw [List.length_map]; omega), fun b hb => (hP.orow.lt b hb).1, RefAt.wider hP.book hP.sub, hP.touch⟩)
      clear hP hlt hk
      go_wp2_with fail
      go_ret2
      exact FIN.out

theorem PassPostR.mono {ns : List Int} {err : Int} {F G : Nat → Prop} {p : Nat} {st : BookSt} {wh : Bool} {w w' : World} {e : Ending} (h : PassPostR ns err F p st wh w e w') (hG : ∀ k, F k → G k) : PassPostR ns err G p st wh w e w' := by
  obtain ⟨v, h1, h2, h3, h4, h5⟩ := h
  exact ⟨v, h1, h2, h3, RefAt.wider h4 (fun k hk => hk.imp (hG k) id), h5.mono hG⟩
theorem passRR_all (p : Nat) (now : Int) (w : World) (F : Nat → Prop) (st : BookSt) (wh : Bool) (hb : RB w F p st wh) (g : Good st) (hw : wh = true → st.entries.length + st.leases.length + 1 ≤ 9999) :
    Calls Tryz.prog 45 #[.pointer (some ⟨p, 0, none⟩), .int .i64 now] w (PassPostR (passV st now) (passR st now).1 F p (passR st now).2 wh w) := by
  by_cases hz : passE st now = 0
  · have := (passRR_in p now w _ st wh (RefAt.narrow' hb) (fun k hk => hk.2) g hw hz).mono fun e w' h => h.mono (G := F) (fun k hk => hk.1)
    unfold passV
    rw [if_pos hz]
    have e1 : (passR st now).1 = 0 := by unfold passR; rw [if_pos hz]
    rw [e1]
    exact this
  · have := passRR_bad p now w F st wh hb hz
    unfold passV passR
    rw [if_neg hz, if_neg hz]
    exact this

end Go.Proofs.YtljjndifmfhffaaGreatDoor
