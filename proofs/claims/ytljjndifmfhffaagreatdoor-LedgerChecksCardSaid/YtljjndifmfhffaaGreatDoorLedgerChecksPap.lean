/-
  The reference's book: fault. No conditions.
  The reference's book: a new one. No conditions.
  A map's bound may be its size. No conditions.
-/
import Derived.Test.YtljjndifmfhffaaGreatDoorLedgerChecksPao
import Derived.Maps.OwnSet

namespace Go.Proofs.YtljjndifmfhffaaGreatDoor
section
open Go.RowKit Go.Maps
set_option linter.unusedVariables false

def faultE (st : BookSt) (os ns : List Int) : Int := if os.any ownBad || ns.any numBad then 2 else if os.all (fun o => (st.acc o).isSome) then 0 else 7

theorem ref_look_ok {w : World} {F : Nat → Prop} {p : Nat} {st : BookSt} {es : List Ent} {wh : Bool} {N mb : Nat} {lv ev : Value} {D : DataW Unit} (h : RefMem w F p st es wh N mb lv ev D) (o : Int) (ho : 1 ≤ o ∧ o ≤ 40) :
    ∃ a b : Int, (Instr.lookup 44 (.map (some mb)) (.int .i64 o) true).run Tryz.prog w = .ok (.tuple #[.agg #[.int .i64 a, .int .i64 b], .bool (st.acc o).isSome]) w := by
  have hwf : (Lit.int .i64 o).wf = true := WalkArith.wf_i64 (by omega)
  obtain ⟨v, ps, hrun, hv⟩ := h.map.look_ok intKey Tryz.underlying44 (z := .agg #[.int .i64 0, .int .i64 0]) (by kernel_rfl) (zd := accZero) (zp := []) rfl (Maps.keyOf_int_mk Tryz.underlying3 hwf)
  obtain ⟨c, rfl⟩ := accElem_shape hv
  exact ⟨c.1, c.2, by rw [hrun, h.has o]⟩

set_option maxHeartbeats 2000000 in
set_option maxRecDepth 100000 in
theorem faultR_any (p : Nat) (vo vn : Value) (os ns : List Int) (w : World) (F : Nat → Prop) (st : BookSt) (es : List Ent) (wh : Bool) (N : Nat) (hb : RefAt w F p st es wh N) (ho : Reads w .i64 vo os) (hn : Reads w .i64 vn ns) :
    Calls Tryz.prog 67 #[.pointer (some ⟨p, 0, none⟩), vo, vn] w (fun e w' => e = .returned (.int .i64 (faultE st os ns)) ∧ Below w.heap.size w w') := by
  have C1 := Lib.hid (containsInts_any 85 ownBad vo os w (enters_of Tryz.func85 (by kernel_rfl) rfl) ownTest_any ho)
  have C2 := Lib.hid (containsInts_any 86 numBad vn ns w (enters_of Tryz.func86 (by kernel_rfl) rfl) numTest_any hn)
  obtain ⟨a, cap, rfl, hl, hc⟩ := ho.open
  obtain ⟨a2, cap2, rfl, hl2, _⟩ := hn.open
  have HC := Lib.hid hc
  obtain ⟨mb, lv, ev, D, hm⟩ := hb
  have HM := Lib.hid hm
  have c1 : w.cell? ⟨p, 1, none⟩ = some (.map (some mb)) := by rw [cell_of hm.self]; rfl
  clear hm hc ho hn
  have HE : Hid (∀ r, faultE st os ns = r → faultE st os ns = r) := Lib.hid (fun _ h => h)
  by_cases hb1 : os.any ownBad = true
  · have hf : Hid (faultE st os ns = 2) := Lib.hid (by unfold faultE; rw [hb1]; rfl)
    rw [hb1] at C1
    clear hb1
    go_enter Tryz.func67, Tryz.ntmps67
    go_wp2_with fail
    refine C1.out.mono ?_
    rintro e w' ⟨rfl, rfl⟩
    go_wp2_with fail
    go_ret
    exact ⟨by rw [hf.out]; rfl, Below.refl _ _⟩
  have hb1 : os.any ownBad = false := by simpa using hb1
  by_cases hb2 : ns.any numBad = true
  · have hf : Hid (faultE st os ns = 2) := Lib.hid (by unfold faultE; rw [hb2, Bool.or_true]; rfl)
    rw [hb1] at C1
    rw [hb2] at C2
    clear hb1 hb2
    go_enter Tryz.func67, Tryz.ntmps67
    go_wp2_with fail
    refine C1.out.mono ?_
    rintro e w' ⟨rfl, rfl⟩
    go_wp2_with fail
    refine C2.out.mono ?_
    rintro e w' ⟨rfl, rfl⟩
    go_wp2_with fail
    go_ret
    exact ⟨by rw [hf.out]; rfl, Below.refl _ _⟩
  have hb2 : ns.any numBad = false := by simpa using hb2
  have HF : Hid (faultE st os ns = if os.all (fun o => (st.acc o).isSome) then 0 else 7) := Lib.hid (by unfold faultE; rw [hb1, hb2]; rfl)
  have HB := Lib.hid hb1
  rw [hb1] at C1
  rw [hb2] at C2
  clear hb1 hb2
  go_enter Tryz.func67, Tryz.ntmps67
  go_wp2_with fail
  refine C1.out.mono ?_
  rintro e w' ⟨rfl, rfl⟩
  go_wp2_with fail
  refine C2.out.mono ?_
  rintro e w' ⟨rfl, rfl⟩
  go_wp2_with fail
  go_loopw [19] (fun i wr => ∃ k : Nat, k ≤ os.length ∧ i = .int .i64 k ∧ (os.take k).all (fun o => (st.acc o).isSome) = true ∧ Below w.heap.size w wr) (fun i _ => os.length - (intOf i).toNat)
  case atStart => exact ⟨0, Nat.zero_le _, rfl, by simp, Below.refl _ _⟩
  case round =>
    obtain ⟨k, hk, rfl, hall, hbr⟩ := hrel
    have HAL := Lib.hid hall
    have HBR := Lib.hid hbr
    by_cases hlt : k < os.length
    · obtain ⟨b, o, rfl, g⟩ := HC.out k hlt
      have g' := old_cell hbr g
      have c1' := old_cell hbr c1
      have HG := Lib.hid (show os[k]? = some (os.getD k 0) by rw [List.getD_eq_getElem?_getD, List.getElem?_eq_getElem hlt]; rfl)
      generalize os.getD k 0 = z at *
      have hz : ownBad z = false := by
        have := List.any_eq_false.1 HB.out z (List.mem_of_getElem? HG.out)
        simpa using this
      have hz' : 1 ≤ z ∧ z ≤ 40 := by unfold ownBad at hz; simp at hz; omega
      obtain ⟨x, y, LK⟩ := ref_look_ok (HM.out.same (Below.same_on hbr)) z hz'
      clear g c1 hz hall hbr
      cases hsome : (st.acc z).isSome with
      | true =>
        rw [hsome] at LK
        have FIN : Hid ((os.take (k + 1)).all (fun o => (st.acc o).isSome) = true) := Lib.hid (by rw [List.take_add_one, List.all_append, HAL.out, HG.out]; simp [hsome])
        clear hsome
        go_wp2_with fail
        go_roundw
        case measure => simp only [intOf]; omega
        case rel => exact ⟨k + 1, by omega, by simp, FIN.out, HBR.out.alloc HBR.out.size _⟩
      | false =>
        rw [hsome] at LK
        have FIN : Hid (faultE st os ns = 7) := Lib.hid (by
          rw [HF.out, if_neg]
          intro h
          have := List.all_eq_true.1 h z (List.mem_of_getElem? HG.out)
          rw [hsome] at this; cases this)
        clear hsome
        go_wp2_with fail
        go_ret
        exact ⟨by rw [FIN.out]; rfl, HBR.out.alloc HBR.out.size _⟩
    · obtain rfl : k = os.length := by omega
      have FIN : Hid (faultE st os ns = 0) := Lib.hid (by rw [HF.out, if_pos]; have := HAL.out; rwa [List.take_length] at this)
      clear hall hbr
      go_wp2_with fail
      go_ret
      exact ⟨by rw [FIN.out]; rfl, HBR.out⟩

end
end Go.Proofs.YtljjndifmfhffaaGreatDoor

namespace Go.Proofs.YtljjndifmfhffaaGreatDoor
section
open Go.RowKit Go.Maps
set_option linter.unusedVariables false

def RefNew (b : Int) (w : World) : Ending → World → Prop := fun e w' =>
  ∃ p, e = .returned (.tuple #[.pointer (some ⟨p, 0, none⟩), .int .i64 0]) ∧ RefAt w' (fun k => w.heap.size ≤ k) p (newSt b) [] false 0 ∧ Below w.heap.size w w'

theorem refNew_mem (b : Int) (w : World) : RefAt ((w.alloc (Obj.map #[] 0)).alloc (Obj.cells #[.int .i64 b, .map (some w.heap.size), .slice none 0 0, .int .i64 0, .int .i64 0, .bool false, .slice none 0 0] 46))
    (fun k => w.heap.size ≤ k) (w.heap.size + 1) (newSt b) [] false 0 := by
  refine ⟨w.heap.size, .slice none 0 0, .slice none 0 0, .map [], ?_, by simp, (World.ownsMap_made w _ _ _).alloc _, Nat.le_refl _, tidy_empty, by simp [newSt, accCnt, accOne, sumN, Maps.size], fun o z => rfl, fun o => rfl, World.ownsRow_nil _ _ _ _, fun k hk => by simp [Value.ownBlock] at hk, OffRow.nil _ _ _, fun k hk => by simp [Value.ownBlock] at hk⟩
  have := heap_alloc_new (w.alloc (Obj.map #[] 0)) (Obj.cells #[.int .i64 b, .map (some w.heap.size), .slice none 0 0, .int .i64 0, .int .i64 0, .bool false, .slice none 0 0] 46)
  simpa [refCells, newSt] using this

set_option maxHeartbeats 1000000 in
set_option maxRecDepth 100000 in
theorem refNew_ok (b : Int) (w : World) (h : 0 ≤ b ∧ b ≤ 10000000) : Calls Tryz.prog 12 #[.int .i64 b] w (RefNew b w) := by
  have T := Lib.hid (inBudgetR_any b w)
  rw [show decide (0 ≤ b ∧ b ≤ 10000000) = true from decide_eq_true h] at T
  have hmm := @run_makeMap Tryz.prog
  clear h
  go_enter Tryz.func12, Tryz.ntmps12
  go_wp2_with fail
  refine T.out.mono ?_
  rintro e w' ⟨rfl, rfl⟩
  go_wp2_with fail
  go_ret2
  exact ⟨_, rfl, refNew_mem b w, ((Below.refl _ w).alloc (Nat.le_refl _) _).alloc (by simp) _⟩

set_option maxRecDepth 100000 in
theorem refNew_bad (b : Int) (w : World) (h : ¬ (0 ≤ b ∧ b ≤ 10000000)) : Calls Tryz.prog 12 #[.int .i64 b] w (fun e w' => e = .returned (.tuple #[.pointer none, .int .i64 2]) ∧ w = w') := by
  have T := Lib.hid (inBudgetR_any b w)
  rw [show decide (0 ≤ b ∧ b ≤ 10000000) = false from decide_eq_false h] at T
  clear h
  go_enter Tryz.func12, Tryz.ntmps12
  go_wp2_with fail
  refine T.out.mono ?_
  rintro e w' ⟨rfl, rfl⟩
  go_wp2_with fail
  go_ret2
  exact ⟨rfl, rfl⟩

end
end Go.Proofs.YtljjndifmfhffaaGreatDoor

namespace Go.Proofs.YtljjndifmfhffaaGreatDoor
section
open Go.RowKit Go.Maps
set_option linter.unusedVariables false

theorem ownsMap_tight {w : World} {k : TypeId} {R : Value → Option (DataW Unit × List MemPlace)} {b n : Nat} {D : DataW Unit} (h : w.ownsMap Tryz.prog k R b n D) : w.ownsMap Tryz.prog k R b (Maps.size D) D := by
  obtain ⟨es, clock, hb, F, hs, hD⟩ := h
  refine ⟨es, clock, hb, F, ?_, hD⟩
  subst hD
  have e1 : Maps.size (DataW.map (List.foldr DataW.insert [] (List.map (WideElems.rg Tryz.prog k R) es.toList))) = es.size := by simp [Maps.size, length_sorted]
  rw [e1]
  exact Nat.le_refl _

end
end Go.Proofs.YtljjndifmfhffaaGreatDoor
