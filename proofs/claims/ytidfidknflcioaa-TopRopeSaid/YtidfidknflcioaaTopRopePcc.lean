/-
  The walk of TopRope. No conditions.
-/
import Derived.Test.YtidfidknflcioaaTopRopePbx
import Derived.Test.YtidfidknflcioaaTopRopePbz
import Derived.Test.YtidfidknflcioaaTopRopePcb
import Derived.Test.YtidfidknflcioaaTopRopePaf
import Derived.Deep.LoopGhost
import Derived.Deep.Cut
import Derived.Deep.CutBlock
import Derived.Deep.CutRange
import Derived.Deep.DeepCutAuto
namespace Go.Proofs.Ytidfidknflcioaa
open Go.RowKit
set_option linter.unusedVariables false

/-- The box of an edit. -/
def OpBox (b : Nat) (k x y c : Int) (d : Value) (w : World) : Prop := w.heap[b]? = some (.cells #[.int .i64 k, .int .i64 x, .int .i64 y, .int .i64 c, d] 34 (0, 0))
theorem OpBox.below {b : Nat} {k x y c : Int} {d : Value} {w w' : World} (h : OpBox b k x y c d w) (hb : Below w.heap.size w w') : OpBox b k x y c d w' := (hb.block b (lt_of h)).trans h
theorem OpBox.touch {b : Nat} {k x y c : Int} {d : Value} {w w' : World} {T : Nat → Prop} (h : OpBox b k x y c d w) (ht : Touch T w w') (hT : ¬ T b) : OpBox b k x y c d w' := (ht.block b (lt_of h) hT).trans h
theorem OpBox.cells {b : Nat} {k x y c : Int} {d : Value} {w : World} (h : OpBox b k x y c d w) : w.cell? ⟨b, 0, none⟩ = some (.int .i64 k) ∧ w.cell? ⟨b, 1, none⟩ = some (.int .i64 x) ∧ w.cell? ⟨b, 2, none⟩ = some (.int .i64 y) ∧ w.cell? ⟨b, 4, none⟩ = some d := by
  refine ⟨?_, ?_, ?_, ?_⟩ <;> (rw [cell_of h]; rfl)
theorem opBytes {zs : List Int} (h : ∀ z ∈ zs, (Lit.int .u8 z).wf = true) : bytes zs := by
  intro z hz
  have := h z hz
  simp [Lit.wf] at this
  have h1 : IntKind.u8.min = 0 := rfl
  have h2 : IntKind.u8.max = 255 := rfl
  omega
def RopRel (B : Nat) (I : RopI) (w : World) (v : Value) : Prop := ∃ x : RS, RopAt B w x v ∧ x.I = I

set_option maxHeartbeats 8000000 in
set_option maxRecDepth 100000 in
theorem topRope (pk ps pm lf : Int) (v : Value) (L : List Cl) (w : World) (_ : -9223372036854775808 ≤ pk ∧ pk ≤ 9223372036854775807) (_ : -9223372036854775808 ≤ ps ∧ ps ≤ 9223372036854775807) (_ : -9223372036854775808 ≤ pm ∧ pm ≤ 9223372036854775807) (_ : -9223372036854775808 ≤ lf ∧ lf ≤ 9223372036854775807) (hops : ClsIn w v L ∧ (∀ e ∈ L, e.d.length ≤ 140737488351232) ∧ ∃ a c, v = .slice a L.length c ∧ L.length ≤ c ∧ c ≤ 9223372036854775807) :
    Calls Try.prog 4 #[.agg #[.int .i64 pk, .int .i64 ps, .int .i64 pm], .int .i64 lf, v] w (LawPost w) := by
  obtain ⟨⟨a, cap, rfl, hll, hcell⟩, hfit, a', cap', hac, hlc, hcm⟩ := hops
  simp only [Value.slice.injEq] at hac
  obtain ⟨rfl, _, rfl⟩ := hac
  have HLC := Lib.hid (And.intro hlc hcm)
  have HC := Lib.hid hcell
  have HF := Lib.hid hfit
  have B0 := BoxAt.new w pk ps pm 23
  have bel0 : Below w.heap.size w (w.alloc (.cells #[.int .i64 pk, .int .i64 ps, .int .i64 pm] 23)) := by go_grown
  clear hcell hfit hlc hcm
  go_enter Try.func4, Try.ntmps4
  go_wp2_with fail
  refine (awakeRoom2_any _).mono ?_
  rintro e wa ⟨rfl, hba⟩
  have hsa := hba.size
  have belA := Lib.hid (bel0.trans (hba.mono (by simp)))
  have BA := Lib.hid (B0.below hba)
  have HSA : Hid (w.heap.size < wa.heap.size) := Lib.hid (by have : (w.alloc (.cells #[.int .i64 pk, .int .i64 ps, .int .i64 pm] 23)).heap.size = w.heap.size + 1 := by simp
                                                             omega)
  clear hba hsa B0 bel0
  go_wp2_with fail
  refine (bigBook_any _).mono ?_
  rintro e w1 ⟨p1, rfl, hb1, hbel1⟩
  have HB1 := Lib.hid hb1.narrowR
  have BEL1 := Lib.hid hbel1
  clear hb1 hbel1
  have s0 := HSA.out
  have s1 := BEL1.out.size
  obtain ⟨x0, x1, x2, x3⟩ := BA.out.below BEL1.out
  have N1 := Lib.hid (newRope_any p1 1 pk ps pm lf w1 _ bigSt 1 HB1.out)
  have EE : ropeErr bigSt pk ps pm lf 1 = ropeErr0 pk ps pm lf := by
    unfold ropeErr
    split
    · rename_i h
      rw [heldE_big, h]
    · rfl
  rw [EE] at N1
  clear EE
  go_wp2_with fail
  refine N1.out.mono ?_
  rintro e w3 ⟨bel3, hn3⟩
  have BEL3 := Lib.hid bel3
  have s3 := bel3.size
  clear N1 bel3 x0 x1 x2 x3
  rcases hn3 with ⟨hne, rfl⟩ | ⟨hz, h1, rfl, hh1, hr1⟩
  · have hne' : (ropeErr0 pk ps pm lf != 0) = true := bne_iff_ne.2 hne
    have FIN := Lib.hid ((belA.out.trans (BEL1.out.mono belA.out.size)).trans (BEL3.out.mono (by omega)))
    clear hne
    generalize ropeErr0 pk ps pm lf = E at *
    go_wp2_with fail
    go_ret
    exact ⟨rfl, FIN.out⟩
  · have HZ := Lib.hid hz
    obtain ⟨q1, q2, q3, q4⟩ := ropeErr0_zero hz
    obtain ⟨ln, rfl⟩ : ∃ n : Nat, lf = n := ⟨lf.toNat, by omega⟩
    have lt1 := lt_of hr1
    have START : Hid (Below w.heap.size w w3 ∧ RopRel w.heap.size ⟨h1, p1, 1, ⟨pk, ps, pm, ln⟩⟩ w3 (.slice none 0 0)) := Lib.hid (by
      refine ⟨(belA.out.trans (BEL1.out.mono belA.out.size)).trans (BEL3.out.mono (by omega)), ⟨⟨h1, p1, 1, ⟨pk, ps, pm, ln⟩⟩, [], .slice none 0 0, bigSt, fun x => x = h1, fun k => wa.heap.size ≤ k ∧ k < w1.heap.size⟩, ⟨?_, ?_, World.ownsRow_nil _ _ _ _, fun k hk => by simp [Value.ownBlock] at hk⟩, rfl⟩
      · exact RB.new hr1 (HB1.out.same (Below.same_on BEL3.out)) (fun k hk => by omega) HZ.out
      · intro k hk
        rcases hk with hk | hk <;> simp only at hk <;> omega)
    obtain ⟨M, hM⟩ : ∃ M, min L.length 40 = M := ⟨_, rfl⟩
    have HM : Hid (M ≤ L.length ∧ M ≤ 40) := Lib.hid (by omega)
    have HMM := Lib.hid hM
    clear hM hr1 hh1 s3 s1 s0 HB1 BEL1 BEL3 BA belA HSA lt1 hz
    go_upto_region 10 with fail
    go_cut [49, 50, 51] (fun s60 s61 s62 wx => ∃ c, s60 = .slice a M c ∧ s61 = .int .i64 (M : Int) ∧ s62 = .int .i64 0 ∧ wx = w3)
    case first =>
      have hlc := HLC.out
      by_cases h40 : 40 < L.length
      · obtain rfl : M = 40 := by have := HMM.out; omega
        go_wp2_with fail
        go_meet
        exact ⟨_, by first | rfl | simp, rfl, rfl, rfl⟩
      · obtain rfl : M = L.length := by have := HMM.out; omega
        go_wp2_with fail
        go_meet
        exact ⟨_, by first | rfl | simp, rfl, rfl, rfl⟩
    case rest =>
    obtain ⟨cc, rfl, rfl, rfl, rfl⟩ := hcut
    go_wp2_with fail
    go_loopw [10, 51] (fun v10 i wr => ∃ k : Nat, k ≤ M ∧ i = .int .i64 (k : Int) ∧ Below w.heap.size w wr ∧ RopRel w.heap.size ⟨h1, p1, 1, ⟨pk, ps, pm, ln⟩⟩ wr v10) (fun _ i _ => M - (intOf i).toNat)
    case atStart => exact ⟨0, Nat.zero_le _, rfl, START.out.1, START.out.2⟩
    case round =>
      obtain ⟨k, hk, rfl, hb, x, hP, hI⟩ := hrel
      have HB := Lib.hid hb
      have HI := Lib.hid hI
      have hm40 := HM.out.2
      clear START hI
      by_cases hlt : k < M
      · obtain ⟨b, o, ha, c5⟩ := HC.out k (by have := HM.out; omega)
        subst ha
        have hln := HF.out (L.getD k Cl.zero) (by
          have hk' : k < L.length := by have := HM.out; omega
          rw [List.getD_eq_getElem?_getD, List.getElem?_eq_getElem hk']
          exact List.getElem_mem hk')
        obtain ⟨g0, g1, g2, g3, dv, g4, hrd, hz, hfk, hfa, hfb, hfc⟩ := c5
        have g0 := old_cell hb g0
        have g1 := old_cell hb g1
        have g2 := old_cell hb g2
        have g3 := old_cell hb g3
        have g4 := old_cell hb g4
        have hrd' := hrd.below hb rfl
        have hlow : (L.getD k Cl.zero).d ≠ [] → ∀ b', dv.ownBlock = some b' → b' < w.heap.size := by
          intro h0 b' hb'
          obtain ⟨a', cp', rfl, _, hce⟩ := hrd
          obtain ⟨b2, o2, rfl, h2⟩ := hce h0
          have h3 := lt_of_cell (h2 0 (List.length_pos_iff.2 h0))
          simp only [Value.ownBlock, Option.some.injEq] at hb'
          subst hb'
          exact h3
        obtain ⟨da, dc, rfl, _, _⟩ := id hrd'
        generalize L.getD k Cl.zero = cl at *
        obtain ⟨ck, ca, cb, cc, cd⟩ := cl
        simp only at g0 g1 g2 g3 g4 hrd' hz hln hlow hfa hfb hfk
        have HRD := Lib.hid hrd'
        have HLOW := Lib.hid hlow
        obtain ⟨dn, hdn⟩ : ∃ n, cd.length = n := ⟨_, rfl⟩
        rw [hdn] at g4 HRD HLOW hln
        have HDN := Lib.hid hdn
        have HBZ := Lib.hid (opBytes hz)
        have BX := (Below.refl wr.heap.size wr).alloc (Nat.le_refl _) (.cells #[.int .i64 ck, .int .i64 ca, .int .i64 cb, .int .i64 cc, .slice da dn dc] 34)
        have HX1 : Hid (OpBox wr.heap.size ck ca cb cc (.slice da dn dc) (wr.alloc (.cells #[.int .i64 ck, .int .i64 ca, .int .i64 cb, .int .i64 cc, .slice da dn dc] 34))) := Lib.hid (heap_alloc_new wr _)
        have HP1 := Lib.hid (hP.below BX)
        have B1 := Lib.hid (hb.trans (BX.mono hb.size))
        have HXT := Lib.hid (fun hk => Nat.lt_irrefl _ (hP.at'.lt (k := wr.heap.size) hk))
        have HRD1 := Lib.hid (HRD.out.below BX rfl)
        obtain ⟨va, vc, rfl, _⟩ := hP.shape
        clear hrd hrd' hz hfc hlow hdn hb hP BX HRD
        have t0 := HX1.out.cells.1
        go_upto_block 2 with fail
        generalize wr.alloc (.cells #[.int .i64 ck, .int .i64 ca, .int .i64 cb, .int .i64 cc, .slice da dn dc] 34) = W1 at *
        generalize wr.heap.size = bx at *
        clear g0 g1 g2 g3 g4 t0
        go_cut [10] (fun s10 wx => Below w.heap.size w wx ∧ RopRel w.heap.size ⟨h1, p1, 1, ⟨pk, ps, pm, ln⟩⟩ wx s10)
        case first =>
          by_cases k0 : ck = 0
          · as_aux_lemma =>
            subst k0
            obtain ⟨n0, n1, n2, n4⟩ := HX1.out.cells
            have RP := insert_rs x ca da dn dc cd W1 HP1.out.at' HRD1.out HDN.out (by omega) HBZ.out (fun h0 b' hb' hg => by have h8 := HLOW.out h0 b' hb'; have h9 := HP1.out.bx b' (Or.inr hg); omega)
            rw [HI.out] at RP
            have RP := Lib.hid RP
            go_wp2_with fail
            refine RP.out.mono ?_
            intro e W2 hp
            obtain ⟨E, rfl, ht2, x2, hi2, hE1, hE2⟩ := HP1.out.edit B1.out.size hp
            have X2 := Lib.hid (HX1.out.touch ht2 HXT.out)
            have T2 := Lib.hid ht2
            have HI2 := Lib.hid (hi2.trans HI.out)
            have B2 := Lib.hid (B1.out.trans (ht2.below B1.out.size (fun k hk => HP1.out.bx k hk)))
            clear hp RP ht2 hi2 n0 n1 n2 n4
            by_cases hE : E = 0
            · subst hE
              obtain ⟨fn, tn, hf1, hf2, hft, htn, ha2, hT2, ho2, hr2⟩ := hE2 rfl
              obtain rfl : tn = fn := by omega
              subst hf1
              clear hf2 hft
              have HO := Lib.hid (And.intro ha2 (And.intro hT2 (And.intro ho2 hr2)))
              have HRD2 := Lib.hid (HRD1.out.past' T2.out (fun h0 b' hb' hx => by have h8 := HLOW.out h0 b' hb'; have h9 := HP1.out.bx b' hx; omega))
              obtain ⟨n, hn⟩ : ∃ n, (octC x.lc).length = n := ⟨_, rfl⟩
              have HN := Lib.hid hn
              have n50 := HP1.out.at'.oct50
              have HPX := HP1
              rw [hn] at htn n50 HP1 ⊢
              obtain ⟨_, _, hv', hc1, hc2, _, _⟩ := HP1.out.shape
              rw [hn] at hv' hc1
              simp only [Value.slice.injEq] at hv'
              obtain ⟨rfl, _, rfl⟩ := hv'
              clear hE1 hE2 ha2 hT2 ho2 hr2 hn
              obtain ⟨U, hU⟩ : ∃ U, (if vc = tn then va else Option.map (fun x => x.add tn) va) = U := ⟨_, rfl⟩
              have HU := Lib.hid (show ∀ b o, va = some ⟨b, o, none⟩ → tn < n → U = some ⟨b, o + tn, none⟩ from fun b o e h => by
                rw [← hU, if_neg (by omega), e]
                simp [Addr.add])
              go_upto_region 17 with fail
              have S0 : OpBox bx 0 tn cb cc (.slice da dn dc) W2.drew := X2.out
              have s1 : ∀ y : WIn (OpBox bx 0 tn cb cc (.slice da dn dc)), y.w.cell? ⟨bx, 1, none⟩ = some (.int .i64 tn) := fun y => y.h.cells.2.1
              have s2 : ∀ y : WIn (OpBox bx 0 tn cb cc (.slice da dn dc)), y.w.cell? ⟨bx, 2, none⟩ = some (.int .i64 cb) := fun y => y.h.cells.2.2.1
              have s4 : ∀ y : WIn (OpBox bx 0 tn cb cc (.slice da dn dc)), y.w.cell? ⟨bx, 4, none⟩ = some (.slice da dn dc) := fun y => y.h.cells.2.2.2
              haveI ne : Nonempty (WIn (OpBox bx 0 tn cb cc (.slice da dn dc))) := ⟨⟨W2.drew, S0⟩⟩
              refine wp_normal ?_
              refine wp_region_plan 12 (OpBox bx 0 tn cb cc (.slice da dn dc)) rfl ?_
              refine wpN_seg [0, 1, 2, 3, 4, 5, 6, 7, 8, 9, 10, 11] (by kernel_rfl) (by kernel_rfl) (by kernel_rfl) (by kernel_rfl) (by decide) (fun _ _ _ _ _ h => h) S0 ?_
              simp only [pick, List.map_cons, List.map_nil, List.getElem?_cons_succ, List.getElem?_cons_zero, Option.getD_some]
              repeat (go_big_quiet_step (fail))
              refine wpQuiet_nil ?_
              clear s1 s2 s4 ne S0
              have DR : Below W2.heap.size W2 W2.drew := (Below.refl _ W2).drew
              have HDR := Lib.hid DR
              have OLEN : (octC x2.lc).length ≤ 50000 := HO.out.1.oct50
              have R0 := HO.out.2.2.2
              rw [HN.out] at R0
              have r1 := ((R0.take tn (by rw [HN.out]; omega)).recap (c' := tn)).below DR rfl
              have r3 := (R0.cut (f := tn) (t := n) htn (by rw [HN.out]; omega) (fun b o e h => HU.out b o e h) (vc - tn)).below DR rfl
              rw [show ((octC x.lc).drop tn).take (n - tn) = (octC x.lc).drop tn from List.take_of_length_le (by rw [List.length_drop, HN.out]; omega)] at r3
              have CB := concatB3 (wB := W2.drew) r1 (HRD2.out.below DR rfl) r3 (by rw [← HO.out.2.2.1]; omega)
              rw [← HO.out.2.2.1] at CB
              have CB := Lib.hid CB
              generalize W2.drew = W5 at *
              clear R0 r1 r3 DR hU
              refine wpN_one 12 _ (by kernel_rfl) rfl ?_
              refine NextAt.free (by kernel_rfl) ?_
              intro K hK
              go_simp
              refine hK _ _ ?_
              clear hK K
              refine wpN_one 13 _ (by kernel_rfl) rfl ?_
              refine NextAt.free (by kernel_rfl) ?_
              intro K hK
              go_simp
              refine CB.out.mono ?_
              rintro e W6 ⟨v6, rfl, hv6, hb6⟩
              have AL := HDR.out.alloc HDR.out.size (.cells #[.slice va tn tn, .slice da dn dc, .slice U (n - tn) (vc - tn)] 32)
              have B6 := AL.trans (hb6.mono AL.size)
              have NEW := HP1.out.put B1.out.size HO.out.1 HO.out.2.1 T2.out.size B6 (row_low hv6 AL.size)
              have FIN : Hid (Below w.heap.size w W6 ∧ RopRel w.heap.size ⟨h1, p1, 1, ⟨pk, ps, pm, ln⟩⟩ W6 v6) := Lib.hid ⟨B2.out.trans (B6.mono B2.out.size), x2, NEW, HI2.out⟩
              clear hv6 hb6 AL B6 NEW CB
              go_simp
              refine hK _ _ ?_
              clear hK K
              refine wpN_pure [14] (by kernel_rfl) (by kernel_rfl) (by kernel_rfl) (fun _ _ _ _ _ h => h) (fun h => by cases h) ?_
              simp only [pick, List.map_cons, List.map_nil, List.getElem?_cons_succ, List.getElem?_cons_zero, Option.getD_some]
              repeat (go_big_quiet_step (fail))
              refine wpQuiet_nil ?_
              refine wpN_done (by kernel_rfl) ?_
              go_wp2_with fail
              go_meet
              exact FIN.out
            · have hne : (E == 0) = false := by simpa using hE
              have FIN := Lib.hid (And.intro B2.out (And.intro (hE1 hE) HI2.out))
              clear hE1 hE2
              go_wp2_with fail
              go_meet
              exact ⟨FIN.out.1, x2, FIN.out.2.1, FIN.out.2.2⟩
          · have e0 : (ck == 0) = false := beq_eq_false_iff_ne.2 k0
            by_cases k1 : ck = 1
            · as_aux_lemma =>
              subst k1
              obtain ⟨n0, n1, n2, n4⟩ := HX1.out.cells
              have RP := remove_rs x ca cb W1 HP1.out.at'
              rw [HI.out] at RP
              have RP := Lib.hid RP
              go_wp2_with fail
              refine RP.out.mono ?_
              intro e W2 hp
              obtain ⟨E, rfl, ht2, x2, hi2, hE1, hE2⟩ := HP1.out.edit B1.out.size hp
              have X2 := Lib.hid (HX1.out.touch ht2 HXT.out)
              have T2 := Lib.hid ht2
              have HI2 := Lib.hid (hi2.trans HI.out)
              have B2 := Lib.hid (B1.out.trans (ht2.below B1.out.size (fun k hk => HP1.out.bx k hk)))
              clear hp RP ht2 hi2 n0 n1 n2 n4
              by_cases hE : E = 0
              · subst hE
                obtain ⟨fn, tn, hf1, hf2, hft, htn, ha2, hT2, ho2, hr2⟩ := hE2 rfl
                subst hf1 hf2
                have HO := Lib.hid (And.intro ha2 (And.intro hT2 (And.intro ho2 hr2)))
                have HRD2 := Lib.hid (HRD1.out.past' T2.out (fun h0 b' hb' hx => by have h8 := HLOW.out h0 b' hb'; have h9 := HP1.out.bx b' hx; omega))
                obtain ⟨n, hn⟩ : ∃ n, (octC x.lc).length = n := ⟨_, rfl⟩
                have HN := Lib.hid hn
                have n50 := HP1.out.at'.oct50
                have HPX := HP1
                rw [hn] at htn n50 HP1 ⊢
                obtain ⟨_, _, hv', hc1, hc2, _, _⟩ := HP1.out.shape
                rw [hn] at hv' hc1
                simp only [Value.slice.injEq] at hv'
                obtain ⟨rfl, _, rfl⟩ := hv'
                clear hE1 hE2 ha2 hT2 ho2 hr2 hn
                obtain ⟨U, hU⟩ : ∃ U, (if vc = tn then va else Option.map (fun x => x.add tn) va) = U := ⟨_, rfl⟩
                have HU := Lib.hid (show ∀ b o, va = some ⟨b, o, none⟩ → tn < n → U = some ⟨b, o + tn, none⟩ from fun b o e h => by
                  rw [← hU, if_neg (by omega), e]
                  simp [Addr.add])
                go_upto_region 20 with fail
                have S0 : OpBox bx 1 fn tn cc (.slice da dn dc) W2.drew := X2.out
                have s1 : ∀ y : WIn (OpBox bx 1 fn tn cc (.slice da dn dc)), y.w.cell? ⟨bx, 1, none⟩ = some (.int .i64 fn) := fun y => y.h.cells.2.1
                have s2 : ∀ y : WIn (OpBox bx 1 fn tn cc (.slice da dn dc)), y.w.cell? ⟨bx, 2, none⟩ = some (.int .i64 tn) := fun y => y.h.cells.2.2.1
                have s4 : ∀ y : WIn (OpBox bx 1 fn tn cc (.slice da dn dc)), y.w.cell? ⟨bx, 4, none⟩ = some (.slice da dn dc) := fun y => y.h.cells.2.2.2
                haveI ne : Nonempty (WIn (OpBox bx 1 fn tn cc (.slice da dn dc))) := ⟨⟨W2.drew, S0⟩⟩
                refine wp_normal ?_
                refine wp_region_plan 10 (OpBox bx 1 fn tn cc (.slice da dn dc)) rfl ?_
                refine wpN_seg [0, 1, 2, 3, 4, 5, 6, 7, 8, 9] (by kernel_rfl) (by kernel_rfl) (by kernel_rfl) (by kernel_rfl) (by decide) (fun _ _ _ _ _ h => h) S0 ?_
                simp only [pick, List.map_cons, List.map_nil, List.getElem?_cons_succ, List.getElem?_cons_zero, Option.getD_some]
                repeat (go_big_quiet_step (fail))
                refine wpQuiet_nil ?_
                clear s1 s2 s4 ne S0
                have DR : Below W2.heap.size W2 W2.drew := (Below.refl _ W2).drew
                have HDR := Lib.hid DR
                have OLEN : (octC x2.lc).length ≤ 50000 := HO.out.1.oct50
                have R0 := HO.out.2.2.2
                rw [HN.out] at R0
                have r1 := ((R0.take fn (by rw [HN.out]; omega)).recap (c' := fn)).below DR rfl
                have r3 := (R0.cut (f := tn) (t := n) htn (by rw [HN.out]; omega) (fun b o e h => HU.out b o e h) (vc - tn)).below DR rfl
                rw [show ((octC x.lc).drop tn).take (n - tn) = (octC x.lc).drop tn from List.take_of_length_le (by rw [List.length_drop, HN.out]; omega)] at r3
                have CB := concatB2 (wB := W2.drew) r1 r3 (by rw [show (octC x.lc).take fn ++ (octC x.lc).drop tn = octC x2.lc by rw [HO.out.2.2.1, List.append_nil]]; omega)
                rw [show (octC x.lc).take fn ++ (octC x.lc).drop tn = (octC x.lc).take fn ++ [] ++ (octC x.lc).drop tn by rw [List.append_nil]] at CB
                rw [← HO.out.2.2.1] at CB
                have CB := Lib.hid CB
                generalize W2.drew = W5 at *
                clear R0 r1 r3 DR hU
                refine wpN_one 10 _ (by kernel_rfl) rfl ?_
                refine NextAt.free (by kernel_rfl) ?_
                intro K hK
                go_simp
                refine hK _ _ ?_
                clear hK K
                refine wpN_one 11 _ (by kernel_rfl) rfl ?_
                refine NextAt.free (by kernel_rfl) ?_
                intro K hK
                go_simp
                refine CB.out.mono ?_
                rintro e W6 ⟨v6, rfl, hv6, hb6⟩
                have AL := HDR.out.alloc HDR.out.size (.cells #[.slice va fn fn, .slice U (n - tn) (vc - tn)] 32)
                have B6 := AL.trans (hb6.mono AL.size)
                have NEW := HP1.out.put B1.out.size HO.out.1 HO.out.2.1 T2.out.size B6 (row_low hv6 AL.size)
                have FIN : Hid (Below w.heap.size w W6 ∧ RopRel w.heap.size ⟨h1, p1, 1, ⟨pk, ps, pm, ln⟩⟩ W6 v6) := Lib.hid ⟨B2.out.trans (B6.mono B2.out.size), x2, NEW, HI2.out⟩
                clear hv6 hb6 AL B6 NEW CB
                go_simp
                refine hK _ _ ?_
                clear hK K
                refine wpN_pure [12] (by kernel_rfl) (by kernel_rfl) (by kernel_rfl) (fun _ _ _ _ _ h => h) (fun h => by cases h) ?_
                simp only [pick, List.map_cons, List.map_nil, List.getElem?_cons_succ, List.getElem?_cons_zero, Option.getD_some]
                repeat (go_big_quiet_step (fail))
                refine wpQuiet_nil ?_
                refine wpN_done (by kernel_rfl) ?_
                go_wp2_with fail
                go_meet
                exact FIN.out
              · have hne : (E == 0) = false := by simpa using hE
                have FIN := Lib.hid (And.intro B2.out (And.intro (hE1 hE) HI2.out))
                clear hE1 hE2
                go_wp2_with fail
                go_meet
                exact ⟨FIN.out.1, x2, FIN.out.2.1, FIN.out.2.2⟩
            · have e1 : (ck == 1) = false := beq_eq_false_iff_ne.2 k1
              by_cases k2 : ck = 2
              · as_aux_lemma =>
                subst k2
                obtain ⟨n0, n1, n2, n4⟩ := HX1.out.cells
                have RP := replace_rs x ca cb da dn dc cd W1 HP1.out.at' HRD1.out HDN.out (by omega) HBZ.out (fun h0 b' hb' hg => by have h8 := HLOW.out h0 b' hb'; have h9 := HP1.out.bx b' (Or.inr hg); omega)
                rw [HI.out] at RP
                have RP := Lib.hid RP
                go_wp2_with fail
                refine RP.out.mono ?_
                intro e W2 hp
                obtain ⟨E, rfl, ht2, x2, hi2, hE1, hE2⟩ := HP1.out.edit B1.out.size hp
                have X2 := Lib.hid (HX1.out.touch ht2 HXT.out)
                have T2 := Lib.hid ht2
                have HI2 := Lib.hid (hi2.trans HI.out)
                have B2 := Lib.hid (B1.out.trans (ht2.below B1.out.size (fun k hk => HP1.out.bx k hk)))
                clear hp RP ht2 hi2 n0 n1 n2 n4
                by_cases hE : E = 0
                · subst hE
                  obtain ⟨fn, tn, hf1, hf2, hft, htn, ha2, hT2, ho2, hr2⟩ := hE2 rfl
                  subst hf1 hf2
                  have HO := Lib.hid (And.intro ha2 (And.intro hT2 (And.intro ho2 hr2)))
                  have HRD2 := Lib.hid (HRD1.out.past' T2.out (fun h0 b' hb' hx => by have h8 := HLOW.out h0 b' hb'; have h9 := HP1.out.bx b' hx; omega))
                  obtain ⟨n, hn⟩ : ∃ n, (octC x.lc).length = n := ⟨_, rfl⟩
                  have HN := Lib.hid hn
                  have n50 := HP1.out.at'.oct50
                  have HPX := HP1
                  rw [hn] at htn n50 HP1 ⊢
                  obtain ⟨_, _, hv', hc1, hc2, _, _⟩ := HP1.out.shape
                  rw [hn] at hv' hc1
                  simp only [Value.slice.injEq] at hv'
                  obtain ⟨rfl, _, rfl⟩ := hv'
                  clear hE1 hE2 ha2 hT2 ho2 hr2 hn
                  obtain ⟨U, hU⟩ : ∃ U, (if vc = tn then va else Option.map (fun x => x.add tn) va) = U := ⟨_, rfl⟩
                  have HU := Lib.hid (show ∀ b o, va = some ⟨b, o, none⟩ → tn < n → U = some ⟨b, o + tn, none⟩ from fun b o e h => by
                    rw [← hU, if_neg (by omega), e]
                    simp [Addr.add])
                  go_upto_region 23 with fail
                  have S0 : OpBox bx 2 fn tn cc (.slice da dn dc) W2.drew := X2.out
                  have s1 : ∀ y : WIn (OpBox bx 2 fn tn cc (.slice da dn dc)), y.w.cell? ⟨bx, 1, none⟩ = some (.int .i64 fn) := fun y => y.h.cells.2.1
                  have s2 : ∀ y : WIn (OpBox bx 2 fn tn cc (.slice da dn dc)), y.w.cell? ⟨bx, 2, none⟩ = some (.int .i64 tn) := fun y => y.h.cells.2.2.1
                  have s4 : ∀ y : WIn (OpBox bx 2 fn tn cc (.slice da dn dc)), y.w.cell? ⟨bx, 4, none⟩ = some (.slice da dn dc) := fun y => y.h.cells.2.2.2
                  haveI ne : Nonempty (WIn (OpBox bx 2 fn tn cc (.slice da dn dc))) := ⟨⟨W2.drew, S0⟩⟩
                  refine wp_normal ?_
                  refine wp_region_plan 12 (OpBox bx 2 fn tn cc (.slice da dn dc)) rfl ?_
                  refine wpN_seg [0, 1, 2, 3, 4, 5, 6, 7, 8, 9, 10, 11] (by kernel_rfl) (by kernel_rfl) (by kernel_rfl) (by kernel_rfl) (by decide) (fun _ _ _ _ _ h => h) S0 ?_
                  simp only [pick, List.map_cons, List.map_nil, List.getElem?_cons_succ, List.getElem?_cons_zero, Option.getD_some]
                  repeat (go_big_quiet_step (fail))
                  refine wpQuiet_nil ?_
                  clear s1 s2 s4 ne S0
                  have DR : Below W2.heap.size W2 W2.drew := (Below.refl _ W2).drew
                  have HDR := Lib.hid DR
                  have OLEN : (octC x2.lc).length ≤ 50000 := HO.out.1.oct50
                  have R0 := HO.out.2.2.2
                  rw [HN.out] at R0
                  have r1 := ((R0.take fn (by rw [HN.out]; omega)).recap (c' := fn)).below DR rfl
                  have r3 := (R0.cut (f := tn) (t := n) htn (by rw [HN.out]; omega) (fun b o e h => HU.out b o e h) (vc - tn)).below DR rfl
                  rw [show ((octC x.lc).drop tn).take (n - tn) = (octC x.lc).drop tn from List.take_of_length_le (by rw [List.length_drop, HN.out]; omega)] at r3
                  have CB := concatB3 (wB := W2.drew) r1 (HRD2.out.below DR rfl) r3 (by rw [← HO.out.2.2.1]; omega)
                  rw [← HO.out.2.2.1] at CB
                  have CB := Lib.hid CB
                  generalize W2.drew = W5 at *
                  clear R0 r1 r3 DR hU
                  refine wpN_one 12 _ (by kernel_rfl) rfl ?_
                  refine NextAt.free (by kernel_rfl) ?_
                  intro K hK
                  go_simp
                  refine hK _ _ ?_
                  clear hK K
                  refine wpN_one 13 _ (by kernel_rfl) rfl ?_
                  refine NextAt.free (by kernel_rfl) ?_
                  intro K hK
                  go_simp
                  refine CB.out.mono ?_
                  rintro e W6 ⟨v6, rfl, hv6, hb6⟩
                  have AL := HDR.out.alloc HDR.out.size (.cells #[.slice va fn fn, .slice da dn dc, .slice U (n - tn) (vc - tn)] 32)
                  have B6 := AL.trans (hb6.mono AL.size)
                  have NEW := HP1.out.put B1.out.size HO.out.1 HO.out.2.1 T2.out.size B6 (row_low hv6 AL.size)
                  have FIN : Hid (Below w.heap.size w W6 ∧ RopRel w.heap.size ⟨h1, p1, 1, ⟨pk, ps, pm, ln⟩⟩ W6 v6) := Lib.hid ⟨B2.out.trans (B6.mono B2.out.size), x2, NEW, HI2.out⟩
                  clear hv6 hb6 AL B6 NEW CB
                  go_simp
                  refine hK _ _ ?_
                  clear hK K
                  refine wpN_pure [14] (by kernel_rfl) (by kernel_rfl) (by kernel_rfl) (fun _ _ _ _ _ h => h) (fun h => by cases h) ?_
                  simp only [pick, List.map_cons, List.map_nil, List.getElem?_cons_succ, List.getElem?_cons_zero, Option.getD_some]
                  repeat (go_big_quiet_step (fail))
                  refine wpQuiet_nil ?_
                  refine wpN_done (by kernel_rfl) ?_
                  go_wp2_with fail
                  go_meet
                  exact FIN.out
                · have hne : (E == 0) = false := by simpa using hE
                  have FIN := Lib.hid (And.intro B2.out (And.intro (hE1 hE) HI2.out))
                  clear hE1 hE2
                  go_wp2_with fail
                  go_meet
                  exact ⟨FIN.out.1, x2, FIN.out.2.1, FIN.out.2.2⟩
              · have e2 : (ck == 2) = false := beq_eq_false_iff_ne.2 k2
                by_cases k3 : ck = 3
                · as_aux_lemma =>
                  subst k3
                  obtain ⟨n0, n1, n2, n4⟩ := HX1.out.cells
                  have SP := split_rs x ca W1 HP1.out.at'
                  rw [HI.out] at SP
                  have SP := Lib.hid SP
                  have OL := Lib.hid HP1.out.at'.octlen
                  have n50 := HP1.out.at'.oct50
                  go_wp2_with fail
                  refine SP.out.mono ?_
                  intro e W2 hp
                  unfold SplitPost at hp
                  by_cases hin : 0 ≤ ca ∧ ca ≤ (totS x.sz).1
                  · rw [if_pos hin] at hp
                    obtain ⟨qn, rfl⟩ : ∃ m : Nat, ca = m := ⟨ca.toNat, by omega⟩
                    rw [show (qn : Int).toNat = qn from rfl] at hp
                    by_cases hE : splE x.I.p x.sz qn = 0
                    · rw [if_pos hE] at hp
                      obtain ⟨nq, L1, L2, v1, v2, F', G', b', rfl, hnq, hTwo, hlists, hFG, ht2⟩ := hp
                      obtain ⟨so1, so2⟩ := splitC_oct x.I.p x.lc qn HP1.out.at'.pok.leaf.1 (by have := OL.out; omega)
                      have hqn : qn ≤ (octC x.lc).length := by have := OL.out; omega
                      rw [← hlists] at so1 so2
                      simp only at so1 so2
                      have X2 := Lib.hid (HX1.out.touch ht2 HXT.out)
                      have HTW := Lib.hid hTwo
                      have T2 := Lib.hid ht2
                      have FG := Lib.hid hFG
                      have SO := Lib.hid (And.intro so1 so2)
                      have LE1 := Lib.hid (fun W (hW : Below W2.heap.size W2 W) => (hTwo.below hW).lens.1)
                      have LE2 := Lib.hid (fun W (hW : Below W2.heap.size W2 W) => (hTwo.below hW).lens.2)
                      have JN := Lib.hid (fun W (hW : Below W2.heap.size W2 W) => join_two x.I nq L1 L2 v1 v2 F' G' b' W (hTwo.below hW))
                      have l1 : (octC (L1.map Lm.lc)).length = qn := by rw [so1, List.length_take]; omega
                      have l2 : (octC (L2.map Lm.lc)).length = (octC x.lc).length - qn := by rw [so2, List.length_drop]
                      rw [l1, HI.out] at LE1
                      rw [l2] at LE2
                      rw [HI.out] at JN
                      have hsub : (((octC x.lc).length : Nat) : Int) - (qn : Int) = (((octC x.lc).length - qn : Nat) : Int) := by omega
                      obtain ⟨n, hn⟩ : ∃ n, (octC x.lc).length = n := ⟨_, rfl⟩
                      have HPX := Lib.hid HP1.out
                      have HNN := Lib.hid hn
                      rw [hn] at LE2 hsub n50 hqn ⊢
                      have HSUB := Lib.hid hsub
                      clear hTwo hlists hFG ht2 so1 so2 l1 l2 hE SP hin n0 n1 n2 n4 hn hsub OL HP1
                      go_upto_region 27 with fail
                      have S0 : OpBox bx 3 qn cb cc (.slice da dn dc) W2.drew := X2.out
                      have s1 : ∀ y : WIn (OpBox bx 3 qn cb cc (.slice da dn dc)), y.w.cell? ⟨bx, 1, none⟩ = some (.int .i64 qn) := fun y => y.h.cells.2.1
                      haveI ne : Nonempty (WIn (OpBox bx 3 qn cb cc (.slice da dn dc))) := ⟨⟨W2.drew, S0⟩⟩
                      have DR := Lib.hid ((Below.refl W2.heap.size W2).drew)
                      refine wp_normal ?_
                      refine wp_region_plan 22 (OpBox bx 3 qn cb cc (.slice da dn dc)) rfl ?_
                      refine wpN_seg [0, 1, 2, 3, 5, 6] (by kernel_rfl) (by kernel_rfl) (by kernel_rfl) (by kernel_rfl) (by decide) (fun _ _ _ _ _ h => h) S0 ?_
                      simp only [pick, List.map_cons, List.map_nil, List.getElem?_cons_succ, List.getElem?_cons_zero, Option.getD_some]
                      repeat (go_big_quiet_step (fail))
                      refine wpQuiet_nil ?_
                      generalize W2.drew = W3 at *
                      refine wpN_one 4 _ (by kernel_rfl) rfl ?_
                      refine NextAt.held ?_
                      intro K hK
                      go_simp
                      refine (LE1.out _ DR.out).mono ?_
                      rintro e W4 ⟨rfl, hb4⟩
                      have S4 := S0.below hb4
                      have B4 := Lib.hid (DR.out.trans (hb4.mono DR.out.size))
                      clear hb4 LE1 S0
                      go_simp
                      refine hK _ _ S4 ?_
                      clear hK K
                      refine wpN_pure [7] (by kernel_rfl) (by kernel_rfl) (by kernel_rfl) (fun _ _ _ _ _ h => h) (fun _ => S4) ?_
                      simp only [pick, List.map_cons, List.map_nil, List.getElem?_cons_succ, List.getElem?_cons_zero, Option.getD_some]
                      repeat (go_big_quiet_step (fail))
                      refine wpQuiet_nil ?_
                      refine wpN_one 8 _ (by kernel_rfl) rfl ?_
                      refine NextAt.held ?_
                      intro K hK
                      go_simp
                      refine hK _ _ S4 ?_
                      clear hK K
                      refine wpN_seg [9, 10, 12, 13, 14, 15, 16] (by kernel_rfl) (by kernel_rfl) (by kernel_rfl) (by kernel_rfl) (by decide) (fun _ _ _ _ _ h => h) S4 ?_
                      simp only [pick, List.map_cons, List.map_nil, List.getElem?_cons_succ, List.getElem?_cons_zero, Option.getD_some]
                      repeat (go_big_quiet_step (fail))
                      refine wpQuiet_nil ?_
                      clear s1 ne
                      refine wpN_one 11 _ (by kernel_rfl) rfl ?_
                      refine NextAt.held ?_
                      intro K hK
                      go_simp
                      refine (LE2.out _ B4.out).mono ?_
                      rintro e W5 ⟨rfl, hb5⟩
                      have S5 := S4.below hb5
                      have B5 := Lib.hid (B4.out.trans (hb5.mono B4.out.size))
                      rw [← HSUB.out]
                      clear hb5 LE2 S4
                      go_simp
                      refine hK _ _ S5 ?_
                      clear hK K
                      refine wpN_pure [17] (by kernel_rfl) (by kernel_rfl) (by kernel_rfl) (fun _ _ _ _ _ h => h) (fun _ => S5) ?_
                      simp only [pick, List.map_cons, List.map_nil, List.getElem?_cons_succ, List.getElem?_cons_zero, Option.getD_some]
                      repeat (go_big_quiet_step (fail))
                      refine wpQuiet_nil ?_
                      refine wpN_one 18 _ (by kernel_rfl) rfl ?_
                      refine NextAt.held ?_
                      intro K hK
                      go_simp
                      refine hK _ _ S5 ?_
                      clear hK K
                      refine wpN_pure [19, 20, 21] (by kernel_rfl) (by kernel_rfl) (by kernel_rfl) (fun _ _ _ _ _ h => h) (fun _ => S5) ?_
                      simp only [pick, List.map_cons, List.map_nil, List.getElem?_cons_succ, List.getElem?_cons_zero, Option.getD_some]
                      repeat (go_big_quiet_step (fail))
                      refine wpQuiet_nil ?_
                      clear S5
                      refine wpN_one 22 _ (by kernel_rfl) rfl ?_
                      refine NextAt.free (by kernel_rfl) ?_
                      intro K hK
                      go_simp
                      refine (JN.out _ B5.out).mono ?_
                      rintro e W6 ⟨rfl, v6, F6, ha6, hF6, ht6⟩
                      have FIN : Hid (Below w.heap.size w W6 ∧ RopRel w.heap.size ⟨h1, p1, 1, ⟨pk, ps, pm, ln⟩⟩ W6 (.slice va n vc)) := Lib.hid (by
                        have s2 := T2.out.size
                        have s5 := B5.out.size
                        have TF : ∀ k, F' k → x.T k ∨ W1.heap.size ≤ k := fun k hk => FG.out k (Or.inl hk)
                        have TT : Touch x.T W1 W6 := (T2.out.then (Touch.of_below B5.out)).trans ht6 (fun k hk => (TF k hk))
                        have ho : octC ((L1 ++ L2).map Lm.lc) = octC x.lc := by
                          rw [List.map_append, octC_app, SO.out.1, SO.out.2, List.take_append_drop]
                        refine ⟨B1.out.trans (TT.below B1.out.size (fun k hk => HPX.out.bx k hk)), ⟨⟨h1, p1, 1, ⟨pk, ps, pm, ln⟩⟩, L1 ++ L2, v6, b', F6, G'⟩, ?_, rfl⟩
                        rw [← HNN.out]
                        exact HPX.out.step B1.out.size ha6 ho (fun k hk => by
                          rcases hk with hk | hk
                          · rcases hF6 k hk with h | h
                            · exact TF k h
                            · exact Or.inr (by omega)
                          · exact FG.out k (Or.inr hk)) TT)
                      clear ha6 hF6 ht6 JN
                      go_simp
                      refine hK _ _ ?_
                      clear hK K
                      refine wpN_pure [23] (by kernel_rfl) (by kernel_rfl) (by kernel_rfl) (fun _ _ _ _ _ h => h) (fun h => by cases h) ?_
                      simp only [pick, List.map_cons, List.map_nil, List.getElem?_cons_succ, List.getElem?_cons_zero, Option.getD_some]
                      repeat (go_big_quiet_step (fail))
                      refine wpQuiet_nil ?_
                      refine wpN_one 24 _ (by kernel_rfl) rfl ?_
                      refine NextAt.free (by kernel_rfl) ?_
                      intro K hK
                      go_simp
                      refine hK _ _ ?_
                      clear hK K
                      refine wpN_done (by kernel_rfl) ?_
                      go_wp2_with fail
                      go_meet
                      exact FIN.out
                    · rw [if_neg hE] at hp
                      obtain ⟨rfl, x2, hi2, ha2, hlc2, hT2, ht2⟩ := hp
                      have hne : (splE x.I.p x.sz qn == 0) = false := by simpa using hE
                      have FIN := Lib.hid (And.intro (B1.out.trans (ht2.below B1.out.size (fun k hk => HP1.out.bx k hk))) (And.intro (HP1.out.step B1.out.size ha2 (by rw [hlc2]) hT2 ht2) (hi2.trans HI.out)))
                      generalize splE x.I.p x.sz qn = E at *
                      clear ha2 hlc2 hT2 ht2 hi2 SP hin hE OL n50
                      go_wp2_with fail
                      go_meet
                      exact ⟨FIN.out.1, x2, FIN.out.2.1, FIN.out.2.2⟩
                  · rw [if_neg hin] at hp
                    obtain ⟨rfl, hb2⟩ := hp
                    have FIN := Lib.hid (And.intro (B1.out.trans (hb2.mono B1.out.size)) (And.intro (HP1.out.below hb2) HI.out))
                    clear hb2 SP hin OL n50
                    go_wp2_with fail
                    go_meet
                    exact ⟨FIN.out.1, x, FIN.out.2.1, FIN.out.2.2⟩
                · have e3 : (ck == 3) = false := beq_eq_false_iff_ne.2 k3
                  by_cases k4 : ck = 4
                  · as_aux_lemma =>
                    subst k4
                    have LV := level_rs x W1 HP1.out.at'
                    rw [HI.out] at LV
                    have LV := Lib.hid LV
                    go_wp2_with fail
                    refine LV.out.mono ?_
                    rintro e W2 ⟨rfl, x2, hi2, ha2, hlc2, hT2, ht2⟩
                    have ho : octC x2.lc = octC x.lc := by
                      rw [hlc2]
                      split
                      · exact octC_made _ _ HP1.out.at'.pok.leaf.1
                      · rfl
                    have FIN := Lib.hid (And.intro (B1.out.trans (ht2.below B1.out.size (fun k hk => HP1.out.bx k hk))) (And.intro (HP1.out.step B1.out.size ha2 ho hT2 ht2) (hi2.trans HI.out)))
                    clear ha2 hlc2 hT2 ht2 ho LV hi2
                    go_wp2_with fail
                    go_meet
                    exact ⟨FIN.out.1, x2, FIN.out.2.1, FIN.out.2.2⟩
                  · as_aux_lemma =>
                    have e4 : (ck == 4) = false := beq_eq_false_iff_ne.2 k4
                    have LV := trim_rs x W1 HP1.out.at'
                    rw [HI.out] at LV
                    have LV := Lib.hid LV
                    go_wp2_with fail
                    refine LV.out.mono ?_
                    rintro e W2 ⟨rfl, x2, hi2, ha2, hlc2, hT2, ht2⟩
                    have ho : octC x2.lc = octC x.lc := by
                      rw [hlc2]
                      split
                      · exact trimC_oct _ _
                      · rfl
                    have FIN := Lib.hid (And.intro (B1.out.trans (ht2.below B1.out.size (fun k hk => HP1.out.bx k hk))) (And.intro (HP1.out.step B1.out.size ha2 ho hT2 ht2) (hi2.trans HI.out)))
                    clear ha2 hlc2 hT2 ht2 ho LV hi2
                    go_wp2_with fail
                    go_meet
                    exact ⟨FIN.out.1, x2, FIN.out.2.1, FIN.out.2.2⟩
        case rest =>
          as_aux_lemma =>
          obtain ⟨hbw, y, hY, hyI⟩ := hcut
          obtain ⟨ya, yc, rfl, hyc1, hyc2, _, _⟩ := hY.shape
          have HBW := Lib.hid hbw
          have HYI := Lib.hid hyI
          have HY := Lib.hid hY
          have n50 := hY.at'.oct50
          have NL := Lib.hid hY.at'.octlen
          have RMB := hY.at'.room
          have CP := copy_all hY.at'
          have EQ := Lib.hid (fun W v2 (hW : Below wc.heap.size wc W) (hv2 : W.ownsRow wc.heap.size 5 1 v2 (octC y.lc).length ((octC y.lc).map (Value.int .u8))) => bytesEq_own v2 _ (octC y.lc) W hv2 (hY.below hW).row)
          have LN := fun W (hW : Below wc.heap.size wc W) => len_rs (hY.at'.below hW)
          have HE := fun W (hW : Below wc.heap.size wc W) => held_rs (hY.at'.below hW)
          have RM := fun W (hW : Below wc.heap.size wc W) => room_rs (hY.at'.below hW)
          have LV := fun W (hW : Below wc.heap.size wc W) => leaves_rs y W (hY.at'.below hW)
          have EA := hY.at'.eachS
          have RMB : roomS y.sz ≤ 10000000 := RMB
          rw [hyI] at CP LN HE RM LV EA
          have CP := Lib.hid CP
          have LN := Lib.hid LN
          have HE := Lib.hid HE
          have RM := Lib.hid RM
          have LV := Lib.hid LV
          have EA := Lib.hid EA
          obtain ⟨n, hn⟩ : ∃ n, (octC y.lc).length = n := ⟨_, rfl⟩
          rw [hn] at n50 hyc1 NL CP LN EQ ⊢
          have HNN := Lib.hid hn
          obtain ⟨rm, hrm⟩ : ∃ n, roomS y.sz = n := ⟨_, rfl⟩
          rw [hrm] at RMB HE RM
          have HRM := Lib.hid (show (totS y.sz).2 = rm from hrm)
          have NL := Lib.hid (NL.out.symm)
          clear hY hyI hbw hn hrm HX1 HP1 B1 HXT HRD1 HLOW HDN HBZ
          go_wp2_with fail
          refine CP.out.mono ?_
          rintro e w2 ⟨v2, rfl, hv2, hb2⟩
          have B2 := Lib.hid hb2
          have EQ2 := Lib.hid (EQ.out w2 v2 hb2 hv2)
          clear hv2 hb2 CP EQ
          go_wp2_with fail
          refine EQ2.out.mono ?_
          rintro e w3' ⟨rfl, hw3⟩
          obtain rfl := hw3.symm
          clear hw3 EQ2
          go_wp2_with fail
          refine (LN.out _ B2.out).mono ?_
          rintro e w4 ⟨rfl, hb4⟩
          have B4 := Lib.hid (B2.out.trans (hb4.mono B2.out.size))
          clear hb4
          go_wp2_with fail
          refine (HE.out _ B4.out).mono ?_
          rintro e w5 ⟨rfl, hw5⟩
          obtain rfl := hw5.symm
          clear hw5
          go_wp2_with fail
          refine (RM.out _ B4.out).mono ?_
          rintro e w6 ⟨rfl, hb6⟩
          have B6 := Lib.hid (B4.out.trans (hb6.mono B4.out.size))
          clear hb6
          go_wp2_with fail
          refine (LV.out _ B6.out).mono ?_
          rintro e w7 ⟨v7, rfl, hv7, hb7⟩
          have B7 := Lib.hid (B6.out.trans (hb7.mono B6.out.size))
          obtain ⟨a7, c7, rfl, hc71, hc72, hc73⟩ := hv7
          have HC7 := Lib.hid hc73
          obtain ⟨l, hl⟩ : ∃ l, y.sz = l := ⟨_, rfl⟩
          rw [hl] at HC7 hc71 EA HRM NL ⊢
          have HL := Lib.hid hl
          have hl6 : l.length ≤ 60000 := by
            rw [← hl]
            have := HY.out.at'.l60
            unfold RS.sz
            rw [List.length_map]
            exact this
          clear hb7 hc73 hl LN HE LV
          go_wp2_with fail
          go_loopw [17, 18, 200] (fun s17 s18 i wl => ∃ j : Nat, j ≤ l.length ∧ i = .int .i64 (j : Int) ∧ s17 = .int .i64 ((totS (l.take j)).1 : Nat) ∧ s18 = .int .i64 ((totS (l.take j)).2 : Nat) ∧ Below w7.heap.size w7 wl) (fun _ _ i _ => l.length - (intOf i).toNat)
          case atStart => exact ⟨0, Nat.zero_le _, rfl, rfl, rfl, Below.refl _ _⟩
          case round =>
            obtain ⟨j, hj, rfl, rfl, rfl, hbl⟩ := hrel
            have HBL := Lib.hid hbl
            have t1 := totS_take_le l j
            have t2 := rooms_take l j
            by_cases hjl : j < l.length
            · obtain ⟨q, hq⟩ : ∃ q, l[j]? = some q := ⟨_, List.getElem?_eq_getElem hjl⟩
              obtain ⟨b7, o7, rfl, u1, u2⟩ := HC7.out j q hq
              have u1 := old_cell hbl u1
              have u2 := old_cell hbl u2
              have eq := EA.out q (List.mem_of_getElem? hq)
              have ts := totS_take l j q hq
              have t1' := totS_take_le l (j + 1)
              have t2' := rooms_take l (j + 1)
              rw [ts] at t1' t2'
              rw [NL.out] at t1 t1'
              rw [HRM.out] at t2 t2'
              obtain ⟨qn, qc⟩ := q
              simp only at u1 u2 eq ts t1' t2'
              have TS := Lib.hid ts
              obtain ⟨A1, hA1⟩ : ∃ m, (totS (l.take j)).1 = m := ⟨_, rfl⟩
              obtain ⟨A2, hA2⟩ : ∃ m, (totS (l.take j)).2 = m := ⟨_, rfl⟩
              rw [hA1] at t1 t1' ts TS ⊢
              rw [hA2] at t2 t2' ts TS ⊢
              obtain ⟨e1, e2, e3, e4⟩ := eq
              have e2 : qn ≤ ln := e2
              have f1 : ¬ ((qn : Int) < 1) := by omega
              have f2 : ¬ ((ln : Int) < (qn : Int)) := by omega
              have f3 : ¬ ((qc : Int) < (qn : Int)) := by omega
              have X0 : (wr.alloc (.cells #[.int .i64 (qn : Int), .int .i64 (qc : Int)] 39)).cell? ⟨wr.heap.size, 0, none⟩ = some (.int .i64 (qn : Int)) := by rw [cell_of (heap_alloc_new wr _)]; rfl
              have X1 : (wr.alloc (.cells #[.int .i64 (qn : Int), .int .i64 (qc : Int)] 39)).cell? ⟨wr.heap.size, 1, none⟩ = some (.int .i64 (qc : Int)) := by rw [cell_of (heap_alloc_new wr _)]; rfl
              have BX := Lib.hid (HBL.out.alloc HBL.out.size (.cells #[.int .i64 (qn : Int), .int .i64 (qc : Int)] 39))
              clear hq hbl ts hA1 hA2
              go_upto_region 38 with fail
              clear u1 u2
              generalize wr.alloc (.cells #[.int .i64 (qn : Int), .int .i64 (qc : Int)] 39) = wm at *
              generalize wr.heap.size = bl at *
              go_upto_region 40 with fail
              go_quiet (fail)
              have BY := Lib.hid (bdrewN BX.out nq)
              clear X0 X1
              generalize wm.drewN nq = wn at *
              go_wp2_with fail
              go_roundw
              case measure => simp only [intOf]; omega
              case rel => exact ⟨j + 1, by omega, by go_num, by rw [TS.out]; go_num, by rw [TS.out]; go_num, BY.out⟩
            · obtain rfl : j = l.length := by omega
              rw [List.take_length, NL.out, HRM.out]
              have B8 := Lib.hid (B7.out.trans (hbl.mono B7.out.size))
              clear hbl t1 t2
              go_wp2_with fail
              refine (RM.out _ B8.out).mono ?_
              rintro e w9 ⟨rfl, hb9⟩
              have B9 := B8.out.trans (hb9.mono B8.out.size)
              have FIN := Lib.hid (And.intro (HBW.out.trans (B9.mono HBW.out.size)) (And.intro (show RopAt w.heap.size w9 y (.slice ya n yc) from by rw [← HNN.out]; exact HY.out.below B9) HYI.out))
              clear B9 hb9
              go_wp2_with fail
              go_roundw
              case measure => simp only [intOf]; omega
              case rel => exact ⟨k + 1, by omega, by simp, FIN.out.1, y, FIN.out.2.1, FIN.out.2.2⟩
      · obtain rfl : k = M := by omega
        as_aux_lemma =>
        obtain ⟨va, vc, rfl, hvc1, hvc2, _, _⟩ := hP.shape
        have WH := fun W (hW : Below wr.heap.size wr W) q hq => where_rs (hP.at'.below hW) q hq
        have PO := fun W (hW : Below wr.heap.size wr W) q k a hw => pos_rs (hP.at'.below hW) q k a hw
        have AT := fun W (hW : Below wr.heap.size wr W) q hq => at_rs (hP.at'.below hW) q hq
        have n50 := hP.at'.oct50
        rw [HI.out] at WH PO AT
        have HRW := Lib.hid hP.row
        have WH := Lib.hid WH
        have PO := Lib.hid PO
        have AT := Lib.hid AT
        obtain ⟨os, hos⟩ : ∃ os, octC x.lc = os := ⟨_, rfl⟩
        rw [hos] at WH AT HRW n50 hvc1 ⊢
        clear hP hos hb
        go_wp2_with fail
        go_loopw [242] (fun i wl => ∃ j : Nat, j ≤ os.length ∧ i = .int .i64 (j : Int) ∧ Below wr.heap.size wr wl) (fun i _ => os.length - (intOf i).toNat)
        case atStart => exact ⟨0, Nat.zero_le _, rfl, Below.refl _ _⟩
        case round =>
          obtain ⟨j, hj, rfl, hbl⟩ := hrel
          have HBL := Lib.hid hbl
          by_cases hjl : j < os.length
          · have WJ := Lib.hid (WH.out wr hbl j hjl)
            clear hbl
            go_wp2_with fail
            refine WJ.out.mono ?_
            rintro e w2 ⟨hb2, kk, aa, rfl, hw⟩
            have B2 := Lib.hid (HBL.out.trans (hb2.mono HBL.out.size))
            have PJ := Lib.hid (PO.out w2 B2.out j kk aa hw)
            clear hb2 hw WJ
            go_wp2_with fail
            refine PJ.out.mono ?_
            rintro e w3' ⟨rfl, hb3⟩
            have B3 := Lib.hid (B2.out.trans (hb3.mono B2.out.size))
            have AJ := Lib.hid (AT.out w3' B3.out j hjl)
            clear hb3 PJ
            go_wp2_with fail
            refine AJ.out.mono ?_
            rintro e w4 ⟨rfl, hb4⟩
            have B4 := Lib.hid (B3.out.trans (hb4.mono B3.out.size))
            obtain ⟨g, rfl, d, _⟩ := wrow_cell HRW.out (j := j) (u := .int .u8 (os.getD j 0)) (by rw [List.getElem?_map, List.getElem?_eq_getElem hjl, List.getD_eq_getElem?_getD, List.getElem?_eq_getElem hjl]; rfl)
            have d := old_cell B4.out d
            clear hb4 AJ
            generalize os.getD j 0 = z at *
            go_wp2_with fail
            go_roundw
            case measure => simp only [intOf]; omega
            case rel => exact ⟨j + 1, by omega, by go_num, B4.out⟩
          · have FIN := Lib.hid (HB.out.trans (hbl.mono HB.out.size))
            obtain rfl : j = os.length := by omega
            clear hbl
            go_wp2_with fail
            go_ret
            exact ⟨rfl, FIN.out⟩

end Go.Proofs.Ytidfidknflcioaa
