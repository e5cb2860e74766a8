/-
  cuts: what it gives. Conditions: the octets and the stretches can be read.
-/
import Derived.Test.YtclpkmplifcfjaaWatchSlicesPbw
namespace Go.Proofs.Ytclpkmplifcfjaa
open Go.RowKit
set_option linter.unusedVariables false

set_option maxHeartbeats 2000000 in
set_option maxRecDepth 100000 in
theorem cuts_any_0 : True := trivial
/-- Rows of slices and of stretches, over three memories. -/
def CutsPost (w : World) : Ending → World → Prop := fun e w' => ∃ b g0 g1 g2 cs ov av, e = .returned (.tuple #[ov, av]) ∧ cs.length ≤ 12 ∧ w.heap.size ≤ b ∧ CL w w' b g0 g1 g2 cs.length ov av cs
def CutS (bx b g0 g1 g2 m f T : Nat) (X : World) : Prop :=
  X.heap[bx]? = some (.cells #[.int .i64 (m : Int), .int .i64 (f : Int), .int .i64 (T : Int)] 47 (0, 0)) ∧ X.heap[b]? = some (.cells #[.slice (some ⟨g0, 0, none⟩) 60 60, .slice (some ⟨g1, 0, none⟩) 60 60, .slice (some ⟨g2, 0, none⟩) 60 60] 22 (0, 0))
theorem CutS.pick {bx b g0 g1 g2 m f T : Nat} {X : World} (h : CutS bx b g0 g1 g2 m f T X) (hm : m < 3) : X.cell? ⟨b, m, none⟩ = some (.slice (some ⟨(Cu.mk m f T).g g0 g1 g2, 0, none⟩) 60 60) := by
  rcases (show m = 0 ∨ m = 1 ∨ m = 2 by omega) with rfl | rfl | rfl <;> (rw [cell_of h.2]; rfl)
set_option maxHeartbeats 4000000 in
set_option maxRecDepth 100000 in
theorem cuts_any (v1 v2 : Value) (zs : List Int) (L : List Ct) (w : World) (hcs : CutsIn w v1 L) (hz : Reads w .u8 v2 zs) (hzn : zs.length ≤ 9223372036854775807) :
    Calls Try.prog 12 #[v1, v2] w (CutsPost w) := by
  have MK : ∀ W : World, (Instr.makeSlice 22 (.int .i64 60) (.int .i64 60)).run Try.prog W = .ok (.slice (some ⟨W.heap.size, 0, none⟩) 60 60) (W.alloc (.cells (Array.replicate 60 (.int .u8 0)) 5)) := fun W => by kernel_rfl
  obtain ⟨oa, oc, rfl, hol, hoc⟩ := hz
  have HO := Lib.hid hoc
  obtain ⟨ca, cc, rfl, hcl, hcm, hcell⟩ := hcs
  have HC := Lib.hid hcell
  unfold maxLen at hcm
  clear hoc hcell
  go_enter Try.func12, Try.ntmps12
  go_upto_region 1 with fail
  go_cut [6] (fun s6 wx => MemsCut w s6 wx)
  case first =>
    go_region
    all_goals
      try go_wp2_with fail
      go_meet
      first
        | exact mems_ok w 0 1 2 (by omega)
        | exact mems_ok w 0 2 1 (by omega)
        | exact mems_ok w 1 0 2 (by omega)
        | exact mems_ok w 1 2 0 (by omega)
        | exact mems_ok w 2 0 1 (by omega)
        | exact mems_ok w 2 1 0 (by omega)
  case rest =>
    obtain ⟨b, g0, g1, g2, rfl, hb, hbw, hm, hbe⟩ := hcut
    have HM0 : Hid (Mems w wc b g0 g1 g2) := Lib.hid ⟨hb, ⟨_, hm⟩, hbe⟩
    clear hb hm hbe MK
    go_wp2_with fail
    go_loopw [21] (fun i wr => ∃ k : Nat, k ≤ 3 ∧ i = .int .i64 k ∧ Mems w wr b g0 g1 g2) (fun i _ => 3 - (intOf i).toNat)
    case atStart => exact ⟨0, Nat.zero_le _, rfl, HM0.out⟩
    case round =>
      obtain ⟨k, hk, rfl, hmk⟩ := hrel
      clear HM0
      have HMK := Lib.hid hmk
      by_cases hlt : k < 3
      · obtain ⟨M, hM⟩ := hmk.m
        obtain ⟨g, cg, _, _, _, _, _, hgg⟩ := hM.pick hmk.bx hlt
        have HG := Lib.hid hgg
        clear hmk hM hgg
        go_wp2_with fail
        clear cg
        go_loopw [27] (fun i wr => ∃ j : Nat, j ≤ 60 ∧ i = .int .i64 j ∧ Mems w wr b g0 g1 g2) (fun i _ => 60 - (intOf i).toNat)
        case atStart => exact ⟨0, Nat.zero_le _, rfl, HMK.out⟩
        case round =>
          obtain ⟨j, hj, rfl, hmj⟩ := hrel
          have HMJ := Lib.hid hmj
          by_cases hjl : j < 60
          · by_cases h0 : zs.length = 0
            · have h0' : ¬ (0 : Int) < (zs.length : Int) := by omega
              clear hmj h0
              go_wp2_with fail
              go_round
              case rel => exact ⟨j + 1, by omega, by go_num, HMJ.out⟩
              case measure => simp [intOf]; omega
            · have h0' : (0 : Int) < (zs.length : Int) := by omega
              have h0'' : ¬ (zs.length : Int) = 0 := by omega
              obtain ⟨M', hM'⟩ := hmj.m
              have hrow : RowF wr g 60 (M' g) := by
                rcases HG.out with e | e | e <;> rw [e]
                · exact hM'.r0
                · exact hM'.r1
                · exact hM'.r2
              have cj := hrow.cell j hjl
              have fj : wr.frozen? ⟨g, j, none⟩ = false := free_of hrow j
              obtain ⟨ob, oo, rfl, hcell⟩ := HO.out (fun e => by rw [e] at h0; exact h0 rfl)
              have hq : j % zs.length < zs.length := Nat.mod_lt _ (by omega)
              have tm : Int.tmod (j : Int) (zs.length : Int) = ((j % zs.length : Nat) : Int) := rfl
              have hc := hcell (j % zs.length) hq
              have cz := (hmj.be.cell (p := ⟨ob, oo + j % zs.length, none⟩) (World.block_lt_of_cell? w _ hc)).trans hc
              have HP := Lib.hid (HMJ.out.put HG.out j (zs.getD (j % zs.length) 0))
              generalize zs.getD (j % zs.length) 0 = z at *
              generalize j % zs.length = q at *
              clear hmj hM' hrow hcell hc h0
              go_wp2_with fail
              go_round
              case rel => exact ⟨j + 1, by omega, by go_num, HP.out⟩
              case measure => simp [intOf]; omega
          · obtain rfl : j = 60 := by omega
            clear hmj hjl hj
            go_wp2_with fail
            go_round
            case rel => exact ⟨k + 1, by omega, by go_num, HMJ.out⟩
            case measure => simp [intOf]; omega
      · obtain rfl : k = 3 := by omega
        clear hlt hk hmk
        rw [show ((3 : Nat) : Int) = 3 from rfl]
        go_upto_region 14 with fail
        go_cut [49, 50, 51] (fun s49 s50 s51 wx => s49 = .slice ca (min L.length 12) cc ∧ s50 = .int .i64 ((min L.length 12 : Nat) : Int) ∧ s51 = .int .i64 0 ∧ wx = wr)
        case first =>
          go_wp2_with fail
          all_goals
            go_meet
            exact ⟨congrArg (fun n => Value.slice ca n cc) (by omega), congrArg (Value.int .i64) (by omega), rfl, rfl⟩
        case rest =>
          obtain ⟨rfl, rfl, rfl, rfl⟩ := hcut
          obtain ⟨K, hK⟩ : ∃ K, min L.length 12 = K := ⟨_, rfl⟩
          have hK12 : K ≤ 12 := by omega
          have hKL : K ≤ L.length := by omega
          rw [hK]
          go_wp2_with fail
          go_loopw [10, 11, 51] (fun ov av i wr => ∃ (k : Nat) (cs : List Cu), k ≤ K ∧ i = .int .i64 k ∧ CL w wr b g0 g1 g2 k ov av cs) (fun _ _ i _ => K - (intOf i).toNat)
          case atStart => exact ⟨0, [], Nat.zero_le _, rfl, rfl, fun c hc => by simp at hc, HMK.out, World.ownsRow_nil _ _ _ _, World.ownsRow_nil _ _ _ _⟩
          case round =>
            obtain ⟨k, cs, hk, rfl, hcl0⟩ := hrel
            have HCL := Lib.hid hcl0
            by_cases hlt : k < K
            · obtain ⟨⟨xa, xb, xc⟩, hx⟩ : ∃ x, L[k]? = some x := ⟨_, List.getElem?_eq_getElem (by omega)⟩
              obtain ⟨cb, co, rfl, i0, i1, i2⟩ := HC.out k _ hx
              have lt := World.block_lt_of_cell? w _ i0
              have j0 := (hcl0.me.be.cell (p := ⟨cb, co + k * 3, none⟩) lt).trans i0
              have j1 := (hcl0.me.be.cell (p := ⟨cb, co + k * 3 + 1, none⟩) lt).trans i1
              have j2 := (hcl0.me.be.cell (p := ⟨cb, co + k * 3 + 2, none⟩) lt).trans i2
              simp only at j0 j1 j2
              clear i0 i1 i2 lt hx hcl0
              obtain ⟨r1, e1, p1, p1'⟩ := tmod_in xa 3 (by omega)
              obtain ⟨m, e2, hm⟩ := tmod_nat r1 3 (by omega) p1
              obtain ⟨r3, e3, p3, p3'⟩ := tmod_in xb 61 (by omega)
              obtain ⟨f, e4, hf⟩ := tmod_nat r3 61 (by omega) p3
              obtain ⟨r5, e5, p5, p5'⟩ := tmod_in xc (61 - (f : Int)) (by omega)
              obtain ⟨d, e6, hd⟩ := tmod_nat r5 (61 - (f : Int)) (by omega) p5
              have e6' : Int.tmod (r5 + 61 - (f : Int)) (61 - (f : Int)) = (d : Int) := by rw [← e6]; congr 1; omega
              have hz1 : ¬ (61 - (f : Int) = 0) := by omega
              clear e6
              go_upto_region 19 with fail
              have hbx := heap_alloc_new wr (.cells #[.int .i64 (m : Int), .int .i64 (f : Int), .int .i64 xc] 47)
              have hq0 := fun k (hk : k < wr.heap.size) => heap_alloc_old wr (.cells #[.int .i64 (m : Int), .int .i64 (f : Int), .int .i64 xc] 47) hk
              obtain ⟨bx, hbxe⟩ : ∃ bx, wr.heap.size = bx := ⟨_, rfl⟩
              rw [hbxe] at hbx hq0 ⊢
              generalize hW1 : wr.alloc (.cells #[.int .i64 (m : Int), .int .i64 (f : Int), .int .i64 xc] 47) = W1 at *
              have x1 : W1.cell? ⟨bx, 1, none⟩ = some (.int .i64 (f : Int)) := by rw [cell_of hbx]; rfl
              have x2 : W1.cell? ⟨bx, 2, none⟩ = some (.int .i64 xc) := by rw [cell_of hbx]; rfl
              have x3 : W1.frozen? ⟨bx, 2, none⟩ = false := free_of hbx _
              have HBX := Lib.hid hbx
              have HQ0 := Lib.hid hq0
              have HW1 := Lib.hid hW1
              clear j0 j1 j2 hbx hq0 hW1 e1 e2 e3 e4
              go_region
              obtain ⟨T, hT⟩ : ∃ T : Nat, (f : Int) + (d : Int) = (T : Int) := ⟨f + d, by omega⟩
              rw [hT]
              have hT60 : T ≤ 60 := by omega
              have hfT : f ≤ T := by omega
              have hm3 : m < 3 := by omega
              have hbx2 : ((W1.setCell ⟨bx, 2, none⟩ (.int .i64 (T : Int))).drew).heap[bx]? = some (.cells #[.int .i64 (m : Int), .int .i64 (f : Int), .int .i64 (T : Int)] 47 (0, 0)) := by
                show (W1.setCell ⟨bx, 2, none⟩ (.int .i64 (T : Int))).heap[bx]? = _
                rw [block_setCell HBX.out]; rfl
              have hkp : ∀ k, k < bx → ((W1.setCell ⟨bx, 2, none⟩ (.int .i64 (T : Int))).drew).heap[k]? = wr.heap[k]? := fun k hk => (Below.heap_setCell W1 ⟨bx, 2, none⟩ _ k (by show k ≠ bx; omega)).trans (HQ0.out k hk)
              have hQ : QC w ((W1.setCell ⟨bx, 2, none⟩ (.int .i64 (T : Int))).drew) b g0 g1 g2 bx ⟨m, f, T⟩ k u10 (cs.map (Cu.sl g0 g1 g2)) k u11 (cs.flatMap Cu.cells) := by
                obtain ⟨q1, q2, q3, q4, q5⟩ := HCL.out
                have hbw1 : Below w.heap.size w W1 := by rw [← HW1.out]; exact q3.be.alloc q3.be.size _
                refine ⟨q3.same (fun j hj => hkp j (by rw [← hbxe]; exact (q3.cells hj).1)) ((hbw1.setCell (p := ⟨bx, 2, none⟩) (by show w.heap.size ≤ bx; rw [← hbxe]; exact q3.be.size) _).drew), hbx2, hbw, fun j hj e => ?_, ownsRow_same q4 (fun j hj => hkp j (by rw [← hbxe]; exact (q4.lt j hj).2)), ownsRow_same q5 (fun j hj => hkp j (by rw [← hbxe]; exact (q5.lt j hj).2))⟩
                have := (q5.lt j hj).2
                omega
              have HQ := Lib.hid hQ
              clear hkp hbx2 hQ x1 x2 x3 HQ0 HW1 HBX hT hd hz1 e6' e5 p1 p1' p3 p3' p5 p5'
              generalize (W1.setCell ⟨bx, 2, none⟩ (.int .i64 (T : Int))).drew = W2 at *
              have y0 : W2.cell? ⟨bx, 0, none⟩ = some (.int .i64 (m : Int)) := by rw [cell_of HQ.out.hx]; rfl
              have y2 : W2.cell? ⟨bx, 2, none⟩ = some (.int .i64 (T : Int)) := by rw [cell_of HQ.out.hx]; rfl
              by_cases hm2 : m = 2
              ·
                as_aux_lemma =>
                  have hm2' : (m : Int) = 2 := by omega
                  go_upto_region 23 with fail
                  have HM2 := Lib.hid hm2
                  clear hm2 hm2'
                  have S0 : CutS bx b g0 g1 g2 m f T W2.drew := ⟨HQ.out.hx, HQ.out.me.bx⟩
                  have s0 : ∀ y : WIn (CutS bx b g0 g1 g2 m f T), y.w.cell? ⟨bx, 0, none⟩ = some (.int .i64 (m : Int)) := fun y => by rw [cell_of y.h.1]; rfl
                  have s1 : ∀ y : WIn (CutS bx b g0 g1 g2 m f T), y.w.cell? ⟨bx, 1, none⟩ = some (.int .i64 (f : Int)) := fun y => by rw [cell_of y.h.1]; rfl
                  have s2 : ∀ y : WIn (CutS bx b g0 g1 g2 m f T), y.w.cell? ⟨bx, 2, none⟩ = some (.int .i64 (T : Int)) := fun y => by rw [cell_of y.h.1]; rfl
                  have s3 : ∀ y : WIn (CutS bx b g0 g1 g2 m f T), y.w.cell? ⟨b, m, none⟩ = some (.slice (some ⟨(Cu.mk m f T).g g0 g1 g2, 0, none⟩) 60 60) := fun y => y.h.pick hm3
                  haveI ne : Nonempty (WIn (CutS bx b g0 g1 g2 m f T)) := ⟨⟨W2.drew, S0⟩⟩
                  obtain ⟨gm, hgm⟩ : ∃ gm, (Cu.mk m f T).g g0 g1 g2 = gm := ⟨_, rfl⟩
                  rw [hgm] at s3
                  have HGM := Lib.hid hgm
                  clear hgm y0 y2
                  refine wp_normal ?_
                  refine wp_region_plan 18 (CutS bx b g0 g1 g2 m f T) rfl ?_
                  refine wpN_seg [0, 1, 2, 3, 4, 5, 6, 7, 8, 9, 10, 11, 14, 15] (by kernel_rfl) (by kernel_rfl) (by kernel_rfl) (by kernel_rfl) (by decide) (fun _ _ _ _ _ h => h) S0 ?_
                  simp only [pick, List.map_cons, List.map_nil, List.getElem?_cons_succ, List.getElem?_cons_zero, Option.getD_some]
                  repeat (go_big_quiet_step (fail))
                  refine wpQuiet_nil ?_
                  --@@
                  obtain ⟨UA, hU⟩ : ∃ UA, (if 60 = f then some (⟨gm, 0, none⟩ : Addr) else some ⟨gm, f, none⟩) = UA := ⟨_, rfl⟩
                  rw [hU]
                  have HU : Hid (Value.slice UA (T - f) (60 - f) = Cu.sl g0 g1 g2 ⟨m, f, T⟩) := Lib.hid (by
                    rw [← hU]
                    have hr : (Cu.mk m f T).room = 60 := if_pos HM2.out
                    unfold Cu.sl Cu.ad
                    rw [hr, HGM.out]
                    show _ = Value.slice (some (if 60 = f then ⟨gm, 0, none⟩ else ⟨gm, f, none⟩)) (T - f) (60 - f)
                    split <;> rfl)
                  have hu1 : (Value.slice UA (T - f) (60 - f)).oneCell' = true := rfl
                  have hn12 : k ≤ 100000 := by omega
                  clear hU s0 s1 s2 s3 ne S0
                  refine wpN_two 12 16 _ _ (by kernel_rfl) rfl rfl ?_ ?_
                  · have q1 := (HQ.out.alloc (.cells #[.slice UA (T - f) (60 - f)] 22)).drew
                    refine NextAt.held ?_
                    intro K hK
                    go_simp
                    refine hK _ _ ⟨(q1).hx, (q1).me.bx⟩ ?_
                    clear hK K
                    refine wpN_two 13 16 _ _ (by kernel_rfl) rfl rfl ?_ ?_
                    ·
                      as_aux_lemma =>
                        obtain ⟨g, cap, X2, hrun, q2, keep⟩ := (q1).app1 hu1 (p := W2.heap.size) (heap_alloc_new W2 (.cells #[.slice UA (T - f) (60 - f)] 22)) hn12
                        refine NextAt.held ?_
                        intro K hK
                        refine step_append_known rfl _ _ _ rfl _ _ _ (by go_simp) (by go_simp) hrun (hK _ _ ⟨q2.hx, q2.me.bx⟩ ?_)
                        clear hK K
                        refine wpN_one 16 _ (by kernel_rfl) rfl ?_
                        have q3 := q2.alloc (.cells #[.int .i64 (m : Int), .int .i64 (f : Int), .int .i64 (T : Int)] 47)
                        refine NextAt.held ?_
                        intro K hK
                        go_simp
                        refine hK _ _ ⟨(q3).hx, (q3).me.bx⟩ ?_
                        clear hK K
                        refine wpN_one 17 _ (by kernel_rfl) rfl ?_
                        obtain ⟨g', cap', X4, hrun4, me4, o4, a4, bx4⟩ := q3.app2 (p := X2.heap.size) (heap_alloc_new X2 (.cells #[.int .i64 (m : Int), .int .i64 (f : Int), .int .i64 (T : Int)] 47)) hn12
                        refine NextAt.held ?_
                        intro K hK
                        refine step_append_known rfl _ _ _ rfl _ _ _ (by go_simp) (by go_simp) hrun4 (hK _ _ ⟨bx4.trans q3.hx, me4.bx⟩ ?_)
                        clear hK K
                        refine wpN_one 18 _ (by kernel_rfl) rfl ?_
                        refine NextAt.free (by kernel_rfl) ?_
                        intro K hK
                        go_simp
                        refine hK _ _ ?_
                        clear hK K
                        refine wpN_one 19 _ (by kernel_rfl) rfl ?_
                        refine NextAt.free (by kernel_rfl) ?_
                        intro K hK
                        go_simp
                        refine hK _ _ ?_
                        clear hK K
                        refine wpN_done (by kernel_rfl) ?_
                        have FIN : Hid (CL w X4 b g0 g1 g2 (k + 1) (.slice (some ⟨g, 0, none⟩) (k + 1) cap) (.slice (some ⟨g', 0, none⟩) (k + 1) cap') (cs ++ [⟨m, f, T⟩])) := Lib.hid ⟨by rw [List.length_append, HCL.out.len]; rfl, fun c hc => by
                          rcases List.mem_append.1 hc with hc | hc
                          · exact HCL.out.bd c hc
                          · obtain rfl := List.mem_singleton.1 hc
                            exact ⟨by show m ≤ 2; omega, hfT, hT60⟩, me4, by rw [List.map_append, List.map_singleton, ← HU.out]; exact o4, by rw [List.flatMap_append, List.flatMap_singleton]; exact a4⟩
                        clear me4 o4 a4 bx4 hrun hrun4 q1 q2 q3 keep
                        go_wp2_with fail
                        go_roundw
                        case rel => exact ⟨k + 1, _, by omega, by go_num, FIN.out⟩
                        case measure => simp [intOf]; omega
                    ·
                      as_aux_lemma =>
                        have qq := ((HQ.out.alloc (.cells #[.slice UA (T - f) (60 - f)] 22)).alloc (.cells #[.int .i64 (m : Int), .int .i64 (f : Int), .int .i64 (T : Int)] 47)).drew
                        refine NextAt.held ?_
                        intro K hK
                        go_simp
                        refine hK _ _ ⟨(qq).hx, (qq).me.bx⟩ ?_
                        clear hK K
                        refine wpN_one 13 _ (by kernel_rfl) rfl ?_
                        obtain ⟨g, cap, X2, hrun, q2, keep⟩ := (qq).app1 hu1 (p := W2.heap.size) ((heap_alloc_old (W2.alloc (.cells #[.slice UA (T - f) (60 - f)] 22)) (.cells #[.int .i64 (m : Int), .int .i64 (f : Int), .int .i64 (T : Int)] 47) (by simp)).trans (heap_alloc_new W2 (.cells #[.slice UA (T - f) (60 - f)] 22))) hn12
                        refine NextAt.held ?_
                        intro K hK
                        refine step_append_known rfl _ _ _ rfl _ _ _ (by go_simp) (by go_simp) hrun (hK _ _ ⟨q2.hx, q2.me.bx⟩ ?_)
                        clear hK K
                        have q3 := q2
                        refine wpN_one 17 _ (by kernel_rfl) rfl ?_
                        obtain ⟨g', cap', X4, hrun4, me4, o4, a4, bx4⟩ := q3.app2 (p := W2.heap.size + 1) (keep (W2.heap.size + 1) _ _ (by have e : (W2.alloc (.cells #[.slice UA (T - f) (60 - f)] 22)).heap.size = W2.heap.size + 1 := (by simp); rw [← e]; exact heap_alloc_new (W2.alloc (.cells #[.slice UA (T - f) (60 - f)] 22)) (.cells #[.int .i64 (m : Int), .int .i64 (f : Int), .int .i64 (T : Int)] 47)) (by decide)) hn12
                        refine NextAt.held ?_
                        intro K hK
                        refine step_append_known rfl _ _ _ rfl _ _ _ (by go_simp) (by go_simp) hrun4 (hK _ _ ⟨bx4.trans q3.hx, me4.bx⟩ ?_)
                        clear hK K
                        refine wpN_one 18 _ (by kernel_rfl) rfl ?_
                        refine NextAt.free (by kernel_rfl) ?_
                        intro K hK
                        go_simp
                        refine hK _ _ ?_
                        clear hK K
                        refine wpN_one 19 _ (by kernel_rfl) rfl ?_
                        refine NextAt.free (by kernel_rfl) ?_
                        intro K hK
                        go_simp
                        refine hK _ _ ?_
                        clear hK K
                        refine wpN_done (by kernel_rfl) ?_
                        have FIN : Hid (CL w X4 b g0 g1 g2 (k + 1) (.slice (some ⟨g, 0, none⟩) (k + 1) cap) (.slice (some ⟨g', 0, none⟩) (k + 1) cap') (cs ++ [⟨m, f, T⟩])) := Lib.hid ⟨by rw [List.length_append, HCL.out.len]; rfl, fun c hc => by
                          rcases List.mem_append.1 hc with hc | hc
                          · exact HCL.out.bd c hc
                          · obtain rfl := List.mem_singleton.1 hc
                            exact ⟨by show m ≤ 2; omega, hfT, hT60⟩, me4, by rw [List.map_append, List.map_singleton, ← HU.out]; exact o4, by rw [List.flatMap_append, List.flatMap_singleton]; exact a4⟩
                        clear me4 o4 a4 bx4 hrun hrun4 q1 q2 q3 keep qq
                        go_wp2_with fail
                        go_roundw
                        case rel => exact ⟨k + 1, _, by omega, by go_num, FIN.out⟩
                        case measure => simp [intOf]; omega
                  ·
                    as_aux_lemma =>
                      have q1 := (HQ.out.alloc (.cells #[.int .i64 (m : Int), .int .i64 (f : Int), .int .i64 (T : Int)] 47)).drew
                      refine NextAt.held ?_
                      intro K hK
                      go_simp
                      refine hK _ _ ⟨(q1).hx, (q1).me.bx⟩ ?_
                      clear hK K
                      have qq := ((HQ.out.alloc (.cells #[.int .i64 (m : Int), .int .i64 (f : Int), .int .i64 (T : Int)] 47)).alloc (.cells #[.slice UA (T - f) (60 - f)] 22)).drew
                      refine wpN_one 12 _ (by kernel_rfl) rfl ?_
                      refine NextAt.held ?_
                      intro K hK
                      go_simp
                      refine hK _ _ ⟨(qq).hx, (qq).me.bx⟩ ?_
                      clear hK K
                      refine wpN_one 13 _ (by kernel_rfl) rfl ?_
                      obtain ⟨g, cap, X2, hrun, q2, keep⟩ := (qq).app1 hu1 (p := W2.heap.size + 1) ((by have e : (W2.alloc (.cells #[.int .i64 (m : Int), .int .i64 (f : Int), .int .i64 (T : Int)] 47)).heap.size = W2.heap.size + 1 := (by simp); rw [← e]; exact heap_alloc_new (W2.alloc (.cells #[.int .i64 (m : Int), .int .i64 (f : Int), .int .i64 (T : Int)] 47)) (.cells #[.slice UA (T - f) (60 - f)] 22))) hn12
                      refine NextAt.held ?_
                      intro K hK
                      refine step_append_known rfl _ _ _ rfl _ _ _ (by go_simp) (by go_simp) hrun (hK _ _ ⟨q2.hx, q2.me.bx⟩ ?_)
                      clear hK K
                      have q3 := q2
                      refine wpN_one 17 _ (by kernel_rfl) rfl ?_
                      obtain ⟨g', cap', X4, hrun4, me4, o4, a4, bx4⟩ := q3.app2 (p := W2.heap.size) (keep W2.heap.size _ _ ((heap_alloc_old (W2.alloc (.cells #[.int .i64 (m : Int), .int .i64 (f : Int), .int .i64 (T : Int)] 47)) (.cells #[.slice UA (T - f) (60 - f)] 22) (by simp)).trans (heap_alloc_new W2 (.cells #[.int .i64 (m : Int), .int .i64 (f : Int), .int .i64 (T : Int)] 47))) (by decide)) hn12
                      refine NextAt.held ?_
                      intro K hK
                      refine step_append_known rfl _ _ _ rfl _ _ _ (by go_simp) (by go_simp) hrun4 (hK _ _ ⟨bx4.trans q3.hx, me4.bx⟩ ?_)
                      clear hK K
                      refine wpN_one 18 _ (by kernel_rfl) rfl ?_
                      refine NextAt.free (by kernel_rfl) ?_
                      intro K hK
                      go_simp
                      refine hK _ _ ?_
                      clear hK K
                      refine wpN_one 19 _ (by kernel_rfl) rfl ?_
                      refine NextAt.free (by kernel_rfl) ?_
                      intro K hK
                      go_simp
                      refine hK _ _ ?_
                      clear hK K
                      refine wpN_done (by kernel_rfl) ?_
                      have FIN : Hid (CL w X4 b g0 g1 g2 (k + 1) (.slice (some ⟨g, 0, none⟩) (k + 1) cap) (.slice (some ⟨g', 0, none⟩) (k + 1) cap') (cs ++ [⟨m, f, T⟩])) := Lib.hid ⟨by rw [List.length_append, HCL.out.len]; rfl, fun c hc => by
                        rcases List.mem_append.1 hc with hc | hc
                        · exact HCL.out.bd c hc
                        · obtain rfl := List.mem_singleton.1 hc
                          exact ⟨by show m ≤ 2; omega, hfT, hT60⟩, me4, by rw [List.map_append, List.map_singleton, ← HU.out]; exact o4, by rw [List.flatMap_append, List.flatMap_singleton]; exact a4⟩
                      clear me4 o4 a4 bx4 hrun hrun4 q1 q2 q3 keep qq
                      go_wp2_with fail
                      go_roundw
                      case rel => exact ⟨k + 1, _, by omega, by go_num, FIN.out⟩
                      case measure => simp [intOf]; omega
                  --@@
              ·
                as_aux_lemma =>
                  have hm2' : ¬ (m : Int) = 2 := by omega
                  go_upto_region 23 with fail
                  have HM2 := Lib.hid hm2
                  clear hm2 hm2'
                  have S0 : CutS bx b g0 g1 g2 m f T W2.drew := ⟨HQ.out.hx, HQ.out.me.bx⟩
                  have s0 : ∀ y : WIn (CutS bx b g0 g1 g2 m f T), y.w.cell? ⟨bx, 0, none⟩ = some (.int .i64 (m : Int)) := fun y => by rw [cell_of y.h.1]; rfl
                  have s1 : ∀ y : WIn (CutS bx b g0 g1 g2 m f T), y.w.cell? ⟨bx, 1, none⟩ = some (.int .i64 (f : Int)) := fun y => by rw [cell_of y.h.1]; rfl
                  have s2 : ∀ y : WIn (CutS bx b g0 g1 g2 m f T), y.w.cell? ⟨bx, 2, none⟩ = some (.int .i64 (T : Int)) := fun y => by rw [cell_of y.h.1]; rfl
                  have s3 : ∀ y : WIn (CutS bx b g0 g1 g2 m f T), y.w.cell? ⟨b, m, none⟩ = some (.slice (some ⟨(Cu.mk m f T).g g0 g1 g2, 0, none⟩) 60 60) := fun y => y.h.pick hm3
                  haveI ne : Nonempty (WIn (CutS bx b g0 g1 g2 m f T)) := ⟨⟨W2.drew, S0⟩⟩
                  obtain ⟨gm, hgm⟩ : ∃ gm, (Cu.mk m f T).g g0 g1 g2 = gm := ⟨_, rfl⟩
                  rw [hgm] at s3
                  have HGM := Lib.hid hgm
                  clear hgm y0 y2
                  refine wp_normal ?_
                  refine wp_region_plan 18 (CutS bx b g0 g1 g2 m f T) rfl ?_
                  refine wpN_seg [0, 1, 2, 3, 4, 5, 6, 7, 8, 9, 10, 11, 14, 15] (by kernel_rfl) (by kernel_rfl) (by kernel_rfl) (by kernel_rfl) (by decide) (fun _ _ _ _ _ h => h) S0 ?_
                  simp only [pick, List.map_cons, List.map_nil, List.getElem?_cons_succ, List.getElem?_cons_zero, Option.getD_some]
                  repeat (go_big_quiet_step (fail))
                  refine wpQuiet_nil ?_
                  --@@
                  obtain ⟨UA, hU⟩ : ∃ UA, (if T = f then some (⟨gm, 0, none⟩ : Addr) else some ⟨gm, f, none⟩) = UA := ⟨_, rfl⟩
                  rw [hU]
                  have HU : Hid (Value.slice UA (T - f) (T - f) = Cu.sl g0 g1 g2 ⟨m, f, T⟩) := Lib.hid (by
                    rw [← hU]
                    have hr : (Cu.mk m f T).room = T := if_neg HM2.out
                    unfold Cu.sl Cu.ad
                    rw [hr, HGM.out]
                    show _ = Value.slice (some (if T = f then ⟨gm, 0, none⟩ else ⟨gm, f, none⟩)) (T - f) (T - f)
                    split <;> rfl)
                  have hu1 : (Value.slice UA (T - f) (T - f)).oneCell' = true := rfl
                  have hn12 : k ≤ 100000 := by omega
                  clear hU s0 s1 s2 s3 ne S0
                  refine wpN_two 12 16 _ _ (by kernel_rfl) rfl rfl ?_ ?_
                  · have q1 := (HQ.out.alloc (.cells #[.slice UA (T - f) (T - f)] 22)).drew
                    refine NextAt.held ?_
                    intro K hK
                    go_simp
                    refine hK _ _ ⟨(q1).hx, (q1).me.bx⟩ ?_
                    clear hK K
                    refine wpN_two 13 16 _ _ (by kernel_rfl) rfl rfl ?_ ?_
                    ·
                      as_aux_lemma =>
                        obtain ⟨g, cap, X2, hrun, q2, keep⟩ := (q1).app1 hu1 (p := W2.heap.size) (heap_alloc_new W2 (.cells #[.slice UA (T - f) (T - f)] 22)) hn12
                        refine NextAt.held ?_
                        intro K hK
                        refine step_append_known rfl _ _ _ rfl _ _ _ (by go_simp) (by go_simp) hrun (hK _ _ ⟨q2.hx, q2.me.bx⟩ ?_)
                        clear hK K
                        refine wpN_one 16 _ (by kernel_rfl) rfl ?_
                        have q3 := q2.alloc (.cells #[.int .i64 (m : Int), .int .i64 (f : Int), .int .i64 (T : Int)] 47)
                        refine NextAt.held ?_
                        intro K hK
                        go_simp
                        refine hK _ _ ⟨(q3).hx, (q3).me.bx⟩ ?_
                        clear hK K
                        refine wpN_one 17 _ (by kernel_rfl) rfl ?_
                        obtain ⟨g', cap', X4, hrun4, me4, o4, a4, bx4⟩ := q3.app2 (p := X2.heap.size) (heap_alloc_new X2 (.cells #[.int .i64 (m : Int), .int .i64 (f : Int), .int .i64 (T : Int)] 47)) hn12
                        refine NextAt.held ?_
                        intro K hK
                        refine step_append_known rfl _ _ _ rfl _ _ _ (by go_simp) (by go_simp) hrun4 (hK _ _ ⟨bx4.trans q3.hx, me4.bx⟩ ?_)
                        clear hK K
                        refine wpN_one 18 _ (by kernel_rfl) rfl ?_
                        refine NextAt.free (by kernel_rfl) ?_
                        intro K hK
                        go_simp
                        refine hK _ _ ?_
                        clear hK K
                        refine wpN_one 19 _ (by kernel_rfl) rfl ?_
                        refine NextAt.free (by kernel_rfl) ?_
                        intro K hK
                        go_simp
                        refine hK _ _ ?_
                        clear hK K
                        refine wpN_done (by kernel_rfl) ?_
                        have FIN : Hid (CL w X4 b g0 g1 g2 (k + 1) (.slice (some ⟨g, 0, none⟩) (k + 1) cap) (.slice (some ⟨g', 0, none⟩) (k + 1) cap') (cs ++ [⟨m, f, T⟩])) := Lib.hid ⟨by rw [List.length_append, HCL.out.len]; rfl, fun c hc => by
                          rcases List.mem_append.1 hc with hc | hc
                          · exact HCL.out.bd c hc
                          · obtain rfl := List.mem_singleton.1 hc
                            exact ⟨by show m ≤ 2; omega, hfT, hT60⟩, me4, by rw [List.map_append, List.map_singleton, ← HU.out]; exact o4, by rw [List.flatMap_append, List.flatMap_singleton]; exact a4⟩
                        clear me4 o4 a4 bx4 hrun hrun4 q1 q2 q3 keep
                        go_wp2_with fail
                        go_roundw
                        case rel => exact ⟨k + 1, _, by omega, by go_num, FIN.out⟩
                        case measure => simp [intOf]; omega
                    ·
                      as_aux_lemma =>
                        have qq := ((HQ.out.alloc (.cells #[.slice UA (T - f) (T - f)] 22)).alloc (.cells #[.int .i64 (m : Int), .int .i64 (f : Int), .int .i64 (T : Int)] 47)).drew
                        refine NextAt.held ?_
                        intro K hK
                        go_simp
                        refine hK _ _ ⟨(qq).hx, (qq).me.bx⟩ ?_
                        clear hK K
                        refine wpN_one 13 _ (by kernel_rfl) rfl ?_
                        obtain ⟨g, cap, X2, hrun, q2, keep⟩ := (qq).app1 hu1 (p := W2.heap.size) ((heap_alloc_old (W2.alloc (.cells #[.slice UA (T - f) (T - f)] 22)) (.cells #[.int .i64 (m : Int), .int .i64 (f : Int), .int .i64 (T : Int)] 47) (by simp)).trans (heap_alloc_new W2 (.cells #[.slice UA (T - f) (T - f)] 22))) hn12
                        refine NextAt.held ?_
                        intro K hK
                        refine step_append_known rfl _ _ _ rfl _ _ _ (by go_simp) (by go_simp) hrun (hK _ _ ⟨q2.hx, q2.me.bx⟩ ?_)
                        clear hK K
                        have q3 := q2
                        refine wpN_one 17 _ (by kernel_rfl) rfl ?_
                        obtain ⟨g', cap', X4, hrun4, me4, o4, a4, bx4⟩ := q3.app2 (p := W2.heap.size + 1) (keep (W2.heap.size + 1) _ _ (by have e : (W2.alloc (.cells #[.slice UA (T - f) (T - f)] 22)).heap.size = W2.heap.size + 1 := (by simp); rw [← e]; exact heap_alloc_new (W2.alloc (.cells #[.slice UA (T - f) (T - f)] 22)) (.cells #[.int .i64 (m : Int), .int .i64 (f : Int), .int .i64 (T : Int)] 47)) (by decide)) hn12
                        refine NextAt.held ?_
                        intro K hK
                        refine step_append_known rfl _ _ _ rfl _ _ _ (by go_simp) (by go_simp) hrun4 (hK _ _ ⟨bx4.trans q3.hx, me4.bx⟩ ?_)
                        clear hK K
                        refine wpN_one 18 _ (by kernel_rfl) rfl ?_
                        refine NextAt.free (by kernel_rfl) ?_
                        intro K hK
                        go_simp
                        refine hK _ _ ?_
                        clear hK K
                        refine wpN_one 19 _ (by kernel_rfl) rfl ?_
                        refine NextAt.free (by kernel_rfl) ?_
                        intro K hK
                        go_simp
                        refine hK _ _ ?_
                        clear hK K
                        refine wpN_done (by kernel_rfl) ?_
                        have FIN : Hid (CL w X4 b g0 g1 g2 (k + 1) (.slice (some ⟨g, 0, none⟩) (k + 1) cap) (.slice (some ⟨g', 0, none⟩) (k + 1) cap') (cs ++ [⟨m, f, T⟩])) := Lib.hid ⟨by rw [List.length_append, HCL.out.len]; rfl, fun c hc => by
                          rcases List.mem_append.1 hc with hc | hc
                          · exact HCL.out.bd c hc
                          · obtain rfl := List.mem_singleton.1 hc
                            exact ⟨by show m ≤ 2; omega, hfT, hT60⟩, me4, by rw [List.map_append, List.map_singleton, ← HU.out]; exact o4, by rw [List.flatMap_append, List.flatMap_singleton]; exact a4⟩
                        clear me4 o4 a4 bx4 hrun hrun4 q1 q2 q3 keep qq
                        go_wp2_with fail
                        go_roundw
                        case rel => exact ⟨k + 1, _, by omega, by go_num, FIN.out⟩
                        case measure => simp [intOf]; omega
                  ·
                    as_aux_lemma =>
                      have q1 := (HQ.out.alloc (.cells #[.int .i64 (m : Int), .int .i64 (f : Int), .int .i64 (T : Int)] 47)).drew
                      refine NextAt.held ?_
                      intro K hK
                      go_simp
                      refine hK _ _ ⟨(q1).hx, (q1).me.bx⟩ ?_
                      clear hK K
                      have qq := ((HQ.out.alloc (.cells #[.int .i64 (m : Int), .int .i64 (f : Int), .int .i64 (T : Int)] 47)).alloc (.cells #[.slice UA (T - f) (T - f)] 22)).drew
                      refine wpN_one 12 _ (by kernel_rfl) rfl ?_
                      refine NextAt.held ?_
                      intro K hK
                      go_simp
                      refine hK _ _ ⟨(qq).hx, (qq).me.bx⟩ ?_
                      clear hK K
                      refine wpN_one 13 _ (by kernel_rfl) rfl ?_
                      obtain ⟨g, cap, X2, hrun, q2, keep⟩ := (qq).app1 hu1 (p := W2.heap.size + 1) ((by have e : (W2.alloc (.cells #[.int .i64 (m : Int), .int .i64 (f : Int), .int .i64 (T : Int)] 47)).heap.size = W2.heap.size + 1 := (by simp); rw [← e]; exact heap_alloc_new (W2.alloc (.cells #[.int .i64 (m : Int), .int .i64 (f : Int), .int .i64 (T : Int)] 47)) (.cells #[.slice UA (T - f) (T - f)] 22))) hn12
                      refine NextAt.held ?_
                      intro K hK
                      refine step_append_known rfl _ _ _ rfl _ _ _ (by go_simp) (by go_simp) hrun (hK _ _ ⟨q2.hx, q2.me.bx⟩ ?_)
                      clear hK K
                      have q3 := q2
                      refine wpN_one 17 _ (by kernel_rfl) rfl ?_
                      obtain ⟨g', cap', X4, hrun4, me4, o4, a4, bx4⟩ := q3.app2 (p := W2.heap.size) (keep W2.heap.size _ _ ((heap_alloc_old (W2.alloc (.cells #[.int .i64 (m : Int), .int .i64 (f : Int), .int .i64 (T : Int)] 47)) (.cells #[.slice UA (T - f) (T - f)] 22) (by simp)).trans (heap_alloc_new W2 (.cells #[.int .i64 (m : Int), .int .i64 (f : Int), .int .i64 (T : Int)] 47))) (by decide)) hn12
                      refine NextAt.held ?_
                      intro K hK
                      refine step_append_known rfl _ _ _ rfl _ _ _ (by go_simp) (by go_simp) hrun4 (hK _ _ ⟨bx4.trans q3.hx, me4.bx⟩ ?_)
                      clear hK K
                      refine wpN_one 18 _ (by kernel_rfl) rfl ?_
                      refine NextAt.free (by kernel_rfl) ?_
                      intro K hK
                      go_simp
                      refine hK _ _ ?_
                      clear hK K
                      refine wpN_one 19 _ (by kernel_rfl) rfl ?_
                      refine NextAt.free (by kernel_rfl) ?_
                      intro K hK
                      go_simp
                      refine hK _ _ ?_
                      clear hK K
                      refine wpN_done (by kernel_rfl) ?_
                      have FIN : Hid (CL w X4 b g0 g1 g2 (k + 1) (.slice (some ⟨g, 0, none⟩) (k + 1) cap) (.slice (some ⟨g', 0, none⟩) (k + 1) cap') (cs ++ [⟨m, f, T⟩])) := Lib.hid ⟨by rw [List.length_append, HCL.out.len]; rfl, fun c hc => by
                        rcases List.mem_append.1 hc with hc | hc
                        · exact HCL.out.bd c hc
                        · obtain rfl := List.mem_singleton.1 hc
                          exact ⟨by show m ≤ 2; omega, hfT, hT60⟩, me4, by rw [List.map_append, List.map_singleton, ← HU.out]; exact o4, by rw [List.flatMap_append, List.flatMap_singleton]; exact a4⟩
                      clear me4 o4 a4 bx4 hrun hrun4 q1 q2 q3 keep qq
                      go_wp2_with fail
                      go_roundw
                      case rel => exact ⟨k + 1, _, by omega, by go_num, FIN.out⟩
                      case measure => simp [intOf]; omega
                  --@@
            · obtain rfl : k = K := by omega
              clear hlt hk hcl0
              go_wp2_with fail
              go_ret2
              exact ⟨b, g0, g1, g2, cs, _, _, rfl, by rw [HCL.out.len]; exact hK12, hbw, by rw [HCL.out.len]; exact HCL.out⟩

end Go.Proofs.Ytclpkmplifcfjaa
