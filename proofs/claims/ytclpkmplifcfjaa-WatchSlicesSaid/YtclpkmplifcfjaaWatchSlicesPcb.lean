/-
  DiffOf: what it gives. Conditions: the slices lie in rows, and are not too long.
-/
import Derived.Test.YtclpkmplifcfjaaWatchSlicesPbi
namespace Go.Proofs.Ytclpkmplifcfjaa
open Go.RowKit Go.Shelf
set_option linter.unusedVariables false

def DiffOfPost (x y : Wn) (M : Nat → Nat → Int) (w : World) : Ending → World → Prop := fun e w' => Below w.heap.size w w' ∧
  ∃ v, e = .returned v ∧ w'.ownsRow w.heap.size 54 2 v (diffL (eqAt x y M) (max x.n y.n)).length (spCells (diffL (eqAt x y M) (max x.n y.n)))

set_option maxHeartbeats 2000000 in
set_option maxRecDepth 100000 in
theorem diffOfX_any (x y : Wn) (a b : Option Addr) (M : Nat → Nat → Int) (len : Nat → Nat) (D : Nat → Prop) (w : World) (h : MemF w M len D) (hx : WnOk len D x a) (hy : WnOk len D y b) (hbx1 : x.n ≤ 2000) (hbx2 : y.n ≤ 2000) :
    Calls Try.prog 17 #[x.val a, y.val b] w (DiffOfPost x y M w) := by
  obtain ⟨i0, hi0, hz0, hz1, hz2⟩ := info_parts infoSpan
  have HM := Lib.hid h
  have HX := Lib.hid hx
  have HY := Lib.hid hy
  clear h hx hy
  unfold Wn.val at *
  go_enter Try.func17, Try.ntmps17
  go_upto_region 2 with fail
  go_cut [12, 13] (fun s t wx => s = .int .i64 ((max x.n y.n : Nat) : Int) ∧ t = .int .i64 0 ∧ wx = w)
  case first =>
    go_wp2_with fail
    all_goals
      go_meet
      exact ⟨congrArg _ (by omega), rfl, rfl⟩
  case rest =>
    obtain ⟨rfl, rfl, hwc⟩ := hcut
    obtain ⟨N, hN⟩ : ∃ N, max x.n y.n = N := ⟨_, rfl⟩
    have HN := Lib.hid hN
    have hN2 : N ≤ 2000 := by omega
    have hN3 : x.n ≤ N ∧ y.n ≤ N := by omega
    rw [hN]
    rw [hwc]
    clear hN hwc
    go_wp2_with fail
    go_loopw [5, 13] (fun ov i wr => ∃ k : Nat, k ≤ N ∧ i = .int .i64 k ∧ wr.ownsRow w.heap.size 54 2 ov (diffL (eqAt x y M) k).length (spCells (diffL (eqAt x y M) k)) ∧ Below w.heap.size w wr) (fun _ i _ => N - (intOf i).toNat)
    case atStart => exact ⟨0, Nat.zero_le _, rfl, World.ownsRow_nil _ _ _ _, Below.refl _ _⟩
    case round =>
      obtain ⟨k, hk, rfl, hrow, hb⟩ := hrel
      have HROW := Lib.hid hrow
      have BL := Lib.hid hb
      have hsz := hb.size
      have DS := Lib.hid (diffL_succ (eqAt x y M) k)
      have hdl := diffL_len (eqAt x y M) k
      generalize hsp : diffL (eqAt x y M) k = sp at *
      have HSP := Lib.hid hsp
      clear hsp
      by_cases hlt : k < N
      · go_upto_region 5 with fail
        go_cut [36] from 16 to 36 (fun t wx => t = .bool (eqAt x y M k) ∧ ∃ q, wx = wr.drewN q)
        case first =>
          have MW : MemF wr M len D := HM.out.below (BL.out.mono (Nat.le_refl _))
          have E0 := Lib.hid (show eqAt x y M k = (decide (k < x.n) && (decide (k < y.n) && decide (M x.g (x.o + k) = M y.g (y.o + k)))) from rfl)
          by_cases h1 : k < x.n
          · obtain ⟨rfl, dx, lx⟩ := HX.out.2.2 (by omega)
            have cx := (MW x.g dx).cell (x.o + k) (by omega)
            have d1 : decide ((k : Int) < (x.n : Int)) = true := by simpa using h1
            by_cases h2 : k < y.n
            · obtain ⟨rfl, dy, ly⟩ := HY.out.2.2 (by omega)
              have cy := (MW y.g dy).cell (y.o + k) (by omega)
              have d2 : decide ((k : Int) < (y.n : Int)) = true := by simpa using h2
              obtain ⟨mx, hmx⟩ : ∃ m, M x.g (x.o + k) = m := ⟨_, rfl⟩
              obtain ⟨my, hmy⟩ : ∃ m, M y.g (y.o + k) = m := ⟨_, rfl⟩
              rw [hmx] at cx
              rw [hmy] at cy
              have HMX := Lib.hid hmx
              have HMY := Lib.hid hmy
              have hk63 : (k : Int) < 9223372036854775807 := by omega
              clear hmx hmy hrow hb
              by_cases h3 : mx = my
              · subst h3
                go_quiet (fail)
                try go_wp2_with fail
                go_meet
                exact ⟨by rw [E0.out, HMX.out, HMY.out]; simp [h1, h2], _, rfl⟩
              · have d3 : decide (mx = my) = false := by simpa using h3
                go_quiet (fail)
                try go_wp2_with fail
                go_meet
                exact ⟨by rw [E0.out, HMX.out, HMY.out]; simp [h1, h2, h3], _, rfl⟩
            · have d2 : decide ((k : Int) < (y.n : Int)) = false := by simpa using h2
              go_quiet (fail)
              try go_wp2_with fail
              go_meet
              exact ⟨by rw [E0.out]; simp [h1, h2], _, rfl⟩
          · have d1 : decide ((k : Int) < (x.n : Int)) = false := by simpa using h1
            go_quiet (fail)
            try go_wp2_with fail
            go_meet
            exact ⟨by rw [E0.out]; simp [h1], _, rfl⟩
        case rest =>
          obtain ⟨hc1, q, hc2⟩ := hcut
          have BQ := Lib.hid (bdrewN BL.out q)
          have RQ := Lib.hid (show (wr.drewN q).ownsRow w.heap.size 54 2 u5 sp.length (spCells sp) from HROW.out)
          have DS2 := Lib.hid (show diffL (eqAt x y M) (k + 1) = diffStep (eqAt x y M) sp k from DS.out)
          obtain ⟨E, hE⟩ : ∃ E, eqAt x y M k = E := ⟨_, rfl⟩
          have HE2 := Lib.hid hE
          rw [hE] at hc1
          generalize wr.drewN q = wq at *
          subst hc1 hc2
          clear hE hrow hb
          have hk63 : (k : Int) < 9223372036854775807 := by omega
          cases E with
          | true =>
            have FIN := Lib.hid (show wc.ownsRow w.heap.size 54 2 u5 (diffL (eqAt x y M) (k + 1)).length (spCells (diffL (eqAt x y M) (k + 1))) by
              rw [DS2.out]
              unfold diffStep
              rw [if_pos HE2.out]
              exact RQ.out)
            go_wp2_with fail
            go_round
            case rel => exact ⟨k + 1, by omega, by go_num, FIN.out, BQ.out⟩
            case measure => simp [intOf]; omega
          | false =>
            rcases List.eq_nil_or_concat sp with h0 | ⟨sp', ⟨p, t⟩, h0⟩
            · subst h0
              obtain ⟨ra, rc, hu⟩ := wrow_sh RQ.out
              subst hu
              have hbs := BQ.out.size
              have FIN : Hid (∀ (v' : Value) (w' : World), w'.ownsRow w.heap.size 54 2 v' (0 + 1) (spCells [] ++ [.int .i64 k, .int .i64 ((k : Int) + 1)]) → w'.ownsRow w.heap.size 54 2 v' (diffL (eqAt x y M) (k + 1)).length (spCells (diffL (eqAt x y M) (k + 1)))) := Lib.hid (fun v' w' h => by
                rw [DS2.out]
                unfold diffStep
                rw [if_neg (by rw [HE2.out]; decide)]
                exact h)
              go_wp2_with (at_builtin; go_must (refine wpList_append_w rfl (.tmp 57) (.tmp 62) 28 rfl w.heap.size 54 i0 (.agg #[.int .i64 0, .int .i64 0]) 2 16 Try.underlying28 hi0 hz0 hz1 hz2 rfl (by decide) _ _ _ wc _ [.int .i64 k, .int .i64 ((k : Int) + 1)] rfl (by exact RQ.out) (by rfl) rfl (by intro u hu; simp at hu; rcases hu with rfl | rfl <;> rfl) (by unfold maxLen; simp) (by simp) (by omega) ?_))
              intro v' w' hown' _ hb'
              have FIN2 := Lib.hid (FIN.out v' w' hown')
              have B2 := Lib.hid (BQ.out.trans hb')
              clear hown' hb'
              go_wp2_with fail
              go_round
              case rel => exact ⟨k + 1, by omega, by go_num, FIN2.out, B2.out⟩
              case measure => simp [intOf]; omega
            · rw [List.concat_eq_append] at h0
              subst h0
              obtain ⟨m, hm⟩ : ∃ m, sp'.length = m := ⟨_, rfl⟩
              have hlen : (sp' ++ [(p, t)]).length = m + 1 := by simp [hm]
              rw [hlen] at hdl
              have R1 : wc.ownsRow w.heap.size 54 2 u5 (m + 1) (spCells (sp' ++ [(p, t)])) := hlen ▸ RQ.out
              obtain ⟨ra, rc, hu⟩ := wrow_sh R1
              subst hu
              have hcl : (spCells sp').length = m * 2 := by rw [spCells_len, hm]
              have hget : (spCells (sp' ++ [(p, t)]))[m * 2 + 1]? = some (.int .i64 t) := by
                rw [spCells_app, List.getElem?_append_right (by omega), hcl, show m * 2 + 1 - m * 2 = 1 by omega]
                rfl
              obtain ⟨g, hg, ct, ft⟩ := wrow_cell R1 hget
              subst hg
              have R2 := Lib.hid R1
              have HM2 := Lib.hid (And.intro hlen hcl)
              have hbs := BQ.out.size
              have e1 : ((m : Int) + 1 - 1).toNat = m := by omega
              have e2 : ((m + 1 : Nat) : Int) = (m : Int) + 1 := by omega
              have hm63 : (m : Int) + 1 < 9223372036854775807 := by omega
              clear RQ R1 hget hlen hcl hm
              by_cases ht : t = k
              · subst ht
                have FIN := Lib.hid (show (wc.setCell ⟨g, m * 2 + 1, none⟩ (.int .i64 ((t : Int) + 1))).ownsRow w.heap.size 54 2 (.slice (some ⟨g, 0, none⟩) (m + 1) rc) (diffL (eqAt x y M) (t + 1)).length (spCells (diffL (eqAt x y M) (t + 1))) by
                  have e : diffL (eqAt x y M) (t + 1) = sp' ++ [(p, t + 1)] := by
                    rw [DS2.out]
                    unfold diffStep
                    rw [if_neg (by rw [HE2.out]; decide)]
                    simp
                  have h1 := wrow_set R2.out (m * 2 + 1) (.int .i64 ((t : Int) + 1))
                  have hl : (sp' ++ [(p, t + 1)]).length = m + 1 := by simpa using HM2.out.1
                  have h2 : (spCells (sp' ++ [(p, t)])).set (m * 2 + 1) (.int .i64 ((t : Int) + 1)) = spCells (sp' ++ [(p, t + 1)]) := by
                    rw [spCells_app, spCells_app, List.set_append_right _ _ (by have := HM2.out.2; omega), HM2.out.2, show m * 2 + 1 - m * 2 = 1 by omega]
                    rfl
                  rw [h2] at h1
                  rw [e, hl]
                  exact h1)
                have B2 := Lib.hid (show Below w.heap.size w (wc.setCell ⟨g, m * 2 + 1, none⟩ (.int .i64 ((t : Int) + 1))) from BQ.out.setCell (p := ⟨g, m * 2 + 1, none⟩) (R2.out.lt g rfl).1 _)
                go_wp2_with fail
                exact ⟨⟨t + 1, by omega, by go_num, FIN.out, B2.out⟩, by simp [intOf]; omega⟩
              · have FIN : Hid (∀ (v' : Value) (w' : World), w'.ownsRow w.heap.size 54 2 v' (m + 1 + 1) (spCells (sp' ++ [(p, t)]) ++ [.int .i64 k, .int .i64 ((k : Int) + 1)]) → w'.ownsRow w.heap.size 54 2 v' (diffL (eqAt x y M) (k + 1)).length (spCells (diffL (eqAt x y M) (k + 1)))) := Lib.hid (fun v' w' h => by
                  have e : diffL (eqAt x y M) (k + 1) = (sp' ++ [(p, t)]) ++ [(k, k + 1)] := by
                    rw [DS2.out]
                    unfold diffStep
                    rw [if_neg (by rw [HE2.out]; decide)]
                    simp [ht]
                  rw [e, spCells_app, List.length_append, HM2.out.1]
                  exact h)
                have d3 : ((t : Int) == (k : Int)) = false := beq_eq_false_iff_ne.2 (by omega)
                clear ht
                go_wp2_with (at_builtin; go_must (refine wpList_append_w rfl (.tmp 57) (.tmp 62) 28 rfl w.heap.size 54 i0 (.agg #[.int .i64 0, .int .i64 0]) 2 16 Try.underlying28 hi0 hz0 hz1 hz2 rfl (by decide) _ _ _ wc _ [.int .i64 k, .int .i64 ((k : Int) + 1)] rfl (by exact R2.out) (by rfl) rfl (by intro u hu; simp at hu; rcases hu with rfl | rfl <;> rfl) (by unfold maxLen; omega) (by omega) (by omega) ?_))
                intro v' w' hown' _ hb'
                have FIN2 := Lib.hid (FIN.out v' w' hown')
                have B2 := Lib.hid (BQ.out.trans hb')
                clear hown' hb'
                go_wp2_with fail
                go_round
                case rel => exact ⟨k + 1, by omega, by go_num, FIN2.out, B2.out⟩
                case measure => simp [intOf]; omega
      · obtain rfl : k = N := by omega
        clear hlt hk hrow hb
        go_wp2_with fail
        go_ret
        refine ⟨BL.out, _, rfl, ?_⟩
        rw [HN.out, HSP.out]
        exact HROW.out

end Go.Proofs.Ytclpkmplifcfjaa
