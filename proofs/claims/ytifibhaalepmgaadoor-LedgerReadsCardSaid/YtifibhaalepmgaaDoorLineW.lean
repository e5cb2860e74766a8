/-
  The walk of readEntry. Conditions: Go's own variables hold what their initialisers lay.
-/
import Derived.Test.YtifibhaalepmgaaDoorLine
import Derived.StillTailTactics
namespace Go.Proofs.YtifibhaalepmgaaDoor
open Go Go.RowKit
set_option linter.unusedVariables false

theorem row_other {w : World} {B e size n k t : Nat} {v : Value} {xs : List Value} {cs : Array Value} (h : w.ownsRow B e size v n xs) (hk : w.heap[k]? = some (.cells cs t (0, 0))) (hne : t ≠ e) : v.ownBlock ≠ some k := fun he => by
  obtain ⟨cur, hcur⟩ := row_blk h he
  rw [hk] at hcur
  simp only [Option.some.injEq, Obj.cells.injEq] at hcur
  exact hne hcur.2.1
theorem own_below {w w' : World} {B size n : Nat} {e : TypeId} {v : Value} {xs : List Value} (h : w.ownsRow B e size v n xs) (hb : Below w.heap.size w w') : w'.ownsRow B e size v n xs :=
  h.kept (row := none) ⟨hb.os, hb.tape, hb.output, hb.size, fun k hk _ => hb.block k hk⟩ (Classical.em _)

set_option maxHeartbeats 8000000 in
set_option maxRecDepth 100000 in
theorem readEntry_any (s : ByteArray) (w : World) (hs : s.size ≤ 1000000) (hl : LibAt w) :
    Calls Tryd.prog 44 #[.string s] w (LinePost (lineEn s.data.toList) w) := by
  obtain ⟨i0, hi0, hz0, hz1, hz2⟩ := info_parts infoInt
  have LL : Hid (∀ {w' : World}, Below w.heap.size w w' → LibAt w') := Lib.hid (fun h => hl.below h)
  have W0 : Below w.heap.size w (w.alloc (.cells #[.int .i64 0, .int .i64 0, .int .i64 0, .int .i64 0, .int .i64 0, .int .i64 0] 44)) := by go_grown
  have SP := Lib.hid (split_any s (w.alloc (.cells #[.int .i64 0, .int .i64 0, .int .i64 0, .int .i64 0, .int .i64 0, .int .i64 0] 44)) hs (LL.out W0))
  have HW0 := Lib.hid W0
  have HZ := Lib.hid hs
  clear hl hs W0
  go_enter Tryd.func44, Tryd.ntmps44
  go_wp2_with fail
  refine SP.out.mono ?_
  rintro e w1 ⟨ps, hps, hpz, B, rfl, hB, hblk, hb1⟩
  have HPS := Lib.hid hps
  have HPZ := Lib.hid hpz
  have HBL := Lib.hid hblk
  have B1 := Lib.hid (HW0.out.trans (hb1.mono (by simp)))
  have RV := Lib.hid (box_keep (w := w) (hb1.mono (by simp)))
  have hRB : w.heap.size ≠ B := by rw [World.size_alloc] at hB; omega
  have hlt := lt_of hblk
  clear hps hpz hblk hb1
  rcases ps with _ | ⟨a, r⟩
  · exact absurd HPS.out.symm (parts_ne _ _)
  have ca : w1.cell? ⟨B, 0, none⟩ = some (.string a) := by rw [cell_of HBL.out]; rfl
  have HL0 : 0 < (a :: r).length := by simp
  obtain ⟨kr1, kr2⟩ := kindE_range a
  have FE : Hid (∀ (s' : ByteArray) (W : World), s'.data.toList = kwL → Below w1.heap.size w1 W → Calls Tryd.prog 26 #[.string s'] W (fun x w2 => ∃ F, x = .returned (.slice (some ⟨F, 0, none⟩) 11 11) ∧ w2.heap[F]? = some (.cells (ewordsA.map Value.string).toArray 9 (0, 0)) ∧ w2.cell? ⟨B, 0, none⟩ = some (.string a) ∧ Below w1.heap.size w1 w2)) := Lib.hid (fun s' W hs' hW => (fieldsE_any s' hs' W (LL.out (B1.out.trans (hW.mono B1.out.size))).tabs).mono fun x w2 ⟨hx, hw2⟩ => by
    subst hw2
    exact ⟨_, hx, heap_alloc_new W _, (cell_of ((heap_alloc_old _ _ (Nat.lt_of_lt_of_le hlt hW.size)).trans ((hW.block _ hlt).trans HBL.out)) 0).trans rfl, hW.alloc hW.size _⟩)
  have IX : Hid (∀ (F : Nat) (W : World), W.heap[F]? = some (.cells (ewordsA.map Value.string).toArray 9 (0, 0)) → Calls Tryd.prog 37 #[.slice (some ⟨F, 0, none⟩) 11 11, .string a] W (fun x w2 => x = .returned (.int .i64 (kindE a - 1)) ∧ W = w2)) := Lib.hid (fun F W hF => (Tryd.slices_Index_string F 0 11 11 ewordsA a W (by decide) (by decide) (fun j hj => by
    rw [Nat.zero_add, cell_of hF, List.getD_eq_getElem?_getD, List.getElem?_eq_getElem hj]
    simp [hj])).mono fun x w2 ⟨hx, hw2⟩ => ⟨by rw [hx, show ewordsA.take 11 = ewordsA from rfl]; unfold kindE; rw [show Lib.idxOfS ewordsA a + 1 - 1 = Lib.idxOfS ewordsA a by omega], hw2.symm⟩)
  generalize hK : kindE a = K at *
  have HK := Lib.hid hK
  clear hK
  have ke : K - 1 + 1 = K := by omega
  have hwk : IntKind.i64.wrap K = K := IntWalk.i64_in _ (by omega)
  have hsz1 := B1.out.size
  go_upto_region 2 with fail
  go_cut [5] (fun s5 wx => s5 = .int .i64 K ∧ Below w1.heap.size w1 wx)
  case first =>
    go_region_with (first
      | (go_at_call 26; refine (FE.out _ _ rfl (by first | exact Below.refl _ _ | exact (Below.refl _ _).drew | go_grown)).mono ?_; rintro e w2 ⟨F, rfl, hf, hca, hfb⟩; have HF := Lib.hid hf; have HFB := Lib.hid hfb; clear hf hfb)
      | (go_at_call 37; refine (IX.out _ _ (by exact HF.out)).mono ?_; rintro e w3 ⟨rfl, rfl⟩))
    all_goals
      go_wp2_with fail
      go_meet
      exact ⟨rfl, by first | exact HFB.out | exact HFB.out.drew⟩
  case rest =>
    obtain ⟨rfl, hbx⟩ := hcut
    have BX := Lib.hid (B1.out.trans (hbx.mono hsz1))
    have PSB := Lib.hid ((hbx.block B hlt).trans HBL.out)
    have RVB := Lib.hid ((hbx.block w.heap.size (lt_of RV.out)).trans RV.out)
    have hszx := BX.out.size
    have vf : ∀ j, wc.frozen? ⟨w.heap.size, j, none⟩ = false := fun j => free_of RVB.out j
    have v0 : wc.cell? ⟨w.heap.size, 0, none⟩ = some (.int .i64 0) := (cell_of RVB.out 0).trans rfl
    have v1 : wc.cell? ⟨w.heap.size, 1, none⟩ = some (.int .i64 0) := (cell_of RVB.out 1).trans rfl
    have v2 : wc.cell? ⟨w.heap.size, 2, none⟩ = some (.int .i64 0) := (cell_of RVB.out 2).trans rfl
    have v3 : wc.cell? ⟨w.heap.size, 3, none⟩ = some (.int .i64 0) := (cell_of RVB.out 3).trans rfl
    have v4 : wc.cell? ⟨w.heap.size, 4, none⟩ = some (.int .i64 0) := (cell_of RVB.out 4).trans rfl
    have v5 : wc.cell? ⟨w.heap.size, 5, none⟩ = some (.int .i64 0) := (cell_of RVB.out 5).trans rfl
    have hps' : parts 32 s.data.toList = a.data.toList :: r.map (·.data.toList) := HPS.out.symm
    have HPA := Lib.hid hps'
    clear hbx ca hps' hwk ke
    by_cases h5 : r.length = 5
    · by_cases k1 : 1 ≤ K
      · have LN := Lib.hid (lineEn_nums HPA.out (by simpa using h5) (by rw [kindE_at, HK.out]; exact k1))
        obtain ⟨qs, hqs⟩ : ∃ qs, qs = r.map (·.data.toList) := ⟨_, rfl⟩
        rw [← hqs] at LN
        have HQS := Lib.hid hqs
        have hq5 : qs.length = 5 := by rw [hqs]; simpa using h5
        clear hqs
        have k0 : ¬ K < 1 := by omega
        obtain ⟨q0, q1, q2, q3, q4, rfl⟩ : ∃ q0 q1 q2 q3 q4, r = [q0, q1, q2, q3, q4] := by
          match r, h5 with
          | [q0, q1, q2, q3, q4], _ => exact ⟨_, _, _, _, _, rfl⟩
        have QB0 : Hid (wc.heap[B]? = some (.cells #[.string a, .string q0, .string q1, .string q2, .string q3, .string q4] 9 (0, 0))) := Lib.hid (by rw [PSB.out]; rfl)
        have QC : Hid (∀ (m : Nat) (W : World), m < 5 → W.heap[B]? = some (.cells #[.string a, .string q0, .string q1, .string q2, .string q3, .string q4] 9 (0, 0)) → ∃ q : ByteArray, W.cell? ⟨B, 1 + m, none⟩ = some (.string q) ∧ q.data.toList = qs.getD m [] ∧ q.size ≤ 1000000) := Lib.hid (fun m W hm hW => by
          have z := fun x hx => Nat.le_trans (HPZ.out x hx) HZ.out
          rw [HQS.out, cell_of hW]
          rcases (show m = 0 ∨ m = 1 ∨ m = 2 ∨ m = 3 ∨ m = 4 by omega) with rfl | rfl | rfl | rfl | rfl
          · exact ⟨q0, rfl, rfl, z q0 (by simp)⟩
          · exact ⟨q1, rfl, rfl, z q1 (by simp)⟩
          · exact ⟨q2, rfl, rfl, z q2 (by simp)⟩
          · exact ⟨q3, rfl, rfl, z q3 (by simp)⟩
          · exact ⟨q4, rfl, rfl, z q4 (by simp)⟩)
        clear v0 v1 v2 v3 v4 v5 vf
        go_wp2_with fail
        go_loopw [6, 30] (fun v i wr => ∃ (m : Nat) (acc : List Int), m ≤ 5 ∧ i = .int .i64 m ∧ acc.length = m ∧ Sofar qs m acc ∧ wr.ownsRow w.heap.size 3 1 v m (acc.map (Value.int .i64)) ∧ wr.heap[B]? = some (.cells #[.string a, .string q0, .string q1, .string q2, .string q3, .string q4] 9 (0, 0)) ∧ wr.heap[w.heap.size]? = some (.cells #[.int .i64 0, .int .i64 0, .int .i64 0, .int .i64 0, .int .i64 0, .int .i64 0] 44 (0, 0)) ∧ Below w.heap.size w wr) (fun _ i _ => 5 - (intOf i).toNat)
        case atStart => exact ⟨0, [], by omega, rfl, rfl, Sofar.zero qs, World.ownsRow_nil _ _ _ _, QB0.out, RVB.out, BX.out⟩
        case round =>
          obtain ⟨m, acc, hm, rfl, hal, hso, how, hqb, hrv, hbr⟩ := hrel
          have SO := Lib.hid hso
          have OW := Lib.hid how
          have QB := Lib.hid hqb
          have RVR := Lib.hid hrv
          have BXR := Lib.hid hbr
          clear hso how hqb hrv hbr
          by_cases hm5 : m < 5
          · obtain ⟨q, hqc, hqd, hqz⟩ := QC.out m _ hm5 QB.out
            have HQD := Lib.hid hqd
            clear hqd
            by_cases hA : ∃ v, Lib.atoiAll q.data.toList = .ok v
            · obtain ⟨v, hv⟩ := hA
              obtain ⟨bv1, bv2⟩ := Lib.atoiAll_bounds hv
              have HV := Lib.hid hv
              clear hv
              go_wp2_with fail
              refine (atoi_ok q v _ hqz HV.out).mono ?_
              rintro e w5 ⟨rfl, hb5⟩
              have QB5 := Lib.hid ((hb5.block B (lt_of QB.out)).trans QB.out)
              have RV5 := Lib.hid ((hb5.block w.heap.size (lt_of RVR.out)).trans RVR.out)
              have BX5 := Lib.hid (BXR.out.trans (hb5.mono BXR.out.size))
              have OW5 := Lib.hid (own_below OW.out hb5)
              have hs5 := BX5.out.size
              clear hb5
              by_cases h1 : Lib.itoa v = q.data.toList
              · have H1 := Lib.hid h1
                clear h1
                go_wp2_with fail
                refine (itoa_any v w5 bv1 bv2 (LL.out BX5.out).tabs).mono ?_
                rintro e w6 ⟨x, rfl, hx, _, hb6⟩
                have hxs : x = q := bytes_ext (hx.trans H1.out)
                subst hxs
                have QB := QB5
                have RVR := RV5
                have BXR := BX5
                have OW := OW5
                have QB6 := Lib.hid ((hb6.block B (lt_of QB.out)).trans QB.out)
                have RV6 := Lib.hid ((hb6.block w.heap.size (lt_of RVR.out)).trans RVR.out)
                have BX6 := Lib.hid (BXR.out.trans (hb6.mono BXR.out.size))
                have OW6 := Lib.hid (own_below OW.out hb6)
                have hs6 := BX6.out.size
                clear hb6 hx
                go_wp2_with fail
                refine (trim_any x w6).mono ?_
                rintro e w7 ⟨rfl, rfl⟩
                by_cases h2 : (trimA x).size ≤ 9
                · have PN := Lib.hid (show progNum x.data.toList = some v by unfold progNum; rw [HV.out]; have := h2; rw [trimA_size] at this; simp [H1.out, this])
                  have h9 : ((trimA x).size : Int) ≤ 9 := by omega
                  have h9' : decide (9 < ((trimA x).size : Int)) = false := by rw [decide_eq_false_iff_not]; omega
                  have hown := OW6.out
                  go_wp2_with (at_builtin; go_must (refine wpList_append_new rfl _ _ 74 rfl w.heap.size 3 i0 (.int .i64 0) 8 Tryd.underlying74 hi0 hz0 hz1 hz2 rfl _ _ _ w6 _ (.int .i64 v) rfl (by exact hown) rfl rfl (by unfold maxLen; omega) (by omega) (by omega) ?_))
                  intro v' w8 hown' hgr hb8
                  have OW8 := Lib.hid (show w8.ownsRow w.heap.size 3 1 v' (m + 1) ((acc ++ [v]).map (Value.int .i64)) by rw [List.map_append]; exact hown')
                  have QB8 := Lib.hid ((hgr.block B (lt_of QB6.out) (fun e => row_other OW6.out QB6.out (by decide) e.symm)).trans QB6.out)
                  have RV8 := Lib.hid ((hgr.block w.heap.size (lt_of RV6.out) (fun e => row_other OW6.out RV6.out (by decide) e.symm)).trans RV6.out)
                  have BX8 := Lib.hid (BX6.out.trans hb8)
                  have SO8 := Lib.hid (SO.out.step (by omega) (HQD.out ▸ PN.out))
                  clear hown' hgr hb8 hown
                  go_wp2_with fail
                  go_round
                  case rel => exact ⟨m + 1, acc ++ [v], by omega, by go_num, by simp [hal], SO8.out, OW8.out, QB8.out, RV8.out, BX8.out⟩
                  case measure => simp [intOf]; omega
                · have PN := Lib.hid (show progNum x.data.toList = none by unfold progNum; rw [HV.out]; have := h2; rw [trimA_size] at this; simp [this])
                  have h9 : 9 < ((trimA x).size : Int) := by omega
                  have h9' : decide (9 < ((trimA x).size : Int)) = true := by rw [decide_eq_true_eq]; omega
                  have ER := Lib.hid (show lineEn s.data.toList = none by rw [LN.out, SO.out.bad (by omega) (HQD.out ▸ PN.out)])
                  have vf : ∀ j, w6.frozen? ⟨w.heap.size, j, none⟩ = false := fun j => free_of RV6.out j
                  have v0 : w6.cell? ⟨w.heap.size, 0, none⟩ = some (.int .i64 0) := (cell_of RV6.out 0).trans rfl
                  have v1 : w6.cell? ⟨w.heap.size, 1, none⟩ = some (.int .i64 0) := (cell_of RV6.out 1).trans rfl
                  have v2 : w6.cell? ⟨w.heap.size, 2, none⟩ = some (.int .i64 0) := (cell_of RV6.out 2).trans rfl
                  have v3 : w6.cell? ⟨w.heap.size, 3, none⟩ = some (.int .i64 0) := (cell_of RV6.out 3).trans rfl
                  have v4 : w6.cell? ⟨w.heap.size, 4, none⟩ = some (.int .i64 0) := (cell_of RV6.out 4).trans rfl
                  have v5 : w6.cell? ⟨w.heap.size, 5, none⟩ = some (.int .i64 0) := (cell_of RV6.out 5).trans rfl
                  go_wp2_with fail
                  obtain ⟨s0, s1, s2, s3, s4, s5⟩ := res6 (a0 := .int .i64 0) (a1 := .int .i64 0) (a2 := .int .i64 0) (a3 := .int .i64 0) (a4 := .int .i64 0) (a5 := .int .i64 0) RV6.out
                  try simp only [Exit.inBlock, Exit.then]
                  refine bodyPost_ret (v := .tuple #[.agg #[.int .i64 0, .int .i64 0, .int .i64 0, .int .i64 0, .int .i64 0, .int .i64 0], .bool false]) (by simp [results, Tryd.results44, go_sem, s0, s1, s2, s3, s4, s5]) rfl ⟨by rw [ER.out]; rfl, ?_⟩
                  exact six_below BX6.out (Nat.le_refl _)
              · have PN := Lib.hid (show progNum q.data.toList = none by unfold progNum; rw [HV.out]; simp [h1])
                have H1 := Lib.hid h1
                clear h1
                go_wp2_with fail
                refine (itoa_any v w5 bv1 bv2 (LL.out BX5.out).tabs).mono ?_
                rintro e w6 ⟨x, rfl, hx, _, hb6⟩
                have hxs : (x.toList == q.toList) = false := str_ne (fun y => H1.out (by rw [← y]; exact hx.symm))
                have QB := QB5
                have RVR := RV5
                have BXR := BX5
                have OW := OW5
                have QB6 := Lib.hid ((hb6.block B (lt_of QB.out)).trans QB.out)
                have RV6 := Lib.hid ((hb6.block w.heap.size (lt_of RVR.out)).trans RVR.out)
                have BX6 := Lib.hid (BXR.out.trans (hb6.mono BXR.out.size))
                have OW6 := Lib.hid (own_below OW.out hb6)
                have hs6 := BX6.out.size
                clear hb6 hx
                have ER := Lib.hid (show lineEn s.data.toList = none by rw [LN.out, SO.out.bad (by omega) (HQD.out ▸ PN.out)])
                have vf : ∀ j, w6.frozen? ⟨w.heap.size, j, none⟩ = false := fun j => free_of RV6.out j
                have v0 : w6.cell? ⟨w.heap.size, 0, none⟩ = some (.int .i64 0) := (cell_of RV6.out 0).trans rfl
                have v1 : w6.cell? ⟨w.heap.size, 1, none⟩ = some (.int .i64 0) := (cell_of RV6.out 1).trans rfl
                have v2 : w6.cell? ⟨w.heap.size, 2, none⟩ = some (.int .i64 0) := (cell_of RV6.out 2).trans rfl
                have v3 : w6.cell? ⟨w.heap.size, 3, none⟩ = some (.int .i64 0) := (cell_of RV6.out 3).trans rfl
                have v4 : w6.cell? ⟨w.heap.size, 4, none⟩ = some (.int .i64 0) := (cell_of RV6.out 4).trans rfl
                have v5 : w6.cell? ⟨w.heap.size, 5, none⟩ = some (.int .i64 0) := (cell_of RV6.out 5).trans rfl
                go_wp2_with fail
                obtain ⟨s0, s1, s2, s3, s4, s5⟩ := res6 (a0 := .int .i64 0) (a1 := .int .i64 0) (a2 := .int .i64 0) (a3 := .int .i64 0) (a4 := .int .i64 0) (a5 := .int .i64 0) RV6.out
                try simp only [Exit.inBlock, Exit.then]
                refine bodyPost_ret (v := .tuple #[.agg #[.int .i64 0, .int .i64 0, .int .i64 0, .int .i64 0, .int .i64 0, .int .i64 0], .bool false]) (by simp [results, Tryd.results44, go_sem, s0, s1, s2, s3, s4, s5]) rfl ⟨by rw [ER.out]; rfl, ?_⟩
                exact six_below BX6.out (Nat.le_refl _)
            · have hn : ∀ v, Lib.atoiAll q.data.toList ≠ .ok v := fun v y => hA ⟨v, y⟩
              have PN := Lib.hid (show progNum q.data.toList = none by
                unfold progNum
                cases hx : Lib.atoiAll q.data.toList with
                | ok v => exact absurd hx (hn v)
                | range => rfl
                | _ => rfl)
              have HN := Lib.hid hn
              clear hA hn
              go_wp2_with fail
              refine (atoi_bad q _ hqz HN.out (LL.out BXR.out)).mono ?_
              rintro e w5 ⟨n, tp, pp, rfl, hb5⟩
              have QB5 := Lib.hid ((hb5.block B (lt_of QB.out)).trans QB.out)
              have RV5 := Lib.hid ((hb5.block w.heap.size (lt_of RVR.out)).trans RVR.out)
              have BX5 := Lib.hid (BXR.out.trans (hb5.mono BXR.out.size))
              have OW5 := Lib.hid (own_below OW.out hb5)
              have hs5 := BX5.out.size
              clear hb5
              have ER := Lib.hid (show lineEn s.data.toList = none by rw [LN.out, SO.out.bad (by omega) (HQD.out ▸ PN.out)])
              have vf : ∀ j, w5.frozen? ⟨w.heap.size, j, none⟩ = false := fun j => free_of RV5.out j
              have v0 : w5.cell? ⟨w.heap.size, 0, none⟩ = some (.int .i64 0) := (cell_of RV5.out 0).trans rfl
              have v1 : w5.cell? ⟨w.heap.size, 1, none⟩ = some (.int .i64 0) := (cell_of RV5.out 1).trans rfl
              have v2 : w5.cell? ⟨w.heap.size, 2, none⟩ = some (.int .i64 0) := (cell_of RV5.out 2).trans rfl
              have v3 : w5.cell? ⟨w.heap.size, 3, none⟩ = some (.int .i64 0) := (cell_of RV5.out 3).trans rfl
              have v4 : w5.cell? ⟨w.heap.size, 4, none⟩ = some (.int .i64 0) := (cell_of RV5.out 4).trans rfl
              have v5 : w5.cell? ⟨w.heap.size, 5, none⟩ = some (.int .i64 0) := (cell_of RV5.out 5).trans rfl
              go_wp2_with fail
              obtain ⟨s0, s1, s2, s3, s4, s5⟩ := res6 (a0 := .int .i64 0) (a1 := .int .i64 0) (a2 := .int .i64 0) (a3 := .int .i64 0) (a4 := .int .i64 0) (a5 := .int .i64 0) RV5.out
              try simp only [Exit.inBlock, Exit.then]
              refine bodyPost_ret (v := .tuple #[.agg #[.int .i64 0, .int .i64 0, .int .i64 0, .int .i64 0, .int .i64 0, .int .i64 0], .bool false]) (by simp [results, Tryd.results44, go_sem, s0, s1, s2, s3, s4, s5]) rfl ⟨by rw [ER.out]; rfl, ?_⟩
              exact six_below BX5.out (Nat.le_refl _)
          · obtain rfl : m = 5 := by omega
            obtain ⟨n0, n1, n2, n3, n4, rfl⟩ : ∃ n0 n1 n2 n3 n4, acc = [n0, n1, n2, n3, n4] := by
              match acc, hal with
              | [n0, n1, n2, n3, n4], _ => exact ⟨_, _, _, _, _, rfl⟩
            have SA : readNums qs = some [n0, n1, n2, n3, n4] := Sofar.all (by rw [hq5]; exact SO.out)
            have ER := Lib.hid (show lineEn s.data.toList = some ⟨K, n0, n1, n2, n3, n4⟩ by rw [LN.out, SA]; simp only; rw [kindE_at, HK.out])
            have hg := row_other OW.out RVR.out (by decide)
            rcases OW.out.2 with ⟨_, h0⟩ | ⟨g, gcap, cur, rfl, _, _, _, _, _, _⟩
            · omega
            have GC : ∀ j x, ([n0, n1, n2, n3, n4].map (Value.int .i64))[j]? = some x → wr.cell? ⟨g, j, none⟩ = some x := fun j x hx => by
              have := OW.out.cells (g := g) rfl j x hx
              have ea : (⟨g, 0, none⟩ : Addr).add j = ⟨g, j, none⟩ := by unfold Addr.add; split <;> simp_all
              rwa [ea] at this
            have c0 := GC 0 _ rfl
            have c1 := GC 1 _ rfl
            have c2 := GC 2 _ rfl
            have c3 := GC 3 _ rfl
            have c4 := GC 4 _ rfl
            have hgR : ¬ g = w.heap.size := fun e => hg (by rw [e]; rfl)
            have v0 : wr.cell? ⟨w.heap.size, 0, none⟩ = some (.int .i64 0) := (cell_of RVR.out 0).trans rfl
            have v1 : wr.cell? ⟨w.heap.size, 1, none⟩ = some (.int .i64 0) := (cell_of RVR.out 1).trans rfl
            have v2 : wr.cell? ⟨w.heap.size, 2, none⟩ = some (.int .i64 0) := (cell_of RVR.out 2).trans rfl
            have v3 : wr.cell? ⟨w.heap.size, 3, none⟩ = some (.int .i64 0) := (cell_of RVR.out 3).trans rfl
            have v4 : wr.cell? ⟨w.heap.size, 4, none⟩ = some (.int .i64 0) := (cell_of RVR.out 4).trans rfl
            have v5 : wr.cell? ⟨w.heap.size, 5, none⟩ = some (.int .i64 0) := (cell_of RVR.out 5).trans rfl
            have vf : ∀ j, wr.frozen? ⟨w.heap.size, j, none⟩ = false := fun j => free_of RVR.out j
            clear GC SA hm5 hm hal hg
            go_wp2_with fail
            go_still_tail 17, (by kernel_rfl)
            change wpList _ _ _ _ _ wr.drew
            have RVD := Lib.hid (show wr.drew.heap[w.heap.size]? = some (.cells #[.int .i64 0, .int .i64 0, .int .i64 0, .int .i64 0, .int .i64 0, .int .i64 0] 44 (0, 0)) from RVR.out)
            have BXD := Lib.hid BXR.out.drew
            clear v0 v1 v2 v3 v4 v5 vf
            generalize wr.drew = W2 at *
            have v0 : W2.cell? ⟨w.heap.size, 0, none⟩ = some (.int .i64 0) := (cell_of RVD.out 0).trans rfl
            have v1 : W2.cell? ⟨w.heap.size, 1, none⟩ = some (.int .i64 0) := (cell_of RVD.out 1).trans rfl
            have v2 : W2.cell? ⟨w.heap.size, 2, none⟩ = some (.int .i64 0) := (cell_of RVD.out 2).trans rfl
            have v3 : W2.cell? ⟨w.heap.size, 3, none⟩ = some (.int .i64 0) := (cell_of RVD.out 3).trans rfl
            have v4 : W2.cell? ⟨w.heap.size, 4, none⟩ = some (.int .i64 0) := (cell_of RVD.out 4).trans rfl
            have v5 : W2.cell? ⟨w.heap.size, 5, none⟩ = some (.int .i64 0) := (cell_of RVD.out 5).trans rfl
            have vf : ∀ j, W2.frozen? ⟨w.heap.size, j, none⟩ = false := fun j => free_of RVD.out j
            go_wp2_with fail
            obtain ⟨s0, s1, s2, s3, s4, s5⟩ := res6 (a0 := .int .i64 K) (a1 := .int .i64 n0) (a2 := .int .i64 n1) (a3 := .int .i64 n2) (a4 := .int .i64 n3) (a5 := .int .i64 n4) RVD.out
            try simp only [Exit.inBlock, Exit.then]
            refine bodyPost_ret (v := .tuple #[.agg #[.int .i64 K, .int .i64 n0, .int .i64 n1, .int .i64 n2, .int .i64 n3, .int .i64 n4], .bool true]) (by simp [results, Tryd.results44, go_sem, s0, s1, s2, s3, s4, s5]) rfl ⟨by rw [ER.out]; rfl, ?_⟩
            exact six_below BXD.out (Nat.le_refl _)
      · have ER := Lib.hid (lineEn_kind HPA.out (by rw [kindE_at, HK.out]; exact k1))
        have k0 : K < 1 := by omega
        go_wp2_with fail
        obtain ⟨s0, s1, s2, s3, s4, s5⟩ := res6 (a0 := .int .i64 0) (a1 := .int .i64 0) (a2 := .int .i64 0) (a3 := .int .i64 0) (a4 := .int .i64 0) (a5 := .int .i64 0) RVB.out
        try simp only [Exit.inBlock, Exit.then]
        refine bodyPost_ret (v := .tuple #[.agg #[.int .i64 0, .int .i64 0, .int .i64 0, .int .i64 0, .int .i64 0, .int .i64 0], .bool false]) (by simp [results, Tryd.results44, go_sem, s0, s1, s2, s3, s4, s5]) rfl ⟨by rw [ER.out]; rfl, ?_⟩
        exact six_below BX.out (Nat.le_refl _)
    · have ER := Lib.hid (lineEn_short HPA.out (by simpa using h5))
      have hl : ¬ ((r.length : Int) + 1 = 6) := by omega
      go_wp2_with fail
      obtain ⟨s0, s1, s2, s3, s4, s5⟩ := res6 (a0 := .int .i64 0) (a1 := .int .i64 0) (a2 := .int .i64 0) (a3 := .int .i64 0) (a4 := .int .i64 0) (a5 := .int .i64 0) RVB.out
      try simp only [Exit.inBlock, Exit.then]
      refine bodyPost_ret (v := .tuple #[.agg #[.int .i64 0, .int .i64 0, .int .i64 0, .int .i64 0, .int .i64 0, .int .i64 0], .bool false]) (by simp [results, Tryd.results44, go_sem, s0, s1, s2, s3, s4, s5]) rfl ⟨by rw [ER.out]; rfl, ?_⟩
      exact six_below BX.out (Nat.le_refl _)

end Go.Proofs.YtifibhaalepmgaaDoor
