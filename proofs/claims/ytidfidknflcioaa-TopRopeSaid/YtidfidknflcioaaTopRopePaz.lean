/-
  afterRemove of a rope: what it gives. Conditions: numbers in their bounds.
-/
import Derived.Test.YtidfidknflcioaaTopRopePay
namespace Go.Proofs.Ytidfidknflcioaa
open Go.RowKit
set_option linter.unusedVariables false

theorem rmA_snoc (f t : Nat) (l : List Sz) (k : Nat) (x : Sz) (h : l[k]? = some x) : rmA f t (l.take (k + 1)) = rmF f t (rmA f t (l.take k)) x := by
  unfold rmA
  rw [List.take_add_one, h, List.foldl_append]
  rfl
/-- What is known of the leaves kept. -/
structure RmOk (l : List Sz) (st : List Sz × Nat × Int) : Prop where
  len : st.1.length ≤ l.length
  bd : ∀ p ∈ st.1, p.1 ≤ 100000 ∧ p.2 ≤ 100000
  start : st.2.1 = (totS l).1
  a : -1 ≤ st.2.2 ∧ st.2.2 ≤ l.length
theorem rmA_ok (f t : Nat) (l : List Sz) (h : SzOk l) : ∀ k, k ≤ l.length → RmOk (l.take k) (rmA f t (l.take k))
  | 0, _ => ⟨by simp [rmA], by simp [rmA], by simp [rmA, totS], by simp [rmA]⟩
  | k + 1, hk => by
    obtain ⟨x, hx⟩ : ∃ x, l[k]? = some x := ⟨_, List.getElem?_eq_getElem (by omega)⟩
    obtain ⟨h1, h2, h3, h4⟩ := rmA_ok f t l h k (by omega)
    have bx := h.2 x (List.mem_of_getElem? hx)
    rw [rmA_snoc f t l k x hx]
    have e : (l.take (k + 1)).length = k + 1 := by rw [List.length_take]; omega
    have e' : (l.take k).length = k := by rw [List.length_take]; omega
    rw [e'] at h1 h4
    refine ⟨?_, ?_, ?_, ?_⟩
    · rw [e]
      unfold rmF
      simp only
      split
      · rw [List.length_append]; simp; omega
      · omega
    · intro p hp
      unfold rmF at hp
      simp only at hp
      split at hp
      · rcases List.mem_append.1 hp with hp | hp
        · exact h2 p hp
        · simp at hp; subst hp; simp only; omega
      · exact h2 p hp
    · rw [totS_take l k x hx]
      show (rmA f t (l.take k)).2.1 + x.1 = _
      rw [h3]
    · rw [e]
      unfold rmF
      simp only
      split <;> omega
theorem szCells_take (l : List Sz) (k : Nat) : (szCells l).take (k * 2) = szCells (l.take k) := by
  induction l generalizing k with
  | nil => simp [szCells]
  | cons q l ih =>
    have e : ∀ q l, szCells (q :: l) = .int .i64 (q.1 : Int) :: .int .i64 (q.2 : Int) :: szCells l := fun q l => by simp [szCells]
    cases k with
    | zero => simp [szCells]
    | succ k =>
      have e1 : (k + 1) * 2 = k * 2 + 1 + 1 := by omega
      rw [e, e1, List.take_succ_cons, List.take_succ_cons, ih, List.take_succ_cons, e]
theorem szCells_drop (l : List Sz) (k : Nat) : (szCells l).drop (k * 2) = szCells (l.drop k) := by
  induction l generalizing k with
  | nil => simp [szCells]
  | cons q l ih =>
    have e : ∀ q l, szCells (q :: l) = .int .i64 (q.1 : Int) :: .int .i64 (q.2 : Int) :: szCells l := fun q l => by simp [szCells]
    cases k with
    | zero => simp
    | succ k =>
      have e1 : (k + 1) * 2 = k * 2 + 1 + 1 := by omega
      rw [e, e1, List.drop_succ_cons, List.drop_succ_cons, ih, List.drop_succ_cons]
theorem szCells_erase (l : List Sz) (i : Nat) : (szCells l).take (i * 2) ++ (szCells l).drop ((i + 1) * 2) = szCells (l.eraseIdx i) := by
  rw [szCells_take, szCells_drop, ← szCells_app, List.eraseIdx_eq_take_drop_succ]

set_option maxHeartbeats 4000000 in
set_option maxRecDepth 100000 in
theorem afterRemove_any (r : Nat) (p : RPar) (v : Value) (l : List Sz) (f t : Nat) (w : World) (hp : ParAt w r p) (ho : POk p) (hv : SzIn w v l) (hl : SzOk l) (hft : f ≤ t) (htt : t ≤ (totS l).1) (ht : (totS l).1 ≤ 50000) :
    Calls Try.prog 35 #[.pointer (some ⟨r, 0, none⟩), v, .int .i64 (f : Int), .int .i64 (t : Int)] w (SzRet (rmS p l f t) w) := by
  obtain ⟨i0, hi0, hz0, hz1, hz2⟩ := info_parts infoLeaf
  have hleaf := ho.leaf
  obtain ⟨T, hT⟩ : ∃ T, rmS p l f t = T := ⟨_, rfl⟩
  rw [hT]
  have HT := Lib.hid hT
  clear hT
  have HV := Lib.hid hv
  have HP := Lib.hid hp
  have HO := Lib.hid ho
  have HL := Lib.hid hl
  have hlen := hl.1
  by_cases h0 : f = t
  · have h0' : (f : Int) = (t : Int) := by omega
    have E1 := Lib.hid (show T = l by rw [← HT.out]; unfold rmS; rw [if_pos h0])
    clear hv hp ho hl h0
    go_enter Try.func35, Try.ntmps35
    go_wp2_with fail
    go_ret
    exact ⟨_, rfl, by rw [E1.out]; exact HV.out, Below.refl _ _⟩
  · have h0' : ((f : Int) == (t : Int)) = false := by simp; omega
    have E1 := Lib.hid (show T = joinS p (rmA f t l).1 (rmA f t l).2.2 f by rw [← HT.out]; unfold rmS; rw [if_neg h0])
    have RO := Lib.hid (rmA_ok f t l hl)
    have RS := Lib.hid (rmA_snoc f t l)
    have TL := Lib.hid (totS_take_le l)
    obtain ⟨la, lc, rfl, h2, h3, hc⟩ := hv
    have HC := Lib.hid hc
    clear hp ho hl h0 hc
    go_enter Try.func35, Try.ntmps35
    go_wp2_with fail
    go_loopw [9, 10, 11, 22] (fun ov s10 s11 i wr => ∃ k : Nat, k ≤ l.length ∧ i = .int .i64 (k : Int) ∧ s10 = .int .i64 ((rmA f t (l.take k)).2.1 : Nat) ∧ s11 = .int .i64 (rmA f t (l.take k)).2.2 ∧ wr.ownsRow w.heap.size 39 2 ov (rmA f t (l.take k)).1.length (szCells (rmA f t (l.take k)).1) ∧ Below w.heap.size w wr) (fun _ _ _ i _ => l.length - (intOf i).toNat)
    case atStart => exact ⟨0, Nat.zero_le _, rfl, rfl, rfl, World.ownsRow_nil _ _ _ _, Below.refl _ _⟩
    case round =>
      obtain ⟨k, hk, rfl, rfl, rfl, hrow, hb⟩ := hrel
      have ROW := Lib.hid hrow
      have BL := Lib.hid hb
      have hbs := hb.size
      clear hrow
      by_cases hlt : k < l.length
      · as_aux_lemma =>
          obtain ⟨x, hx⟩ : ∃ x, l[k]? = some x := ⟨_, List.getElem?_eq_getElem hlt⟩
          obtain ⟨g, o, rfl, c1, c2⟩ := HC.out k x hx
          have d1 := old_cell hb c1
          have d2 := old_cell hb c2
          obtain ⟨r1, r2, r3, r4⟩ := RO.out k hk
          have rs := RS.out k x hx
          have tl := TL.out k
          have bx := HL.out.2 x (List.mem_of_getElem? hx)
          have lk : (l.take k).length = k := by rw [List.length_take]; omega
          rw [lk] at r1 r4
          obtain ⟨x, y⟩ := x
          simp only at d1 d2 bx
          obtain ⟨⟨out, st, a⟩, hS⟩ : ∃ S, rmA f t (l.take k) = S := ⟨_, rfl⟩
          rw [hS] at r1 r3 r4 rs ROW ⊢
          simp only at r1 r3 r4 ROW ⊢
          have hst : st ≤ 50000 := by omega
          have RN := Lib.hid rs
          unfold rmF at RN
          simp only at RN
          obtain ⟨gn, hgn⟩ : ∃ gn, min (t - st) x - (f - st) = gn := ⟨_, rfl⟩
          rw [hgn] at RN
          have HG := Lib.hid hgn
          have hgx : gn ≤ x := by omega
          obtain ⟨bx1, bx2⟩ := bx
          clear c1 c2 hx r2 r3 rs tl lk hS hb hgn
          go_upto_region 8 with fail
          have hbx := heap_alloc_new wr (.cells #[.int .i64 (x : Int), .int .i64 (y : Int)] 39)
          have BA := (Below.refl wr.heap.size wr).alloc (Nat.le_refl _) (.cells #[.int .i64 (x : Int), .int .i64 (y : Int)] 39)
          have ROW1 := Lib.hid (row_kept ROW.out BA)
          have BL1 := Lib.hid (BL.out.trans (BA.mono BL.out.size))
          obtain ⟨bb, hbb⟩ : ∃ bb, wr.heap.size = bb := ⟨_, rfl⟩
          rw [hbb] at hbx ⊢
          generalize wr.alloc (.cells #[.int .i64 (x : Int), .int .i64 (y : Int)] 39) = W1 at *
          have x0 : W1.cell? ⟨bb, 0, none⟩ = some (.int .i64 (x : Int)) := by rw [cell_of hbx]; rfl
          have x1 : W1.cell? ⟨bb, 1, none⟩ = some (.int .i64 (y : Int)) := by rw [cell_of hbx]; rfl
          have hbs1 := BL1.out.size
          clear hbx d1 d2 hbb BA ROW BL
          go_cut [14] (fun s14 wx => s14 = .int .i64 (gn : Int) ∧ wx = W1)
          case first =>
            have hg := HG.out
            go_wp2_with fail
            all_goals
              go_meet
              exact ⟨congrArg _ (by omega), rfl⟩
          case rest =>
          obtain ⟨rfl, hwc⟩ := hcut
          obtain rfl := hwc.symm
          clear hwc
          go_upto_if 40 with fail
          go_cut [11] (fun s11 wx => s11 = .int .i64 (if st < f then (out.length : Int) else a) ∧ wx = W1)
          case first =>
            obtain ⟨oa, oc, rfl⟩ := wrow_sh ROW1.out
            by_cases hsf : st < f
            · have hsf' : (st : Int) < (f : Int) := by omega
              go_wp2_with fail
              go_meet
              exact ⟨by rw [if_pos hsf], rfl⟩
            · have hsf' : ¬ (st : Int) < (f : Int) := by omega
              go_wp2_with fail
              go_meet
              exact ⟨by rw [if_neg hsf], rfl⟩
          case rest =>
          obtain ⟨rfl, hwc⟩ := hcut
          obtain rfl := hwc.symm
          clear hwc
          obtain ⟨a', ha'⟩ : ∃ a', (if st < f then (out.length : Int) else a) = a' := ⟨_, rfl⟩
          rw [ha'] at RN ⊢
          clear ha'
          by_cases hgt : gn < x
          · have RN := RN.out
            rw [if_pos hgt] at RN
            have RN := Lib.hid RN
            have hgt' : (gn : Int) < (x : Int) := by omega
            have hsub := Lib.hid (show (x : Int) - (gn : Int) = ((x - gn : Nat) : Int) by omega)
            go_wp2_with (at_builtin; go_must (refine wpList_append_w rfl (.tmp 51) (.tmp 59) 37 rfl w.heap.size 39 i0 (.agg #[.int .i64 0, .int .i64 0]) 2 16 Try.underlying37 hi0 hz0 hz1 hz2 rfl (by decide) _ _ _ W1 _ [.int .i64 ((x : Int) - (gn : Int)), .int .i64 (y : Int)] rfl (by exact ROW1.out) (by rfl) rfl (by intro u hu; simp at hu; rcases hu with rfl | rfl <;> rfl) (by unfold maxLen; omega) (by omega) hbs1 ?_))
            intro v' w4 hown' _ hb4
            have FIN := Lib.hid (show w4.ownsRow w.heap.size 39 2 v' (rmA f t (l.take (k + 1))).1.length (szCells (rmA f t (l.take (k + 1))).1) by
              rw [RN.out]
              simp only [List.length_append, List.length_cons, List.length_nil, szCells_app]
              rw [hsub.out] at hown'
              exact hown')
            have B4 := Lib.hid (BL1.out.trans hb4)
            clear hown' hb4 hsub
            go_wp2_with fail
            go_round
            case rel => exact ⟨k + 1, by omega, by go_num, by rw [RN.out]; go_num, by rw [RN.out], FIN.out, B4.out⟩
            case measure => simp [intOf]; omega
          · have RN := RN.out
            rw [if_neg hgt] at RN
            have RN := Lib.hid RN
            have hgt' : ¬ (gn : Int) < (x : Int) := by omega
            have FIN := Lib.hid (show W1.ownsRow w.heap.size 39 2 u9 (rmA f t (l.take (k + 1))).1.length (szCells (rmA f t (l.take (k + 1))).1) by
              rw [RN.out]
              exact ROW1.out)
            go_wp2_with fail
            go_round
            case rel => exact ⟨k + 1, by omega, by go_num, by rw [RN.out]; go_num, by rw [RN.out], FIN.out, BL1.out⟩
            case measure => simp [intOf]; omega
      · obtain rfl : k = l.length := by omega
        as_aux_lemma =>
          have hro := RO.out l.length (Nat.le_refl _)
          rw [List.take_length] at hro ROW ⊢
          obtain ⟨r1, r2, r3, r4⟩ := hro
          obtain ⟨⟨out, st, a⟩, hS⟩ : ∃ S, rmA f t l = S := ⟨_, rfl⟩
          rw [hS] at r1 r2 r3 r4 ROW E1 ⊢
          simp only at r1 r2 r3 r4 ROW E1 ⊢
          obtain ⟨oa, oc, rfl⟩ := wrow_sh ROW.out
          have SO : SzOk out := ⟨by omega, r2⟩
          have JO := Lib.hid (joins_any r p _ out a f wr (HP.out.below hb) HO.out (SzIn.row ROW.out) SO (by omega) (by omega))
          have R2 := Lib.hid r2
          have hst : st ≤ 50000 := by omega
          clear r2 r3 hS RS TL RO hlt hk hb SO
          go_wp2_with fail
          refine JO.out.mono ?_
          rintro e w1 ⟨rfl, hb1⟩
          have ROW1 := Lib.hid (row_kept ROW.out hb1)
          have BL1 := Lib.hid (BL.out.trans (hb1.mono BL.out.size))
          clear JO ROW BL hb1 hbs
          by_cases hj : joinsS p out a f = true
          · obtain ⟨A, rfl, hA⟩ : ∃ A : Nat, a = (A : Int) ∧ A + 1 < out.length := by
              unfold joinsS at hj
              simp only [Bool.and_eq_true, decide_eq_true_eq] at hj
              exact ⟨a.toNat, by omega, by omega⟩
            obtain ⟨⟨x, y⟩, hx⟩ : ∃ z, out[A]? = some z := ⟨_, List.getElem?_eq_getElem (by omega)⟩
            obtain ⟨⟨x', y'⟩, hx'⟩ : ∃ z, out[A + 1]? = some z := ⟨_, List.getElem?_eq_getElem (by omega)⟩
            have hsum : x + x' ≤ p.leaf / 2 := by
              rw [joinsS_of hx hx'] at hj
              simp only [Bool.and_eq_true, decide_eq_true_eq] at hj
              exact hj.2
            have bx := R2.out _ (List.mem_of_getElem? hx)
            simp only at bx
            have g1 : out.getD A (0, 0) = (x, y) := by rw [List.getD_eq_getElem?_getD, hx]; rfl
            have g2 : out.getD (A + 1) (0, 0) = (x', y') := by rw [List.getD_eq_getElem?_getD, hx']; rfl
            have E2 : T = (out.set A (x + x', p.gr y (x + x'))).eraseIdx (A + 1) := by
              rw [E1.out]
              unfold joinS
              rw [if_pos hj, Int.toNat_natCast, g1, g2]
            obtain ⟨q1, q2⟩ := szCells_get out A _ hx
            obtain ⟨q3, q4⟩ := szCells_get out (A + 1) _ hx'
            have Q1 := Lib.hid (And.intro q1 q2)
            obtain ⟨go, rfl, d1, _⟩ := wrow_cell ROW1.out q1
            obtain ⟨_, e', d2, _⟩ := wrow_cell ROW1.out q2
            cases e'
            obtain ⟨_, e', d3, _⟩ := wrow_cell ROW1.out q3
            cases e'
            obtain ⟨sm, hsm⟩ : ∃ sm, x + x' = sm := ⟨_, rfl⟩
            have hsm' : (x : Int) + (x' : Int) = (sm : Int) := by omega
            rw [hsm] at E2 hsum
            have E3 := Lib.hid E2
            clear E2
            have E2 := Lib.hid E3.out
            clear E3
            have HJ := Lib.hid hj
            rw [hj]
            simp only at d1 d2 d3
            clear hj hx hx' g1 g2 q1 q2 q3 q4 hsm
            go_upto_region 16 with fail
            go_quiet (fail)
            have ROW2 := Lib.hid (row_kept ROW1.out (bdrewN (Below.refl _ w1) nq))
            have BL2 := Lib.hid (bdrewN BL1.out nq)
            have m2 : (w1.drewN nq).cell? ⟨go, A * 2 + 1, none⟩ = some (.int .i64 (y : Int)) := d2
            clear d1 d2 d3 ROW1 BL1
            generalize w1.drewN nq = w2 at *
            have GR := Lib.hid (grownR_any r p y sm w2 (HP.out.below BL2.out) HO.out bx.2 (by omega))
            obtain ⟨G, hG⟩ : ∃ G, p.gr y sm = G := ⟨_, rfl⟩
            rw [hG] at GR E2
            clear hG
            go_wp2_with fail
            refine GR.out.mono ?_
            rintro e w3 ⟨rfl, hb3⟩
            have ROW3 := Lib.hid (row_kept ROW2.out hb3)
            have BL3 := Lib.hid (BL2.out.trans (hb3.mono BL2.out.size))
            obtain ⟨q1, q2⟩ := Q1.out
            obtain ⟨_, e1, k1, f1⟩ := wrow_cell ROW3.out q1
            cases e1
            obtain ⟨_, e1, k2, f2⟩ := wrow_cell ROW3.out q2
            cases e1
            have s1 := wrow_set ROW3.out (A * 2) (.int .i64 (sm : Int))
            have s2 := wrow_set s1 (A * 2 + 1) (.int .i64 (G : Int))
            obtain ⟨_, e1, n2, k3⟩ := wrow_cell s1 (j := A * 2 + 1) (u := .int .i64 (y : Int)) (by rw [List.getElem?_set_ne (by omega)]; exact q2)
            cases e1
            have hge : w.heap.size ≤ go := (ROW3.out.lt go rfl).1
            have hlt3 : go < w3.heap.size := (ROW3.out.lt go rfl).2
            rw [← szCells_set] at s2
            have B4 := Lib.hid ((BL3.out.setCell (p := ⟨go, A * 2, none⟩) hge (.int .i64 (sm : Int))).setCell (p := ⟨go, A * 2 + 1, none⟩) hge (.int .i64 (G : Int)))
            have S2 := Lib.hid (row_low s2 (Nat.zero_le _))
            have DE := Lib.hid (delete_leaf go oc out.length (A + 1) (A + 2) _ _ (row_low s2 (Nat.zero_le _)) (szCells_one _) hA rfl (by omega))
            clear s1 s2 hb3 GR q1 q2 m2 ROW2 BL2 ROW3 BL3
            have c12 : ((A + 1 : Nat) : Int) = (A : Int) + 1 := by omega
            have c13 : ((A + 2 : Nat) : Int) = (A : Int) + 2 := by omega
            rw [c12, c13] at DE
            clear c12 c13
            go_wp2_with fail
            refine DE.out.mono ?_
            rintro e w5 ⟨rfl, hrow5, ht5, hs5⟩
            rw [szCells_erase] at hrow5
            have FIN := Lib.hid (And.intro (show SzIn w5 (.slice (some ⟨go, 0, none⟩) (out.length - 1) oc) T by
              rw [E2.out]
              have hle : ((out.set A (sm, G)).eraseIdx (A + 1)).length = out.length - 1 := by rw [List.length_eraseIdx_of_lt (by rw [List.length_set]; omega), List.length_set]
              rw [← hle] at hrow5
              have h9 := SzIn.row hrow5
              rw [hle] at h9
              exact h9) (show Below w.heap.size w w5 from
              ⟨ht5.os.trans B4.out.os, ht5.tape.trans B4.out.tape, ht5.output.trans B4.out.output, Nat.le_trans B4.out.size ht5.size, fun k hk => (ht5.block k (Nat.lt_of_lt_of_le hk B4.out.size) (by omega)).trans (B4.out.block k hk)⟩))
            clear hrow5 ht5 hs5
            go_wp2_with fail
            go_ret
            exact ⟨_, rfl, FIN.out.1, FIN.out.2⟩
          · have hj' : joinsS p out a f = false := by simpa using hj
            have E2 := Lib.hid (show T = out by rw [E1.out]; unfold joinS; rw [if_neg hj])
            rw [hj']
            clear hj hj'
            go_wp2_with fail
            go_ret
            exact ⟨_, rfl, by rw [E2.out]; exact SzIn.row ROW1.out, BL1.out⟩

end Go.Proofs.Ytidfidknflcioaa
