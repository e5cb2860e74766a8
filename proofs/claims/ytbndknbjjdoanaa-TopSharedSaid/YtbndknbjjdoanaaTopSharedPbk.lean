/-
  Append of a pool: the walk. Conditions: numbers in their bounds; the octets lie apart from the pool.
-/
import Derived.Test.YtbndknbjjdoanaaTopSharedPbh
namespace Go.Proofs.Ytbndknbjjdoanaa
open Go.RowKit
set_option linter.unusedVariables false

theorem ptCells_set_t : ∀ (A B : List Pt) (x : Pt) (t : Nat), (ptCells (A ++ x :: B)).set (A.length * 3 + 2) (.int .i64 (t : Int)) = ptCells (A ++ (⟨x.b, x.f, t⟩ : Pt) :: B)
  | [], B, x, t => by simp [ptCells]
  | a :: A, B, x, t => by
    have ih := ptCells_set_t A B x t
    have e : ∀ (l : List Pt), ptCells (a :: l) = .int .i64 (a.b : Int) :: .int .i64 (a.f : Int) :: .int .i64 (a.t : Int) :: ptCells l := fun l => by simp [ptCells]
    rw [List.cons_append, e, List.cons_append, e, List.length_cons, Nat.succ_mul, ← ih]
    rw [show A.length * 3 + 3 + 2 = (A.length * 3 + 4) + 1 by omega, List.set_cons_succ, show A.length * 3 + 4 = (A.length * 3 + 3) + 1 by omega, List.set_cons_succ, show A.length * 3 + 3 = (A.length * 3 + 2) + 1 by omega, List.set_cons_succ]

theorem reads_fromP {w : World} {a : Option Addr} {n c k : Nat} {zs : List Int} (h : Reads w .u8 (.slice a n c) zs) (hk : k ≤ n) (hnc : n ≤ c) (m : Nat) : Reads w .u8 (.slice (if c = k then a else Option.map (fun x => x.add k) a) (n - k) m) (zs.drop k) := by
  obtain ⟨a', cap, he, hl, hc⟩ := h
  simp only [Value.slice.injEq] at he
  obtain ⟨rfl, hn, rfl⟩ := he
  have hlm : (zs.drop k).length = n - k := by rw [List.length_drop]; omega
  refine ⟨_, _, by rw [hlm], by omega, fun hne => ?_⟩
  have h0 : k < zs.length := by
    rcases Nat.lt_or_ge k zs.length with h0 | h0
    · exact h0
    · exact absurd (List.drop_eq_nil_of_le h0) hne
  obtain ⟨b, o, rfl, h1⟩ := hc (by intro e; subst e; simp at h0)
  refine ⟨b, o + k, by rw [if_neg (by omega)]; show some ((⟨b, o, none⟩ : Addr).add k) = _; unfold Addr.add; split <;> simp_all, fun j hj => ?_⟩
  rw [List.length_drop] at hj
  rw [Nat.add_assoc, h1 (k + j) (by omega)]
  simp [List.getD_eq_getElem?_getD]

def ApPost (h bp : Nat) (P : PoolSt) (x : Int) (os : List Int) (Z : Nat → Prop) (w : World) : Ending → World → Prop := fun e w' => match lookN P.st x with
  | none => e = .returned (.int .i64 13) ∧ Stays h bp P Z P.bl.length w w'
  | some q => if 100000 < os.length ∨ 100000 < lenP q.2 + os.length then e = .returned (.int .i64 4) ∧ Stays h bp P Z P.bl.length w w'
    else if 500 < q.2.length + manyP P.size (os.length - spareP P q.2 os.length) then e = .returned (.int .i64 4) ∧ Stays h bp P Z P.bl.length w w'
    else if tkE P P.bl.length (manyP P.size (os.length - spareP P q.2 os.length)) ≠ 0 then e = .returned (.int .i64 (tkE P P.bl.length (manyP P.size (os.length - spareP P q.2 os.length)))) ∧ ∃ Z', SP w' Z' h bp P P.bl.length ∧ Nxt Z Z' w w'
    else e = .returned (.int .i64 0) ∧ ∃ bks o Z', bks.length = manyP P.size (os.length - spareP P q.2 os.length) ∧ Fills P.size (os.drop (spareP P q.2 os.length)) bks ∧
      SP w' Z' h bp (((apB P q.2 os (spareP P q.2 os.length)).growAll bks).setS x.toNat o (apL q.2 (spareP P q.2 os.length) ++ fillPts P.lastB P.size (os.drop (spareP P q.2 os.length)) bks.length)) (P.bl.length + bks.length) ∧ Nxt Z Z' w w'

set_option maxHeartbeats 4000000 in
set_option maxRecDepth 100000 in
theorem append_any {w : World} {Z : Nat → Prop} {h bp : Nat} {P : PoolSt} (s : SP w Z h bp P P.bl.length) (x : Int) (hx : -9223372036854775808 ≤ x ∧ x ≤ 9223372036854775807) (a : Option Addr) (n c : Nat) (os : List Int) (hr : ∀ W, Touch Z w W → Reads W .u8 (.slice a n c) os) (hn : os.length = n) (hc1 : n ≤ c) (hc2 : c ≤ 9223372036854775807) (hn2 : n ≤ 140737488355328) (hbz : bytes os) (hB : P.lastB + 2000 ≤ 1000000000 ∧ P.lastS + 1 ≤ 1000000000) :
    Calls Try.prog 20 #[.pointer (some ⟨h, 0, none⟩), .int .i64 x, .slice a n c] w (ApPost h bp P x os Z w) := by
  obtain ⟨i0, hi0, hz0, hz1, hz2⟩ := info_parts info_part
  have HSP := Lib.hid s
  obtain ⟨mb, ms, D1, D2, F, G, b, p, hZ⟩ := s
  have HP := Lib.hid p
  have FI := Lib.hid (findP_any p.pm x hx)
  have HZ := Lib.hid hZ
  have HBB := Lib.hid hB
  have HR := Lib.hid hr
  have HN := Lib.hid hn
  have HC := Lib.hid (And.intro hc1 hc2)
  have HBZ := Lib.hid hbz
  clear p hZ hB hr hn hbz
  cases hl : lookN P.st x with
  | none =>
    have HL := Lib.hid hl
    clear hl
    go_enter Try.func20, Try.ntmps20
    go_wp2_with fail
    refine FI.out.mono ?_
    rintro e w2 ⟨rfl, he⟩
    rw [HL.out] at he
    subst he
    have FIN : Hid (ApPost h bp P x os Z w2 (.returned (.int .i64 13)) w2) := Lib.hid (by
      unfold ApPost
      rw [HL.out]
      exact ⟨rfl, HSP.out, Below.refl _ _⟩)
    go_wp2_with fail
    go_ret
    exact FIN.out
  | some q =>
    obtain ⟨o, l⟩ := q
    have HL := Lib.hid hl
    obtain ⟨sn, rfl, hmem⟩ := lookN_mem hl
    have hnb : sn ≤ 1000000000 := by
      have h1 := (HP.out.pm.ns _ hmem).2
      have h2 := HP.out.pm.few.2.2.2.2
      simp only at h1
      omega
    have STR := Lib.hid (HP.out.pm.str hl)
    obtain ⟨ra, rc, hrow, r1, r2, r3⟩ := STR.out.2.2.2.2.2.1
    have HROW := Lib.hid hrow
    have HR3 := Lib.hid r3
    have LE := Lib.hid (lengthP_any (rowOf o) l w STR.out.2.2.2.2.2.1 STR.out.2.2.2.2.2.2)
    rw [hrow] at LE
    have hn0 : ((sn : Int)).toNat = sn := by omega
    have hl500 := STR.out.2.2.2.1
    have hlp := STR.out.2.2.2.2.1
    obtain ⟨N, hN⟩ : ∃ N, lenP l = N := ⟨_, rfl⟩
    have HNL := Lib.hid hN
    rw [hN] at LE hlp
    clear hl hrow hmem r3 hN
    by_cases g1 : 100000 < n ∨ 100000 < N + n
    · have FIN : Hid (∀ w', Below w.heap.size w w' → ApPost h bp P (sn : Int) os Z w (.returned (.int .i64 4)) w') := Lib.hid (fun w' hb => by
        unfold ApPost
        rw [HL.out]
        simp only
        rw [HN.out, HNL.out, if_pos g1]
        exact ⟨trivial, HSP.out.same hb, hb⟩)
      go_enter Try.func20, Try.ntmps20
      go_wp2_with fail
      refine FI.out.mono ?_
      rintro e w2 ⟨hw2, he⟩
      obtain rfl := hw2.symm
      rw [HL.out] at he
      simp only [HROW.out] at he
      subst he
      by_cases a1 : 100000 < n
      · clear g1
        go_wp2_with fail
        go_ret
        exact FIN.out _ (Below.refl _ _)
      · have a2 : 100000 < N + n := by omega
        clear g1
        go_wp2_with fail
        refine LE.out.mono ?_
        rintro e w3 ⟨rfl, hb3⟩
        go_wp2_with fail
        go_ret
        exact FIN.out _ hb3
    · have a1 : ¬ 100000 < n := fun e => g1 (Or.inl e)
      have a2 : ¬ 100000 < N + n := fun e => g1 (Or.inr e)
      obtain ⟨sp, hsp⟩ : ∃ sp, spareP P l n = sp := ⟨_, rfl⟩
      have HSPA := Lib.hid hsp
      have spb : sp ≤ n := by
        rcases spare_ways n STR.out.2.2.1 with ⟨_, h1⟩ | ⟨l0, z, y, _, _, _, _, ⟨_, h1⟩ | ⟨_, h1⟩⟩ <;> omega
      obtain ⟨D, hD⟩ : ∃ D : Bool, (D = false ∧ sp = 0 ∧ (l.length = 0 ∨ ∃ k z y, l.length = k + 1 ∧ l[k]? = some z ∧ lookN P.bl (z.b : Int) = some y ∧ z.t ≤ y.used ∧ z.t ≠ y.used)) ∨ (D = true ∧ ∃ k z y, l.length = k + 1 ∧ l[k]? = some z ∧ lookN P.bl (z.b : Int) = some y ∧ z.t = y.used ∧ sp = min (P.size - z.t) n) := by
        rcases spare_ways n STR.out.2.2.1 with ⟨h0, h1⟩ | ⟨l0, z, y, h0, h2, h3, h4, ⟨h5, h1⟩ | ⟨h5, h1⟩⟩
        · exact ⟨false, Or.inl ⟨rfl, by omega, Or.inl (by rw [h0]; rfl)⟩⟩
        · exact ⟨false, Or.inl ⟨rfl, by omega, Or.inr ⟨l0.length, z, y, by rw [h0]; simp, by rw [h0]; simp, h2, h4, h5⟩⟩⟩
        · exact ⟨true, Or.inr ⟨rfl, l0.length, z, y, by rw [h0]; simp, by rw [h0]; simp, h2, h5, by omega⟩⟩
      have HD := Lib.hid hD
      have d1 : decide ((100000 : Int) < (n : Int)) = false := by simp; omega
      have d2 : decide ((100000 : Int) < (N : Int) + (n : Int)) = false := by simp; omega
      have HA := Lib.hid (And.intro a1 a2)
      clear g1 hsp hD a1 a2
      go_enter Try.func20, Try.ntmps20
      go_wp2_with fail
      refine FI.out.mono ?_
      rintro e w2 ⟨hw2, he⟩
      obtain rfl := hw2.symm
      rw [HL.out] at he
      simp only [HROW.out] at he
      subst he
      go_wp2_with fail
      refine LE.out.mono ?_
      rintro e w3 ⟨rfl, hb3⟩
      have B3 := Lib.hid hb3
      have c36 := (HP.out.pm.below hb3).cells.2.2.2.2.2.2.1
      have c32 := (HP.out.pm.below hb3).cells.2.2.1
      clear hb3 LE
      go_upto_region 8 with fail
      go_cut [7, 10, 60] (fun s7 s10 s60 wx => ∃ q, wx = w3.drewN q ∧ s60 = .bool D ∧ s10 = .int .i64 ((l.length : Int) - 1) ∧ s7 = .slice ra l.length rc)
      case first =>
        --[[
        rcases HD.out with ⟨hDf, _, h0 | ⟨k, z, y, hk, hz, hy, hu, hne⟩⟩ | ⟨hDt, k, z, y, hk, hz, hy, hu, _⟩
        · have hneg : ¬ (0 : Int) ≤ (l.length : Int) - 1 := by omega
          have H0 := Lib.hid h0
          subst hDf
          go_quiet (fail)
          go_wp2_with fail
          go_meet
          refine ⟨_, rfl, rfl, ?_, ?_⟩
          · rw [H0.out]; rfl
          · rw [H0.out]
        · obtain ⟨bb, oo, rfl, d0, d1, d2⟩ := HR3.out k z hz
          have d0 := old_cell B3.out d0
          have d2 := old_cell B3.out d2
          have hk1 : (l.length : Int) - 1 = (k : Int) := by omega
          have hlk : k < l.length := by omega
          have LK := fun q => (HP.out.pm.below (bdrewN B3.out q)).block hy (by have := (STR.out.2.2.2.2.2.2.2 z (List.mem_of_getElem? hz)).2.2; omega)
          have e1 : w3.cell? ⟨y.a, 1, none⟩ = some (.int .i64 (y.used : Int)) := by rw [cell_of ((HP.out.pm.below B3.out).blkOf hy).1]; rfl
          have hne' : ((z.t : Int) == (y.used : Int)) = false := by simp; omega
          subst hDf
          have HK1 := Lib.hid hk1
          clear hz hy hne hk
          go_quiet (fail)
          go_wp2_with fail
          go_meet
          exact ⟨_, rfl, rfl, by rw [HK1.out], rfl⟩
        · obtain ⟨bb, oo, rfl, d0, d1, d2⟩ := HR3.out k z hz
          have d0 := old_cell B3.out d0
          have d2 := old_cell B3.out d2
          have hk1 : (l.length : Int) - 1 = (k : Int) := by omega
          have hlk : k < l.length := by omega
          have LK := fun q => (HP.out.pm.below (bdrewN B3.out q)).block hy (by have := (STR.out.2.2.2.2.2.2.2 z (List.mem_of_getElem? hz)).2.2; omega)
          have e1 : w3.cell? ⟨y.a, 1, none⟩ = some (.int .i64 (y.used : Int)) := by rw [cell_of ((HP.out.pm.below B3.out).blkOf hy).1]; rfl
          have hne' : ((z.t : Int) == (y.used : Int)) = true := by simp; omega
          subst hDt
          have HK1 := Lib.hid hk1
          clear hz hy hu hk
          go_quiet (fail)
          go_wp2_with fail
          go_meet
          exact ⟨_, rfl, rfl, by rw [HK1.out], rfl⟩
        --]]
      case rest =>
      obtain ⟨q3, hwc, rfl, rfl, rfl⟩ := hcut
      have B4 := Lib.hid (show Below w.heap.size w wc by rw [hwc]; exact bdrewN B3.out q3)
      have c42 := (HP.out.pm.below B4.out).cells.2.2.1
      clear hwc c36 c32
      go_upto_if 60 with fail
      go_cut [9, 10] (fun s9 s10 wx => Below wc.heap.size wc wx ∧ s9 = .int .i64 (sp : Int) ∧ s10 = .int .i64 ((l.length : Int) - 1))
      case first =>
        --[[
        rcases HD.out with ⟨hDf, hs0, _⟩ | ⟨hDt, k, z, y, hk, hz, hy, hu, hsp⟩
        · have HS0 := Lib.hid hs0
          subst hDf
          clear hs0
          go_wp2_with fail
          go_meet
          exact ⟨Below.refl _ _, by rw [HS0.out]; rfl, rfl⟩
        · obtain ⟨bb, oo, rfl, d0, d1, d2⟩ := HR3.out k z hz
          have d0 := old_cell B4.out d0
          have d2 := old_cell B4.out d2
          have hk1 : (l.length : Int) - 1 = (k : Int) := by omega
          have hlk : k < l.length := by omega
          have HK1 := Lib.hid hk1
          have hzs : z.t ≤ P.size := by rw [hu]; exact (HP.out.pm.blkOf hy).2.2.2.2.2.2.1
          have HSP2 := Lib.hid hsp
          have psz := HP.out.pm.sz.2
          subst hDt
          by_cases e1 : P.size - z.t ≤ n
          · have e1' : (P.size : Int) - (z.t : Int) ≤ (n : Int) := by omega
            have HE := Lib.hid (show (P.size : Int) - (z.t : Int) = (sp : Int) by omega)
            clear hz hy hu hk hsp e1
            go_upto_region 9 with fail
            go_quiet (fail)
            go_wp2_with fail
            all_goals (go_meet; exact ⟨bdrewN (Below.refl _ _) _, by first | (rw [HE.out]) | (congr 1; have := HE.out; omega), by rw [HK1.out]⟩)
          · have e1' : ¬ (P.size : Int) - (z.t : Int) ≤ (n : Int) := by omega
            have HE := Lib.hid (show (n : Int) = (sp : Int) by omega)
            clear hz hy hu hk hsp e1
            go_upto_region 9 with fail
            go_quiet (fail)
            go_wp2_with fail
            all_goals (go_meet; exact ⟨bdrewN (Below.refl _ _) _, by first | (rw [HE.out]) | (congr 1; have := HE.out; omega), by rw [HK1.out]⟩)
        --]]
      case rest =>
      obtain ⟨hb5, rfl, rfl⟩ := hcut
      obtain ⟨W5, rfl⟩ : ∃ x, x = wc := ⟨_, rfl⟩
      have B5 := Lib.hid (B4.out.trans (hb5.mono B4.out.size))
      clear hb5 c42
      obtain ⟨r, hr⟩ : ∃ r, n - sp = r := ⟨_, rfl⟩
      have HRR := Lib.hid hr
      have hsub : (n : Int) - (sp : Int) = (r : Int) := by omega
      have MY := Lib.hid (manyP_any (HP.out.pm.below B5.out) r (by omega))
      have mle := manyP_le (n := r) HP.out.pm.sz.1
      have TK := Lib.hid (fun W (hW : Below w.heap.size w W) (hm : manyP P.size r ≤ 2000) => takeP_any (HP.out.same hW) (manyP P.size r) hm)
      obtain ⟨M, hM⟩ : ∃ M, manyP P.size r = M := ⟨_, rfl⟩
      have HM := Lib.hid hM
      rw [hM] at MY mle TK
      have hrn : r ≤ n := by omega
      have hn100 : n ≤ 100000 := by have := HA.out.1; omega
      clear hr hM
      go_wp2_with fail
      refine MY.out.mono ?_
      rintro e w6 ⟨rfl, q6, hq6⟩
      have B6 := Lib.hid (show Below w.heap.size w w6 by rw [hq6]; exact bdrewN B5.out q6)
      clear hq6 MY
      by_cases g2 : 500 < l.length + M
      · have FIN : Hid (ApPost h bp P (sn : Int) os Z w (.returned (.int .i64 4)) w6) := Lib.hid (by
          unfold ApPost
          rw [HL.out]
          simp only
          rw [HN.out, HNL.out, HSPA.out, HRR.out, HM.out, if_neg (fun e => e.elim HA.out.1 HA.out.2), if_pos g2]
          exact ⟨trivial, HSP.out.same B6.out, B6.out⟩)
        have g2' : (500 : Int) < (l.length : Int) + (M : Int) := by omega
        clear g2
        go_wp2_with fail
        go_ret
        exact FIN.out
      · have g2' : ¬ (500 : Int) < (l.length : Int) + (M : Int) := by omega
        have G2 := Lib.hid g2
        clear g2
        go_wp2_with fail
        refine (TK.out _ B6.out (by omega)).mono ?_
        rintro e w7 ⟨rfl, G', b', hp7, hG7, ht7⟩
        have NX7 : Hid (Nxt Z (fun k => F k ∨ G' k) w w7) := Lib.hid (by
          refine ⟨fun k hk => ?_, (Touch.of_below B6.out).then (ht7.mono (fun k hk => (HZ.out k).1 (Or.inr hk)))⟩
          rcases hk with hk | hk
          · exact Or.inl ((HZ.out k).1 (Or.inl hk))
          · rcases hG7 k hk with hk | hk
            · exact Or.inl ((HZ.out k).1 (Or.inr hk))
            · have := B6.out.size
              right; omega)
        by_cases ht0 : tkE P P.bl.length M = 0
        · rw [if_pos ht0] at hp7
          have htk := tkE_le ht0
          have HT0 := Lib.hid ht0
          rw [ht0]
          have HP7 := Lib.hid hp7
          have RD7 := HR.out w7 NX7.out.2
          have ST7 := hp7.pm.str HL.out
          have SG7 := Seg.of_row ST7.1 (ptCells_one l)
          rw [HROW.out] at SG7
          have CB := Lib.hid (clone_byte _ os w7 RD7 (by rw [HN.out]; omega))
          have CPA := Lib.hid (fun W (hW : Below w7.heap.size w7 W) => clone_part _ _ _ W (SG7.below hW) (by omega))
          clear hp7 hG7 ht7 ht0 TK RD7 ST7 SG7
          go_wp2_with fail
          refine CB.out.mono ?_
          rintro e w8 ⟨v8, rfl, hr8, hb8⟩
          have B8 := Lib.hid hb8
          have R8 := Lib.hid hr8
          rw [HN.out] at R8
          obtain ⟨a8, c8, rfl⟩ := wrow_sh R8.out
          have hcap8 : n ≤ c8 ∧ c8 ≤ 9223372036854775807 := by
            obtain ⟨_, _, a', c', he', h1, h2, _⟩ := Seg.of_row R8.out (fun u hu => by obtain ⟨z, _, rfl⟩ := List.mem_map.1 hu; rfl)
            simp only [Value.slice.injEq] at he'
            omega
          obtain ⟨hc81, hc82⟩ := hcap8
          clear hr8 hb8 CB
          go_wp2_with fail
          refine (CPA.out _ B8.out).mono ?_
          rintro e w9 ⟨v9, rfl, hr9, hb9⟩
          have B9 := Lib.hid (B8.out.trans (hb9.mono B8.out.size))
          have R9 := Lib.hid (row_low hr9 B8.out.size)
          have R89 := Lib.hid (row_kept R8.out hb9)
          obtain ⟨a9, c9, rfl⟩ := wrow_sh hr9
          clear hr9 hb9 CPA
          have PB9 := Lib.hid (HP7.out.same B9.out)
          have HSPC : Hid (sp = 0 ∨ ∃ l0 z y, Spare P l os sp l0 z y) := Lib.hid (by
            rcases Nat.eq_zero_or_pos sp with h0 | hpos
            · exact Or.inl h0
            · right
              rcases spare_ways n STR.out.2.2.1 with ⟨_, h1⟩ | ⟨l0, z, y, h0, h2, h3, h4, ⟨h5, h1⟩ | ⟨h5, h1⟩⟩
              · rw [HSPA.out] at h1; omega
              · rw [HSPA.out] at h1; omega
              · rw [HSPA.out] at h1
                refine ⟨l0, z, y, h0, h2, h5, hpos, ?_, ?_⟩
                · omega
                · rw [HN.out]; omega)
          have APF := Lib.hid (apB_facts HP7.out.pm STR.out.2.2.1 (os := os) HSPC.out)
          go_upto_if 96 with fail
          go_cut [9, 10] (fun s9 s10 wx => s9 = .int .i64 (sp : Int) ∧ s10 = .int .i64 ((l.length : Int) - 1) ∧ PB wx h bp (apB P l os sp) mb ms P.bl.length P.st.length D1 D2 F G' b' (P.bl.length + M) ∧
            wx.ownsRow w7.heap.size 75 3 (.slice a9 l.length c9) l.length (ptCells (apL l sp)) ∧ wx.ownsRow w7.heap.size 5 1 (.slice a8 n c8) n (os.map (Value.int .u8)) ∧ Touch F w7 wx)
          case first =>
            --[[
            by_cases hs0 : sp = 0
            · have e1 : apB P l os sp = P := by unfold apB; rw [if_pos hs0]
              have e2 : apL l sp = l := by unfold apL; rw [if_pos hs0]
              have FIN := Lib.hid (And.intro e1 e2)
              have hs0' : ¬ (0 : Int) < (sp : Int) := by omega
              clear hs0 e1 e2
              go_wp2_with fail
              go_meet
              exact ⟨rfl, rfl, by rw [FIN.out.1]; exact PB9.out, by rw [FIN.out.2]; exact R9.out, R89.out, Touch.of_below B9.out⟩
            · have hs0' : (0 : Int) < (sp : Int) := by omega
              obtain ⟨l0, z, y, hsp⟩ := HSPC.out.resolve_left hs0
              have HSPR := Lib.hid hsp
              obtain ⟨k, hk⟩ : ∃ k, l0.length = k := ⟨_, rfl⟩
              have HK := Lib.hid hk
              have hzk : l[k]? = some z := by rw [hsp.l, ← hk]; simp
              have hlen : l.length = k + 1 := by rw [hsp.l, ← hk]; simp
              have hk1 : (l.length : Int) - 1 = (k : Int) := by omega
              have HK1 := Lib.hid hk1
              have hlk : k < l.length := by omega
              obtain ⟨q1, q2, q3⟩ := ptCells_get l k z hzk
              obtain ⟨g9, rfl, d0, f0⟩ := wrow_cell R9.out q1
              obtain ⟨g', hg', d2, f2⟩ := wrow_cell R9.out q3
              simp only [Option.some.injEq, Addr.mk.injEq, and_true] at hg'
              subst hg'
              have c6 := PB9.out.pm.cells.2.2.2.2.2.2.1
              have hzb := (STR.out.2.2.2.2.2.2.2 z (List.mem_of_getElem? hzk)).2.2
              have LK := fun q => (PB9.out.pm.below (bdrewN (Below.refl _ w9) q)).block hsp.look (by omega)
              obtain ⟨y1, y2, y3, y4, y5, y6, y7, y8, y9⟩ := PB9.out.pm.blkOf hsp.look
              have HY := Lib.hid (And.intro y1 (And.intro y2 (And.intro y3 (And.intro y4 (And.intro y5 y6)))))
              have hroom := hsp.room
              have hpos := hsp.pos
              have hus : ¬ P.size = y.used := by omega
              have hzt := hsp.t
              have hsn : sp ≤ n := by have := hsp.le; rw [HN.out] at this; exact this
              have psz := HP.out.pm.sz.2
              have D2H := Lib.hid (And.intro d2 f2)
              clear hzk hlen hk hs0 hsp q1 q2 q3 y1 y2 y3 y4 y5 y6 f0 f2
              go_upto_region 19 with fail
              go_quiet (fail)
              go_upto_region 20 with fail
              have BQ := Lib.hid (show Below w9.heap.size w9 (w9.drewN nq) from bdrewN (Below.refl _ _) nq)
              generalize w9.drewN nq = Wd at *
              have S0 : BelW Wd Wd.drew := (Below.refl _ Wd).drew
              have s0 : ∀ v : WIn (BelW Wd), v.w.cell? ⟨y.a, 0, none⟩ = some (.slice (some ⟨y.g, 0, none⟩) P.size P.size) := fun v => by rw [cell_of ((v.h.block _ (lt_of ((BQ.out.block _ (lt_of HY.out.1)).trans HY.out.1))).trans ((BQ.out.block _ (lt_of HY.out.1)).trans HY.out.1))]; rfl
              have s1 : ∀ v : WIn (BelW Wd), v.w.cell? ⟨y.a, 1, none⟩ = some (.int .i64 (y.used : Int)) := fun v => by rw [cell_of ((v.h.block _ (lt_of ((BQ.out.block _ (lt_of HY.out.1)).trans HY.out.1))).trans ((BQ.out.block _ (lt_of HY.out.1)).trans HY.out.1))]; rfl
              haveI ne : Nonempty (WIn (BelW Wd)) := ⟨⟨Wd.drew, S0⟩⟩
              have huse : y.used ≤ P.size := by omega
              have hc80 : sp ≤ c8 := by omega
              have hc8n : ¬ c8 = 0 := by omega
              clear c6 LK d0 d2
              refine wp_normal ?_
              refine wp_region_plan 12 (BelW Wd) rfl ?_
              refine wpN_seg [0, 1, 2, 3, 4, 5, 6, 7, 8, 9, 10, 11] (by kernel_rfl) (by kernel_rfl) (by kernel_rfl) (by kernel_rfl) (by decide) (fun _ _ _ _ _ h => h) S0 ?_
              simp only [pick, List.map_cons, List.map_nil, List.getElem?_cons_succ, List.getElem?_cons_zero, Option.getD_some]
              repeat (go_big_quiet_step (fail))
              refine wpQuiet_nil ?_
              clear s0 s1 ne
              have GB := Lib.hid (show Wd.drew.heap[y.g]? = some (.cells ((y.cs.map (Value.int .u8)).toArray) 5 (0, 0)) from (BQ.out.block _ (lt_of HY.out.2.1)).trans HY.out.2.1)
              have RD8 := Lib.hid ((Reads.own (row_kept R89.out BQ.out |> fun h => by rw [HN.out]; exact h) (by rw [HN.out]; omega) : Reads Wd .u8 (.slice a8 n c8) os))
              have hlt : ((os.take sp).map (Value.int .u8)).length = sp := by rw [List.length_map, List.length_take, HN.out]; omega
              refine wpN_one 12 _ (by kernel_rfl) rfl ?_
              refine NextAt.free (by kernel_rfl) ?_
              intro K hK
              refine step_copy_at rfl (.tmp 115) (.tmp 118) 22 22 rfl 5 Try.underlying22 byteSize (some ⟨y.g, y.used, none⟩) a8 (P.size - y.used) (P.size - y.used) sp c8 (by simp [Act.eval]) (by simp [Act.eval]) y.g y.used (y.cs.map (Value.int .u8)) 5 GB.out ((os.take sp).map (Value.int .u8)) (by rw [hlt]; exact (Nat.min_eq_left (by omega)).symm) (fun h0 => ⟨rfl, ((RD8.out.drewN 1).take sp (by rw [HN.out]; omega)).src (by rw [List.length_take, HN.out]; omega) h0⟩) (by rw [hlt, List.length_map, HY.out.2.2.1]; omega) (by intro u hu; obtain ⟨z, _, rfl⟩ := List.mem_map.1 hu; rfl) ?_
              intro W3 hg3 ht3
              rw [← splice_mapF] at hg3
              have HG3 := Lib.hid hg3
              have T3 := Lib.hid (show Touch (fun k => k = y.g) Wd W3 from ⟨ht3.os, ht3.tape, ht3.output, ht3.size, ht3.block⟩)
              rw [hlt]
              clear hg3 ht3 hlt S0
              go_simp
              refine hK _ _ ?_
              clear hK K
              refine wpN_done (by kernel_rfl) ?_
              have yag : y.a ≠ y.g := fun e => by
                have h1 := HY.out.1
                have h2 : w9.heap[y.g]? = some (Obj.cells _ 5 (0, 0)) := HY.out.2.1
                rw [e, h2] at h1
                simp at h1
              have lya := lt_of HY.out.1
              have lyg := lt_of HY.out.2.1
              have hya3 : W3.heap[y.a]? = some (.cells #[.slice (some ⟨y.g, 0, none⟩) P.size P.size, .int .i64 (y.used : Int), .bool y.pin] 83 (0, 0)) := (T3.out.block _ (Nat.lt_of_lt_of_le lya BQ.out.size) yag).trans ((BQ.out.block _ lya).trans HY.out.1)
              have g9w := R9.out.lt g9 rfl
              have fyg : F y.g := HY.out.2.2.2.2.2
              have fya : F y.a := HY.out.2.2.2.2.1
              have g9g : g9 ≠ y.g := fun e => by have := HP7.out.fl _ fyg; omega
              have g9a : g9 ≠ y.a := fun e => by have := HP7.out.fl _ fya; omega
              obtain ⟨cur9, hcur9⟩ := row_block R9.out (show (Value.slice (some ⟨g9, 0, none⟩) l.length c9).ownBlock = some g9 from rfl)
              have hg93 : W3.heap[g9]? = some (.cells cur9 75 (0, 0)) := (T3.out.block _ (Nat.lt_of_lt_of_le g9w.2 BQ.out.size) g9g).trans ((BQ.out.block _ g9w.2).trans hcur9)
              have e0 : W3.cell? ⟨y.a, 1, none⟩ = some (.int .i64 (y.used : Int)) := by rw [cell_of hya3]; rfl
              have v0 : W3.frozen? ⟨y.a, 1, none⟩ = false := free_of hya3 1
              have d2 : W3.cell? ⟨g9, k * 3 + 2, none⟩ = some (.int .i64 (z.t : Int)) := by
                have h1 := D2H.out.1
                rw [cell_of hcur9] at h1
                rw [cell_of hg93]
                exact h1
              have v2 : (W3.setCell ⟨y.a, 1, none⟩ (.int .i64 ((y.used : Int) + (sp : Int)))).frozen? ⟨g9, k * 3 + 2, none⟩ = false := free_of ((Below.heap_setCell _ _ _ _ g9a).trans hg93) _
              have d2' : (W3.setCell ⟨y.a, 1, none⟩ (.int .i64 ((y.used : Int) + (sp : Int)))).cell? ⟨g9, k * 3 + 2, none⟩ = some (.int .i64 (z.t : Int)) := by
                rw [cell_of ((Below.heap_setCell _ _ _ _ g9a).trans hg93)]
                rw [cell_of hg93] at d2
                exact d2
              have H3 := Lib.hid (And.intro hya3 (And.intro hg93 (And.intro hcur9 yag)))
              clear hya3 hg93 hcur9 yag
              obtain ⟨Wf, hWf⟩ : ∃ Wf, (W3.setCell ⟨y.a, 1, none⟩ (.int .i64 ((y.used : Int) + (sp : Int)))).setCell ⟨g9, k * 3 + 2, none⟩ (.int .i64 ((y.used : Int) + (sp : Int))) = Wf := ⟨_, rfl⟩
              have off : ∀ j, j ≠ y.a → j ≠ g9 → Wf.heap[j]? = W3.heap[j]? := fun j h1 h2 => by rw [← hWf]; exact (Below.heap_setCell _ _ _ _ h2).trans (Below.heap_setCell _ _ _ _ h1)
              have FIN : Hid (PB Wf h bp (apB P l os sp) mb ms P.bl.length P.st.length D1 D2 F G' b' (P.bl.length + M) ∧ Wf.ownsRow w7.heap.size 75 3 (.slice (some ⟨g9, 0, none⟩) l.length c9) l.length (ptCells (apL l sp)) ∧ Wf.ownsRow w7.heap.size 5 1 (.slice a8 n c8) n (os.map (Value.int .u8)) ∧ Touch F w7 Wf) := Lib.hid (by
                have hsp := HSPR.out
                have s9 := B9.out.size
                have sq := BQ.out.size
                have s3 := T3.out.size
                have TF : Touch F w7 Wf := by
                  rw [← hWf]
                  have T : Touch F w7 W3 := (Touch.of_below (B9.out.trans (BQ.out.mono B9.out.size))).then (T3.out.mono (fun j hj => by rw [hj]; exact fyg))
                  exact (T.setCell (p := ⟨y.a, 1, none⟩) (Or.inl fya) _).setCell (p := ⟨g9, k * 3 + 2, none⟩) (Or.inr g9w.1) _
                have hlen : (splice y.cs y.used (os.take sp)).length = P.size := by
                  rw [splice_len _ _ _ (by rw [List.length_take, HN.out, HY.out.2.2.1]; omega), HY.out.2.2.1]
                have hby : bytes (splice y.cs y.used (os.take sp)) := bytes_spliceF HY.out.2.2.2.1 (fun z hz => HBZ.out z (List.mem_of_mem_take hz))
                have pm' := HP7.out.pm.blk (w3 := Wf) (y' := ⟨y.a, y.g, splice y.cs y.used (os.take sp), y.used + sp, y.pin⟩) hsp.look rfl rfl hlen hby ⟨by show y.used ≤ y.used + sp; omega, hsp.room⟩ (by
                  have h1 := block_setCell H3.out.1 1 (.int .i64 ((y.used : Int) + (sp : Int)))
                  rw [← hWf]
                  refine (Below.heap_setCell _ _ _ _ (fun e => g9a e.symm)).trans (h1.trans ?_)
                  show some (Obj.cells _ _ _) = some (Obj.cells _ _ _)
                  simp) (by
                  refine (off _ (fun e => H3.out.2.2.2 e.symm) (fun e => g9g e.symm)).trans ?_
                  exact HG3.out) (fun j hj h1 h2 => by
                  have h3 := off j h1 (by have := g9w.1; omega)
                  exact h3.trans ((T3.out.block j (by omega) h2).trans ((BQ.out.block j (by omega)).trans (B9.out.block j hj))))
                have row3 : W3.ownsRow w7.heap.size 75 3 (.slice (some ⟨g9, 0, none⟩) l.length c9) l.length (ptCells l) := ownsRow_same R9.out (fun j hj => by
                  have e : g9 = j := by cases hj; rfl
                  rw [← e, H3.out.2.1, H3.out.2.2.1])
                have row4 := ownsRow_same row3 (w' := W3.setCell ⟨y.a, 1, none⟩ (.int .i64 ((y.used : Int) + (sp : Int)))) (fun j hj => by
                  have e : g9 = j := by cases hj; rfl
                  exact Below.heap_setCell _ _ _ _ (by rw [← e]; exact g9a))
                have row5 := wrow_set row4 (k * 3 + 2) (.int .i64 ((y.used : Int) + (sp : Int)))
                rw [hWf] at row5
                have ec : (ptCells l).set (k * 3 + 2) (.int .i64 ((y.used : Int) + (sp : Int))) = ptCells (apL l sp) := by
                  have h1 := ptCells_set_t l0 [] z (z.t + sp)
                  rw [HK.out, ← hsp.l, ← hsp.apL] at h1
                  rw [← h1, Int.natCast_add, hsp.t]
                rw [ec] at row5
                refine ⟨?_, row5, ?_, TF⟩
                · rw [hsp.apB]
                  exact HP7.out.turn' pm' HP7.out.dis (fun j hj => Nat.lt_of_lt_of_le (HP7.out.fl j hj) TF.size) TF rfl
                · refine ownsRow_same R89.out (fun j hj => ?_)
                  obtain ⟨cur8, hcur8⟩ := row_block R89.out hj
                  have hj7 := (R89.out.lt j hj)
                  have nya : j ≠ y.a := fun e => by have := HP7.out.fl _ fya; omega
                  have nyg : j ≠ y.g := fun e => by have := HP7.out.fl _ fyg; omega
                  have ng9 : j ≠ g9 := fun e => by
                    rw [e, H3.out.2.2.1] at hcur8
                    simp at hcur8
                  exact (off j nya ng9).trans ((T3.out.block j (by omega) nyg).trans (BQ.out.block j hj7.2)))
              go_wp2_with fail
              first | rw [hWf] | skip
              go_meet
              exact ⟨rfl, by first | rfl | rw [HK1.out], FIN.out.1, FIN.out.2.1, FIN.out.2.2.1, FIN.out.2.2.2⟩
            --]]
          case rest =>
          obtain ⟨rfl, rfl, hp10, hr10, hq10, ht10⟩ := hcut
          obtain ⟨W10, rfl⟩ : ∃ x, x = wc := ⟨_, rfl⟩
          have HP10 := Lib.hid hp10
          have R10 := Lib.hid hr10
          have Q10 := Lib.hid hq10
          have T10 := Lib.hid ht10
          have SBE := Lib.hid (show StrAt h ms W10 from hp10.pm.cells.2.2.2.2.2.2.2)
          clear hp10 hr10 hq10 ht10 HD
          go_upto_region 23 with fail
          have S0 : StrAt h ms W10.drew := SBE.out
          have r7 : ∀ y : WIn (StrAt h ms), y.w.cell? ⟨h, 7, none⟩ = some (.map (some ms)) := fun y => y.h
          haveI ne : Nonempty (WIn (StrAt h ms)) := ⟨⟨W10.drew, S0⟩⟩
          have hspc : sp ≤ c8 := by omega
          refine wp_normal ?_
          refine wp_region_plan 12 (StrAt h ms) rfl ?_
          refine wpN_seg [0, 1, 2, 3, 4, 5, 6, 7, 8, 9] (by kernel_rfl) (by kernel_rfl) (by kernel_rfl) (by kernel_rfl) (by decide) (fun _ _ _ _ _ h => h) S0 ?_
          simp only [pick, List.map_cons, List.map_nil, List.getElem?_cons_succ, List.getElem?_cons_zero, Option.getD_some]
          repeat (go_big_quiet_step (fail))
          refine wpQuiet_nil ?_
          clear r7 ne S0
          obtain ⟨zz, hzz⟩ : ∃ zz, (if c8 = sp then a8 else Option.map (fun x => x.add sp) a8) = zz := ⟨_, rfl⟩
          have BD := Lib.hid (show Below W10.heap.size W10 W10.drew from (Below.refl _ W10).drew)
          have RDT := Lib.hid (show ∀ W, Touch F W10.drew W → Reads W .u8 (.slice zz r (c8 - sp)) (os.drop sp) from fun W hW => by
            have h1 : W.ownsRow w7.heap.size 5 1 (.slice a8 n c8) n (os.map (Value.int .u8)) := ownsRow_same Q10.out (fun j hj => hW.block j (Q10.out.lt j hj).2 (fun hF => by
              have := HP7.out.fl j hF
              have := (Q10.out.lt j hj).1
              omega))
            have h2 : Reads W .u8 (.slice a8 n c8) os := Reads.own (by rw [HN.out]; exact h1) (by rw [HN.out]; omega)
            have h3 := reads_fromP h2 spb hc81 (c8 - sp)
            rw [hzz, HRR.out] at h3
            exact h3)
          have APS := APF.out
          have hszB : (apB P l os sp).size = P.size := APS.2.2.2.2.2.2.2.1
          have hblB : (apB P l os sp).bl.length = P.bl.length := APS.2.2.2.2.2.1
          have hlbB : (apB P l os sp).lastB = P.lastB := APS.2.2.2.2.2.2.1
          have hstB : (apB P l os sp).st = P.st := APS.2.2.2.2.2.2.2.2.2.1
          have FL := Lib.hid (filled_any (HP10.out.pm.below BD.out) zz r (c8 - sp) (os.drop sp) RDT.out (by rw [List.length_drop, HN.out]; exact HRR.out) (by omega) (by have := HRR.out; omega) (by omega) (fun z hz => HBZ.out z (List.mem_of_mem_drop hz)) (fun k hk => Nat.lt_of_lt_of_le (HP10.out.fl k hk) BD.out.size) (by rw [hszB, hblB, HM.out]; omega) (by rw [hszB, hlbB, HM.out]; have := HBB.out.1; omega) (by rw [hszB, HM.out]; omega))
          have HB := Lib.hid (And.intro hszB (And.intro hblB (And.intro hlbB hstB)))
          rw [hzz, HRR.out]
          clear APS hszB hblB hlbB hstB hzz
          refine wpN_one 10 _ (by kernel_rfl) rfl ?_
          refine NextAt.held ?_
          intro K hK
          go_simp
          refine FL.out.mono ?_
          rintro e w11 ⟨v11, bks, D11, F11, rfl, hbl, hfi, hm11, hF11, hl11, hFF11, hrow11, hap11, ht11⟩
          have hbl2 : bks.length = M := by rw [hbl, List.length_drop, HN.out, HB.out.1, HRR.out, HM.out]
          have p11 := (HP10.out.same BD.out).turn hm11 (fun k hk => hF11 k hk) hl11 ht11 (growAll_size _ _)
          have own10 := R10.out.lt
          have R11 : w11.ownsRow w7.heap.size 75 3 (.slice a9 l.length c9) l.length (ptCells (apL l sp)) := ownsRow_same R10.out (fun j hj => ht11.block j (own10 j hj).2 (fun hF => by
            have h1 := HP7.out.fl j hF
            have h2 := (own10 j hj).1
            omega))
          have hs711 : w7.heap.size ≤ w11.heap.size := Nat.le_trans T10.out.size ht11.size
          have hb500 : l.length + bks.length ≤ 500 := by have := G2.out; omega
          obtain ⟨v12, w12, hrun12, hown12, hg12⟩ := run_append_seg (P := Try.prog) w11 w7.heap.size 66 66 75 i0 (.agg #[.int .i64 0, .int .i64 0, .int .i64 0]) 3 24 Try.underlying66 hi0 hz0 hz1 hz2 rfl (by decide) _ l.length _ R11 v11 bks.length _ (Seg.of_row hrow11 (ptCells_one _)) (by unfold maxLen; omega) (by omega) hs711
          have F11own : ∀ j, (Value.slice a9 l.length c9).ownBlock = some j → ¬ F11 j := fun j hj hF => by
            rcases hF11 j hF with hF | hF
            · have h1 := HP7.out.fl j hF
              have h2 := (own10 j hj).1
              omega
            · have h2 := (own10 j hj).2
              have h3 : W10.drew.heap.size = W10.heap.size := rfl
              omega
          have gown : ∀ j, (Value.slice a9 l.length c9).ownBlock = some j → ¬ G' j := fun j hj hG => by
            have h1 := HP7.out.gl j hG
            have h2 := (own10 j hj).1
            omega
          have p12 := p11.far (w' := w12) (fun j hj hlt => hg12.block j hlt (fun e => by
            rcases hj with hj | hj
            · exact F11own j e.symm hj
            · exact gown j e.symm hj)) hg12.size
          have APS := APF.out
          have ptsN : PtsOf ((apB P l os sp).growAll bks) (apL l sp ++ fillPts P.lastB P.size (os.drop sp) bks.length) := by
            refine PtsOf.app (fun x hx => ?_) ?_
            · obtain ⟨y, hy, h1⟩ := APS.1 x hx
              exact ⟨y, growAll_old bks APS.2.2.2.2.2.2.2.2.2.2 hy, h1⟩
            · have h1 := hfi.pts APS.2.2.2.2.2.2.2.2.2.2
              rw [HB.out.1, HB.out.2.2.1] at h1
              exact h1
          have hll : (apL l sp ++ fillPts P.lastB P.size (os.drop sp) bks.length).length = l.length + bks.length := by rw [List.length_append, APS.2.2.2.1, fillPts_len]
          have hlnp : lenP (apL l sp ++ fillPts P.lastB P.size (os.drop sp) bks.length) ≤ 100000 := by
            rw [lenP_app, APS.2.2.2.2.1, lenP_fill, List.length_drop, HN.out, HNL.out]
            have := HA.out.2
            omega
          have row12 : w12.ownsRow w7.heap.size 75 3 v12 (apL l sp ++ fillPts P.lastB P.size (os.drop sp) bks.length).length (ptCells (apL l sp ++ fillPts P.lastB P.size (os.drop sp) bks.length)) := by
            rw [hll, ptCells_app]
            rw [HB.out.1, HB.out.2.2.1] at hown12
            exact hown12
          have hlook : lookN ((apB P l os sp).growAll bks).st sn = some (o, l) := by rw [growAll_st, HB.out.2.2.2]; exact HL.out
          have own12 := row12.lt
          obtain ⟨w13, o13, D213, hrun13, ho13, p13, T13⟩ := p12.put hlook row12 (fun k hk hg => by
            have h1 := HP7.out.gl k hg
            have h2 := (own12 k hk).1
            omega) ptsN ⟨by rw [hll]; exact hb500, hlnp⟩ hnb
          have FIN : Hid (ApPost h bp P (sn : Int) os Z w (.returned (.int .i64 0)) w13) := Lib.hid (by
            unfold ApPost
            rw [HL.out, hn0]
            simp only
            rw [HN.out, HNL.out, HSPA.out, HRR.out, HM.out, if_neg (fun e => e.elim HA.out.1 HA.out.2), if_neg G2.out, if_neg (fun hne => hne HT0.out)]
            refine ⟨trivial, bks, o13, _, hbl2, by rw [← HB.out.1]; exact hfi, by rw [hbl2] at p13 ⊢; exact SP.of p13, NX7.out.trans ⟨fun k hk => ?_, ?_⟩⟩
            · rcases hk with (hk | hk) | hk
              · rcases hF11 k hk with hk | hk
                · exact Or.inl (Or.inl hk)
                · have h3 : W10.drew.heap.size = W10.heap.size := rfl
                  have h4 := T10.out.size
                  right; omega
              · exact Or.inr (own12 k hk).1
              · exact Or.inl (Or.inr hk)
            · have t1 : Touch (fun k => F k ∨ G' k) w7 w11 := ((T10.out.mono (fun k hk => Or.inl hk)).drew).then (ht11.mono (fun k hk => Or.inl hk))
              have t2 := t1.grown hg12 (fun k hk => Or.inr (own10 k hk).1)
              refine t2.trans T13 (fun k hk => ?_)
              rcases hF11 k hk with hk | hk
              · exact Or.inl (Or.inl hk)
              · have h3 : W10.drew.heap.size = W10.heap.size := rfl
                have h4 := T10.out.size
                right; omega)
          have S11 : StrAt h ms w11 := hm11.cells.2.2.2.2.2.2.2
          have S12 : StrAt h ms w12 := p12.pm.cells.2.2.2.2.2.2.2
          obtain ⟨a11, c11, rfl⟩ := wrow_sh hrow11
          obtain ⟨a12, c12, rfl⟩ := wrow_sh row12
          clear hbl hfi hm11 hF11 hl11 hFF11 hrow11 hap11 ht11 hbl2 p11 own10 R11 hs711 hb500 hown12 hg12 F11own gown p12 APS ptsN hll hlnp row12 hlook own12 ho13 p13 T13 FL
          go_simp
          refine hK _ _ S11 ?_
          clear hK K S11
          refine wpN_one 11 _ (by kernel_rfl) rfl ?_
          refine NextAt.held ?_
          intro K hK
          refine step_append_knownP rfl (.tmp 142) (.tmp 147) 66 rfl _ _ _ (by simp [Act.eval]) (by simp [Act.eval]) hrun12 ?_
          go_simp
          refine hK _ _ S12 ?_
          clear hK K S12 hrun12
          refine wpN_one 12 _ (by kernel_rfl) rfl ?_
          refine NextAt.free (by kernel_rfl) ?_
          intro K hK
          refine step_update_here rfl _ _ _ _ rfl _ _ _ (by go_simp) (by go_simp) (by go_simp) hrun13 ?_
          go_simp
          refine hK _ _ ?_
          clear hK K hrun13
          refine wpN_done (by kernel_rfl) ?_
          go_wp2_with fail
          go_ret
          exact FIN.out
        · rw [if_neg ht0] at hp7
          have FIN : Hid (ApPost h bp P (sn : Int) os Z w (.returned (.int .i64 (tkE P P.bl.length M))) w7) := Lib.hid (by
            unfold ApPost
            rw [HL.out]
            simp only
            rw [HN.out, HNL.out, HSPA.out, HRR.out, HM.out, if_neg (fun e => e.elim HA.out.1 HA.out.2), if_neg G2.out, if_pos ht0]
            exact ⟨rfl, _, SP.of hp7, NX7.out⟩)
          generalize tkE P P.bl.length M = ee at *
          have hne : (ee == 0) = false := by simp; exact ht0
          clear hp7 hG7 ht7 TK
          go_wp2_with fail
          go_ret
          exact FIN.out

end Go.Proofs.Ytbndknbjjdoanaa
