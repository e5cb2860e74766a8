/-
  A string's parts put into the map; Clone, Cut of a pool: what they give. Conditions: numbers in their bounds.
-/
import Derived.Test.YtbndknbjjdoanaaTopSharedPbd
namespace Go.Proofs.Ytbndknbjjdoanaa
open Go.RowKit
set_option linter.unusedVariables false

theorem PB.put {w : World} {h bp : Nat} {P : PoolSt} {mb ms N1 N2 : Nat} {D1 D2 : DataW Unit} {F G : Nat → Prop} {b : BookSt} {n : Nat} (p : PB w h bp P mb ms N1 N2 D1 D2 F G b n) {s : Nat} {q : Option (Nat × Nat × Nat) × List Pt} (hl : lookN P.st s = some q) {B : Nat} {v : Value} {l : List Pt}
    (hr : w.ownsRow B 75 3 v l.length (ptCells l)) (hG : ∀ k, v.ownBlock = some k → ¬ G k) (hpt : PtsOf P l) (hll : l.length ≤ 500 ∧ lenP l ≤ 100000) (hs : s ≤ 1000000000) :
    ∃ w3 o D2', (Instr.mapUpdate 61 (.map (some ms)) (.int .i64 (s : Int)) v).run Try.prog w = .ok () w3 ∧ v = rowOf o ∧ PB w3 h bp (P.setS s o l) mb ms (P.setS s o l).bl.length (P.setS s o l).st.length D1 D2' (fun k => F k ∨ v.ownBlock = some k) G b n ∧ Touch F w w3 := by
  have p := p.tight
  obtain ⟨o, ho⟩ := row_of hr
  have hkey := Maps.keyOf_int_mk (P := Try.prog) (k := 3) Try.underlying3 (a := (s : Int)) (WalkArith.wf_i64 (by omega))
  obtain ⟨w3, hrun, hm3, hg3⟩ := p.pm.m2.update intKey Try.underlying61 (by have := p.pm.few.1; unfold maxLen; omega) hkey (rowElem_of o)
  have hR0 := row_low hr (Nat.zero_le _)
  rw [ho] at hR0
  have m3 := p.pm.put hl hm3 (fun k hk hne => hg3.block k hk (fun e => hne (Option.some.inj e))) hR0 hpt hll
  have T3 : Touch F w w3 := (Touch.refl F w).grown hg3 (fun k e => by cases e; exact Or.inl p.pm.f2)
  have p3 := p.turn' m3 (fun k hk => by
    rcases hk with hk | hk
    · exact p.dis k hk
    · exact hG k (by rw [ho]; exact hk)) (fun k hk => by
    rcases hk with hk | hk
    · exact Nat.lt_of_lt_of_le (p.fl k hk) T3.size
    · exact Nat.lt_of_lt_of_le (hr.lt k (by rw [ho]; exact hk)).2 T3.size) T3 rfl
  rw [ho]
  exact ⟨w3, o, _, hrun, rfl, p3.tight, T3⟩

def ClPost (h bp : Nat) (P : PoolSt) (s : Int) (Z : Nat → Prop) (w : World) : Ending → World → Prop := fun e w' => match lookN P.st s with
  | none => e = .returned (.tuple #[.int .i64 0, .int .i64 13]) ∧ Stays h bp P Z P.bl.length w w'
  | some x => ShPost h bp P x.2 Z w e w'

set_option maxHeartbeats 2000000 in
set_option maxRecDepth 100000 in
theorem cloneS_any {w : World} {Z : Nat → Prop} {h bp : Nat} {P : PoolSt} (s : SP w Z h bp P P.bl.length) (x : Int) (hx : -9223372036854775808 ≤ x ∧ x ≤ 9223372036854775807) (hB : P.lastB + 2000 ≤ 1000000000 ∧ P.lastS + 1 ≤ 1000000000) :
    Calls Try.prog 19 #[.pointer (some ⟨h, 0, none⟩), .int .i64 x] w (ClPost h bp P x Z w) := by
  have HSP := Lib.hid s
  obtain ⟨mb, ms, D1, D2, F, G, b, p, hZ⟩ := s
  have HP := Lib.hid p
  have FI := Lib.hid (findP_any p.pm x hx)
  have HZ := Lib.hid (SP.Zeq hZ)
  have HBB := Lib.hid hB
  clear p hZ hB
  cases hl : lookN P.st x with
  | none =>
    have HL := Lib.hid hl
    clear hl
    go_enter Try.func19, Try.ntmps19
    go_wp2_with fail
    refine FI.out.mono ?_
    rintro e w2 ⟨rfl, he⟩
    rw [HL.out] at he
    subst he
    have FIN : Hid (ClPost h bp P x Z w2 (.returned (.tuple #[.int .i64 0, .int .i64 13])) w2) := Lib.hid (by
      unfold ClPost
      rw [HL.out]
      exact ⟨rfl, HSP.out, Below.refl _ _⟩)
    go_wp2_with fail
    go_ret2
    exact FIN.out
  | some q =>
    obtain ⟨o, l⟩ := q
    have HL := Lib.hid hl
    have STR := Lib.hid (HP.out.pm.str hl)
    obtain ⟨ra, rc, hrow, _, _, _⟩ := STR.out.2.2.2.2.2.1
    have HROW := Lib.hid hrow
    have SH := Lib.hid (sharedB_any HP.out (rowOf o) l (fun W hW => seg_turn STR.out.1 (fun k hk hg => HP.out.dis k (STR.out.2.1 k hk) hg) hW) (by have := STR.out.2.2.2.1; omega) STR.out.2.2.1 HBB.out)
    rw [hrow] at SH
    clear hl hrow
    go_enter Try.func19, Try.ntmps19
    go_wp2_with fail
    refine FI.out.mono ?_
    rintro e w2 ⟨hw2, he⟩
    obtain rfl := hw2.symm
    rw [HL.out] at he
    simp only [HROW.out] at he
    subst he
    go_wp2_with fail
    refine SH.out.mono ?_
    intro e w4 hp4
    rw [HZ.out] at hp4
    have FIN : Hid (ClPost h bp P x Z w e w4) := Lib.hid (by
      unfold ClPost
      rw [HL.out]
      exact hp4)
    clear SH
    rcases hp4 with ⟨_, rfl, _⟩ | ⟨_, rfl, _⟩
    · go_wp2_with fail
      go_ret2
      exact FIN.out
    · go_wp2_with fail
      go_ret2
      exact FIN.out

/-- What is left of a string. -/
def restP (l : List Pt) (f t : Int) : List Pt := cutP l 0 f ++ cutP l t (lenP l : Nat)
def CuPost (h bp : Nat) (P : PoolSt) (x f t : Int) (Z : Nat → Prop) (w : World) : Ending → World → Prop := fun e w' => match lookN P.st x with
  | none => e = .returned (.int .i64 13) ∧ Stays h bp P Z P.bl.length w w'
  | some q => if btE (lenP q.2) f t = 0 then (if f = t then e = .returned (.int .i64 0) ∧ Stays h bp P Z P.bl.length w w' else if 500 < (restP q.2 f t).length then e = .returned (.int .i64 4) ∧ Stays h bp P Z P.bl.length w w'
      else e = .returned (.int .i64 0) ∧ ∃ o Z', SP w' Z' h bp (P.setS x.toNat o (restP q.2 f t)).swept (P.setS x.toNat o (restP q.2 f t)).swept.bl.length ∧ Nxt Z Z' w w')
    else e = .returned (.int .i64 2) ∧ Stays h bp P Z P.bl.length w w'

set_option maxHeartbeats 4000000 in
set_option maxRecDepth 100000 in
theorem cutS_any {w : World} {Z : Nat → Prop} {h bp : Nat} {P : PoolSt} (s : SP w Z h bp P P.bl.length) (x f t : Int) (hx : -9223372036854775808 ≤ x ∧ x ≤ 9223372036854775807) :
    Calls Try.prog 22 #[.pointer (some ⟨h, 0, none⟩), .int .i64 x, .int .i64 f, .int .i64 t] w (CuPost h bp P x f t Z w) := by
  obtain ⟨i0, hi0, hz0, hz1, hz2⟩ := info_parts info_part
  have HSP := Lib.hid s
  obtain ⟨mb, ms, D1, D2, F, G, b, p, hZ⟩ := s
  have HP := Lib.hid p
  have BW := Lib.hid (between_any' p.pm x f t hx)
  have HZ := Lib.hid hZ
  clear p hZ
  cases hl : lookN P.st x with
  | none =>
    have HL := Lib.hid hl
    clear hl
    go_enter Try.func22, Try.ntmps22
    go_wp2_with fail
    refine BW.out.mono ?_
    rintro e w2 ⟨hb2, he⟩
    rw [HL.out] at he
    subst he
    have FIN : Hid (CuPost h bp P x f t Z w (.returned (.int .i64 13)) w2) := Lib.hid (by
      unfold CuPost
      rw [HL.out]
      exact ⟨rfl, HSP.out.same hb2, hb2⟩)
    clear hb2
    go_wp2_with fail
    go_ret
    exact FIN.out
  | some q =>
    obtain ⟨o, l⟩ := q
    have HL := Lib.hid hl
    obtain ⟨n, rfl, hmem⟩ := lookN_mem hl
    have hnb : n ≤ 1000000000 := by
      have h1 := (HP.out.pm.ns _ hmem).2
      have h2 := HP.out.pm.few.2.2.2.2
      simp only at h1
      omega
    have STR := Lib.hid (HP.out.pm.str hl)
    have hn0 : ((n : Int)).toNat = n := by omega
    clear hl hmem
    rcases btE_cases (lenP l) f t with ⟨h0, hb⟩ | ⟨h2, hne⟩
    · have H0 := Lib.hid h0
      have hlb := STR.out.2.2.2.2.1
      obtain ⟨ra, rc, hrow, _, _, _⟩ := STR.out.2.2.2.2.2.1
      have HROW := Lib.hid hrow
      have C1 := Lib.hid (fun W (hW : Below w.heap.size w W) => cutP_any (rowOf o) l 0 f W (STR.out.2.2.2.2.2.1.below hW) STR.out.2.2.2.2.2.2 (by omega) (by omega))
      have LE := Lib.hid (fun W (hW : Below w.heap.size w W) => lengthP_any (rowOf o) l W (STR.out.2.2.2.2.2.1.below hW) STR.out.2.2.2.2.2.2)
      have C2 := Lib.hid (fun W (hW : Below w.heap.size w W) => cutP_any (rowOf o) l t (lenP l : Nat) W (STR.out.2.2.2.2.2.1.below hW) STR.out.2.2.2.2.2.2 (by omega) (by omega))
      rw [hrow] at C1 C2 LE
      have hcl1 := cutP_len l 0 f
      have hcl2 := cutP_len l t (lenP l : Nat)
      have hl500 := STR.out.2.2.2.1
      obtain ⟨N, hN⟩ : ∃ N, lenP l = N := ⟨_, rfl⟩
      have HN := Lib.hid hN
      rw [hN] at C2 LE hcl2
      clear h0 hb hlb hrow hN
      by_cases hft : f = t
      · have HFT := Lib.hid hft
        have hft' : (f == t) = true := by simp; exact hft
        clear hft
        go_enter Try.func22, Try.ntmps22
        go_wp2_with fail
        refine BW.out.mono ?_
        rintro e w2 ⟨hb2, he⟩
        rw [HL.out] at he
        simp only [H0.out, if_true] at he
        rw [HROW.out] at he
        subst he
        have FIN : Hid (CuPost h bp P (n : Int) f t Z w (.returned (.int .i64 0)) w2) := Lib.hid (by
          unfold CuPost
          rw [HL.out]
          simp only [H0.out, if_true]
          rw [if_pos HFT.out]
          exact ⟨trivial, HSP.out.same hb2, hb2⟩)
        clear hb2
        go_wp2_with fail
        go_ret
        exact FIN.out
      · have HFT := Lib.hid hft
        have hft' : (f == t) = false := by simp; exact hft
        clear hft
        go_enter Try.func22, Try.ntmps22
        go_wp2_with fail
        refine BW.out.mono ?_
        rintro e w2 ⟨hb2, he⟩
        rw [HL.out] at he
        simp only [H0.out, if_true] at he
        rw [HROW.out] at he
        subst he
        have B2 := Lib.hid hb2
        clear hb2
        go_wp2_with fail
        refine (C1.out _ B2.out).mono ?_
        rintro e w3 ⟨v3, rfl, hr3, hb3⟩
        have B3 := Lib.hid (B2.out.trans (hb3.mono B2.out.size))
        have R3 := Lib.hid hr3
        have S3 := Lib.hid (show w2.heap.size ≤ w3.heap.size from hb3.size)
        obtain ⟨a3, c3, rfl⟩ := wrow_sh hr3
        clear hr3 hb3 C1
        go_wp2_with fail
        refine (LE.out _ B3.out).mono ?_
        rintro e w4 ⟨rfl, hb4⟩
        have B4 := Lib.hid (B3.out.trans (hb4.mono B3.out.size))
        have R4 := Lib.hid (row_kept R3.out hb4)
        have S4 := Lib.hid (Nat.le_trans S3.out hb4.size)
        clear hb4 LE
        go_wp2_with fail
        refine (C2.out _ B4.out).mono ?_
        rintro e w5 ⟨v5, rfl, hr5, hb5⟩
        have B5 := Lib.hid (B4.out.trans (hb5.mono B4.out.size))
        have R5 := Lib.hid (row_kept R4.out hb5)
        have S5 := Lib.hid (Seg.of_row hr5 (ptCells_one _))
        obtain ⟨a5, c5, rfl⟩ := wrow_sh hr5
        have hs25 : w2.heap.size ≤ w5.heap.size := Nat.le_trans S4.out hb5.size
        obtain ⟨A, hA⟩ : ∃ A, cutP l 0 f = A := ⟨_, rfl⟩
        obtain ⟨C, hC⟩ : ∃ C, cutP l t (N : Nat) = C := ⟨_, rfl⟩
        have HAC := Lib.hid (show restP l f t = A ++ C by unfold restP; rw [hA, HN.out, hC])
        rw [hA] at R5 hcl1 ⊢
        rw [hC] at S5 hcl2 ⊢
        clear hr5 hb5 C2 hA hC R4 R3 S3 S4
        have al : A.length ≤ 500 := by omega
        have cl : C.length ≤ 500 := by omega
        go_wp2_with (at_builtin; go_must (refine wpList_append_seg rfl (.tmp 28) (.tmp 33) 66 rfl w2.heap.size 75 i0 (.agg #[.int .i64 0, .int .i64 0, .int .i64 0]) 3 24 Try.underlying66 hi0 hz0 hz1 hz2 rfl (by decide) _ _ A.length (ptCells A) rfl R5.out _ C.length (ptCells C) rfl S5.out (by unfold maxLen; omega) (by omega) hs25 ?_))
        intro v6 w6 hown6 hg6
        have B6 := Lib.hid (B5.out.grown hg6 B5.out.size (fun k e => Nat.le_trans B2.out.size (R5.out.lt k e).1))
        have R6 : w6.ownsRow w2.heap.size 75 3 v6 (A ++ C).length (ptCells (A ++ C)) := by rw [List.length_append, ptCells_app]; exact hown6
        have hpt6 : PtsOf P (A ++ C) := by
          rw [← HAC.out]
          exact (STR.out.2.2.1.cut HP.out.pm 0 f).app (STR.out.2.2.1.cut HP.out.pm t _)
        have hp6 := HP.out.same B6.out
        obtain ⟨L, hL⟩ : ∃ L, A ++ C = L := ⟨_, rfl⟩
        rw [hL] at R6 hpt6 HAC
        have hll : A.length + C.length = L.length := by rw [← hL, List.length_append]
        clear hown6 hg6 R5 S5 hL
        obtain ⟨a6, c6, rfl⟩ := wrow_sh R6
        by_cases hbig : 500 < L.length
        · have FIN : Hid (CuPost h bp P (n : Int) f t Z w (.returned (.int .i64 4)) w6) := Lib.hid (by
            unfold CuPost
            rw [HL.out]
            simp only [H0.out, if_true]
            rw [if_neg HFT.out, HAC.out, if_pos hbig]
            exact ⟨trivial, HSP.out.same B6.out, B6.out⟩)
          clear R6 hpt6 hp6
          go_wp2_with fail
          go_ret
          exact FIN.out
        · have hlen6 : lenP L ≤ 100000 := by
            have hM := STR.out.2.2.1.okM HP.out.pm
            have h1 : lenP L = (octP P.oct L).length := (octP_len (hpt6.okM HP.out.pm)).symm
            have h2 : (octP P.oct l).length = lenP l := octP_len hM
            have h3 := STR.out.2.2.2.2.1
            rw [h1, ← HAC.out]
            unfold restP
            rw [octP_app, cutP_oct hM, cutP_oct hM, List.length_append, List.length_drop, List.length_drop, List.length_take, List.length_take]
            rcases btE_cases (lenP l) f t with ⟨_, hb⟩ | ⟨_, hne⟩
            · omega
            · exact absurd H0.out hne
          obtain ⟨w7, o7, D27, hrun, ho7, p7, T7⟩ := hp6.put HL.out R6 (fun k hk hg => by
            have h1 := (R6.lt k hk).1
            have h2 := HP.out.gl k hg
            have h3 := B2.out.size
            omega) hpt6 ⟨by omega, hlen6⟩ hnb
          have own6 := R6.lt
          have ebl : P.bl.length = (P.setS n o7 L).bl.length := rfl
          rw [ebl] at p7
          have SW := Lib.hid (sweepP_any p7)
          have F17 := Lib.hid (show F mb from hp6.pm.f1)
          have NX7 : Hid (Nxt Z (fun k => (F k ∨ (Value.slice a6 L.length c6).ownBlock = some k) ∨ G k) w w7) := Lib.hid (by
            refine ⟨fun k hk => ?_, (Touch.of_below B6.out).then (T7.mono (fun k hk => (HZ.out k).1 (Or.inl hk)))⟩
            rcases hk with (hk | hk) | hk
            · exact Or.inl ((HZ.out k).1 (Or.inl hk))
            · have h1 := (own6 k hk).1
              have h2 := B2.out.size
              right; omega
            · exact Or.inl ((HZ.out k).1 (Or.inr hk)))
          have c7 := hp6.pm.cells.2.2.2.2.2.2.2
          clear R6 hpt6 hp6 p7 T7 own6 ebl ho7 hlen6
          go_wp2_with (at_mapUpdate; go_must (refine wpList_update_runP rfl _ _ _ _ rfl (by rfl) (by rfl) (by rfl) hrun ?_))
          clear hrun c7
          go_wp2_with fail
          refine SW.out.mono ?_
          rintro e w8 ⟨⟨v8, rfl⟩, D1', G', b', p8, hG8, t8⟩
          have FIN : Hid (CuPost h bp P (n : Int) f t Z w (.returned (.int .i64 0)) w8) := Lib.hid (by
            unfold CuPost
            rw [HL.out, hn0]
            simp only [H0.out, if_true]
            rw [if_neg HFT.out, HAC.out, if_neg hbig]
            refine ⟨trivial, o7, _, SP.of p8, NX7.out.trans ⟨fun k hk => ?_, t8.mono (fun k hk => ?_)⟩⟩
            · rcases hk with hk | hk
              · exact Or.inl (Or.inl hk)
              · rcases hG8 k hk with hk | hk
                · exact Or.inl (Or.inr hk)
                · exact Or.inr hk
            · rcases hk with hk | rfl
              · exact Or.inr hk
              · exact Or.inl (Or.inl F17.out))
          clear p8 hG8 t8 SW
          go_wp2_with fail
          go_ret
          exact FIN.out
    · have H2 := Lib.hid (And.intro h2 hne)
      clear h2 hne
      go_enter Try.func22, Try.ntmps22
      go_wp2_with fail
      refine BW.out.mono ?_
      rintro e w2 ⟨hb2, he⟩
      rw [HL.out] at he
      simp only [H2.out.2, if_false] at he
      rw [H2.out.1] at he
      subst he
      have FIN : Hid (CuPost h bp P (n : Int) f t Z w (.returned (.int .i64 2)) w2) := Lib.hid (by
        unfold CuPost
        rw [HL.out]
        simp only [H2.out.2, if_false]
        exact ⟨trivial, HSP.out.same hb2, hb2⟩)
      clear hb2
      go_wp2_with fail
      go_ret
      exact FIN.out

end Go.Proofs.Ytbndknbjjdoanaa
