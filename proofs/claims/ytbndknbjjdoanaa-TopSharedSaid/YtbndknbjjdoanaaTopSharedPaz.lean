/-
  Make: what it gives. Conditions: numbers in their bounds.
  Slice, Copy, Room: what they give. Conditions: numbers in their bounds.
-/
import Derived.Test.YtbndknbjjdoanaaTopSharedPay

namespace Go.Proofs.Ytbndknbjjdoanaa
section
open Go.RowKit
set_option linter.unusedVariables false

theorem manyP_le {size n : Nat} (hs : 1 ≤ size) : manyP size n ≤ n := by
  unfold manyP
  rcases Nat.eq_zero_or_pos n with h | h
  · subst h
    rw [Nat.zero_add, Nat.div_eq_of_lt (by omega)]
    exact Nat.zero_le _
  · refine Nat.div_le_of_le_mul ?_
    have h1 : size * 1 + (n - 1) * 1 ≤ size * n := by
      obtain ⟨m, rfl⟩ : ∃ m, n = m + 1 := ⟨n - 1, by omega⟩
      rw [Nat.mul_add]
      have : (m + 1 - 1) * 1 ≤ size * m := by
        rw [Nat.add_sub_cancel, Nat.mul_comm]
        exact Nat.mul_le_mul_right _ hs
      omega
    omega
def mkE (P : PoolSt) (n : Nat) : Int := if 100000 < n ∨ P.st.length = 200 ∨ 500 < manyP P.size n then 4 else tkE P P.bl.length (manyP P.size n)
def MkPost (h bp : Nat) (P : PoolSt) (os : List Int) (Z : Nat → Prop) (w : World) : Ending → World → Prop := fun e w' =>
  (mkE P os.length ≠ 0 ∧ e = .returned (.tuple #[.int .i64 0, .int .i64 (mkE P os.length)]) ∧ ∃ Z', SP w' Z' h bp P P.bl.length ∧ Nxt Z Z' w w') ∨
  (mkE P os.length = 0 ∧ e = .returned (.tuple #[.int .i64 ((P.lastS + 1 : Nat) : Int), .int .i64 0]) ∧ ∃ bks o Z', bks.length = manyP P.size os.length ∧ Fills P.size os bks ∧ SP w' Z' h bp ((P.growAll bks).add o (fillPts P.lastB P.size os bks.length)) (P.bl.length + bks.length) ∧ Nxt Z Z' w w')

set_option maxHeartbeats 4000000 in
set_option maxRecDepth 100000 in
theorem make_any {w : World} {Z : Nat → Prop} {h bp : Nat} {P : PoolSt} (s : SP w Z h bp P P.bl.length) (a : Option Addr) (n c : Nat) (os : List Int) (hr : ∀ W, Touch Z w W → Reads W .u8 (.slice a n c) os) (hn : os.length = n) (hc1 : n ≤ c) (hc2 : c ≤ 9223372036854775807) (hn2 : n ≤ 140737488355328) (hbz : bytes os) (hB : P.lastB + 2000 ≤ 1000000000 ∧ P.lastS + 1 ≤ 1000000000) :
    Calls Try.prog 8 #[.pointer (some ⟨h, 0, none⟩), .slice a n c] w (MkPost h bp P os Z w) := by
  obtain ⟨mb, ms, D1, D2, F, G, b, p, hZ⟩ := s
  obtain ⟨c0, c1, c2, c3, c4, c5, c6, c7⟩ := p.pm.cells
  have LN := p.pm.m2.len Try.underlying61 3
  rw [p.pm.z2] at LN
  have few := p.pm.few.1
  have MY := Lib.hid (fun W (hW : Below w.heap.size w W) => manyP_any (p.pm.below hW) n (by omega))
  have SPZ : ∀ w' : World, Below w.heap.size w w' → SP w' Z h bp P P.bl.length := fun w' hb => ⟨mb, ms, D1, D2, F, G, b, p.same hb, hZ⟩
  have HP := Lib.hid p
  have HR := Lib.hid hr
  have HN := Lib.hid hn
  have HBZ := Lib.hid hbz
  have HZ := Lib.hid hZ
  have HBB := Lib.hid hB
  have HS := Lib.hid SPZ
  have s1 := p.pm.sz.1
  have mle := manyP_le (n := n) s1
  have HC := Lib.hid (And.intro hc1 hc2)
  clear p hr hn hbz hZ hB SPZ
  by_cases g1 : 100000 < n ∨ P.st.length = 200 ∨ 500 < manyP P.size n
  · have E := Lib.hid (show mkE P os.length = 4 by rw [HN.out]; exact if_pos g1)
    have FIN : Hid (∀ w', Below w.heap.size w w' → MkPost h bp P os Z w (.returned (.tuple #[.int .i64 0, .int .i64 4])) w') := Lib.hid (fun w' hb => by
      left
      exact ⟨by rw [E.out]; decide, by rw [E.out], Z, HS.out _ hb, Nxt.of_below hb⟩)
    by_cases a1 : 100000 < n
    · clear g1
      go_enter Try.func8, Try.ntmps8
      go_wp2_with fail
      go_ret2
      exact FIN.out _ (Below.refl _ _)
    · by_cases a2 : P.st.length = 200
      · rw [a2] at LN
        clear g1
        go_enter Try.func8, Try.ntmps8
        go_wp2_with fail
        go_ret2
        exact FIN.out _ (Below.refl _ _)
      · have a2' : ((P.st.length : Int) == 200) = false := by simp; omega
        have a3 : 500 < manyP P.size n := by omega
        generalize manyP P.size n = M at *
        clear g1
        go_enter Try.func8, Try.ntmps8
        go_wp2_with fail
        refine (MY.out _ (Below.refl _ _)).mono ?_
        rintro e w2 ⟨rfl, q, rfl⟩
        go_wp2_with fail
        go_ret2
        exact FIN.out _ (bdrewN (Below.refl _ _) q)
  · have E := Lib.hid (show mkE P os.length = tkE P P.bl.length (manyP P.size n) by rw [HN.out]; exact if_neg g1)
    have a1 : ¬ 100000 < n := fun e => g1 (Or.inl e)
    have a2 : ¬ P.st.length = 200 := fun e => g1 (Or.inr (Or.inl e))
    have a2' : ((P.st.length : Int) == 200) = false := by simp; omega
    have a3 : ¬ 500 < manyP P.size n := fun e => g1 (Or.inr (Or.inr e))
    have TK := Lib.hid (fun W (hW : Below w.heap.size w W) => takeP_any (HP.out.same hW) (manyP P.size n) (by omega))
    obtain ⟨M, hM⟩ : ∃ M, manyP P.size n = M := ⟨_, rfl⟩
    have HM := Lib.hid hM
    rw [hM] at MY a3 E TK mle
    clear g1 hM
    go_enter Try.func8, Try.ntmps8
    go_wp2_with fail
    refine (MY.out _ (Below.refl _ _)).mono ?_
    rintro e w2 ⟨rfl, q2, hq2⟩
    have B2 := Lib.hid (show Below w.heap.size w w2 by rw [hq2]; exact bdrewN (Below.refl _ _) q2)
    clear hq2
    go_wp2_with fail
    refine (MY.out _ B2.out).mono ?_
    rintro e w3 ⟨rfl, q3, hq3⟩
    have B3 := Lib.hid (show Below w.heap.size w w3 by rw [hq3]; exact bdrewN B2.out q3)
    clear hq3
    go_wp2_with fail
    refine (TK.out _ B3.out).mono ?_
    rintro e w5 ⟨rfl, G', b', hp5, hG5, ht5⟩
    have NX5 : Hid (Nxt Z (fun k => F k ∨ G' k) w w5) := Lib.hid (by
      refine ⟨fun k hk => ?_, (Touch.of_below B3.out).then (ht5.mono (fun k hk => (HZ.out k).1 (Or.inr hk)))⟩
      rcases hk with hk | hk
      · exact Or.inl ((HZ.out k).1 (Or.inl hk))
      · rcases hG5 k hk with hk | hk
        · exact Or.inl ((HZ.out k).1 (Or.inr hk))
        · have := B3.out.size
          right; omega)
    by_cases ht0 : tkE P P.bl.length M = 0
    · rw [if_pos ht0] at hp5
      have htk := tkE_le ht0
      rw [ht0] at E ⊢
      have HP5 := Lib.hid hp5
      have FL := Lib.hid (filled_any hp5.pm a n c os (fun W hW => HR.out W (NX5.out.2.then (hW.mono (fun k hk => (HZ.out k).1 (Or.inl hk))))) HN.out (by omega) HC.out.1 (by have := HC.out.2; omega) HBZ.out hp5.fl (by rw [HM.out]; omega) (by rw [HM.out]; have := HBB.out.1; omega) (by rw [HM.out]; omega))
      clear hp5 hG5 ht5 ht0 TK
      go_wp2_with fail
      refine FL.out.mono ?_
      rintro e w6 ⟨v6, bks, D6, F6, rfl, hbl, hfi, hm6, hF6, hl6, hFF6, hrow6, hap6, ht6⟩
      have hpts := hfi.pts HP5.out.nb
      obtain ⟨o9, ho9⟩ := row_of hrow6
      have hll : (fillPts P.lastB P.size os bks.length).length = bks.length := fillPts_len _ _ _ _
      have hR0 := row_low hrow6 (Nat.zero_le _)
      rw [ho9] at hR0
      have AD := Lib.hid (added_any hm6 o9 (fillPts P.lastB P.size os bks.length) (by rw [hll]; exact hR0) hpts (by rw [hll, lenP_fill]; rw [hbl, HN.out, HM.out]; omega) (by rw [growAll_st]; omega) (by rw [growAll_lastS]; have := HBB.out.2; omega) (by omega))
      have H6 := Lib.hid (And.intro hbl (And.intro hfi (And.intro hm6 (And.intro hF6 (And.intro hl6 (And.intro hFF6 (And.intro hrow6 (And.intro hap6 ht6))))))))
      rw [← ho9] at AD
      obtain ⟨a6, c6', rfl⟩ := wrow_sh hrow6
      clear ho9 hbl hfi hm6 hF6 hl6 hFF6 hrow6 hap6 ht6 hpts hll hR0 FL
      go_wp2_with fail
      refine AD.out.mono ?_
      rintro e w9 ⟨rfl, ⟨D29, m9⟩, t9⟩
      have FIN : Hid (MkPost h bp P os Z w (.returned (.tuple #[.int .i64 ((P.lastS + 1 : Nat) : Int), .int .i64 0])) w9) := Lib.hid (by
        right
        obtain ⟨hbl, hfi, hm6, hF6, hl6, hFF6, hrow6, hap6, ht6⟩ := H6.out
        have s9 := t9.size
        have s6 := ht6.size
        have s5 := NX5.out.2.size
        have p6 := HP5.out.turn hm6 hF6 hl6 ht6 (growAll_size _ _)
        have own9 := hrow6.lt
        have p9 := p6.turn' m9 (fun j hj => by
          rcases hj with hj | hj
          · exact p6.dis j hj
          · intro hg
            have h1 := own9 j hj
            have h2 := HP5.out.gl j hg
            omega) (fun j hj => by
          rcases hj with hj | hj
          · exact Nat.lt_of_lt_of_le (p6.fl j hj) s9
          · have h1 := own9 j hj
            omega) t9 rfl
        have e : P.bl.length + M = P.bl.length + bks.length := by (rw [HN.out, HM.out] at hbl; omega)
        have q := SP.of p9
        rw [e] at q
        refine ⟨E.out, rfl, bks, o9, _, hbl, hfi, q, ?_⟩
        refine NX5.out.trans ⟨fun j hj => ?_, ?_⟩
        · rcases hj with (hj | hj) | hj
          · rcases hF6 j hj with hj | hj
            · exact Or.inl (Or.inl hj)
            · exact Or.inr hj
          · exact Or.inr (own9 j hj).1
          · exact Or.inl (Or.inr hj)
        · refine (ht6.mono (fun k hk => Or.inl hk)).trans t9 (fun j hj => ?_)
          rcases hF6 j hj with hj | hj
          · exact Or.inl (Or.inl hj)
          · exact Or.inr hj)
      have els : ((P.growAll bks).lastS + 1 : Nat) = P.lastS + 1 := by rw [growAll_lastS]
      rw [els]
      clear m9 t9 els AD
      go_wp2_with fail
      go_ret2
      exact FIN.out
    · rw [if_neg ht0] at hp5
      have FIN : Hid (MkPost h bp P os Z w (.returned (.tuple #[.int .i64 0, .int .i64 (tkE P P.bl.length M)])) w5) := Lib.hid (by
        left
        exact ⟨by rw [E.out]; exact ht0, by rw [E.out], _, SP.of hp5, NX5.out⟩)
      generalize tkE P P.bl.length M = ee at *
      have hne : (ee == 0) = false := by simp; exact ht0
      clear hp5 hG5 ht5 TK
      go_wp2_with fail
      go_ret2
      exact FIN.out

end
end Go.Proofs.Ytbndknbjjdoanaa

namespace Go.Proofs.Ytbndknbjjdoanaa
section
open Go.RowKit
set_option linter.unusedVariables false

theorem seg_turn {w W : World} {B : Nat} {v : Value} {l : List Pt} {G : Nat → Prop} (hr : w.ownsRow B 75 3 v l.length (ptCells l)) (hG : ∀ k, v.ownBlock = some k → ¬ G k) (ht : Touch G w W) : Seg W 3 v l.length (ptCells l) :=
  Seg.of_row (ownsRow_same hr (fun k hk => ht.block k (hr.lt k hk).2 (hG k hk))) (ptCells_one l)
theorem ShPost.back {h bp : Nat} {P : PoolSt} {l : List Pt} {Z : Nat → Prop} {w w2 w' : World} {e : Ending} (hb : Below w.heap.size w w2) (hp : ShPost h bp P l Z w2 e w') : ShPost h bp P l Z w e w' := by
  rcases hp with ⟨h1, h2, Z', h3, h4⟩ | ⟨h1, h2, bks, o, Z', h3, h4, h5⟩
  · exact Or.inl ⟨h1, h2, Z', h3, (Nxt.of_below hb).trans h4⟩
  · exact Or.inr ⟨h1, h2, bks, o, Z', h3, h4, (Nxt.of_below hb).trans h5⟩
theorem SP.Zeq {Z F G : Nat → Prop} (h : ∀ k, F k ∨ G k ↔ Z k) : (fun k => F k ∨ G k) = Z := funext fun k => propext (h k)
theorem btE_cases (n : Nat) (f t : Int) : (btE n f t = 0 ∧ 0 ≤ f ∧ f ≤ n ∧ f ≤ t ∧ t ≤ n) ∨ (btE n f t = 2 ∧ ¬ btE n f t = 0) := by
  unfold btE
  split
  · next h => exact Or.inl ⟨rfl, h⟩
  · exact Or.inr ⟨rfl, by decide⟩

/-- The pool stays. -/
def Stays (h bp : Nat) (P : PoolSt) (Z : Nat → Prop) (n : Nat) (w w' : World) : Prop := SP w' Z h bp P n ∧ Below w.heap.size w w'
def SlPost (h bp : Nat) (P : PoolSt) (s f t : Int) (Z : Nat → Prop) (w : World) : Ending → World → Prop := fun e w' => match lookN P.st s with
  | none => e = .returned (.tuple #[.int .i64 0, .int .i64 13]) ∧ Stays h bp P Z P.bl.length w w'
  | some x => if btE (lenP x.2) f t = 0 then ShPost h bp P (cutP x.2 f t) Z w e w' else e = .returned (.tuple #[.int .i64 0, .int .i64 2]) ∧ Stays h bp P Z P.bl.length w w'
theorem PtsOf.cut {w : World} {F : Nat → Prop} {h bp : Nat} {P : PoolSt} {mb ms N1 N2 : Nat} {D1 D2 : DataW Unit} (m : PoolMem w F h bp P mb ms N1 N2 D1 D2) {l : List Pt} (h : PtsOf P l) : ∀ (f t : Int), PtsOf P (cutP l f t) := by
  induction l with
  | nil => intro f t x hx; simp [cutP] at hx
  | cons y l ih =>
    intro f t x hx
    unfold cutP at hx
    rcases List.mem_append.1 hx with hx | hx
    · obtain ⟨z, h1, h2, h3⟩ := h y (by simp)
      split at hx
      · next hc =>
        have e : x = ⟨y.b, y.f + (max f 0).toNat, y.f + (min t ((y.t : Int) - y.f)).toNat⟩ := by simpa using hx
        subst e
        exact ⟨z, h1, by simp only; omega, by simp only; omega⟩
      · simp at hx
    · exact ih (fun z hz => h z (by simp [hz])) _ _ x hx

set_option maxHeartbeats 2000000 in
set_option maxRecDepth 100000 in
theorem slice_any {w : World} {Z : Nat → Prop} {h bp : Nat} {P : PoolSt} (s : SP w Z h bp P P.bl.length) (x f t : Int) (hx : -9223372036854775808 ≤ x ∧ x ≤ 9223372036854775807) (hB : P.lastB + 2000 ≤ 1000000000 ∧ P.lastS + 1 ≤ 1000000000) :
    Calls Try.prog 9 #[.pointer (some ⟨h, 0, none⟩), .int .i64 x, .int .i64 f, .int .i64 t] w (SlPost h bp P x f t Z w) := by
  have HSP := Lib.hid s
  obtain ⟨mb, ms, D1, D2, F, G, b, p, hZ⟩ := s
  have HP := Lib.hid p
  have BW := Lib.hid (between_any' p.pm x f t hx)
  have HZ := Lib.hid (SP.Zeq hZ)
  have HBB := Lib.hid hB
  clear p hZ hB
  cases hl : lookN P.st x with
  | none =>
    have HL := Lib.hid hl
    clear hl
    go_enter Try.func9, Try.ntmps9
    go_wp2_with fail
    refine BW.out.mono ?_
    rintro e w2 ⟨hb2, he⟩
    rw [HL.out] at he
    subst he
    have FIN : Hid (SlPost h bp P x f t Z w (.returned (.tuple #[.int .i64 0, .int .i64 13])) w2) := Lib.hid (by
      unfold SlPost
      rw [HL.out]
      exact ⟨rfl, HSP.out.same hb2, hb2⟩)
    clear hb2
    go_wp2_with fail
    go_ret2
    exact FIN.out
  | some q =>
    obtain ⟨o, l⟩ := q
    have HL := Lib.hid hl
    have STR := Lib.hid (HP.out.pm.str hl)
    clear hl
    rcases btE_cases (lenP l) f t with ⟨h0, hb⟩ | ⟨h2, hne⟩
    · have H0 := Lib.hid h0
      have hlb := STR.out.2.2.2.2.1
      have HB := Lib.hid hb
      obtain ⟨ra, rc, hrow, _, _, _⟩ := STR.out.2.2.2.2.2.1
      have HROW := Lib.hid hrow
      have CT := Lib.hid (fun W (hW : Below w.heap.size w W) => cutP_any (rowOf o) l f t W (STR.out.2.2.2.2.2.1.below hW) STR.out.2.2.2.2.2.2 (by omega) (by omega))
      rw [hrow] at CT
      clear h0 hb hlb hrow
      go_enter Try.func9, Try.ntmps9
      go_wp2_with fail
      refine BW.out.mono ?_
      rintro e w2 ⟨hb2, he⟩
      rw [HL.out] at he
      simp only [H0.out, if_true] at he
      rw [HROW.out] at he
      subst he
      have HB2 := Lib.hid hb2
      clear hb2
      go_wp2_with fail
      refine (CT.out _ HB2.out).mono ?_
      rintro e w3 ⟨v3, rfl, hr3, hb3⟩
      have B3 := Lib.hid (HB2.out.trans (hb3.mono HB2.out.size))
      have SH := Lib.hid (sharedB_any (HP.out.same B3.out) v3 (cutP l f t) (fun W hW => seg_turn hr3 (fun k hk hg => by
        have h1 := (hr3.lt k hk).1
        have h2 := HP.out.gl k hg
        have h3 := HB2.out.size
        omega) hW) (by have := cutP_len l f t; have := STR.out.2.2.2.1; omega) (STR.out.2.2.1.cut HP.out.pm f t) HBB.out)
      obtain ⟨a3, c3, rfl⟩ := wrow_sh hr3
      clear hr3 hb3 CT
      go_wp2_with fail
      refine SH.out.mono ?_
      intro e w4 hp4
      rw [HZ.out] at hp4
      have FIN : Hid (SlPost h bp P x f t Z w e w4) := Lib.hid (by
        unfold SlPost
        rw [HL.out]
        simp only [H0.out, if_true]
        exact hp4.back B3.out)
      clear SH
      rcases hp4 with ⟨_, rfl, _⟩ | ⟨_, rfl, _⟩
      · go_wp2_with fail
        go_ret2
        exact FIN.out
      · go_wp2_with fail
        go_ret2
        exact FIN.out
    · have H2 := Lib.hid (And.intro h2 hne)
      clear h2 hne
      go_enter Try.func9, Try.ntmps9
      go_wp2_with fail
      refine BW.out.mono ?_
      rintro e w2 ⟨hb2, he⟩
      rw [HL.out] at he
      simp only [H2.out.2, if_false] at he
      rw [H2.out.1] at he
      subst he
      have FIN : Hid (SlPost h bp P x f t Z w (.returned (.tuple #[.int .i64 0, .int .i64 2])) w2) := Lib.hid (by
        unfold SlPost
        rw [HL.out]
        simp only [H2.out.2, if_false]
        exact ⟨trivial, HSP.out.same hb2, hb2⟩)
      clear hb2
      go_wp2_with fail
      go_ret2
      exact FIN.out

def CpPost (h bp : Nat) (P : PoolSt) (s f t : Int) (Z : Nat → Prop) (w : World) : Ending → World → Prop := fun e w' => Stays h bp P Z P.bl.length w w' ∧ match lookN P.st s with
  | none => e = .returned (.tuple #[.slice none 0 0, .int .i64 13])
  | some x => if btE (lenP x.2) f t = 0 then ∃ v, e = .returned (.tuple #[v, .int .i64 0]) ∧ w'.ownsRow w.heap.size 5 1 v (((octP P.oct x.2).take t.toNat).drop f.toNat).length ((((octP P.oct x.2).take t.toNat).drop f.toNat).map (Value.int .u8)) else e = .returned (.tuple #[.slice none 0 0, .int .i64 2])

set_option maxHeartbeats 2000000 in
set_option maxRecDepth 100000 in
theorem copyP_any {w : World} {Z : Nat → Prop} {h bp : Nat} {P : PoolSt} (s : SP w Z h bp P P.bl.length) (x f t : Int) (hx : -9223372036854775808 ≤ x ∧ x ≤ 9223372036854775807) :
    Calls Try.prog 14 #[.pointer (some ⟨h, 0, none⟩), .int .i64 x, .int .i64 f, .int .i64 t] w (CpPost h bp P x f t Z w) := by
  have HSP := Lib.hid s
  obtain ⟨mb, ms, D1, D2, F, G, b, p, hZ⟩ := s
  have HP := Lib.hid p
  have BW := Lib.hid (between_any' p.pm x f t hx)
  clear p hZ
  cases hl : lookN P.st x with
  | none =>
    have HL := Lib.hid hl
    clear hl
    go_enter Try.func14, Try.ntmps14
    go_wp2_with fail
    refine BW.out.mono ?_
    rintro e w2 ⟨hb2, he⟩
    rw [HL.out] at he
    subst he
    have FIN : Hid (CpPost h bp P x f t Z w (.returned (.tuple #[.slice none 0 0, .int .i64 13])) w2) := Lib.hid (by
      unfold CpPost
      rw [HL.out]
      exact ⟨⟨HSP.out.same hb2, hb2⟩, rfl⟩)
    clear hb2
    go_wp2_with fail
    go_ret2
    exact FIN.out
  | some q =>
    obtain ⟨o, l⟩ := q
    have HL := Lib.hid hl
    have STR := Lib.hid (HP.out.pm.str hl)
    clear hl
    rcases btE_cases (lenP l) f t with ⟨h0, hb⟩ | ⟨h2, hne⟩
    · have H0 := Lib.hid h0
      have hlb := STR.out.2.2.2.2.1
      have HB := Lib.hid hb
      obtain ⟨ra, rc, hrow, _, _, _⟩ := STR.out.2.2.2.2.2.1
      have HROW := Lib.hid hrow
      have CT := Lib.hid (fun W (hW : Below w.heap.size w W) => cutP_any (rowOf o) l f t W (STR.out.2.2.2.2.2.1.below hW) STR.out.2.2.2.2.2.2 (by omega) (by omega))
      rw [hrow] at CT
      clear h0 hb hlb hrow
      go_enter Try.func14, Try.ntmps14
      go_wp2_with fail
      refine BW.out.mono ?_
      rintro e w2 ⟨hb2, he⟩
      rw [HL.out] at he
      simp only [H0.out, if_true] at he
      rw [HROW.out] at he
      subst he
      have HB2 := Lib.hid hb2
      clear hb2
      go_wp2_with fail
      refine (CT.out _ HB2.out).mono ?_
      rintro e w3 ⟨v3, rfl, hr3, hb3⟩
      have B3 := Lib.hid (HB2.out.trans (hb3.mono HB2.out.size))
      have CP := Lib.hid (copiedP_any (HP.out.pm.below B3.out) v3 (cutP l f t) (PtIn.row (row_low hr3 (Nat.zero_le _))) (by have := cutP_len l f t; have := STR.out.2.2.2.1; omega) (STR.out.2.2.1.cut HP.out.pm f t))
      rw [cutP_oct (STR.out.2.2.1.okM HP.out.pm)] at CP
      obtain ⟨zs, hzs⟩ : ∃ zs, ((octP P.oct l).take t.toNat).drop f.toNat = zs := ⟨_, rfl⟩
      have HZS := Lib.hid hzs
      rw [hzs] at CP
      clear hzs
      obtain ⟨a3, c3, rfl⟩ := wrow_sh hr3
      clear hr3 hb3 CT
      go_wp2_with fail
      refine CP.out.mono ?_
      rintro e w4 ⟨v4, rfl, hr4, hb4⟩
      have FIN : Hid (CpPost h bp P x f t Z w (.returned (.tuple #[v4, .int .i64 0])) w4) := Lib.hid (by
        have B4 := B3.out.trans (hb4.mono B3.out.size)
        refine ⟨⟨HSP.out.same B4, B4⟩, ?_⟩
        rw [HL.out]
        simp only [H0.out, if_true]
        rw [HZS.out]
        exact ⟨v4, rfl, row_low hr4 B3.out.size⟩)
      obtain ⟨a4, c4, rfl⟩ := wrow_sh hr4
      clear CP hr4 hb4
      go_wp2_with fail
      go_ret2
      exact FIN.out
    · have H2 := Lib.hid (And.intro h2 hne)
      clear h2 hne
      go_enter Try.func14, Try.ntmps14
      go_wp2_with fail
      refine BW.out.mono ?_
      rintro e w2 ⟨hb2, he⟩
      rw [HL.out] at he
      simp only [H2.out.2, if_false] at he
      rw [H2.out.1] at he
      subst he
      have FIN : Hid (CpPost h bp P x f t Z w (.returned (.tuple #[.slice none 0 0, .int .i64 2])) w2) := Lib.hid (by
        refine ⟨⟨HSP.out.same hb2, hb2⟩, ?_⟩
        rw [HL.out]
        simp only [H2.out.2, if_false])
      clear hb2
      go_wp2_with fail
      go_ret2
      exact FIN.out

set_option maxHeartbeats 1000000 in
set_option maxRecDepth 100000 in
theorem roomP_any {w : World} {Z : Nat → Prop} {h bp : Nat} {P : PoolSt} {n : Nat} (s : SP w Z h bp P n) :
    Calls Try.prog 11 #[.pointer (some ⟨h, 0, none⟩)] w (fun e w' => e = .returned (.int .i64 ((P.size * P.bl.length : Nat) : Int)) ∧ ∃ q, w' = w.drewN q) := by
  obtain ⟨mb, ms, D1, D2, F, G, b, p, hZ⟩ := s
  obtain ⟨c0, c1, c2, c3, c4, c5, c6, c7⟩ := p.pm.cells
  have LN := fun q => (p.pm.below (bdrewN (Below.refl _ w) q)).m1.len Try.underlying60 3
  rw [p.pm.z1] at LN
  have s2 := p.pm.sz.2
  have few := p.pm.few.2.1
  have hmul : P.size * P.bl.length ≤ 4096 * 2000 := Nat.mul_le_mul s2 few
  have hmi : (P.size : Int) * (P.bl.length : Int) = ((P.size * P.bl.length : Nat) : Int) := by rw [Int.natCast_mul]
  generalize P.size * P.bl.length = R at *
  clear p hZ
  go_enter Try.func11, Try.ntmps11
  go_wp2_with fail
  go_quiet (fail)
  go_wp2_with fail
  go_ret
  exact ⟨by first | rfl | rw [hmi], _, rfl⟩

end
end Go.Proofs.Ytbndknbjjdoanaa
