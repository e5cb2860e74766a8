/-
  Slice, Copy, Room: what they give. Conditions: numbers in their bounds.
-/
import Derived.Test.YtbndknbjjdoanaaSharePackedPbr
namespace Go.Proofs.Ytbndknbjjdoanaa
open Go.RowKit
set_option linter.unusedVariables false

theorem seg_turn {w W : World} {B : Nat} {v : Value} {l : List Pt} {G : Nat → Prop} (hr : w.ownsRow B 75 3 v l.length (ptCells l)) (hG : ∀ k, v.ownBlock = some k → ¬ G k) (ht : Touch G w W) : Seg W 3 v l.length (ptCells l) :=
  Seg.of_row (ownsRow_same hr (fun k hk => ht.block k (hr.lt k hk).2 (hG k hk))) (ptCells_one l)
theorem ShPost.back {h bp : Nat} {P : PoolSt} {l : List Pt} {Z : Nat → Prop} {w w2 w' : World} {e : Ending} (hb : Below w.heap.size w w2) (hp : ShPost h bp P l Z w2 e w') : ShPost h bp P l Z w e w' := by
  rcases hp with ⟨h1, h2, Z', h3, h4⟩ | ⟨h1, h2, bks, o, Z', h3, h4, h5⟩
  · exact Or.inl ⟨h1, h2, Z', h3, (Nxt.of_below hb).trans h4⟩
  · exact Or.inr ⟨h1, h2, bks, o, Z', h3, h4, (Nxt.of_below hb).trans h5⟩
theorem SP.Zeq {Z F G : Nat → Prop} (h : ∀ k, F k ∨ G k ↔ Z k) : (fun k => F k ∨ G k) = Z := funext fun k => propext (h k)
theorem btE_cases (n : Nat) (f t : Int) : (btE n f t = 0 ∧ 0 ≤ f ∧ f ≤ n ∧ f ≤ t ∧ t ≤ n) ∨ (btE n f t = 2 ∧ ¬ btE n f t = 0) := by
  unfold btE
  split
  · next h => exact Or.inl ⟨rfl, h⟩
  · exact Or.inr ⟨rfl, by decide⟩

/-- The pool stays. -/
def Stays (h bp : Nat) (P : PoolSt) (Z : Nat → Prop) (n : Nat) (w w' : World) : Prop := SP w' Z h bp P n ∧ Below w.heap.size w w'
def SlPost (h bp : Nat) (P : PoolSt) (s f t : Int) (Z : Nat → Prop) (w : World) : Ending → World → Prop := fun e w' => match lookN P.st s with
  | none => e = .returned (.tuple #[.int .i64 0, .int .i64 13]) ∧ Stays h bp P Z P.bl.length w w'
  | some x => if btE (lenP x.2) f t = 0 then ShPost h bp P (cutP x.2 f t) Z w e w' else e = .returned (.tuple #[.int .i64 0, .int .i64 2]) ∧ Stays h bp P Z P.bl.length w w'
theorem PtsOf.cut {w : World} {F : Nat → Prop} {h bp : Nat} {P : PoolSt} {mb ms N1 N2 : Nat} {D1 D2 : DataW Unit} (m : PoolMem w F h bp P mb ms N1 N2 D1 D2) {l : List Pt} (h : PtsOf P l) : ∀ (f t : Int), PtsOf P (cutP l f t) := by
  induction l with
  | nil => intro f t x hx; simp [cutP] at hx
  | cons y l ih =>
    intro f t x hx
    unfold cutP at hx
    rcases List.mem_append.1 hx with hx | hx
    · obtain ⟨z, h1, h2, h3⟩ := h y (by simp)
      split at hx
      · next hc =>
        have e : x = ⟨y.b, y.f + (max f 0).toNat, y.f + (min t ((y.t : Int) - y.f)).toNat⟩ := by simpa using hx
        subst e
        exact ⟨z, h1, by simp only; omega, by simp only; omega⟩
      · simp at hx
    · exact ih (fun z hz => h z (by simp [hz])) _ _ x hx

set_option maxHeartbeats 2000000 in
set_option maxRecDepth 100000 in
theorem slice_any {w : World} {Z : Nat → Prop} {h bp : Nat} {P : PoolSt} (s : SP w Z h bp P P.bl.length) (x f t : Int) (hx : -9223372036854775808 ≤ x ∧ x ≤ 9223372036854775807) (hB : P.lastB + 2000 ≤ 1000000000 ∧ P.lastS + 1 ≤ 1000000000) :
    Calls Try.prog 9 #[.pointer (some ⟨h, 0, none⟩), .int .i64 x, .int .i64 f, .int .i64 t] w (SlPost h bp P x f t Z w) := by
  have HSP := Lib.hid s
  obtain ⟨mb, ms, D1, D2, F, G, b, p, hZ⟩ := s
  have HP := Lib.hid p
  have BW := Lib.hid (between_any' p.pm x f t hx)
  have HZ := Lib.hid (SP.Zeq hZ)
  have HBB := Lib.hid hB
  clear p hZ hB
  cases hl : lookN P.st x with
  | none =>
    have HL := Lib.hid hl
    clear hl
    go_enter Try.func9, Try.ntmps9
    go_wp2_with fail
    refine BW.out.mono ?_
    rintro e w2 ⟨hb2, he⟩
    rw [HL.out] at he
    subst he
    have FIN : Hid (SlPost h bp P x f t Z w (.returned (.tuple #[.int .i64 0, .int .i64 13])) w2) := Lib.hid (by
      unfold SlPost
      rw [HL.out]
      exact ⟨rfl, HSP.out.same hb2, hb2⟩)
    clear hb2
    go_wp2_with fail
    go_ret2
    exact FIN.out
  | some q =>
    obtain ⟨o, l⟩ := q
    have HL := Lib.hid hl
    have STR := Lib.hid (HP.out.pm.str hl)
    clear hl
    rcases btE_cases (lenP l) f t with ⟨h0, hb⟩ | ⟨h2, hne⟩
    · have H0 := Lib.hid h0
      have hlb := STR.out.2.2.2.2.1
      have HB := Lib.hid hb
      obtain ⟨ra, rc, hrow, _, _, _⟩ := STR.out.2.2.2.2.2.1
      have HROW := Lib.hid hrow
      have CT := Lib.hid (fun W (hW : Below w.heap.size w W) => cutP_any (rowOf o) l f t W (STR.out.2.2.2.2.2.1.below hW) STR.out.2.2.2.2.2.2 (by omega) (by omega))
      rw [hrow] at CT
      clear h0 hb hlb hrow
      go_enter Try.func9, Try.ntmps9
      go_wp2_with fail
      refine BW.out.mono ?_
      rintro e w2 ⟨hb2, he⟩
      rw [HL.out] at he
      simp only [H0.out, if_true] at he
      rw [HROW.out] at he
      subst he
      have HB2 := Lib.hid hb2
      clear hb2
      go_wp2_with fail
      refine (CT.out _ HB2.out).mono ?_
      rintro e w3 ⟨v3, rfl, hr3, hb3⟩
      have B3 := Lib.hid (HB2.out.trans (hb3.mono HB2.out.size))
      have SH := Lib.hid (sharedB_any (HP.out.same B3.out) v3 (cutP l f t) (fun W hW => seg_turn hr3 (fun k hk hg => by
        have h1 := (hr3.lt k hk).1
        have h2 := HP.out.gl k hg
        have h3 := HB2.out.size
        omega) hW) (by have := cutP_len l f t; have := STR.out.2.2.2.1; omega) (STR.out.2.2.1.cut HP.out.pm f t) HBB.out)
      obtain ⟨a3, c3, rfl⟩ := wrow_sh hr3
      clear hr3 hb3 CT
      go_wp2_with fail
      refine SH.out.mono ?_
      intro e w4 hp4
      rw [HZ.out] at hp4
      have FIN : Hid (SlPost h bp P x f t Z w e w4) := Lib.hid (by
        unfold SlPost
        rw [HL.out]
        simp only [H0.out, if_true]
        exact hp4.back B3.out)
      clear SH
      rcases hp4 with ⟨_, rfl, _⟩ | ⟨_, rfl, _⟩
      · go_wp2_with fail
        go_ret2
        exact FIN.out
      · go_wp2_with fail
        go_ret2
        exact FIN.out
    · have H2 := Lib.hid (And.intro h2 hne)
      clear h2 hne
      go_enter Try.func9, Try.ntmps9
      go_wp2_with fail
      refine BW.out.mono ?_
      rintro e w2 ⟨hb2, he⟩
      rw [HL.out] at he
      simp only [H2.out.2, if_false] at he
      rw [H2.out.1] at he
      subst he
      have FIN : Hid (SlPost h bp P x f t Z w (.returned (.tuple #[.int .i64 0, .int .i64 2])) w2) := Lib.hid (by
        unfold SlPost
        rw [HL.out]
        simp only [H2.out.2, if_false]
        exact ⟨trivial, HSP.out.same hb2, hb2⟩)
      clear hb2
      go_wp2_with fail
      go_ret2
      exact FIN.out

def CpPost (h bp : Nat) (P : PoolSt) (s f t : Int) (Z : Nat → Prop) (w : World) : Ending → World → Prop := fun e w' => Stays h bp P Z P.bl.length w w' ∧ match lookN P.st s with
  | none => e = .returned (.tuple #[.slice none 0 0, .int .i64 13])
  | some x => if btE (lenP x.2) f t = 0 then ∃ v, e = .returned (.tuple #[v, .int .i64 0]) ∧ w'.ownsRow w.heap.size 5 1 v (((octP P.oct x.2).take t.toNat).drop f.toNat).length ((((octP P.oct x.2).take t.toNat).drop f.toNat).map (Value.int .u8)) else e = .returned (.tuple #[.slice none 0 0, .int .i64 2])

set_option maxHeartbeats 2000000 in
set_option maxRecDepth 100000 in
theorem copyP_any {w : World} {Z : Nat → Prop} {h bp : Nat} {P : PoolSt} (s : SP w Z h bp P P.bl.length) (x f t : Int) (hx : -9223372036854775808 ≤ x ∧ x ≤ 9223372036854775807) :
    Calls Try.prog 14 #[.pointer (some ⟨h, 0, none⟩), .int .i64 x, .int .i64 f, .int .i64 t] w (CpPost h bp P x f t Z w) := by
  have HSP := Lib.hid s
  obtain ⟨mb, ms, D1, D2, F, G, b, p, hZ⟩ := s
  have HP := Lib.hid p
  have BW := Lib.hid (between_any' p.pm x f t hx)
  clear p hZ
  cases hl : lookN P.st x with
  | none =>
    have HL := Lib.hid hl
    clear hl
    go_enter Try.func14, Try.ntmps14
    go_wp2_with fail
    refine BW.out.mono ?_
    rintro e w2 ⟨hb2, he⟩
    rw [HL.out] at he
    subst he
    have FIN : Hid (CpPost h bp P x f t Z w (.returned (.tuple #[.slice none 0 0, .int .i64 13])) w2) := Lib.hid (by
      unfold CpPost
      rw [HL.out]
      exact ⟨⟨HSP.out.same hb2, hb2⟩, rfl⟩)
    clear hb2
    go_wp2_with fail
    go_ret2
    exact FIN.out
  | some q =>
    obtain ⟨o, l⟩ := q
    have HL := Lib.hid hl
    have STR := Lib.hid (HP.out.pm.str hl)
    clear hl
    rcases btE_cases (lenP l) f t with ⟨h0, hb⟩ | ⟨h2, hne⟩
    · have H0 := Lib.hid h0
      have hlb := STR.out.2.2.2.2.1
      have HB := Lib.hid hb
      obtain ⟨ra, rc, hrow, _, _, _⟩ := STR.out.2.2.2.2.2.1
      have HROW := Lib.hid hrow
      have CT := Lib.hid (fun W (hW : Below w.heap.size w W) => cutP_any (rowOf o) l f t W (STR.out.2.2.2.2.2.1.below hW) STR.out.2.2.2.2.2.2 (by omega) (by omega))
      rw [hrow] at CT
      clear h0 hb hlb hrow
      go_enter Try.func14, Try.ntmps14
      go_wp2_with fail
      refine BW.out.mono ?_
      rintro e w2 ⟨hb2, he⟩
      rw [HL.out] at he
      simp only [H0.out, if_true] at he
      rw [HROW.out] at he
      subst he
      have HB2 := Lib.hid hb2
      clear hb2
      go_wp2_with fail
      refine (CT.out _ HB2.out).mono ?_
      rintro e w3 ⟨v3, rfl, hr3, hb3⟩
      have B3 := Lib.hid (HB2.out.trans (hb3.mono HB2.out.size))
      have CP := Lib.hid (copiedP_any (HP.out.pm.below B3.out) v3 (cutP l f t) (PtIn.row (row_low hr3 (Nat.zero_le _))) (by have := cutP_len l f t; have := STR.out.2.2.2.1; omega) (STR.out.2.2.1.cut HP.out.pm f t))
      rw [cutP_oct (STR.out.2.2.1.okM HP.out.pm)] at CP
      obtain ⟨zs, hzs⟩ : ∃ zs, ((octP P.oct l).take t.toNat).drop f.toNat = zs := ⟨_, rfl⟩
      have HZS := Lib.hid hzs
      rw [hzs] at CP
      clear hzs
      obtain ⟨a3, c3, rfl⟩ := wrow_sh hr3
      clear hr3 hb3 CT
      go_wp2_with fail
      refine CP.out.mono ?_
      rintro e w4 ⟨v4, rfl, hr4, hb4⟩
      have FIN : Hid (CpPost h bp P x f t Z w (.returned (.tuple #[v4, .int .i64 0])) w4) := Lib.hid (by
        have B4 := B3.out.trans (hb4.mono B3.out.size)
        refine ⟨⟨HSP.out.same B4, B4⟩, ?_⟩
        rw [HL.out]
        simp only [H0.out, if_true]
        rw [HZS.out]
        exact ⟨v4, rfl, row_low hr4 B3.out.size⟩)
      obtain ⟨a4, c4, rfl⟩ := wrow_sh hr4
      clear CP hr4 hb4
      go_wp2_with fail
      go_ret2
      exact FIN.out
    · have H2 := Lib.hid (And.intro h2 hne)
      clear h2 hne
      go_enter Try.func14, Try.ntmps14
      go_wp2_with fail
      refine BW.out.mono ?_
      rintro e w2 ⟨hb2, he⟩
      rw [HL.out] at he
      simp only [H2.out.2, if_false] at he
      rw [H2.out.1] at he
      subst he
      have FIN : Hid (CpPost h bp P x f t Z w (.returned (.tuple #[.slice none 0 0, .int .i64 2])) w2) := Lib.hid (by
        refine ⟨⟨HSP.out.same hb2, hb2⟩, ?_⟩
        rw [HL.out]
        simp only [H2.out.2, if_false])
      clear hb2
      go_wp2_with fail
      go_ret2
      exact FIN.out

set_option maxHeartbeats 1000000 in
set_option maxRecDepth 100000 in
theorem roomP_any {w : World} {Z : Nat → Prop} {h bp : Nat} {P : PoolSt} {n : Nat} (s : SP w Z h bp P n) :
    Calls Try.prog 11 #[.pointer (some ⟨h, 0, none⟩)] w (fun e w' => e = .returned (.int .i64 ((P.size * P.bl.length : Nat) : Int)) ∧ ∃ q, w' = w.drewN q) := by
  obtain ⟨mb, ms, D1, D2, F, G, b, p, hZ⟩ := s
  obtain ⟨c0, c1, c2, c3, c4, c5, c6, c7⟩ := p.pm.cells
  have LN := fun q => (p.pm.below (bdrewN (Below.refl _ w) q)).m1.len Try.underlying60 3
  rw [p.pm.z1] at LN
  have s2 := p.pm.sz.2
  have few := p.pm.few.2.1
  have hmul : P.size * P.bl.length ≤ 4096 * 2000 := Nat.mul_le_mul s2 few
  have hmi : (P.size : Int) * (P.bl.length : Int) = ((P.size * P.bl.length : Nat) : Int) := by rw [Int.natCast_mul]
  generalize P.size * P.bl.length = R at *
  clear p hZ
  go_enter Try.func11, Try.ntmps11
  go_wp2_with fail
  go_quiet (fail)
  go_wp2_with fail
  go_ret
  exact ⟨by first | rfl | rw [hmi], _, rfl⟩

end Go.Proofs.Ytbndknbjjdoanaa
