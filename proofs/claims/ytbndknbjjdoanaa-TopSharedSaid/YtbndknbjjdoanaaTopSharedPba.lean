/-
  Join, Drop: what they give. Conditions: numbers in their bounds.
-/
import Derived.Test.YtbndknbjjdoanaaTopSharedPaz
import Derived.Handy
namespace Go.Proofs.Ytbndknbjjdoanaa
open Go.RowKit
set_option linter.unusedVariables false

def PrPost (P : PoolSt) (x y : Int) (w : World) : Ending → World → Prop := fun e w' => w' = w ∧ match lookN P.st x, lookN P.st y with
  | some a, some b => e = .returned (.tuple #[rowOf a.1, rowOf b.1, .int .i64 0])
  | _, _ => e = .returned (.tuple #[.slice none 0 0, .slice none 0 0, .int .i64 13])
set_option maxHeartbeats 1000000 in
set_option maxRecDepth 100000 in
theorem pair_any {w : World} {F : Nat → Prop} {h bp : Nat} {P : PoolSt} {mb ms N1 N2 : Nat} {D1 D2 : DataW Unit} (m : PoolMem w F h bp P mb ms N1 N2 D1 D2) (x y : Int) (hx : -9223372036854775808 ≤ x ∧ x ≤ 9223372036854775807) (hy : -9223372036854775808 ≤ y ∧ y ≤ 9223372036854775807) :
    Calls Try.prog 38 #[.pointer (some ⟨h, 0, none⟩), .int .i64 x, .int .i64 y] w (PrPost P x y w) := by
  have FX := Lib.hid (findP_any m x hx)
  have FY := Lib.hid (findP_any m y hy)
  cases hl : lookN P.st x with
  | none =>
    have HL := Lib.hid hl
    clear hl m
    go_enter Try.func38, Try.ntmps38
    go_wp2_with fail
    refine FX.out.mono ?_
    rintro e w2 ⟨rfl, he⟩
    rw [HL.out] at he
    obtain rfl := he
    go_wp2_with fail
    go_returns
    refine ⟨rfl, ?_⟩
    rw [HL.out]
    rfl
  | some q =>
    obtain ⟨o, l⟩ := q
    obtain ⟨ra, rc, hrow, _, _, _⟩ := (m.str hl).2.2.2.2.2.1
    have HL := Lib.hid hl
    cases hl2 : lookN P.st y with
    | none =>
      have HL2 := Lib.hid hl2
      have HROW := Lib.hid hrow
      clear hl hl2 m hrow
      go_enter Try.func38, Try.ntmps38
      go_wp2_with fail
      refine FX.out.mono ?_
      rintro e w2 ⟨rfl, he⟩
      rw [HL.out] at he
      simp only [HROW.out] at he
      obtain rfl := he
      go_wp2_with fail
      refine FY.out.mono ?_
      rintro e w2 ⟨rfl, he⟩
      rw [HL2.out] at he
      obtain rfl := he
      go_wp2_with fail
      go_returns
      refine ⟨rfl, ?_⟩
      rw [HL.out, HL2.out]
      rfl
    | some q2 =>
      obtain ⟨o2, l2⟩ := q2
      obtain ⟨ra2, rc2, hrow2, _, _, _⟩ := (m.str hl2).2.2.2.2.2.1
      have HL2 := Lib.hid hl2
      have HROW := Lib.hid hrow
      have HROW2 := Lib.hid hrow2
      clear hl hl2 m hrow hrow2
      go_enter Try.func38, Try.ntmps38
      go_wp2_with fail
      refine FX.out.mono ?_
      rintro e w2 ⟨rfl, he⟩
      rw [HL.out] at he
      simp only [HROW.out] at he
      obtain rfl := he
      go_wp2_with fail
      refine FY.out.mono ?_
      rintro e w2 ⟨rfl, he⟩
      rw [HL2.out] at he
      simp only [HROW2.out] at he
      obtain rfl := he
      go_wp2_with fail
      go_returns
      refine ⟨rfl, ?_⟩
      rw [HL.out, HL2.out]
      simp only [HROW.out, HROW2.out]
      rfl

def JnPost (h bp : Nat) (P : PoolSt) (x y : Int) (Z : Nat → Prop) (w : World) : Ending → World → Prop := fun e w' => match lookN P.st x, lookN P.st y with
  | some a, some b => ShPost h bp P (a.2 ++ b.2) Z w e w'
  | _, _ => e = .returned (.tuple #[.int .i64 0, .int .i64 13]) ∧ Stays h bp P Z P.bl.length w w'
theorem PtsOf.app {P : PoolSt} {a b : List Pt} (ha : PtsOf P a) (hb : PtsOf P b) : PtsOf P (a ++ b) := fun x hx => by
  rcases List.mem_append.1 hx with hx | hx
  · exact ha x hx
  · exact hb x hx

set_option maxHeartbeats 2000000 in
set_option maxRecDepth 100000 in
theorem join_any {w : World} {Z : Nat → Prop} {h bp : Nat} {P : PoolSt} (s : SP w Z h bp P P.bl.length) (x y : Int) (hx : -9223372036854775808 ≤ x ∧ x ≤ 9223372036854775807) (hy : -9223372036854775808 ≤ y ∧ y ≤ 9223372036854775807) (hB : P.lastB + 2000 ≤ 1000000000 ∧ P.lastS + 1 ≤ 1000000000) :
    Calls Try.prog 10 #[.pointer (some ⟨h, 0, none⟩), .int .i64 x, .int .i64 y] w (JnPost h bp P x y Z w) := by
  have HSP := Lib.hid s
  obtain ⟨mb, ms, D1, D2, F, G, b, p, hZ⟩ := s
  have HP := Lib.hid p
  have PR := Lib.hid (pair_any p.pm x y hx hy)
  have HZ := Lib.hid (SP.Zeq hZ)
  have HBB := Lib.hid hB
  clear p hZ hB
  have bad : ∀ w2, PrPost P x y w (.returned (.tuple #[.slice none 0 0, .slice none 0 0, .int .i64 13])) w2 → (∀ a b, lookN P.st x = some a → lookN P.st y = some b → False) → JnPost h bp P x y Z w (.returned (.tuple #[.int .i64 0, .int .i64 13])) w2 := fun w2 hp hno => by
    obtain ⟨rfl, _⟩ := hp
    unfold JnPost
    have hs : Stays h bp P Z P.bl.length w2 w2 := ⟨HSP.out, Below.refl _ _⟩
    split
    · next a b h1 h2 => exact (hno a b h1 h2).elim
    · exact ⟨rfl, hs⟩
  have HBAD := Lib.hid bad
  clear bad
  by_cases hok : ∃ a b, lookN P.st x = some a ∧ lookN P.st y = some b
  · obtain ⟨⟨o, l⟩, ⟨o2, l2⟩, hl, hl2⟩ := hok
    have S1 := Lib.hid (HP.out.pm.str hl)
    have S2 := Lib.hid (HP.out.pm.str hl2)
    have HL := Lib.hid (And.intro hl hl2)
    obtain ⟨ra, rc, hrow, _, _, _⟩ := S1.out.2.2.2.2.2.1
    obtain ⟨ra2, rc2, hrow2, _, _, _⟩ := S2.out.2.2.2.2.2.1
    have HROW := Lib.hid (And.intro hrow hrow2)
    have el : num_part [(.slice ra l.length rc, l.length, ptCells l), (.slice ra2 l2.length rc2, l2.length, ptCells l2)] 2 = (l ++ l2).length := by simp [num_part]
    have ec : cat_part [(.slice ra l.length rc, l.length, ptCells l), (.slice ra2 l2.length rc2, l2.length, ptCells l2)] 2 = ptCells (l ++ l2) := by simp [cat_part, ptCells_app]
    have CC := Lib.hid (fun (bb : Nat) W (hW : Below w.heap.size w W) (hc : W.heap[bb]? = some (.cells #[.slice ra l.length rc, .slice ra2 l2.length rc2] 66 (0, 0))) => concat_part bb [(.slice ra l.length rc, l.length, ptCells l), (.slice ra2 l2.length rc2, l2.length, ptCells l2)] W (fun k q hk => by
      match k with
      | 0 =>
        simp at hk; subst hk
        exact ⟨by rw [cell_of hc]; rfl, hrow ▸ (Seg.of_row S1.out.1 (ptCells_one l)).below hW⟩
      | 1 =>
        simp at hk; subst hk
        exact ⟨by rw [cell_of hc]; rfl, hrow2 ▸ (Seg.of_row S2.out.1 (ptCells_one l2)).below hW⟩
      | k + 2 => simp at hk) (by
        show num_part _ 2 ≤ _
        rw [el, List.length_append]
        have := S1.out.2.2.2.1
        have := S2.out.2.2.2.1
        omega) (by simp))
    simp only [List.length_cons, List.length_nil, Nat.zero_add, Nat.reduceAdd] at CC
    rw [el, ec] at CC
    clear hl hl2 hrow hrow2 el ec
    go_enter Try.func10, Try.ntmps10
    go_wp2_with fail
    refine PR.out.mono ?_
    rintro e w2 ⟨hw2, he⟩
    obtain rfl := hw2.symm
    rw [HL.out.1, HL.out.2] at he
    simp only [HROW.out.1, HROW.out.2] at he
    subst he
    go_wp2_with fail
    have B2 : Below w.heap.size w (w.alloc (.cells #[.slice ra l.length rc, .slice ra2 l2.length rc2] 66)) := (Below.refl _ w).alloc (Nat.le_refl _) _
    refine (CC.out w.heap.size _ B2 (heap_alloc_new w _)).mono ?_
    have HB2 := Lib.hid B2
    clear B2
    generalize w.alloc (.cells #[.slice ra l.length rc, .slice ra2 l2.length rc2] 66) = W2 at *
    rintro e w3 ⟨v3, rfl, hr3, hb3⟩
    have B3 := Lib.hid (HB2.out.trans (hb3.mono HB2.out.size))
    have SH := Lib.hid (sharedB_any (HP.out.same B3.out) v3 (l ++ l2) (fun W hW => seg_turn hr3 (fun k hk hg => by
      have h1 := (hr3.lt k hk).1
      have h2 := HP.out.gl k hg
      have h3 := HB2.out.size
      omega) hW) (by rw [List.length_append]; have := S1.out.2.2.2.1; have := S2.out.2.2.2.1; omega) (S1.out.2.2.1.app S2.out.2.2.1) HBB.out)
    obtain ⟨a3, c3, rfl⟩ := wrow_sh hr3
    obtain ⟨L, hL⟩ : ∃ L, l ++ l2 = L := ⟨_, rfl⟩
    have HLL := Lib.hid hL
    rw [hL] at SH ⊢
    clear hr3 hb3 CC hL
    go_wp2_with fail
    refine SH.out.mono ?_
    intro e w4 hp4
    rw [HZ.out] at hp4
    have FIN : Hid (JnPost h bp P x y Z w e w4) := Lib.hid (by
      unfold JnPost
      rw [HL.out.1, HL.out.2]
      simp only
      rw [HLL.out]
      exact hp4.back B3.out)
    clear SH
    rcases hp4 with ⟨_, rfl, _⟩ | ⟨_, rfl, _⟩
    · go_wp2_with fail
      go_ret2
      exact FIN.out
    · go_wp2_with fail
      go_ret2
      exact FIN.out
  · have HNO := Lib.hid hok
    clear hok
    go_enter Try.func10, Try.ntmps10
    go_wp2_with fail
    refine PR.out.mono ?_
    rintro e w2 hpr
    have he : e = .returned (.tuple #[.slice none 0 0, .slice none 0 0, .int .i64 13]) := by
      obtain ⟨_, he⟩ := hpr
      split at he
      · next a b h1 h2 => exact (HNO.out ⟨a, b, h1, h2⟩).elim
      · exact he
    subst he
    have FIN := Lib.hid (HBAD.out w2 hpr (fun a b h1 h2 => HNO.out ⟨a, b, h1, h2⟩))
    clear hpr
    go_wp2_with fail
    go_ret2
    exact FIN.out

/-- A string less. -/
def PoolSt.drop (P : PoolSt) (s : Int) : PoolSt := { P with st := P.st.filter fun p => decide (¬ (p.1 : Int) = s) }
theorem PoolMem.drop {w w3 : World} {F : Nat → Prop} {h bp : Nat} {P : PoolSt} {mb ms N1 N2 : Nat} {D1 D2 : DataW Unit} (m : PoolMem w F h bp P mb ms N1 N2 D1 D2) {s : Int} {q : Option (Nat × Nat × Nat) × List Pt} (hl : lookN P.st s = some q)
    (hm : w3.ownsMap Try.prog 3 rowElem ms N2 (D2.del (.int .i64 s))) (keep : ∀ k, k < w.heap.size → k ≠ ms → w3.heap[k]? = w.heap[k]?) : PoolMem w3 F h bp (P.drop s) mb ms N1 N2 D1 (D2.del (.int .i64 s)) := by
  have hmsh : h ≠ ms := fun e => by
    obtain ⟨es, clock, hb, _⟩ := m.m2
    have h1 := m.self
    rw [e, hb] at h1
    simp at h1
  obtain ⟨r1, r2⟩ := m.rest (w' := w3) (fun k hk _ _ h2 => keep k hk h2)
  have sub : (P.st.filter fun p => decide (¬ (p.1 : Int) = s)).Sublist P.st := List.filter_sublist
  have hhas : Maps.has D2 (.int .i64 s) = true := Maps.has_true_of_atKey (y := rowD q.1) (fun z => by rw [m.l2, hl]; rfl)
  obtain ⟨n, hn, hmem⟩ := lookN_mem hl
  refine ⟨(keep h (lt_of m.self) hmsh).trans m.self, m.fh, ownsMap_same m.m1 (keep mb m.m1.lt m.mne), m.f1, hm, m.f2, m.l1, m.z1, fun k z => ?_, ?_, r1, m.ia, m.ig, m.kb, m.nb, m.ks.sublist (sub.map _), fun p hp => m.ns p (sub.subset hp), fun p hp => r2 p (sub.subset hp), fun p hp => m.pt p (sub.subset hp), m.sz, m.mne, ?_⟩
  · show _ = rowZ ((lookN (P.st.filter fun p => decide (¬ (p.1 : Int) = s)) k).map Prod.fst) z
    rw [lookN_filter (fun k => decide (¬ k = s))]
    by_cases e : k = s
    · subst e
      rw [Maps.atKey_del_same, if_neg (by simp)]
      rfl
    · rw [Maps.atKey_del_other (by simp; exact e), m.l2, if_pos (by simp; exact e)]
  · have h1 := Maps.size_del (m.m2.tidy intKey) (k := .int .i64 s)
    rw [hhas, if_pos rfl, m.z2] at h1
    have h2 := filter_less (n := n) (q := fun _ => true) (q' := fun k => decide (¬ k = s)) rfl (by simp; exact hn) (fun k hk => by simp; omega) m.ks ⟨q, hmem⟩
    rw [List.filter_eq_self.2 (fun _ _ => rfl)] at h2
    show _ = (P.st.filter fun p => decide (¬ (p.1 : Int) = s)).length
    omega
  · obtain ⟨a1, a2, a3, a4, a5⟩ := m.few
    have : (P.drop s).st.length ≤ P.st.length := sub.length_le
    exact ⟨by omega, a2, fun p hp => a3 p (sub.subset hp), a4, a5⟩

def DrPost (h bp : Nat) (P : PoolSt) (x : Int) (Z : Nat → Prop) (w : World) : Ending → World → Prop := fun e w' => match lookN P.st x with
  | none => e = .returned (.int .i64 13) ∧ Stays h bp P Z P.bl.length w w'
  | some q => e = .returned (.int .i64 0) ∧ ∃ Z', SP w' Z' h bp (P.drop x).swept (P.drop x).swept.bl.length ∧ Nxt Z Z' w w'

set_option maxHeartbeats 2000000 in
set_option maxRecDepth 100000 in
theorem drop_any {w : World} {Z : Nat → Prop} {h bp : Nat} {P : PoolSt} (s : SP w Z h bp P P.bl.length) (x : Int) (hx : -9223372036854775808 ≤ x ∧ x ≤ 9223372036854775807) :
    Calls Try.prog 12 #[.pointer (some ⟨h, 0, none⟩), .int .i64 x] w (DrPost h bp P x Z w) := by
  have HSP := Lib.hid s
  obtain ⟨mb, ms, D1, D2, F, G, b, p, hZ⟩ := s
  have HP := Lib.hid p
  have FI := Lib.hid (findP_any p.pm x hx)
  have HZ := Lib.hid hZ
  have c7 := p.pm.cells.2.2.2.2.2.2.2
  have hown := p.pm.m2
  have hkey := Maps.keyOf_int_mk (P := Try.prog) (k := 3) Try.underlying3 (a := x) (WalkArith.wf_i64 hx)
  clear p hZ
  cases hl : lookN P.st x with
  | none =>
    have HL := Lib.hid hl
    clear hl hown c7
    go_enter Try.func12, Try.ntmps12
    go_wp2_with fail
    refine FI.out.mono ?_
    rintro e w2 ⟨rfl, he⟩
    rw [HL.out] at he
    subst he
    have FIN : Hid (DrPost h bp P x Z w2 (.returned (.int .i64 13)) w2) := Lib.hid (by
      unfold DrPost
      rw [HL.out]
      exact ⟨rfl, HSP.out, Below.refl _ _⟩)
    go_wp2_with fail
    go_ret
    exact FIN.out
  | some q =>
    obtain ⟨o, l⟩ := q
    have HL := Lib.hid hl
    obtain ⟨ra, rc, hrow, _, _, _⟩ := (HP.out.pm.str hl).2.2.2.2.2.1
    have HROW := Lib.hid hrow
    clear hl hrow
    go_enter Try.func12, Try.ntmps12
    go_wp2_with fail
    refine FI.out.mono ?_
    rintro e w2 ⟨rfl, he⟩
    rw [HL.out] at he
    simp only [HROW.out] at he
    subst he
    go_wp2_with (at_delete; go_must (refine wpList_delete_own _ rfl _ _ 61 3 rfl 66 intKey Try.underlying61 rowElem ms P.st.length D2 rfl (by exact hown) (.int .i64 x) (.int .i64 x) rfl hkey ?_))
    intro w3 hown3 hturn
    have T3 : Touch F w2 w3 := (Touch.refl F w2).grown hturn.grown (fun k e => by cases e; exact Or.inl HP.out.pm.f2)
    have m3 := HP.out.pm.drop HL.out hown3 (fun k hk hne => hturn.grown.block k hk (fun e => hne (Option.some.inj e)))
    have p3 := HP.out.turn m3 (fun k hk => Or.inl hk) (fun k hk => Nat.lt_of_lt_of_le (HP.out.fl k hk) T3.size) T3 rfl
    have SW := Lib.hid (sweepP_any p3)
    have HT3 := Lib.hid T3
    have F1 := Lib.hid HP.out.pm.f1
    clear hown hown3 hturn T3 m3 p3 c7
    go_wp2_with fail
    refine SW.out.mono ?_
    rintro e w4 ⟨⟨v4, rfl⟩, D1', G', b', p4, hG4, t4⟩
    have FIN : Hid (DrPost h bp P x Z w2 (.returned (.int .i64 0)) w4) := Lib.hid (by
      unfold DrPost
      rw [HL.out]
      refine ⟨rfl, _, SP.of p4, fun k hk => ?_, (HT3.out.mono (fun k hk => (HZ.out k).1 (Or.inl hk))).then (t4.mono (fun k hk => ?_))⟩
      · have := HT3.out.size
        rcases hk with hk | hk
        · exact Or.inl ((HZ.out k).1 (Or.inl hk))
        · rcases hG4 k hk with hk | hk
          · exact Or.inl ((HZ.out k).1 (Or.inr hk))
          · right; omega
      · rcases hk with hk | rfl
        · exact (HZ.out k).1 (Or.inr hk)
        · exact (HZ.out k).1 (Or.inl F1.out))
    clear p4 hG4 t4 SW
    go_wp2_with fail
    go_ret
    exact FIN.out

end Go.Proofs.Ytbndknbjjdoanaa
