/-
  CheckEntries and EntriesFault give the same, for all arguments. No conditions.
  Entries that came in. No conditions.
  The witness's heap of LedgerChecks's row: every listed variable laid. No conditions.
-/
import Derived.Test.YtljjndifmfhffaaGreatDoorLedgerChecksPbq
import Derived.Test.YtljjndifmfhffaaGreatDoorLedgerChecksPbx
import Derived.Test.YtljjndifmfhffaaGreatDoorLedgerChecksPbt
import Derived.Test.YtljjndifmfhffaaGreatDoorLedgerChecksPaa
import Derived.Deep.Slices
import Derived.Test.YtljjndifmfhffaaGreatDoorTie
import Derived.Test.YtljjndifmfhffaaGreatDoorCards
import Derived.Deep.DeepHandedRow
import Derived.LaidMore
import Derived.LaidHandle
import Derived.SevenTiedAt
import Derived.Lay

namespace Go.Proofs.YtljjndifmfhffaaGreatDoor
section
open Go Go.RowKit Go.ChangeShapes Go.WideShapes Go.ChangeAt
set_option linter.unusedVariables false

set_option maxHeartbeats 1000000 in
set_option maxRecDepth 100000 in
theorem check_large (b : Int) (v : Value) (ls : List Ent) (w : World) (hs : EntSrc w v ls) (hlen : 5000 < ls.length) : Calls Tryz.prog 4 #[.int .i64 b, v] w (ChkPost2 (0, 4) w) := by
  obtain ⟨a, cap, rfl, hc⟩ := hs
  clear hc
  go_enter Tryz.func4, Tryz.ntmps4
  go_wp2_with fail
  go_ret2
  exact ⟨rfl, Below.refl _ _⟩
set_option maxHeartbeats 1000000 in
set_option maxRecDepth 100000 in
theorem check_budget (b : Int) (v : Value) (ls : List Ent) (w : World) (hs : EntSrc w v ls) (hlen : ls.length ≤ 5000) (hb : ¬ (0 ≤ b ∧ b ≤ 10000000)) : Calls Tryz.prog 4 #[.int .i64 b, v] w (ChkPost2 (0, 2) w) := by
  obtain ⟨a, cap, rfl, hc⟩ := hs
  have NB := Lib.hid (newBook_bad b w hb)
  clear hc hb
  go_enter Tryz.func4, Tryz.ntmps4
  go_wp2_with fail
  refine NB.out.mono ?_
  rintro e w' ⟨rfl, rfl⟩
  go_wp2_with fail
  go_ret2
  exact ⟨rfl, Below.refl _ _⟩

theorem check_prog (b : Int) (v : Value) (ls : List Ent) (w : World) (hs : EntSrc w v ls) : Calls Tryz.prog 4 #[.int .i64 b, v] w (ChkPost2 (chkAll b ls) w) := by
  unfold chkAll
  by_cases h1 : 5000 < ls.length
  · rw [if_pos h1]; exact check_large b v ls w hs h1
  · rw [if_neg h1]
    by_cases h2 : 0 ≤ b ∧ b ≤ 10000000
    · rw [if_pos h2]; exact checkEntries_ok b v ls w hs (by omega) h2
    · rw [if_neg h2]; exact check_budget b v ls w hs (by omega) h2
theorem check_ref (b : Int) (v : Value) (ls : List Ent) (w : World) (hs : EntSrc w v ls) : Calls Tryz.prog 5 #[.int .i64 b, v] w (ChkPost2 (chkAll b ls) w) := by
  unfold chkAll
  by_cases h1 : 5000 < ls.length
  · rw [if_pos h1]; exact faults_large b v ls w hs h1
  · rw [if_neg h1]
    by_cases h2 : 0 ≤ b ∧ b ≤ 10000000
    · rw [if_pos h2]; exact faults_ok b v ls w hs (by omega) h2
    · rw [if_neg h2]; exact faults_budget b v ls w hs (by omega) h2

/-- The entries that came in. -/
def En.ent (e : En) : Ent := ⟨e.k, e.o, e.p, e.a, e.l, e.u⟩
theorem EnsIn.src {w : World} {v : Value} {L : List En} (h : EnsIn w v L) : EntSrc w v (L.map En.ent) := by
  obtain ⟨a, cap, rfl, hl, hc⟩ := h
  refine ⟨a, cap, by rw [List.length_map], fun h0 => ?_⟩
  rw [List.length_map] at h0
  obtain ⟨b0, o0, rfl, hc0⟩ := hc 0 h0
  refine ⟨b0, o0, rfl, World.block_lt_of_cell? w _ hc0.1, fun k x hk i hi => ?_⟩
  have hkl : k < L.length := by
    have := (List.getElem?_eq_some_iff.1 hk).1
    rwa [List.length_map] at this
  obtain ⟨b, o, hbo, h0, h1, h2, h3, h4, h5⟩ := hc k hkl
  simp only [Option.some.injEq, Addr.mk.injEq, and_true] at hbo
  obtain ⟨rfl, rfl⟩ := hbo
  have hx : x = (L.getD k En.zero).ent := by
    rw [List.getElem?_map, List.getElem?_eq_getElem hkl] at hk
    simp only [Option.map_some, Option.some.injEq] at hk
    rw [← hk, List.getD_eq_getElem?_getD, List.getElem?_eq_getElem hkl]
    rfl
  subst hx
  rcases (show i = 0 ∨ i = 1 ∨ i = 2 ∨ i = 3 ∨ i = 4 ∨ i = 5 by omega) with rfl | rfl | rfl | rfl | rfl | rfl
  · exact h0
  · exact h1
  · exact h2
  · exact h3
  · exact h4
  · exact h5

theorem laid_checks {W : World} (h0 : laidMetH Tryz.prog Rows.ledgerChecksRow.laid W) : TabsAt W ∧ WordsAt 0 entYs W := by
  have h : laidMet Tryz.prog Rows.ledgerChecksRow.laid W := by
    rw [← MakeChecks.laidMetH_plain _ _ _ (by kernel_rfl)]; exact h0
  exact ⟨tabs_of h.tail.tail h.tail.tail.tail.tail, words_of (by kernel_rfl) (by decide) (by kernel_rfl) (by kernel_rfl) h.tail.tail.tail.tail.tail⟩

set_option maxHeartbeats 2000000 in
set_option maxRecDepth 100000 in
theorem ledgerChecks (b : Int) (v : Value) (L : List En) (w : World) (_ : -9223372036854775808 ≤ b ∧ b ≤ 9223372036854775807) (hr : EnsIn w v L) (hl : TabsAt w ∧ WordsAt 0 entYs w) :
    Calls Tryz.prog 3 #[.int .i64 b, v] w (LawPost w) := by
  have P1 := Lib.hid (check_prog b v _ w hr.src)
  have P2 := Lib.hid (fun w' (hb : Below w.heap.size w w') => check_ref b v _ w' (hr.below hb).src)
  have P3 := Lib.hid (fun w' (hb : Below w.heap.size w w') => entriesText_any v L w' (hl.1.below hb) (hr.below hb))
  have P4 := Lib.hid (fun w' (hb : Below w.heap.size w w') => entriesString_any v L w' (hl.1.below hb) (hl.2.below hb) (hr.below hb))
  obtain ⟨a, cap, rfl, _, _⟩ := hr
  generalize chkAll b (L.map En.ent) = R at *
  obtain ⟨rn, re⟩ := R
  unfold ETextPost at P3 P4
  generalize entText L = tx at *
  generalize listErr L = te at *
  clear hl
  go_enter Tryz.func3, Tryz.ntmps3
  go_wp2_with fail
  refine P1.out.mono ?_
  rintro e w1 ⟨rfl, hb1⟩
  have B1 := Lib.hid hb1
  clear hb1
  go_wp2_with fail
  refine (P2.out _ B1.out).mono ?_
  rintro e w2 ⟨rfl, hb2⟩
  have B2 := Lib.hid (B1.out.trans (hb2.mono B1.out.size))
  clear hb2
  go_wp2_with fail
  refine (P3.out _ B2.out).mono ?_
  rintro e w3 ⟨rfl, hb3⟩
  have B3 := Lib.hid (B2.out.trans (hb3.mono B2.out.size))
  clear hb3
  go_wp2_with fail
  refine (P4.out _ B3.out).mono ?_
  rintro e w4 ⟨rfl, hb4⟩
  have B4 := Lib.hid (B3.out.trans (hb4.mono B3.out.size))
  clear hb4
  go_wp2_with fail
  go_ret
  exact ⟨by first | rfl | exact ret_bool (by simp), B4.out⟩

end
end Go.Proofs.YtljjndifmfhffaaGreatDoor

namespace Go.Proofs.YtljjndifmfhffaaGreatDoor
section
open Go.ChangeShapes Go.WideShapes Go.ChangeAt Go.RowKit Go.Deep
set_option linter.unusedVariables false
variable {H : Type} {enc : TypeId × Value → H} {P : Program} {W : World}

theorem choose_to {α : Type} {n : Nat} {p : Nat → α → Prop} (d : α) (h : ∀ i, i < n → ∃ y, p i y) : ∃ f : Nat → α, ∀ i, i < n → p i (f i) :=
  ⟨fun i => if hi : i < n then (h i hi).choose else d, fun i hi => by simp only; rw [dif_pos hi]; exact (h i hi).choose_spec⟩

theorem openEns {t e q : TypeId} {fs : Array Field} {base : Nat} {v : Value} {d : DataW H} {p : List MemPlace} (ht : P.underlying t = some (.slice e)) (he : P.underlying e = some (.struct fs)) (hf : ∀ i, i < 6 → ∃ f, fs[i]? = some f ∧ f.type = q ∧ f.offset = i) (h6 : fs.size = 6)
    (hq : P.underlying q = some (.int .i64)) (ce : P.cellsOf e = 6) (cq : P.cellsOf q = 1)
    (hv : Value.okWide P W .any base t v) (h : DataW.Trod enc P W 0 (fun _ => true) true t v d p) : ∃ L, EnsIn W v L := by
  obtain ⟨a, len, cap, rfl⟩ := okWide_slice ht hv
  obtain ⟨fuel, hfu⟩ := h
  rcases open_slice ht hfu with ⟨hcs, hx⟩ | ⟨x, l, c, m, n, D, Pl, hcs, hb, hl, hm, hmm, hx, hel⟩
  · simp [Value.cells] at hcs
    obtain ⟨rfl, rfl, rfl⟩ := hcs
    exact ⟨[], EnsIn.nil W⟩
  · simp [Value.cells] at hcs
    obtain ⟨rfl, rfl, rfl⟩ := hcs
    simp only [if_true] at hmm
    subst hmm
    have each : ∀ i, i < m → ∃ y : En, W.cell? (x.add (i * 6)) = some (.int .i64 y.k) ∧ W.cell? (x.add (i * 6 + 1)) = some (.int .i64 y.o) ∧ W.cell? (x.add (i * 6 + 2)) = some (.int .i64 y.p) ∧ W.cell? (x.add (i * 6 + 3)) = some (.int .i64 y.a) ∧ W.cell? (x.add (i * 6 + 4)) = some (.int .i64 y.l) ∧ W.cell? (x.add (i * 6 + 5)) = some (.int .i64 y.u) := by
      intro i hi
      obtain ⟨cs', h1, h2⟩ := hel i hi
      rw [ce] at h1
      obtain ⟨_, hlen, hat⟩ := World.cells?_some h1
      obtain ⟨xs, n', _, _, _, hxl, hfld⟩ := DataW.trod_struct he h2
      have tr : ∀ j, j < 6 → ∃ a : Int, cs'[j]? = some (.int .i64 a) := by
        intro j hj
        obtain ⟨f, f1, f2, f3⟩ := hf j hj
        have g := hfld j f f1
        rw [f2, f3, cq] at g
        have hy : xs[j]? = some (xs[j]'(by omega)) := List.getElem?_eq_getElem (by omega)
        rw [hy] at g
        obtain ⟨a, e0, _, _⟩ := DataW.trod_int hq g
        refine ⟨a, ?_⟩
        have := congrArg (·[0]?) e0
        simpa using this
      obtain ⟨a0, e0⟩ := tr 0 (by omega)
      obtain ⟨a1, e1⟩ := tr 1 (by omega)
      obtain ⟨a2, e2⟩ := tr 2 (by omega)
      obtain ⟨a3, e3⟩ := tr 3 (by omega)
      obtain ⟨a4, e4⟩ := tr 4 (by omega)
      obtain ⟨a5, e5⟩ := tr 5 (by omega)
      have k0 := hat 0 (by omega)
      have k1 := hat 1 (by omega)
      have k2 := hat 2 (by omega)
      have k3 := hat 3 (by omega)
      have k4 := hat 4 (by omega)
      have k5 := hat 5 (by omega)
      rw [add_add] at k0 k1 k2 k3 k4 k5
      rw [e0] at k0
      rw [e1] at k1
      rw [e2] at k2
      rw [e3] at k3
      rw [e4] at k4
      rw [e5] at k5
      exact ⟨⟨a0, a1, a2, a3, a4, a5⟩, k0, k1, k2, k3, k4, k5⟩
    obtain ⟨es, hes⟩ := choose_to En.zero each
    refine ⟨(List.range len).map es, some x, m, by simp, by simp; unfold maxLen at hm; omega, fun k hk => ?_⟩
    have hk' : k < len := by simpa using hk
    obtain ⟨b, off, spot⟩ := x
    have hspot : spot = none := by simpa [Addr.add] using World.cell?_spot (hes 0 (by omega)).1
    subst hspot
    have e1 : ∀ j, (⟨b, off, none⟩ : Addr).add j = ⟨b, off + j, none⟩ := fun j => by unfold Addr.add; split <;> simp_all
    have hgd : ((List.range len).map es).getD k En.zero = es k := by
      rw [List.getD_eq_getElem?_getD]
      simp [hk']
    rw [hgd]
    have := hes k (by omega)
    simp only [e1] at this
    exact ⟨b, off, rfl, this⟩

end
end Go.Proofs.YtljjndifmfhffaaGreatDoor

namespace Go.Proofs.YtljjndifmfhffaaGreatDoor
section
open Go

noncomputable def checksWorld (os : Os) : World := World.laidAll Tryz.prog os Rows.ledgerChecksRow.laid

theorem checksWorld_os (os : Os) : (checksWorld os).os = os := World.laidAll_os _ _ _

theorem checks_met (os : Os) (args : Array Value) : laidMetH Tryz.prog Rows.ledgerChecksRow.laid ((checksWorld os).forCall (fun _ _ => 0) ⟨#[], args, []⟩).memory :=
  laidMetH_of_parts3 (fuel := 8) (laidMet_laidAll args (by kernel_rfl) (by kernel_rfl)) (by kernel_rfl) (by kernel_rfl)

theorem checks_shaped (os : Os) : ((checksWorld os).forCall (fun _ _ => 0) ⟨#[], #[.int .i64 0, .slice none 0 0], []⟩).Shaped Tryz.prog :=
  World.shaped_of_RefB (by kernel_rfl) (by kernel_rfl)

end
end Go.Proofs.YtljjndifmfhffaaGreatDoor
