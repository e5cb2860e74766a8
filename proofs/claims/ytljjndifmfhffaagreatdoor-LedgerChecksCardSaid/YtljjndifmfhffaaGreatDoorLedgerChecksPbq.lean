/-
  The reference's EntriesFault: what it gives. No conditions but those of the entries' list.
-/
import Derived.Test.YtljjndifmfhffaaGreatDoorLedgerChecksPbo
import Derived.Test.YtljjndifmfhffaaGreatDoorLedgerChecksPbp
import Derived.Test.YtljjndifmfhffaaGreatDoorLedgerChecksPap
namespace Go.Proofs.YtljjndifmfhffaaGreatDoor
open Go.RowKit
set_option linter.unusedVariables false

theorem OffRow.at_ {w : World} {e size n m c : Nat} {a : Option Addr} {xs : List Value} (h : OffRow w e size (.slice a m c) n xs) (h0 : 0 < n) : ∃ g off, a = some ⟨g, off, none⟩ := by
  rcases h.2 with ⟨_, h1⟩ | ⟨g, off, cap, cur, hv, _⟩
  · omega
  · simp only [Value.slice.injEq] at hv
    exact ⟨g, off, hv.1⟩
theorem off_cell {w : World} {g off c : Nat} {ls : List Ent} (h : OffRow w 33 6 (.slice (some ⟨g, off, none⟩) ls.length c) ls.length (ls.flatMap Ent.cells)) {k : Nat} {x : Ent} (hx : ls[k]? = some x) (i : Nat) (hi : i < 6) : w.cell? ⟨g, off + k * 6 + i, none⟩ = x.cells[i]? := by
  have h1 := ecells_get ls k i x hx hi
  obtain ⟨u, hu⟩ : ∃ u, x.cells[i]? = some u := ⟨_, List.getElem?_eq_getElem (by simp [Ent.cells]; omega)⟩
  rw [hu] at h1 ⊢
  have h2 := h.cell h1
  rw [Nat.add_assoc]; exact h2

/-- From now on no entry is left out. -/
theorem RefMem.wholeTo {w : World} {F : Nat → Prop} {p : Nat} {st : BookSt} {es : List Ent} {wh : Bool} {N mb : Nat} {lv ev : Value} {D : DataW Unit} (h : RefMem w F p st es wh N mb lv ev D) : RefMem (w.setCell ⟨p, 5, none⟩ (.bool true)) F p st es true N mb lv ev D := by
  have hk : ∀ k, k ≠ p → (w.setCell ⟨p, 5, none⟩ (.bool true)).heap[k]? = w.heap[k]? := fun k hk => Below.heap_setCell _ _ _ k hk
  refine ⟨by rw [block_setCell h.self]; rfl, h.fp, ownsMap_same h.map (hk mb h.nm.1), h.fmap, h.tidy, h.size, h.look, h.has, ownsRow_same h.lrow (fun k hk' => hk k (fun e => h.pl (e ▸ hk'))), h.flea, h.erow.same (fun k hk' => hk k (fun e => h.pe (e ▸ hk'))), h.fent⟩

/-- What holds between two rounds. -/
structure ChkR (b : Int) (ls : List Ent) (p k : Nat) (w wr : World) (G : Nat → Prop) (st : BookSt) : Prop where
  book : RB wr G p st true
  lt : ∀ j, G j → j < wr.heap.size ∧ w.heap.size ≤ j
  good : Good st
  last : st.last ≤ k
  ents : k ≤ st.entries.length
  eq : chkFrom ls 0 (newSt b) = chkFrom (ls.drop k) k st
  below : Below w.heap.size w wr

set_option maxHeartbeats 1000000 in
set_option maxRecDepth 100000 in
theorem faults_large (b : Int) (v : Value) (ls : List Ent) (w : World) (hs : EntSrc w v ls) (hlen : 5000 < ls.length) : Calls Tryz.prog 5 #[.int .i64 b, v] w (ChkPost2 (0, 4) w) := by
  obtain ⟨a, cap, rfl, hc⟩ := hs
  clear hc
  go_enter Tryz.func5, Tryz.ntmps5
  go_wp2_with fail
  go_ret2
  exact ⟨rfl, Below.refl _ _⟩
set_option maxHeartbeats 1000000 in
set_option maxRecDepth 100000 in
theorem faults_budget (b : Int) (v : Value) (ls : List Ent) (w : World) (hs : EntSrc w v ls) (hlen : ls.length ≤ 5000) (hb : ¬ (0 ≤ b ∧ b ≤ 10000000)) : Calls Tryz.prog 5 #[.int .i64 b, v] w (ChkPost2 (0, 2) w) := by
  obtain ⟨a, cap, rfl, hc⟩ := hs
  have NB := Lib.hid (refNew_bad b w hb)
  clear hc hb
  go_enter Tryz.func5, Tryz.ntmps5
  go_wp2_with fail
  refine NB.out.mono ?_
  rintro e w' ⟨rfl, rfl⟩
  go_wp2_with fail
  go_ret2
  exact ⟨rfl, Below.refl _ _⟩

set_option maxHeartbeats 8000000 in
set_option maxRecDepth 100000 in
theorem faults_ok (b : Int) (v : Value) (ls : List Ent) (w : World) (hs : EntSrc w v ls) (hlen : ls.length ≤ 5000) (hb : 0 ≤ b ∧ b ≤ 10000000) :
    Calls Tryz.prog 5 #[.int .i64 b, v] w (ChkPost2 (chkFrom ls 0 (newSt b)) w) := by
  have NB := Lib.hid (refNew_ok b w hb)
  obtain ⟨a, cap, rfl, hc⟩ := hs
  have HC := Lib.hid hc
  have HGN := Lib.hid (Good.new b hb)
  clear hb hc
  go_enter Tryz.func5, Tryz.ntmps5
  go_wp2_with fail
  refine NB.out.mono ?_
  rintro e w1 ⟨p, rfl, hbk, hbl⟩
  obtain ⟨mb1, lv1, ev1, D1, hm1⟩ := RefAt.more (RefAt.narrow' hbk) (M := 40) (by omega)
  have f5 : w1.frozen? ⟨p, 5, none⟩ = false := free_of hm1.self 5
  have c5 : w1.cell? ⟨p, 5, none⟩ = some (.bool false) := by rw [cell_of hm1.self]; rfl
  have hp1 := hm1.fp
  have C0 : Hid (ChkR b ls p 0 w (w1.setCell ⟨p, 5, none⟩ (.bool true)) (fun j => w.heap.size ≤ j ∧ j < w1.heap.size) (newSt b)) := Lib.hid ⟨⟨mb1, lv1, ev1, D1, hm1.wholeTo⟩, fun j hj => ⟨by simp [World.setCell]; exact hj.2, hj.1⟩, HGN.out, by simp [newSt], Nat.zero_le _, rfl, hbl.setCell hp1.1 _⟩
  clear hbk hbl NB hm1
  go_wp2_with fail
  go_loopw [8, 30] (fun made vi wr => ∃ (k : Nat) (G : Nat → Prop) (st : BookSt), k ≤ ls.length ∧ vi = .int .i64 k ∧ made = .int .i64 st.entries.length ∧ ChkR b ls p k w wr G st) (fun _ vi _ => ls.length - (intOf vi).toNat)
  case atStart => exact ⟨0, _, _, Nat.zero_le _, rfl, rfl, C0.out⟩
  case round =>
    obtain ⟨k, G, st, hk, rfl, rfl, hD⟩ := hrel
    have HD := Lib.hid hD
    have hentl := hD.good.ents
    by_cases hlt : k < ls.length
    · obtain ⟨x, hx⟩ : ∃ x, ls[k]? = some x := ⟨_, List.getElem?_eq_getElem hlt⟩
      obtain ⟨gb, off, rfl, hgb, hcc⟩ := HC.out (by omega)
      have cc := fun i (hi : i < 6) => (hD.below.cell (p := ⟨gb, off + k * 6 + i, none⟩) hgb).trans (hcc k x hx i hi)
      have x0 : wr.cell? ⟨gb, off + k * 6, none⟩ = some (.int .i64 x.kind) := (cc 0 (by omega)).trans rfl
      have x1 : wr.cell? ⟨gb, off + k * 6 + 1, none⟩ = some (.int .i64 x.owner) := (cc 1 (by omega)).trans rfl
      have x2 : wr.cell? ⟨gb, off + k * 6 + 2, none⟩ = some (.int .i64 x.other) := (cc 2 (by omega)).trans rfl
      have x3 : wr.cell? ⟨gb, off + k * 6 + 3, none⟩ = some (.int .i64 x.amount) := (cc 3 (by omega)).trans rfl
      have x4 : wr.cell? ⟨gb, off + k * 6 + 4, none⟩ = some (.int .i64 x.lease) := (cc 4 (by omega)).trans rfl
      have x5 : wr.cell? ⟨gb, off + k * 6 + 5, none⟩ = some (.int .i64 x.untl) := (cc 5 (by omega)).trans rfl
      have hdrop : ls.drop k = x :: ls.drop (k + 1) := by
        have : ls[k] = x := by rw [List.getElem?_eq_getElem hlt] at hx; simpa using hx
        rw [← this]; exact List.drop_eq_getElem_cons hlt
      have HEQ := Lib.hid (hD.eq.trans (by rw [hdrop]))
      clear hD cc hcc hx hdrop
      by_cases hkind : 1 ≤ x.kind ∧ x.kind ≤ 11
      case neg =>
        have HPL := Lib.hid (fun W => plain_none x W hkind)
        have HV := Lib.hid (HEQ.out.trans (chk_kind hkind))
        obtain ⟨e1, e2, e3, e4, e5, e6⟩ := x
        simp only at x0 x1 x2 x3 x4 x5
        clear hkind
        go_wp2_with fail
        refine (HPL.out _).mono ?_
        rintro e w3 ⟨rfl, hb3⟩
        have HB3 : Hid (Below w.heap.size w w3) := Lib.hid ((HD.out.below.alloc HD.out.below.size _).trans (hb3.mono (by have := HD.out.below.size; simp; omega)))
        clear hb3 x0 x1 x2 x3 x4 x5
        go_wp2_with fail
        go_ret2
        exact ⟨by rw [HV.out]; rfl, HB3.out.alloc HB3.out.size _⟩
      case pos =>
        have HPL := Lib.hid (fun W => plain_any x W hkind)
        have HPF := Lib.hid (plainE_form x)
        obtain ⟨e1, e2, e3, e4, e5, e6⟩ := x
        simp only at hkind x0 x1 x2 x3 x4 x5
        have HK := Lib.hid hkind
        clear hkind
        generalize plainE ⟨e1, e2, e3, e4, e5, e6⟩ = y at *
        obtain ⟨f1, f2, f3, f4, f5, f6⟩ := y
        rcases ent_diff e1 e2 e3 e4 e5 e6 f1 f2 f3 f4 f5 f6 with ⟨rfl, rfl, rfl, rfl, rfl, rfl⟩ | hd
        case inr =>
          have hf : formE ⟨e1, e2, e3, e4, e5, e6⟩ = false := by
            cases hf : formE ⟨e1, e2, e3, e4, e5, e6⟩ with
            | false => rfl
            | true => exact absurd (Ent.same_iff.2 (HPF.out.1 hf).symm) hd.1
          have HV := Lib.hid (HEQ.out.trans (chk_form HK.out hf))
          have hd2 := hd.2
          clear hd hf
          rcases hd2 with hd | ⟨rfl, hd⟩ | ⟨rfl, rfl, hd⟩ | ⟨rfl, rfl, rfl, hd⟩ | ⟨rfl, rfl, rfl, rfl, hd⟩ | ⟨rfl, rfl, rfl, rfl, rfl, hd⟩
          all_goals
            go_wp2_with fail
            refine (HPL.out _).mono ?_
            rintro e w3 ⟨rfl, hb3⟩
            have HB3 : Hid (Below w.heap.size w w3) := Lib.hid ((HD.out.below.alloc HD.out.below.size _).trans (hb3.mono (by have := HD.out.below.size; simp; omega)))
            have hbox3 := (hb3.block wr.heap.size (by simp)).trans (heap_alloc_new wr (.cells #[.int .i64 e1, .int .i64 e2, .int .i64 e3, .int .i64 e4, .int .i64 e5, .int .i64 e6] 33))
            have b0 : ∀ ob, (w3.alloc ob).cell? ⟨wr.heap.size, 0, none⟩ = some (.int .i64 e1) := fun ob => Lib.cell?_alloc_some _ ((cell_of hbox3 0).trans rfl)
            have b1 : ∀ ob, (w3.alloc ob).cell? ⟨wr.heap.size, 1, none⟩ = some (.int .i64 e2) := fun ob => Lib.cell?_alloc_some _ ((cell_of hbox3 1).trans rfl)
            have b2 : ∀ ob, (w3.alloc ob).cell? ⟨wr.heap.size, 2, none⟩ = some (.int .i64 e3) := fun ob => Lib.cell?_alloc_some _ ((cell_of hbox3 2).trans rfl)
            have b3 : ∀ ob, (w3.alloc ob).cell? ⟨wr.heap.size, 3, none⟩ = some (.int .i64 e4) := fun ob => Lib.cell?_alloc_some _ ((cell_of hbox3 3).trans rfl)
            have b4 : ∀ ob, (w3.alloc ob).cell? ⟨wr.heap.size, 4, none⟩ = some (.int .i64 e5) := fun ob => Lib.cell?_alloc_some _ ((cell_of hbox3 4).trans rfl)
            have b5 : ∀ ob, (w3.alloc ob).cell? ⟨wr.heap.size, 5, none⟩ = some (.int .i64 e6) := fun ob => Lib.cell?_alloc_some _ ((cell_of hbox3 5).trans rfl)
            clear hb3 x0 x1 x2 x3 x4 x5 hbox3
            go_wp2_with fail
            go_ret2
            exact ⟨by rw [HV.out]; rfl, HB3.out.alloc HB3.out.size _⟩
        have HFE := Lib.hid (HPF.out.2 rfl)
        clear HPF
        go_wp2_with fail
        refine (HPL.out _).mono ?_
        rintro e w3 ⟨rfl, hb3⟩
        have hbox3 := (hb3.block wr.heap.size (by simp)).trans (heap_alloc_new wr (.cells #[.int .i64 e1, .int .i64 e2, .int .i64 e3, .int .i64 e4, .int .i64 e5, .int .i64 e6] 33))
        have hbl3 : Below w.heap.size w w3 := (HD.out.below.alloc HD.out.below.size _).trans (hb3.mono (by have := HD.out.below.size; simp; omega))
        have hsz3 : wr.heap.size < w3.heap.size := by have := hb3.size; simp at this; omega
        have hB3 := (HD.out.book.below ((Below.refl _ wr).alloc (Nat.le_refl _) (.cells #[.int .i64 e1, .int .i64 e2, .int .i64 e3, .int .i64 e4, .int .i64 e5, .int .i64 e6] 33))).below hb3
        have b0 : ∀ ob, (w3.alloc ob).cell? ⟨wr.heap.size, 0, none⟩ = some (.int .i64 e1) := fun ob => Lib.cell?_alloc_some _ ((cell_of hbox3 0).trans rfl)
        have b1 : ∀ ob, (w3.alloc ob).cell? ⟨wr.heap.size, 1, none⟩ = some (.int .i64 e2) := fun ob => Lib.cell?_alloc_some _ ((cell_of hbox3 1).trans rfl)
        have b2 : ∀ ob, (w3.alloc ob).cell? ⟨wr.heap.size, 2, none⟩ = some (.int .i64 e3) := fun ob => Lib.cell?_alloc_some _ ((cell_of hbox3 2).trans rfl)
        have b3 : ∀ ob, (w3.alloc ob).cell? ⟨wr.heap.size, 3, none⟩ = some (.int .i64 e4) := fun ob => Lib.cell?_alloc_some _ ((cell_of hbox3 3).trans rfl)
        have b4 : ∀ ob, (w3.alloc ob).cell? ⟨wr.heap.size, 4, none⟩ = some (.int .i64 e5) := fun ob => Lib.cell?_alloc_some _ ((cell_of hbox3 4).trans rfl)
        have b5 : ∀ ob, (w3.alloc ob).cell? ⟨wr.heap.size, 5, none⟩ = some (.int .i64 e6) := fun ob => Lib.cell?_alloc_some _ ((cell_of hbox3 5).trans rfl)
        have HB3 := Lib.hid (hB3.below ((Below.refl _ w3).alloc (Nat.le_refl _) (.cells #[.int .i64 e1, .int .i64 e2, .int .i64 e3, .int .i64 e4, .int .i64 e5, .int .i64 e6] 33)))
        have HB := Lib.hid (And.intro ((heap_alloc_old w3 (.cells #[.int .i64 e1, .int .i64 e2, .int .i64 e3, .int .i64 e4, .int .i64 e5, .int .i64 e6] 33) hsz3).trans hbox3) (hbl3.alloc hbl3.size (.cells #[.int .i64 e1, .int .i64 e2, .int .i64 e3, .int .i64 e4, .int .i64 e5, .int .i64 e6] 33)))
        have hsz3 : wr.heap.size < (w3.alloc (.cells #[.int .i64 e1, .int .i64 e2, .int .i64 e3, .int .i64 e4, .int .i64 e5, .int .i64 e6] 33)).heap.size := by simp; omega
        clear hb3 hbox3 hbl3 hB3 HPL x0 x1 x2 x3 x4 x5
        go_upto_region 16 with fail
        clear b0 b1 b2 b3 b4 b5
        generalize w3.alloc (.cells #[.int .i64 e1, .int .i64 e2, .int .i64 e3, .int .i64 e4, .int .i64 e5, .int .i64 e6] 33) = W3 at *
        have z0 : W3.cell? ⟨wr.heap.size, 0, none⟩ = some (.int .i64 e1) := (cell_of HB.out.1 0).trans rfl
        have z1 : W3.cell? ⟨wr.heap.size, 1, none⟩ = some (.int .i64 e2) := (cell_of HB.out.1 1).trans rfl
        have z2 : W3.cell? ⟨wr.heap.size, 2, none⟩ = some (.int .i64 e3) := (cell_of HB.out.1 2).trans rfl
        have z3 : W3.cell? ⟨wr.heap.size, 3, none⟩ = some (.int .i64 e4) := (cell_of HB.out.1 3).trans rfl
        have z4 : W3.cell? ⟨wr.heap.size, 4, none⟩ = some (.int .i64 e5) := (cell_of HB.out.1 4).trans rfl
        have z5 : W3.cell? ⟨wr.heap.size, 5, none⟩ = some (.int .i64 e6) := (cell_of HB.out.1 5).trans rfl
        by_cases hke : k = st.entries.length
        · subst hke
          have hll := HD.out.good.leaLen
          have AG := Lib.hid (again_ref p ⟨e1, e2, e3, e4, e5, e6⟩ W3 G st true HB3.out HD.out.good (fun _ => by omega) (by have := HD.out.last; omega) HK.out)
          have HSTEP0 := Lib.hid (fun he => chk_step (x := ⟨e1, e2, e3, e4, e5, e6⟩) (xs := ls.drop (st.entries.length + 1)) (i := st.entries.length) (st := st) (r := againR st ⟨e1, e2, e3, e4, e5, e6⟩) HK.out HFE.out (if_pos rfl) he)
          have HFL := Lib.hid (fun he => chk_fail (x := ⟨e1, e2, e3, e4, e5, e6⟩) (xs := ls.drop (st.entries.length + 1)) (i := st.entries.length) (st := st) HK.out HFE.out rfl he)
          have HMO := Lib.hid (againR_more HD.out.good ⟨e1, e2, e3, e4, e5, e6⟩ HK.out (by omega))
          have HR := Lib.hid (And.intro (againR_good HD.out.good ⟨e1, e2, e3, e4, e5, e6⟩) (againR_last st ⟨e1, e2, e3, e4, e5, e6⟩))
          generalize againR st ⟨e1, e2, e3, e4, e5, e6⟩ = r at *
          by_cases he : r.1 = 0
          case neg =>
            have HV := Lib.hid (HEQ.out.trans (HFL.out he))
            have he1 : (r.1 == 0) = false := by simpa using he
            have he2 : (r.1 != 0) = true := by simpa using he
            clear HSTEP0 HFL
            go_wp2_with fail
            refine AG.out.mono ?_
            rintro e w4 ⟨rfl, hb4, ht4⟩
            have HB4 : Hid (Below w.heap.size w w4) := Lib.hid (HB.out.2.trans (ht4.below (B := w.heap.size) (by have := HD.out.below.size; omega) (fun j hj => (HD.out.lt j hj).2)))
            clear hb4 ht4
            go_wp2_with fail
            go_ret2
            exact ⟨by rw [HV.out]; rfl, HB4.out⟩
          case pos =>
            have HSTEP := Lib.hid (HSTEP0.out he)
            have he1 : (r.1 == 0) = true := by simpa using he
            have he2 : (r.1 != 0) = false := by simpa using he
            have hgt := HMO.out he
            have hents4 := HR.out.1.ents
            clear HSTEP0 HFL HMO
            go_wp2_with fail
            refine AG.out.mono ?_
            rintro e w4 ⟨rfl, hb4, ht4⟩
            have HM4 := Lib.hid (show RB w4 (fun k => (G k ∨ W3.heap.size ≤ k) ∧ k < w4.heap.size) p r.2 true from RefAt.narrow' hb4)
            obtain ⟨mb4, lv4, ev4, D4, hm4⟩ := RefAt.narrow' hb4
            have hbox4 := (ht4.block wr.heap.size hsz3 (fun h => by have := (HD.out.lt _ h).1; omega)).trans HB.out.1
            have hbl4 : Below w.heap.size w w4 := HB.out.2.trans (ht4.below (B := w.heap.size) (by have := HD.out.below.size; omega) (fun j hj => (HD.out.lt j hj).2))
            have d6 : w4.cell? ⟨p, 6, none⟩ = some ev4 := by rw [cell_of hm4.self]; rfl
            obtain ⟨ea4, ec4, rfl, hec4, hec42⟩ := hm4.erow.sh
            have hse : (seenE true r.2.entries).length = r.2.entries.length := rfl
            rw [hse] at d6 hec4
            clear hse HB z0 z1 z2 z3 z4 z5
            have HM := Lib.hid hm4
            have HB := Lib.hid (And.intro hbox4 hbl4)
            clear hb4 ht4 hm4 hbox4 hbl4
            obtain ⟨y, hy⟩ : ∃ y, r.2.entries[st.entries.length]? = some y := ⟨_, List.getElem?_eq_getElem hgt⟩
            obtain ⟨g5, off5, rfl⟩ := HM.out.erow.at_ (show 0 < (seenE true r.2.entries).length from Nat.lt_of_le_of_lt (Nat.zero_le _) hgt)
            have yc := fun i (hi : i < 6) => off_cell HM.out.erow (k := st.entries.length) (x := y) hy i hi
            have y0 : w4.cell? ⟨g5, off5 + st.entries.length * 6, none⟩ = some (.int .i64 y.kind) := (yc 0 (by omega)).trans rfl
            have y1 : w4.cell? ⟨g5, off5 + st.entries.length * 6 + 1, none⟩ = some (.int .i64 y.owner) := (yc 1 (by omega)).trans rfl
            have y2 : w4.cell? ⟨g5, off5 + st.entries.length * 6 + 2, none⟩ = some (.int .i64 y.other) := (yc 2 (by omega)).trans rfl
            have y3 : w4.cell? ⟨g5, off5 + st.entries.length * 6 + 3, none⟩ = some (.int .i64 y.amount) := (yc 3 (by omega)).trans rfl
            have y4 : w4.cell? ⟨g5, off5 + st.entries.length * 6 + 4, none⟩ = some (.int .i64 y.lease) := (yc 4 (by omega)).trans rfl
            have y5 : w4.cell? ⟨g5, off5 + st.entries.length * 6 + 5, none⟩ = some (.int .i64 y.untl) := (yc 5 (by omega)).trans rfl
            have z0 : w4.cell? ⟨wr.heap.size, 0, none⟩ = some (.int .i64 e1) := (cell_of HB.out.1 0).trans rfl
            have z1 : w4.cell? ⟨wr.heap.size, 1, none⟩ = some (.int .i64 e2) := (cell_of HB.out.1 1).trans rfl
            have z2 : w4.cell? ⟨wr.heap.size, 2, none⟩ = some (.int .i64 e3) := (cell_of HB.out.1 2).trans rfl
            have z3 : w4.cell? ⟨wr.heap.size, 3, none⟩ = some (.int .i64 e4) := (cell_of HB.out.1 3).trans rfl
            have z4 : w4.cell? ⟨wr.heap.size, 4, none⟩ = some (.int .i64 e5) := (cell_of HB.out.1 4).trans rfl
            have z5 : w4.cell? ⟨wr.heap.size, 5, none⟩ = some (.int .i64 e6) := (cell_of HB.out.1 5).trans rfl
            have HS1 := HSTEP.out.2 y hy
            have HGT := Lib.hid hgt
            obtain ⟨f1, f2, f3, f4, f5, f6⟩ := y
            simp only at y0 y1 y2 y3 y4 y5
            clear hy yc
            rcases ent_diff f1 f2 f3 f4 f5 f6 e1 e2 e3 e4 e5 e6 with ⟨rfl, rfl, rfl, rfl, rfl, rfl⟩ | hd
            · have HV := Lib.hid (HEQ.out.trans (HS1.1 (Ent.same_iff.2 rfl)))
              go_wp2_with fail
              go_quiet (fail)
              go_wp2_with fail
              go_roundw
              case rel => exact ⟨st.entries.length + 1, _, _, by omega, by go_num, rfl, ⟨HM4.out.below (bdrewN (Below.refl _ _) _), fun j hj => ⟨hj.2, hj.1.elim (fun q => (HD.out.lt j q).2) (fun q => by have := HD.out.below.size; omega)⟩, HR.out.1, by have := HR.out.2; have := HD.out.last; omega, HGT.out, HV.out, bdrewN HB.out.2 _⟩⟩
              case measure => simp [intOf]; omega
            · have HV := Lib.hid (HEQ.out.trans (HS1.2 hd.1))
              have hd2 := hd.2
              clear hd HS1
              rcases hd2 with hd | ⟨rfl, hd⟩ | ⟨rfl, rfl, hd⟩ | ⟨rfl, rfl, rfl, hd⟩ | ⟨rfl, rfl, rfl, rfl, hd⟩ | ⟨rfl, rfl, rfl, rfl, rfl, hd⟩
              all_goals
                go_wp2_with fail
                go_quiet (fail)
                go_wp2_with fail
                go_ret2
                exact ⟨by rw [HV.out]; rfl, bdrewN HB.out.2 _⟩
        · have hke' : ((k : Int) == (st.entries.length : Int)) = false := by simp; omega
          have hgt : k < st.entries.length := by have := HD.out.ents; omega
          have HSTEP := Lib.hid (chk_step (x := ⟨e1, e2, e3, e4, e5, e6⟩) (xs := ls.drop (k + 1)) (i := k) (st := st) (r := (0, st)) HK.out HFE.out (if_neg hke) rfl)
          obtain ⟨mb, lv, ev, D, hm⟩ := HB3.out
          have d6 : W3.cell? ⟨p, 6, none⟩ = some ev := by rw [cell_of hm.self]; rfl
          obtain ⟨ea, ec, rfl, hec, hec2⟩ := hm.erow.sh
          have hse : (seenE true st.entries).length = st.entries.length := rfl
          rw [hse] at d6 hec
          have HM := Lib.hid hm
          clear hm hse z0 z1 z2 z3 z4 z5
          obtain ⟨y, hy⟩ : ∃ y, st.entries[k]? = some y := ⟨_, List.getElem?_eq_getElem hgt⟩
          obtain ⟨g5, off5, rfl⟩ := HM.out.erow.at_ (show 0 < (seenE true st.entries).length from Nat.lt_of_le_of_lt (Nat.zero_le _) hgt)
          have yc := fun i (hi : i < 6) => off_cell HM.out.erow (k := k) (x := y) hy i hi
          have y0 : W3.cell? ⟨g5, off5 + k * 6, none⟩ = some (.int .i64 y.kind) := (yc 0 (by omega)).trans rfl
          have y1 : W3.cell? ⟨g5, off5 + k * 6 + 1, none⟩ = some (.int .i64 y.owner) := (yc 1 (by omega)).trans rfl
          have y2 : W3.cell? ⟨g5, off5 + k * 6 + 2, none⟩ = some (.int .i64 y.other) := (yc 2 (by omega)).trans rfl
          have y3 : W3.cell? ⟨g5, off5 + k * 6 + 3, none⟩ = some (.int .i64 y.amount) := (yc 3 (by omega)).trans rfl
          have y4 : W3.cell? ⟨g5, off5 + k * 6 + 4, none⟩ = some (.int .i64 y.lease) := (yc 4 (by omega)).trans rfl
          have y5 : W3.cell? ⟨g5, off5 + k * 6 + 5, none⟩ = some (.int .i64 y.untl) := (yc 5 (by omega)).trans rfl
          have z0 : W3.cell? ⟨wr.heap.size, 0, none⟩ = some (.int .i64 e1) := (cell_of HB.out.1 0).trans rfl
          have z1 : W3.cell? ⟨wr.heap.size, 1, none⟩ = some (.int .i64 e2) := (cell_of HB.out.1 1).trans rfl
          have z2 : W3.cell? ⟨wr.heap.size, 2, none⟩ = some (.int .i64 e3) := (cell_of HB.out.1 2).trans rfl
          have z3 : W3.cell? ⟨wr.heap.size, 3, none⟩ = some (.int .i64 e4) := (cell_of HB.out.1 3).trans rfl
          have z4 : W3.cell? ⟨wr.heap.size, 4, none⟩ = some (.int .i64 e5) := (cell_of HB.out.1 4).trans rfl
          have z5 : W3.cell? ⟨wr.heap.size, 5, none⟩ = some (.int .i64 e6) := (cell_of HB.out.1 5).trans rfl
          have HS1 := HSTEP.out.2 y hy
          have HGT := Lib.hid hgt
          obtain ⟨f1, f2, f3, f4, f5, f6⟩ := y
          simp only at y0 y1 y2 y3 y4 y5
          clear hy yc
          rcases ent_diff f1 f2 f3 f4 f5 f6 e1 e2 e3 e4 e5 e6 with ⟨rfl, rfl, rfl, rfl, rfl, rfl⟩ | hd
          · have HV := Lib.hid (HEQ.out.trans (HS1.1 (Ent.same_iff.2 rfl)))
            go_wp2_with fail
            go_quiet (fail)
            go_wp2_with fail
            go_roundw
            case rel => exact ⟨k + 1, _, _, by omega, by go_num, rfl, ⟨HB3.out.below (bdrewN (Below.refl _ _) _), fun j hj => ⟨Nat.lt_trans (HD.out.lt j hj).1 hsz3, (HD.out.lt j hj).2⟩, HD.out.good, by have := HD.out.last; omega, HGT.out, HV.out, bdrewN HB.out.2 _⟩⟩
            case measure => simp [intOf]; omega
          · have HV := Lib.hid (HEQ.out.trans (HS1.2 hd.1))
            have hd2 := hd.2
            clear hd HS1
            rcases hd2 with hd | ⟨rfl, hd⟩ | ⟨rfl, rfl, hd⟩ | ⟨rfl, rfl, rfl, hd⟩ | ⟨rfl, rfl, rfl, rfl, hd⟩ | ⟨rfl, rfl, rfl, rfl, rfl, hd⟩
            all_goals
              go_wp2_with fail
              go_quiet (fail)
              go_wp2_with fail
              go_ret2
              exact ⟨by rw [HV.out]; rfl, bdrewN HB.out.2 _⟩
    · obtain rfl : k = ls.length := by omega
      have hdl : ls.drop ls.length = [] := List.drop_length
      have HEQ := Lib.hid (hD.eq.trans (by rw [hdl]))
      have TR := Lib.hid (totalR_any p wr G st _ true 40 hD.book hD.good.e)
      clear hD hdl
      by_cases hgt : ls.length < st.entries.length
      · have HV : Hid (chkFrom ls 0 (newSt b) = (((ls.length : Nat) : Int), 1)) := Lib.hid (HEQ.out.trans (by unfold chkFrom; rw [if_pos hgt]))
        have hgi : ((ls.length : Nat) : Int) < (st.entries.length : Int) := by omega
        clear hgt
        go_wp2_with fail
        go_ret2
        exact ⟨by rw [HV.out]; rfl, HD.out.below⟩
      · have HV : Hid (chkFrom ls 0 (newSt b) = (st.total, 0)) := Lib.hid (HEQ.out.trans (by unfold chkFrom; rw [if_neg hgt]))
        have hgi : ¬ ((ls.length : Nat) : Int) < (st.entries.length : Int) := by omega
        clear hgt
        go_wp2_with fail
        refine TR.out.mono ?_
        rintro e w3 ⟨rfl, hb3⟩
        have FIN := Lib.hid (HD.out.below.trans (hb3.mono HD.out.below.size))
        clear hb3
        go_wp2_with fail
        go_ret2
        exact ⟨by rw [HV.out]; rfl, FIN.out⟩

end Go.Proofs.YtljjndifmfhffaaGreatDoor
