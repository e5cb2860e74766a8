/-
  The walk of TopLeases. No conditions.
-/
import Derived.Test.YtfgpophbgjeefaaLedgT
import Derived.Test.YtfgpophbgjeefaaLedgC
import Derived.Test.YtfgpophbgjeefaaLedgF
import Derived.Test.YtfgpophbgjeefaaLedgI
import Derived.Test.YtfgpophbgjeefaaLedgO
import Derived.Test.YtfgpophbgjeefaaLedgV
import Derived.Test.YtfgpophbgjeefaaFits
import Derived.Deep.Cut
import Derived.Deep.CutBlock
import Derived.Deep.CutRange
import Derived.Deep.DeepCutAuto
import Derived.Deep.LoopGhost
import Derived.RangeFuncFrom
namespace Go.Proofs.Ytfgpophbgjeefaa
open Go.RowKit Go.Maps
attribute [local go_sem] Oper.semAt_some
set_option linter.unusedVariables false

/-- What is held over the main loop: the marks' blocks, the law's map, the boxes. -/
def LeaK (w : World) (B7 mb : Nat) (om : Obj) (p : Nat) (Ds : List Nat) : List (Nat × Obj) :=
  Ds.map (fun D => (D, Obj.deferred (some []))) ++ [(mb, om), (mb + 1, .cells #[.map (some mb)] 29 (0, 0)), (B7, .cells #[.pointer (some ⟨p, 0, none⟩)] 24 (0, 0)), (w.heap.size, .cells #[.bool false] 4 (0, 0))]
/-- What holds between two rounds of the main loop. -/
def LeaRel (w wr : World) (bud : Int) (lims : List Int) (B7 mb : Nat) (om : Obj) (p : Nat) (v n : Value) (ds : List Deferred) : Prop :=
  ∃ (ys : List Int) (now : Int) (Ds : List Nat) (G : Nat → Prop) (st : BookSt) (N : Nat), n = .int .i64 now ∧ ds = marksOf Ds ∧ Ds.Nodup ∧ Reads w .i64 v ys ∧ sliceFits v ∧
    HeldAt w wr G (LeaK w B7 mb om p Ds) p st N ∧
    LawSt bud lims lims.length st ∧ st.time = now ∧ st.last + ys.length ≤ 9223372036854775807 ∧ ∀ D ∈ Ds, w.heap.size ≤ D

theorem awakeTop_any (w : World) : Calls Try.prog 4 #[] w (LawPost w) := by
  go_enter Try.func4, Try.ntmps4
  go_wp2_with fail
  refine (newBook_bad (-1) _ (by omega)).mono ?_
  rintro e w1 ⟨rfl, rfl⟩
  go_wp2_with fail
  go_ret
  exact ⟨rfl, Below.refl _ _⟩

/-- What the law's way out owes where it stores nothing more, or stores: the box of the result says true. -/
theorem out_true {F : Fence} {n : Nat} {fn : Func} {tmps : Array Value} {w W : World} {b t : Nat} {Ds : List Nat} (hb : b = w.heap.size)
    (hres : ∀ W' : World, W'.cell? ⟨b, 0, none⟩ = some (.bool true) → (results fn tmps).run Try.prog W' = .ok (.bool true) W')
    (hW : W.heap[b]? = some (.cells #[.bool true] t (0, 0))) (hbel : Below w.heap.size w W) (hn : Ds.Nodup) (hd : ∀ D ∈ Ds, W.heap[D]? = some (.deferred (some [])) ∧ w.heap.size ≤ D) :
    LeavesInM F n Try.prog fn tmps (LawPost w) (marksOf Ds) .returning W := by
  refine leaves_marks Ds W hn (fun D hD => (hd D hD).1) (fun W' hT => ?_)
  have hne : b ∉ Ds := fun hb' => by
    have := (hd b hb').1
    rw [hW] at this; cases this
  have h' := (hT.block b (lt_of hW) hne).trans hW
  refine ⟨_, hres W' (by rw [cell_of h']; rfl), rfl, hbel.trans (hT.below hbel.size (fun k hk => (hd k hk).2))⟩

theorem zero_intL (w : World) : (zeroValue 3).run Try.prog w = .ok (.int .i64 0) w := by kernel_rfl
theorem passR_err {st : BookSt} {now : Int} (h : st.time ≤ now) (h0 : 0 ≤ now) : (passR st now).1 = 0 ∨ (passR st now).1 = 2 := by
  unfold passR
  by_cases hz : passE st now = 0
  · rw [if_pos hz]; exact Or.inl rfl
  · rw [if_neg hz]
    refine Or.inr ?_
    show passE st now = 2
    unfold passE at hz ⊢
    by_cases h1 : 0 ≤ now ∧ now ≤ 1000000
    · rw [if_pos h1, if_neg (by omega)] at hz; exact absurd rfl hz
    · rw [if_neg h1]

section
variable {w W : World} {B7 mb p N : Nat} {om : Obj} {Ds : List Nat} {G : Nat → Prop} {st : BookSt}
theorem HeldAt.out (h : HeldAt w W G (LeaK w B7 mb om p Ds) p st N) : W.heap[w.heap.size]? = some (.cells #[.bool false] 4 (0, 0)) := (h.keep (w.heap.size, .cells #[.bool false] 4 (0, 0)) (by simp [LeaK])).1
theorem HeldAt.b7 (h : HeldAt w W G (LeaK w B7 mb om p Ds) p st N) : W.heap[B7]? = some (.cells #[.pointer (some ⟨p, 0, none⟩)] 24 (0, 0)) := (h.keep (B7, .cells #[.pointer (some ⟨p, 0, none⟩)] 24 (0, 0)) (by simp [LeaK])).1
theorem HeldAt.b11 (h : HeldAt w W G (LeaK w B7 mb om p Ds) p st N) : W.heap[mb + 1]? = some (.cells #[.map (some mb)] 29 (0, 0)) := (h.keep (mb + 1, .cells #[.map (some mb)] 29 (0, 0)) (by simp [LeaK])).1
theorem HeldAt.bm (h : HeldAt w W G (LeaK w B7 mb om p Ds) p st N) : W.heap[mb]? = some om := (h.keep (mb, om) (by simp [LeaK])).1
theorem HeldAt.mk_ (h : HeldAt w W G (LeaK w B7 mb om p Ds) p st N) {D : Nat} (hD : D ∈ Ds) : W.heap[D]? = some (.deferred (some [])) := (h.keep (D, .deferred (some [])) (by simp [LeaK, hD])).1
theorem HeldAt.c7 (h : HeldAt w W G (LeaK w B7 mb om p Ds) p st N) : W.cell? ⟨B7, 0, none⟩ = some (.pointer (some ⟨p, 0, none⟩)) := by rw [cell_of h.b7]; rfl
theorem HeldAt.c6 (h : HeldAt w W G (LeaK w B7 mb om p Ds) p st N) : W.cell? ⟨w.heap.size, 0, none⟩ = some (.bool false) := by rw [cell_of h.out]; rfl
theorem HeldAt.z6 (h : HeldAt w W G (LeaK w B7 mb om p Ds) p st N) : W.frozen? ⟨w.heap.size, 0, none⟩ = false := free_of h.out 0
theorem held_out {F : Fence} {n : Nat} {fn : Func} {tmps : Array Value} (h : HeldAt w W G (LeaK w B7 mb om p Ds) p st N) (hd : Ds.Nodup ∧ ∀ D ∈ Ds, w.heap.size ≤ D)
    (hres : ∀ W' : World, W'.cell? ⟨w.heap.size, 0, none⟩ = some (.bool true) → (results fn tmps).run Try.prog W' = .ok (.bool true) W') :
    LeavesInM F n Try.prog fn tmps (LawPost w) (marksOf Ds) .returning (W.setCell ⟨w.heap.size, 0, none⟩ (.bool true)) := by
  refine out_true rfl hres (t := 4) ?_ (h.below.setCell (Nat.le_refl _) _) hd.1 (fun D hD => ⟨?_, hd.2 D hD⟩)
  · rw [block_setCell h.out]; rfl
  · refine (Below.heap_setCell _ _ _ _ (fun e => ?_)).trans (h.mk_ hD)
    have e : D = w.heap.size := e
    have h1 := h.mk_ hD
    rw [e, h.out] at h1
    cases h1
end

set_option maxHeartbeats 16000000 in
set_option maxRecDepth 100000 in
theorem topLeases (bud : Int) (v1 : Value) (lims : List Int) (v2 : Value) (xs : List Int) (w : World) (_ : -9223372036854775808 ≤ bud ∧ bud ≤ 9223372036854775807) (h1 : RowIn w .i64 8 v1 lims) (h2 : RowIn w .i64 8 v2 xs) (t2 : sliceFits v2) :
    Calls Try.prog 3 #[.int .i64 bud, v1, v2] w (LawPost w) := by
  have bel0 : Below w.heap.size w (w.alloc (.cells #[.bool false] 4)) := by go_grown
  have out0 := heap_alloc_new w (.cells #[.bool false] 4)
  have H1 := Lib.hid h1.reads
  have H2 := Lib.hid h2
  have T2 := Lib.hid t2
  have AW := Lib.hid (awakeTop_any (w.alloc (.cells #[.bool false] 4)))
  have HB0 := Lib.hid bel0
  have HO0 := Lib.hid out0
  have hmm := @run_makeMap Try.prog
  clear h1 h2 t2 bel0 out0
  refine callsIn_wide (n := 9).1 ?_
  refine callsIn_of_wp_marks Try.func3 rfl trivial ?_ rfl
  simp only [Try.ntmps3, List.size_toArray, List.length_cons, List.length_nil, Nat.reduceAdd, Nat.reduceSub, Array.replicate_succ, Array.replicate_zero, List.push_toArray, List.append_toArray, List.nil_append, List.cons_append]
  refine wpIn_wide.2 ?_
  go_wp2_with fail
  refine AW.out.mono ?_
  rintro e w1 ⟨rfl, hb1⟩
  have B1 := Lib.hid (HB0.out.trans (hb1.mono (by simp)))
  have O1 := Lib.hid ((hb1.block _ (by simp)).trans HO0.out)
  have hs1 := hb1.size
  have HS1 : Hid (w.heap.size < w1.heap.size) := Lib.hid (by have : (w.alloc (.cells #[.bool false] 4)).heap.size = w.heap.size + 1 := by simp
                                                             omega)
  clear hb1 hs1
  by_cases hbud : 0 ≤ bud ∧ bud ≤ 10000000
  case neg =>
    have NB := Lib.hid (newBook_bad bud w1 hbud)
    go_wp2_with fail
    refine NB.out.mono ?_
    rintro e w2 ⟨rfl, rfl⟩
    have b2 : Below w1.heap.size w1 (w1.alloc (.cells #[.pointer none] 24)) := (Below.refl _ _).alloc (Nat.le_refl _) _
    have o2 := (b2.block _ (lt_of O1.out)).trans O1.out
    have c2 : (w1.alloc (.cells #[.pointer none] 24)).cell? ⟨w.heap.size, 0, none⟩ = some (.bool false) := by rw [cell_of o2]; rfl
    have z2 := free_of o2 0
    have O2 := Lib.hid o2
    have B2 := Lib.hid (B1.out.trans (b2.mono B1.out.size))
    clear b2 o2
    go_wp2_with fail
    refine out_true (Ds := []) rfl (fun W' hc => ?_) (t := 4) ?_ ?_ List.nodup_nil (fun D hD => by simp at hD)
    · simp [results, go_sem, hc]
    · rw [block_setCell O2.out]; rfl
    · exact B2.out.setCell (Nat.le_refl _) _
  go_wp2_with fail
  refine (newBook_ok bud w1 hbud.1 hbud.2).mono ?_
  rintro e w2 ⟨p, rfl, hb, hb2⟩
  have B2 := Lib.hid (B1.out.trans (hb2.mono (Nat.le_of_lt HS1.out)))
  have O2 := Lib.hid ((hb2.block _ HS1.out).trans O1.out)
  have hs2 := hb2.size
  have hs1 := HS1.out
  have START : Hid (HeldAt w (w2.alloc (.cells #[.pointer (some ⟨p, 0, none⟩)] 24)) (fun k => w1.heap.size ≤ k ∧ k < w2.heap.size) [(w2.heap.size, .cells #[.pointer (some ⟨p, 0, none⟩)] 24 (0, 0)), (w.heap.size, .cells #[.bool false] 4 (0, 0))] p (newSt bud) 0) := Lib.hid (by
    have h0 : HeldAt w w2 (fun k => w1.heap.size ≤ k ∧ k < w2.heap.size) [(w.heap.size, .cells #[.bool false] 4 (0, 0))] p (newSt bud) 0 :=
      ⟨hb.narrow', fun k hk => hk.2, fun k hk => by omega, fun x hx => by
        simp at hx; subst hx
        exact ⟨O2.out, fun hk => by have := hk.1; simp at this; omega⟩, B2.out⟩
    exact h0.new _ ((Below.refl _ _).alloc (Nat.le_refl _) _) (heap_alloc_new w2 _))
  obtain ⟨a1, c1, rfl, hl1, hc1⟩ := H1.out.open
  have HC1 := Lib.hid hc1
  clear hb hb2 O1 B1 O2 B2 AW HB0 HO0 HS1 hc1
  go_upto_region 6 with fail
  generalize hB7 : w2.heap.size = B7 at *
  generalize w2.alloc (.cells #[.pointer (some ⟨p, 0, none⟩)] 24) = w3 at *
  clear hs1 hs2
  go_wp2_with fail
  go_loopw [42] (fun i wr => ∃ k : Nat, k ≤ lims.length ∧ i = .int .i64 k ∧ ∃ G st, HeldAt w wr G [(B7, .cells #[.pointer (some ⟨p, 0, none⟩)] 24 (0, 0)), (w.heap.size, .cells #[.bool false] 4 (0, 0))] p st (min k 40) ∧ LawSt bud lims k st ∧ st.last = 0 ∧ st.time = 0) (fun i _ => lims.length - (intOf i).toNat)
  case atStart => exact ⟨0, Nat.zero_le _, rfl, _, _, START.out, LawSt.new hbud lims, rfl, rfl⟩
  case round =>
    obtain ⟨k, hk, rfl, G, st, HA, LS, hla, hti⟩ := hrel
    by_cases hlt : k < lims.length
    case pos =>
      obtain ⟨b, o, ha, hc⟩ := HC1.out k hlt
      subst ha
      have hc' := old_cell HA.below hc
      have h7 := (HA.keep _ (by simp : (B7, Obj.cells #[.pointer (some ⟨p, 0, none⟩)] 24 (0, 0)) ∈ _)).1
      have c7 : wr.cell? ⟨B7, 0, none⟩ = some (.pointer (some ⟨p, 0, none⟩)) := by rw [cell_of h7]; rfl
      have OP : Hid (Calls Try.prog 6 #[.pointer (some ⟨p, 0, none⟩), .int .i64 ((k : Int) + 1), .int .i64 (lims.getD k 0)] wr (OpPost (openR st ((k : Int) + 1) (lims.getD k 0)).1 G p (openR st ((k : Int) + 1) (lims.getD k 0)).2 (min (k + 1) 40) wr)) := Lib.hid (by
        by_cases h40 : k < 40
        · rw [show min (k + 1) 40 = min k 40 + 1 by omega]
          exact open_all p _ _ wr G st (min k 40) HA.book LS.good (by unfold maxLen; omega)
        · have hc : chkE ((k : Int) + 1) [lims.getD k 0] = 2 := (chkE_vals _ _).resolve_left (fun e => h40 ((chkE_lim k _).1 e).1) |> id
          rw [show min (k + 1) 40 = min k 40 by omega]
          have e : openR st ((k : Int) + 1) (lims.getD k 0) = (2, st) := by unfold openR; rw [if_neg (by rw [hc]; omega)]
          rw [e]
          exact open_bad p _ _ wr G st (min k 40) HA.book hc)
      have hLS := LS.opened
      have HLS := Lib.hid hLS
      have HHA := Lib.hid HA
      have hl' := openR_last st ((k : Int) + 1) (lims.getD k 0)
      rw [hla] at hl'
      rw [hti] at hLS
      have ht' := hLS.2
      have HLT := Lib.hid (And.intro hl' ht')
      generalize (openR st ((k : Int) + 1) (lims.getD k 0)).2 = st' at *
      generalize (openR st ((k : Int) + 1) (lims.getD k 0)).1 = er at *
      generalize lims.getD k 0 = l at *
      clear hc h7 hLS hl' ht' LS HA
      go_wp2_with fail
      refine OP.out.mono ?_
      rintro e w' ⟨rfl, hb', ht'⟩
      have R := Lib.hid (HHA.out.touch hb' ht')
      clear hb' ht' OP
      go_wp2_with fail
      go_roundw
      case measure => simp only [intOf]; omega
      case rel => exact ⟨k + 1, by omega, by simp, _, st', R.out, HLS.out.1, HLT.out.1, HLT.out.2⟩
    case neg =>
      obtain rfl : k = lims.length := by omega
      have START2 : Hid (HeldAt w ((wr.alloc (.map #[] 0)).alloc (.cells #[.map (some wr.heap.size)] 29)) G [(wr.heap.size, .map #[] 0), (wr.heap.size + 1, .cells #[.map (some wr.heap.size)] 29 (0, 0)), (B7, .cells #[.pointer (some ⟨p, 0, none⟩)] 24 (0, 0)), (w.heap.size, .cells #[.bool false] 4 (0, 0))] p st (min lims.length 40) ∧ w.heap.size ≤ wr.heap.size ∧
          ((wr.alloc (.map #[] 0)).alloc (.cells #[.map (some wr.heap.size)] 29)).ownsMap Try.prog 3 (plainElem Try.prog 3) wr.heap.size 0 (.map [] : DataW Unit) ∧ w.heap.size ≠ wr.heap.size ∧ B7 < wr.heap.size) := Lib.hid (by
        have a := HA.new (.map #[] 0) (w' := wr.alloc (.map #[] 0)) ((Below.refl _ _).alloc (Nat.le_refl _) _) (heap_alloc_new wr _)
        have b := a.new _ (w' := (wr.alloc (.map #[] 0)).alloc (.cells #[.map (some wr.heap.size)] 29)) ((Below.refl _ _).alloc (Nat.le_refl _) _) (heap_alloc_new (wr.alloc (.map #[] 0)) _)
        have hsz : (wr.alloc (.map #[] 0)).heap.size = wr.heap.size + 1 := by simp
        rw [hsz] at b
        have ho := (HA.keep (w.heap.size, .cells #[.bool false] 4 (0, 0)) (by simp)).1
        have h7 := (HA.keep (B7, .cells #[.pointer (some ⟨p, 0, none⟩)] 24 (0, 0)) (by simp)).1
        refine ⟨b.less (fun x hx => by simp only [List.mem_cons, List.not_mem_nil, or_false] at hx ⊢; rcases hx with hx | hx | hx | hx <;> simp [hx]), HA.below.size, (World.ownsMap_made wr _ _ _).alloc _, fun e => ?_, lt_of h7⟩
        have := lt_of ho
        simp only at this
        omega)
      have HLS := Lib.hid LS
      clear HA START LS hlt hk
      go_upto_region 12 with fail
      generalize (wr.alloc (.map #[] 0)).alloc (.cells #[.map (some wr.heap.size)] 29) = w5 at *
      generalize hmb : wr.heap.size = mb at *
      clear hmb
      go_wp2_with fail
      go_loopw [56] (fun i wr => ∃ k : Nat, k ≤ lims.length ∧ i = .int .i64 k ∧ ∃ om D, HeldAt w wr G [(mb, om), (mb + 1, .cells #[.map (some mb)] 29 (0, 0)), (B7, .cells #[.pointer (some ⟨p, 0, none⟩)] 24 (0, 0)), (w.heap.size, .cells #[.bool false] 4 (0, 0))] p st (min lims.length 40) ∧ wr.ownsMap Try.prog 3 (plainElem Try.prog 3) mb (min k 40) D ∧ MostAt D lims k) (fun i _ => lims.length - (intOf i).toNat)
      case atStart => exact ⟨0, Nat.zero_le _, rfl, _, _, START2.out.1, START2.out.2.2.1, MostAt.zero lims⟩
      case round =>
        obtain ⟨k, hk, rfl, om, D, HA, hown, hmost⟩ := hrel
        by_cases hlt : k < lims.length
        case pos =>
          obtain ⟨b, o, ha, hc⟩ := HC1.out k hlt
          subst ha
          have hc' := old_cell HA.below hc
          have h11 := (HA.keep (mb + 1, .cells #[.map (some mb)] 29 (0, 0)) (by simp)).1
          have c11 : wr.cell? ⟨mb + 1, 0, none⟩ = some (.map (some mb)) := by rw [cell_of h11]; rfl
          have HHA := Lib.hid HA
          have HOW := Lib.hid hown
          have HMO := Lib.hid hmost
          generalize hl : lims.getD k 0 = l at *
          have HL := Lib.hid hl
          clear hc h11 HA hown hmost hl
          by_cases hin : k < 40 ∧ 0 ≤ l ∧ l ≤ 10000000
          case neg =>
            have KONT : Hid (HeldAt w wr G [(mb, om), (mb + 1, .cells #[.map (some mb)] 29 (0, 0)), (B7, .cells #[.pointer (some ⟨p, 0, none⟩)] 24 (0, 0)), (w.heap.size, .cells #[.bool false] 4 (0, 0))] p st (min lims.length 40) ∧ wr.ownsMap Try.prog 3 (plainElem Try.prog 3) mb (min (k + 1) 40) D ∧ MostAt D lims (k + 1)) := Lib.hid ⟨HHA.out, HOW.out.mono (by omega), HMO.out.skip (by rw [HL.out]; exact hin)⟩
            by_cases p1 : 0 ≤ l
            · by_cases p2 : l ≤ 10000000
              · have p3 : ¬ (k : Int) < 40 := by omega
                clear hin
                go_wp2_with fail
                go_roundw
                case measure => simp only [intOf]; omega
                case rel => exact ⟨k + 1, by omega, by simp, om, D, KONT.out⟩
              · clear hin
                go_wp2_with fail
                go_roundw
                case measure => simp only [intOf]; omega
                case rel => exact ⟨k + 1, by omega, by simp, om, D, KONT.out⟩
            · clear hin
              go_wp2_with fail
              go_roundw
              case measure => simp only [intOf]; omega
              case rel => exact ⟨k + 1, by omega, by simp, om, D, KONT.out⟩
          case pos =>
            obtain ⟨q1, q2, q3⟩ := hin
            have q4 : (k : Int) < 40 := by omega
            have hwfk : (Lit.int .i64 ((k : Int) + 1)).wf = true := WalkArith.wf_i64 (by omega)
            have hwfl : (Lit.int .i64 l).wf = true := WalkArith.wf_i64 (by omega)
            go_wp2_with (at_mapUpdate; go_must (refine wpList_mapUpdate_own _ rfl _ _ _ 29 rfl 3 3 intKey Try.underlying29 (plainElem Try.prog 3) mb (min k 40) D rfl (by exact HOW.out) (by unfold maxLen; omega) (.int .i64 ((k : Int) + 1)) (.int .i64 l) (.int .i64 ((k : Int) + 1)) rfl rfl (Maps.keyOf_int_mk Try.underlying3 hwfk) (.lit (.int .i64 l)) [] (plainElem_int Try.underlying3 hwfl) ?_))
            intro w6 hown6 hg6
            have hown7 := hown6
            obtain ⟨es, clock, hb6, _⟩ := hown7
            have hne := START2.out.2.2.2
            have KONT : Hid (HeldAt w w6 G [(mb, .map es clock), (mb + 1, .cells #[.map (some mb)] 29 (0, 0)), (B7, .cells #[.pointer (some ⟨p, 0, none⟩)] 24 (0, 0)), (w.heap.size, .cells #[.bool false] 4 (0, 0))] p st (min lims.length 40) ∧ w6.ownsMap Try.prog 3 (plainElem Try.prog 3) mb (min (k + 1) 40) (D.put (.int .i64 ((k : Int) + 1)) (.lit (.int .i64 l))) ∧ MostAt (D.put (.int .i64 ((k : Int) + 1)) (.lit (.int .i64 l))) lims (k + 1)) := Lib.hid ⟨HHA.out.put (fun x hx => by
                simp only [List.mem_cons, List.not_mem_nil, or_false] at hx
                rcases hx with rfl | rfl | rfl <;> simp only <;> omega) START2.out.2.1 hg6 hb6, hown6.mono (by omega), by rw [← HL.out] at q2 q3 ⊢; exact HMO.out.put ⟨q1, q2, q3⟩⟩
            clear hown6 hg6 hb6 hne
            go_wp2_with fail
            go_roundw
            case measure => simp only [intOf]; omega
            case rel => exact ⟨k + 1, by omega, by simp, _, _, KONT.out⟩
        case neg =>
          obtain rfl : k = lims.length := by omega
          have hown7 := hown
          obtain ⟨es, clock, hb6, _⟩ := hown7
          have hom := (HA.keep (mb, om) (by simp)).1
          have HOW : Hid (∀ W : World, W.heap[mb]? = some om → W.ownsMap Try.prog 3 (plainElem Try.prog 3) mb 40 D) := Lib.hid (fun W hW => by
            obtain ⟨es, clock, hb, rest⟩ := hown.mono (show min lims.length 40 ≤ 40 by omega)
            exact ⟨es, clock, hW.trans (hom.symm.trans hb), rest⟩)
          have HMO := Lib.hid hmost
          have ST3 : Hid (LeaRel w wr bud lims B7 mb om p v2 (.int .i64 0) []) := Lib.hid ⟨xs, 0, [], G, st, _, rfl, rfl, List.nodup_nil, H2.out.reads, T2.out, by unfold LeaK; simpa using HA, HLS.out, hti, by rw [hla]; have := H2.out.reads; obtain ⟨_, _, _, h, _⟩ := this; omega, by simp⟩
          have hmw : w.heap.size ≤ mb ∧ w.heap.size ≠ mb ∧ B7 < mb := ⟨START2.out.2.1, START2.out.2.2.2⟩
          clear hown hb6 hom hmost HA START2 HC1 hlt hk HLS
          go_wp2_with fail
          refine wp_loop_ghost_k (fun k' a' w' => ∃ (u2 u3 u4 u5 u8 u9 u10 u12 u13 u14 u15 u16 u17 u18 u19 u20 u21 u22 u23 u24 u25 u26 u27 u28 u29 u30 u31 u32 u33 u34 u35 u36 u37 u38 u39 u40 u41 u42 u43 u44 u45 u46 u47 u48 u49 u50 u51 u52 u53 u54 u55 u56 u57 u58 u59 u60 u61 u62 u63 u64 u65 u66 u67 u68 u69 u70 u71 u72 u73 u74 u75 u76 u77 u78 u79 u80 u81 u82 u83 u84 u85 u86 u87 u88 u89 u90 u91 u92 u93 u94 u95 u96 u97 u98 u99 u100 u101 u102 u103 u104 u105 u106 u107 u108 u109 u110 u111 u112 u113 u114 u115 u116 u117 u118 u119 u120 u121 u122 u123 u124 u125 u126 u127 u128 u129 u130 u131 u132 u133 u134 u135 u136 u137 u138 u139 u140 u141 u142 u143 u144 u145 u146 u147 u148 u149 u150 u151 u152 u153 u154 u155 u156 u157 u158 u159 u160 u161 u162 u163 u164 u165 u166 u167 u168 u169 u170 u171 u172 u173 u174 u175 u176 u177 u178 u179 u180 u181 u182 u183 u184 u185 u186 u187 u188 u189 u190 u191 u192 u193 u194 u195 u196 u197 u198 u199 u200 u201 u202 u203 u204 u205 u206 u207 u208 u209 u210 u211 u212 u213 u214 u215 u216 u217 u218 u219 u220 u221 u222 u223 u224 u225 : Value), ∃ ds : List Deferred, (LeaRel w w' bud lims B7 mb om p u2 u14 ds ∧ sliceLen u2 = k') ∧ a' = { tmps := #[.int .i64 bud, .slice a1 lims.length c1, u2, u3, u4, u5, .pointer (some ⟨w.heap.size, 0, none⟩), .pointer (some ⟨B7, 0, none⟩), u8, u9, u10, .pointer (some ⟨mb + 1, 0, none⟩), u12, u13, u14, u15, u16, u17, u18, u19, u20, u21, u22, u23, u24, u25, u26, u27, u28, u29, u30, u31, u32, u33, u34, u35, u36, u37, u38, u39, u40, u41, u42, u43, u44, u45, u46, u47, u48, u49, u50, u51, u52, u53, u54, u55, u56, u57, u58, u59, u60, u61, u62, u63, u64, u65, u66, u67, u68, u69, u70, u71, u72, u73, u74, u75, u76, u77, u78, u79, u80, u81, u82, u83, u84, u85, u86, u87, u88, u89, u90, u91, u92, u93, u94, u95, u96, u97, u98, u99, u100, u101, u102, u103, u104, u105, u106, u107, u108, u109, u110, u111, u112, u113, u114, u115, u116, u117, u118, u119, u120, u121, u122, u123, u124, u125, u126, u127, u128, u129, u130, u131, u132, u133, u134, u135, u136, u137, u138, u139, u140, u141, u142, u143, u144, u145, u146, u147, u148, u149, u150, u151, u152, u153, u154, u155, u156, u157, u158, u159, u160, u161, u162, u163, u164, u165, u166, u167, u168, u169, u170, u171, u172, u173, u174, u175, u176, u177, u178, u179, u180, u181, u182, u183, u184, u185, u186, u187, u188, u189, u190, u191, u192, u193, u194, u195, u196, u197, u198, u199, u200, u201, u202, u203, u204, u205, u206, u207, u208, u209, u210, u211, u212, u213, u214, u215, u216, u217, u218, u219, u220, u221, u222, u223, u224, u225], defers := ds }) (sliceLen v2) ?_ ?_
          · (repeat apply Exists.intro)
            refine ⟨⟨ST3.out, rfl⟩, rfl⟩
          intro gk _ wr2 hinv
          obtain ⟨u2, hinv⟩ := hinv
          obtain ⟨u3, hinv⟩ := hinv
          obtain ⟨u4, hinv⟩ := hinv
          obtain ⟨u5, hinv⟩ := hinv
          obtain ⟨u8, hinv⟩ := hinv
          obtain ⟨u9, hinv⟩ := hinv
          obtain ⟨u10, hinv⟩ := hinv
          obtain ⟨u12, hinv⟩ := hinv
          obtain ⟨u13, hinv⟩ := hinv
          obtain ⟨u14, hinv⟩ := hinv
          obtain ⟨u15, hinv⟩ := hinv
          obtain ⟨u16, hinv⟩ := hinv
          obtain ⟨u17, hinv⟩ := hinv
          obtain ⟨u18, hinv⟩ := hinv
          obtain ⟨u19, hinv⟩ := hinv
          obtain ⟨u20, hinv⟩ := hinv
          obtain ⟨u21, hinv⟩ := hinv
          obtain ⟨u22, hinv⟩ := hinv
          obtain ⟨u23, hinv⟩ := hinv
          obtain ⟨u24, hinv⟩ := hinv
          obtain ⟨u25, hinv⟩ := hinv
          obtain ⟨u26, hinv⟩ := hinv
          obtain ⟨u27, hinv⟩ := hinv
          obtain ⟨u28, hinv⟩ := hinv
          obtain ⟨u29, hinv⟩ := hinv
          obtain ⟨u30, hinv⟩ := hinv
          obtain ⟨u31, hinv⟩ := hinv
          obtain ⟨u32, hinv⟩ := hinv
          obtain ⟨u33, hinv⟩ := hinv
          obtain ⟨u34, hinv⟩ := hinv
          obtain ⟨u35, hinv⟩ := hinv
          obtain ⟨u36, hinv⟩ := hinv
          obtain ⟨u37, hinv⟩ := hinv
          obtain ⟨u38, hinv⟩ := hinv
          obtain ⟨u39, hinv⟩ := hinv
          obtain ⟨u40, hinv⟩ := hinv
          obtain ⟨u41, hinv⟩ := hinv
          obtain ⟨u42, hinv⟩ := hinv
          obtain ⟨u43, hinv⟩ := hinv
          obtain ⟨u44, hinv⟩ := hinv
          obtain ⟨u45, hinv⟩ := hinv
          obtain ⟨u46, hinv⟩ := hinv
          obtain ⟨u47, hinv⟩ := hinv
          obtain ⟨u48, hinv⟩ := hinv
          obtain ⟨u49, hinv⟩ := hinv
          obtain ⟨u50, hinv⟩ := hinv
          obtain ⟨u51, hinv⟩ := hinv
          obtain ⟨u52, hinv⟩ := hinv
          obtain ⟨u53, hinv⟩ := hinv
          obtain ⟨u54, hinv⟩ := hinv
          obtain ⟨u55, hinv⟩ := hinv
          obtain ⟨u56, hinv⟩ := hinv
          obtain ⟨u57, hinv⟩ := hinv
          obtain ⟨u58, hinv⟩ := hinv
          obtain ⟨u59, hinv⟩ := hinv
          obtain ⟨u60, hinv⟩ := hinv
          obtain ⟨u61, hinv⟩ := hinv
          obtain ⟨u62, hinv⟩ := hinv
          obtain ⟨u63, hinv⟩ := hinv
          obtain ⟨u64, hinv⟩ := hinv
          obtain ⟨u65, hinv⟩ := hinv
          obtain ⟨u66, hinv⟩ := hinv
          obtain ⟨u67, hinv⟩ := hinv
          obtain ⟨u68, hinv⟩ := hinv
          obtain ⟨u69, hinv⟩ := hinv
          obtain ⟨u70, hinv⟩ := hinv
          obtain ⟨u71, hinv⟩ := hinv
          obtain ⟨u72, hinv⟩ := hinv
          obtain ⟨u73, hinv⟩ := hinv
          obtain ⟨u74, hinv⟩ := hinv
          obtain ⟨u75, hinv⟩ := hinv
          obtain ⟨u76, hinv⟩ := hinv
          obtain ⟨u77, hinv⟩ := hinv
          obtain ⟨u78, hinv⟩ := hinv
          obtain ⟨u79, hinv⟩ := hinv
          obtain ⟨u80, hinv⟩ := hinv
          obtain ⟨u81, hinv⟩ := hinv
          obtain ⟨u82, hinv⟩ := hinv
          obtain ⟨u83, hinv⟩ := hinv
          obtain ⟨u84, hinv⟩ := hinv
          obtain ⟨u85, hinv⟩ := hinv
          obtain ⟨u86, hinv⟩ := hinv
          obtain ⟨u87, hinv⟩ := hinv
          obtain ⟨u88, hinv⟩ := hinv
          obtain ⟨u89, hinv⟩ := hinv
          obtain ⟨u90, hinv⟩ := hinv
          obtain ⟨u91, hinv⟩ := hinv
          obtain ⟨u92, hinv⟩ := hinv
          obtain ⟨u93, hinv⟩ := hinv
          obtain ⟨u94, hinv⟩ := hinv
          obtain ⟨u95, hinv⟩ := hinv
          obtain ⟨u96, hinv⟩ := hinv
          obtain ⟨u97, hinv⟩ := hinv
          obtain ⟨u98, hinv⟩ := hinv
          obtain ⟨u99, hinv⟩ := hinv
          obtain ⟨u100, hinv⟩ := hinv
          obtain ⟨u101, hinv⟩ := hinv
          obtain ⟨u102, hinv⟩ := hinv
          obtain ⟨u103, hinv⟩ := hinv
          obtain ⟨u104, hinv⟩ := hinv
          obtain ⟨u105, hinv⟩ := hinv
          obtain ⟨u106, hinv⟩ := hinv
          obtain ⟨u107, hinv⟩ := hinv
          obtain ⟨u108, hinv⟩ := hinv
          obtain ⟨u109, hinv⟩ := hinv
          obtain ⟨u110, hinv⟩ := hinv
          obtain ⟨u111, hinv⟩ := hinv
          obtain ⟨u112, hinv⟩ := hinv
          obtain ⟨u113, hinv⟩ := hinv
          obtain ⟨u114, hinv⟩ := hinv
          obtain ⟨u115, hinv⟩ := hinv
          obtain ⟨u116, hinv⟩ := hinv
          obtain ⟨u117, hinv⟩ := hinv
          obtain ⟨u118, hinv⟩ := hinv
          obtain ⟨u119, hinv⟩ := hinv
          obtain ⟨u120, hinv⟩ := hinv
          obtain ⟨u121, hinv⟩ := hinv
          obtain ⟨u122, hinv⟩ := hinv
          obtain ⟨u123, hinv⟩ := hinv
          obtain ⟨u124, hinv⟩ := hinv
          obtain ⟨u125, hinv⟩ := hinv
          obtain ⟨u126, hinv⟩ := hinv
          obtain ⟨u127, hinv⟩ := hinv
          obtain ⟨u128, hinv⟩ := hinv
          obtain ⟨u129, hinv⟩ := hinv
          obtain ⟨u130, hinv⟩ := hinv
          obtain ⟨u131, hinv⟩ := hinv
          obtain ⟨u132, hinv⟩ := hinv
          obtain ⟨u133, hinv⟩ := hinv
          obtain ⟨u134, hinv⟩ := hinv
          obtain ⟨u135, hinv⟩ := hinv
          obtain ⟨u136, hinv⟩ := hinv
          obtain ⟨u137, hinv⟩ := hinv
          obtain ⟨u138, hinv⟩ := hinv
          obtain ⟨u139, hinv⟩ := hinv
          obtain ⟨u140, hinv⟩ := hinv
          obtain ⟨u141, hinv⟩ := hinv
          obtain ⟨u142, hinv⟩ := hinv
          obtain ⟨u143, hinv⟩ := hinv
          obtain ⟨u144, hinv⟩ := hinv
          obtain ⟨u145, hinv⟩ := hinv
          obtain ⟨u146, hinv⟩ := hinv
          obtain ⟨u147, hinv⟩ := hinv
          obtain ⟨u148, hinv⟩ := hinv
          obtain ⟨u149, hinv⟩ := hinv
          obtain ⟨u150, hinv⟩ := hinv
          obtain ⟨u151, hinv⟩ := hinv
          obtain ⟨u152, hinv⟩ := hinv
          obtain ⟨u153, hinv⟩ := hinv
          obtain ⟨u154, hinv⟩ := hinv
          obtain ⟨u155, hinv⟩ := hinv
          obtain ⟨u156, hinv⟩ := hinv
          obtain ⟨u157, hinv⟩ := hinv
          obtain ⟨u158, hinv⟩ := hinv
          obtain ⟨u159, hinv⟩ := hinv
          obtain ⟨u160, hinv⟩ := hinv
          obtain ⟨u161, hinv⟩ := hinv
          obtain ⟨u162, hinv⟩ := hinv
          obtain ⟨u163, hinv⟩ := hinv
          obtain ⟨u164, hinv⟩ := hinv
          obtain ⟨u165, hinv⟩ := hinv
          obtain ⟨u166, hinv⟩ := hinv
          obtain ⟨u167, hinv⟩ := hinv
          obtain ⟨u168, hinv⟩ := hinv
          obtain ⟨u169, hinv⟩ := hinv
          obtain ⟨u170, hinv⟩ := hinv
          obtain ⟨u171, hinv⟩ := hinv
          obtain ⟨u172, hinv⟩ := hinv
          obtain ⟨u173, hinv⟩ := hinv
          obtain ⟨u174, hinv⟩ := hinv
          obtain ⟨u175, hinv⟩ := hinv
          obtain ⟨u176, hinv⟩ := hinv
          obtain ⟨u177, hinv⟩ := hinv
          obtain ⟨u178, hinv⟩ := hinv
          obtain ⟨u179, hinv⟩ := hinv
          obtain ⟨u180, hinv⟩ := hinv
          obtain ⟨u181, hinv⟩ := hinv
          obtain ⟨u182, hinv⟩ := hinv
          obtain ⟨u183, hinv⟩ := hinv
          obtain ⟨u184, hinv⟩ := hinv
          obtain ⟨u185, hinv⟩ := hinv
          obtain ⟨u186, hinv⟩ := hinv
          obtain ⟨u187, hinv⟩ := hinv
          obtain ⟨u188, hinv⟩ := hinv
          obtain ⟨u189, hinv⟩ := hinv
          obtain ⟨u190, hinv⟩ := hinv
          obtain ⟨u191, hinv⟩ := hinv
          obtain ⟨u192, hinv⟩ := hinv
          obtain ⟨u193, hinv⟩ := hinv
          obtain ⟨u194, hinv⟩ := hinv
          obtain ⟨u195, hinv⟩ := hinv
          obtain ⟨u196, hinv⟩ := hinv
          obtain ⟨u197, hinv⟩ := hinv
          obtain ⟨u198, hinv⟩ := hinv
          obtain ⟨u199, hinv⟩ := hinv
          obtain ⟨u200, hinv⟩ := hinv
          obtain ⟨u201, hinv⟩ := hinv
          obtain ⟨u202, hinv⟩ := hinv
          obtain ⟨u203, hinv⟩ := hinv
          obtain ⟨u204, hinv⟩ := hinv
          obtain ⟨u205, hinv⟩ := hinv
          obtain ⟨u206, hinv⟩ := hinv
          obtain ⟨u207, hinv⟩ := hinv
          obtain ⟨u208, hinv⟩ := hinv
          obtain ⟨u209, hinv⟩ := hinv
          obtain ⟨u210, hinv⟩ := hinv
          obtain ⟨u211, hinv⟩ := hinv
          obtain ⟨u212, hinv⟩ := hinv
          obtain ⟨u213, hinv⟩ := hinv
          obtain ⟨u214, hinv⟩ := hinv
          obtain ⟨u215, hinv⟩ := hinv
          obtain ⟨u216, hinv⟩ := hinv
          obtain ⟨u217, hinv⟩ := hinv
          obtain ⟨u218, hinv⟩ := hinv
          obtain ⟨u219, hinv⟩ := hinv
          obtain ⟨u220, hinv⟩ := hinv
          obtain ⟨u221, hinv⟩ := hinv
          obtain ⟨u222, hinv⟩ := hinv
          obtain ⟨u223, hinv⟩ := hinv
          obtain ⟨u224, hinv⟩ := hinv
          obtain ⟨u225, hinv⟩ := hinv
          obtain ⟨ds, ⟨hrel, hgk⟩, ha⟩ := hinv
          subst ha
          try dsimp only
          clear ST3
          intro _ _ _ _
          obtain ⟨ys, now, Ds, G1, st1, N1, rfl, rfl, hnd, hys, hfu, HA, LS, hti1, hla1, hDs⟩ := hrel
          obtain ⟨sa, n, scap, rfl⟩ : ∃ sa n scap, u2 = .slice sa n scap := by obtain ⟨sa, scap, h, _⟩ := hys; exact ⟨_, _, _, h⟩
          have hfu : n ≤ scap := hfu
          have hgk : n = gk := hgk
          subst hgk
          have HHA := Lib.hid HA
          have HLS := Lib.hid LS
          have HDS := Lib.hid (And.intro hnd hDs)
          have c7 := HA.c7
          have htb := LS.good.time
          clear hnd hDs
          by_cases h3 : 3 ≤ n
          case neg =>
            have h3' : ¬ (3 : Int) ≤ n := by omega
            have EN := Lib.hid (entriesB_any p wr2 G1 st1 N1 HHA.out.book HLS.out.good)
            have h5 : (lastE st1).length ≤ 5000 := by unfold lastE; rw [List.length_drop]; omega
            clear hys hfu h3 HA LS
            go_wp2_with fail
            refine EN.out.mono ?_
            rintro e w4 ⟨ev, rfl, hrow, hb4⟩
            have HA4 := Lib.hid (HHA.out.under hb4)
            have CE := Lib.hid (checkEntries_ok bud ev (lastE st1) w4 (EntSrc.own hrow) h5 hbud)
            obtain ⟨va, vc, rfl, _, _⟩ := ownsRow_sh hrow
            clear hrow hb4 c7 EN HHA
            generalize hle : (lastE st1).length = ln at *
            go_wp2_with fail
            refine CE.out.mono ?_
            rintro e w5 ⟨rfl, hb5⟩
            have HA5 := Lib.hid (HA4.out.under hb5)
            have c7 := HA5.out.c7
            have c6 := HA5.out.c6
            have z6 := HA5.out.z6
            have TT := Lib.hid (total_any p w5 G1 st1 N1 HA5.out.book)
            clear hb5 HA4 CE
            by_cases hl5 : ln = 5000
            · subst hl5
              go_wp2_with fail
              exact held_out HA5.out HDS.out (fun W' hc => by simp [results, go_sem, hc])
            · have hcl := chk_law hbud HLS.out.log (by show (lastE st1).length ≠ 5000; rw [hle]; exact hl5)
              unfold chkAll at hcl
              rw [if_neg (by show ¬ 5000 < (lastE st1).length; omega), if_pos hbud] at hcl
              rw [show chkFrom (lastE st1) 0 (newSt bud) = (st1.total, 0) from hcl]
              have hl5' : ((ln : Int) == 5000) = false := by
                have : (ln : Int) ≠ 5000 := by omega
                simpa using this
              dsimp only
              go_wp2_with fail
              refine TT.out.mono ?_
              rintro e w6 ⟨rfl, rfl⟩
              go_wp2_with fail
              exact held_out HA5.out HDS.out (fun W' hc => by simp [results, go_sem, hc])
          case pos =>
            obtain ⟨hyl, b, o, rfl, s0, s1, s2, hrest⟩ := hys.tail3 h3
            have g0 := old_cell HA.below s0
            have g1 := old_cell HA.below s1
            have g2 := old_cell HA.below s2
            generalize ys.getD 0 0 = y0 at *
            generalize ys.getD 1 0 = y1 at *
            generalize ys.getD 2 0 = y2 at *
            have HYS := Lib.hid (And.intro hys hrest)
            clear s0 s1 s2 hys hrest HA LS
            go_upto_region 21 with fail
            go_wp2_with fail
            go_quiet (fail)
            have g0' : (wr2.drewN nq).cell? ⟨b, o, none⟩ = some (.int .i64 y0) := g0
            have c7' : (wr2.drewN nq).cell? ⟨B7, 0, none⟩ = some (.pointer (some ⟨p, 0, none⟩)) := c7
            have HA4 := Lib.hid (HHA.out.under (bdrewN (Below.refl _ _) nq))
            generalize wr2.drewN nq = w4 at *
            clear g0 g1 g2 c7 HHA
            have m1 : -4 ≤ y0.tmod 5 ∧ y0.tmod 5 ≤ 4 := by
              have p1 := Int.tmod_lt_of_pos y0 (show (0 : Int) < 5 by decide)
              have p2 := Int.lt_tmod_of_pos y0 (show (0 : Int) < 5 by decide)
              omega
            go_upto_block 6 with fail
            generalize (y0.tmod 5 + 5) % 5 = c at *
            have c6 := HA4.out.c6
            have z6 := HA4.out.z6
            go_cut [14] from 76 to 140 (fun s14 wx => ∃ (now2 : Int) (G2 : Nat → Prop) (st2 : BookSt) (N2 : Nat), s14 = .int .i64 now2 ∧ HeldAt w wx G2 (LeaK w B7 mb om p Ds) p st2 N2 ∧ LawSt bud lims lims.length st2 ∧ st2.time = now2 ∧ st2.last ≤ st1.last + 1)
            case first =>
              by_cases e0 : c = 0
              · subst e0
                have OP := Lib.hid (take_all p y1 y2 w4 G1 st1 N1 HA4.out.book HLS.out.good)
                have L2 := HLS.out.take y1 y2
                have hl2 := takeR_last st1 y1 y2
                rw [hti1] at L2
                generalize (takeR st1 y1 y2).2 = st2 at *
                generalize (takeR st1 y1 y2).1 = er at *
                go_wp2_with fail
                refine OP.out.mono ?_
                rintro e w5 ⟨rfl, hb5, ht5⟩
                have R := Lib.hid (HA4.out.touch hb5 ht5)
                clear hb5 ht5 OP
                go_wp2_with fail
                go_meet
                exact ⟨now, _, st2, _, rfl, R.out, L2.1, L2.2, by omega⟩
              have f0 : (c == 0) = false := by simpa using e0
              by_cases e1 : c = 1
              · subst e1
                have OP := Lib.hid (give_all p y1 y2 w4 G1 st1 N1 HA4.out.book HLS.out.good)
                have L2 := HLS.out.give y1 y2
                have hl2 := giveR_last st1 y1 y2
                rw [hti1] at L2
                generalize (giveR st1 y1 y2).2 = st2 at *
                generalize (giveR st1 y1 y2).1 = er at *
                clear e0 f0
                go_wp2_with fail
                refine OP.out.mono ?_
                rintro e w5 ⟨rfl, hb5, ht5⟩
                have R := Lib.hid (HA4.out.touch hb5 ht5)
                clear hb5 ht5 OP
                go_wp2_with fail
                go_meet
                exact ⟨now, _, st2, _, rfl, R.out, L2.1, L2.2, by omega⟩
              have f1 : (c == 1) = false := by simpa using e1
              by_cases e2 : c = 2
              · subst e2
                have OP := Lib.hid (fun u => lease_all p y1 y2 u w4 G1 st1 N1 HA4.out.book HLS.out.good (by omega))
                clear e0 f0 e1 f1
                go_wp2_with fail
                refine (OP.out _).mono ?_
                rintro e w5 ⟨rfl, hb5, ht5⟩
                have R := HA4.out.touch hb5 ht5
                clear hb5 ht5 OP
                generalize hu : now + 1 + max 0 (min y2 50) = u at *
                have L2 := HLS.out.lease y1 y2 u
                have hl2 := leaseR_last st1 y1 y2 u
                rw [hti1] at L2
                generalize (leaseR st1 y1 y2 u).2 = st2 at *
                generalize (leaseR st1 y1 y2 u).1 = er at *
                have R := Lib.hid R
                go_wp2_with fail
                go_meet
                exact ⟨now, _, st2, _, rfl, R.out, L2.1, L2.2, by omega⟩
              have f2 : (c == 2) = false := by simpa using e2
              by_cases e3 : c = 3
              · subst e3
                have OP := Lib.hid (end_all p y2 w4 G1 st1 N1 HA4.out.book HLS.out.good.e)
                have L2 := HLS.out.end_ y2
                have hl2 := endR_last st1 y2
                rw [hti1] at L2
                generalize (endR st1 y2).2 = st2 at *
                generalize (endR st1 y2).1 = er at *
                clear e0 f0 e1 f1 e2 f2
                go_wp2_with fail
                refine OP.out.mono ?_
                rintro e w5 ⟨rfl, hb5, ht5⟩
                have R := Lib.hid (HA4.out.touch hb5 ht5)
                clear hb5 ht5 OP
                go_wp2_with fail
                go_meet
                exact ⟨now, _, st2, _, rfl, R.out, L2.1, L2.2, by omega⟩
              have f3 : (c == 3) = false := by simpa using e3
              have KEEP : Hid (∃ (now2 : Int) (G2 : Nat → Prop) (st2 : BookSt) (N2 : Nat), Value.int .i64 now = .int .i64 now2 ∧ HeldAt w w4 G2 (LeaK w B7 mb om p Ds) p st2 N2 ∧ LawSt bud lims lims.length st2 ∧ st2.time = now2 ∧ st2.last ≤ st1.last + 1) := Lib.hid ⟨now, _, st1, _, rfl, HA4.out, HLS.out, hti1, by omega⟩
              by_cases q1 : 0 ≤ y2
              · by_cases q2 : y2 ≤ 100
                · have PS := Lib.hid (pass_all p (now + y2) w4 G1 st1 N1 HA4.out.book HLS.out.good)
                  have L2 := HLS.out.pass (now + y2)
                  have hl2 := passR_last st1 (now + y2)
                  have HE := passR_err (st := st1) (now := now + y2) (by omega) (by omega)
                  generalize (passR st1 (now + y2)).2 = st2 at *
                  generalize (passR st1 (now + y2)).1 = er at *
                  generalize passV st1 (now + y2) = pv at *
                  clear e0 e1 e2 e3 KEEP
                  rcases HE with rfl | rfl
                  · have ht2 := L2.2 rfl
                    go_wp2_with fail
                    refine PS.out.mono ?_
                    rintro e w5 ⟨v5, rfl, _, _, hb5, ht5⟩
                    have R := Lib.hid (HA4.out.touch hb5 ht5)
                    clear hb5 ht5 PS
                    go_wp2_with fail
                    go_meet
                    exact ⟨now + y2, _, st2, _, rfl, R.out, L2.1, ht2, by omega⟩
                  · go_wp2_with fail
                    refine PS.out.mono ?_
                    rintro e w5 ⟨v5, rfl, _, _, hb5, ht5⟩
                    have R := Lib.hid (HA4.out.touch hb5 ht5)
                    have c6' := R.out.c6
                    have z6' := R.out.z6
                    clear hb5 ht5 PS
                    go_wp2_with fail
                    exact held_out R.out HDS.out (fun W' hc => by simp [results, go_sem, hc])
                · go_wp2_with fail
                  go_meet
                  exact KEEP.out
              · go_wp2_with fail
                go_meet
                exact KEEP.out
            case rest =>
              obtain ⟨now2, G2, st2, N2, rfl, ha5, ls5, hti5, hla5⟩ := hcut
              have HLS5 := Lib.hid ls5
              have HA6 := Lib.hid (ha5.new (.cells #[.int .i64 0] 3 (0, 0)) (w' := wc.alloc (.cells #[.int .i64 0] 3)) ((Below.refl _ _).alloc (Nat.le_refl _) _) (heap_alloc_new wc _))
              have hKX0 : ∀ x ∈ LeaK w B7 mb om p Ds, x.1 < wc.heap.size := fun x hx => lt_of (ha5.keep x hx).1
              have HKX := Lib.hid hKX0
              clear hKX0 HA4 HLS ha5 ls5 c6 z6 c7' g0' m1
              go_upto_region 37 with fail
              generalize hX : wc.heap.size = X at *
              generalize wc.alloc (.cells #[.int .i64 0] 3) = w6 at *
              have c11 : w6.cell? ⟨mb + 1, 0, none⟩ = some (.map (some mb)) := by rw [cell_of (HA6.out.less (K' := LeaK w B7 mb om p Ds) (fun x hx => List.mem_cons_of_mem _ hx)).b11]; rfl
              have HA7 := Lib.hid (HA6.out.under (w' := w6.alloc (.cells #[.map (some mb)] 29)) ((Below.refl _ _).alloc (Nat.le_refl _) _))
              have HB7 := Lib.hid (heap_alloc_new w6 (.cells #[.map (some mb)] 29))
              go_wp2_with fail
              refine (keysMk_any mb w6).mono ?_
              rintro e w7 ⟨rfl, rfl⟩
              generalize hBm : w6.heap.size = Bm at *
              generalize w6.alloc (.cells #[.map (some mb)] 29) = w7 at *
              clear c11 HA6
              go_wp2_with fail
              refine (wpIn_wide (n := 9)).1 ?_
              have hX7 : w7.heap[X]? = some (.cells #[.int .i64 0] 3 (0, 0)) := (HA7.out.keep _ (List.mem_cons_self)).1
              have hGX : ¬ G2 X := (HA7.out.keep (X, .cells #[.int .i64 0] 3 (0, 0)) (List.mem_cons_self)).2
              have HA70 := HA7.out.less (K' := LeaK w B7 mb om p Ds) (fun x hx => List.mem_cons_of_mem _ hx)
              have hX7lt := lt_of hX7
              have hGlt := HA7.out.lt
              have hwX : w.heap.size ≤ X := by rw [← hX]; exact Nat.le_of_lt (HKX.out (w.heap.size, .cells #[.bool false] 4 (0, 0)) (by simp [LeaK])) |> fun q => by rw [hX]; exact q
              have hbm : w7.cell? ⟨Bm, 0, none⟩ = some (.map (some mb)) := by rw [cell_of HB7.out]; rfl
              have hwB : w.heap.size ≤ w7.heap.size := by omega
              generalize hfr : Act.mk _ _ = fr
              refine wpIn_rangeFunc_ownF (F := Fence.wide) (n := 9) rfl (by omega) (gf := 35) (lb := #[.pointer (some ⟨Bm, 0, none⟩)]) (by rw [← hfr]; rfl) trivial (enters_of Try.func35 (by kernel_rfl) rfl)
                (keysI_stops 8 (by omega) Bm mb 40 D w7 (lt_of HB7.out) hbm (HOW.out w7 HA70.bm)) walksK_t walksK_b (Below.refl _ _) (fun _ => rfl)
                (fun (pre : List (KeyI D)) W => HeldAt w W G2 ((X, .cells #[.int .i64 (sumL (fun o => cntA (st2.acc o)) (keysV pre))] 3 (0, 0)) :: LeaK w B7 mb om p Ds) p st2 N2) (fun _ _ _ => False)
                (fun s W W' row hs hg hr => hs.own (fun x hx => by
                  rcases List.mem_cons.1 hx with rfl | hx
                  · exact hX7lt
                  · exact Nat.lt_trans (HKX.out x hx) hX7lt) hGlt hwB hg (fun r e => (hr r e).1)) (fun _ _ _ _ _ hs _ _ => hs)
                HA7.out
                (fun x => ⟨(fr.tmps.setIfInBounds 143 (.int .i64 x.1)).setIfInBounds 20 (.int .i64 x.1), []⟩) ?assign ?body ?done ?stop
              case stop =>
                rintro D' c' pre W _ _ h _
                exact h.elim
              case assign =>
                intro l x W K hK
                subst hfr
                simp only [List.setIfInBounds_toArray, List.set_cons_succ, List.set_cons_zero] at hK
                gi_wp2
                exact hK
              case body =>
                rintro l pre ⟨x, hx⟩ W hI hlen
                have hsome := (HMO.out.2 x).1
                rw [hx] at hsome
                obtain ⟨lim, hlim⟩ := Option.isSome_iff_exists.1 hsome.symm
                obtain ⟨hv, sv, q1, q2, q3, q4, q5, q6, q7, q8⟩ := HLS5.out.acct hlim
                have hxo := (limAt_own hlim).1
                have HD := Lib.hid (held_any p x W G2 st2 N2 hI.book)
                have LD := Lib.hid (leasedB_any p x W G2 st2 N2 hI.book)
                rw [q1, q2] at HD
                rw [q3, q2] at LD
                have hIK := hI.less (K' := LeaK w B7 mb om p Ds) (fun y hy => List.mem_cons_of_mem _ hy)
                have c7 := hIK.c7
                have c11 : W.cell? ⟨mb + 1, 0, none⟩ = some (.map (some mb)) := by rw [cell_of hIK.b11]; rfl
                have hXW := (hI.keep _ (List.mem_cons_self)).1
                have cX : W.cell? ⟨X, 0, none⟩ = some (.int .i64 (sumL (fun o => cntA (st2.acc o)) (keysV pre))) := by rw [cell_of hXW]; rfl
                have zX := free_of hXW 0
                have hwfx : (Lit.int .i64 x).wf = true := WalkArith.wf_i64 (by omega)
                have LK : (Instr.lookup 29 (.map (some mb)) (.int .i64 x) false).run Try.prog W = .ok (.int .i64 lim) W := by
                  obtain ⟨c, hrun, hat, _⟩ := (HOW.out W hIK.bm).lookup_int (Maps.int_keyed Try.underlying3) Try.underlying29 Try.underlying3 (zero_intL W) (Maps.keyOf_int_mk Try.underlying3 hwfx)
                  rw [(HMO.out.2 x).2 lim hlim] at hat
                  simp only [DataW.lit.injEq, Lit.int.injEq, true_and] at hat
                  rw [hrun, ← hat]
                have hsz := (HOW.out W hIK.bm).size_le
                have hSb : 0 ≤ sumL (fun o => cntA (st2.acc o)) (keysV pre) ∧ sumL (fun o => cntA (st2.acc o)) (keysV pre) ≤ 400000000 := by
                  have hb := sumL_bound (f := fun o => cntA (st2.acc o)) (M := 10000000) (by omega) (keysV pre) (fun y hy => by
                    obtain ⟨⟨z, hz⟩, _, rfl⟩ := List.mem_map.1 hy
                    have hs := (HMO.out.2 z).1
                    rw [hz] at hs
                    obtain ⟨lz, hlz⟩ := Option.isSome_iff_exists.1 hs.symm
                    obtain ⟨a, b, _, _, _, r4, r5, r6, r7, r8⟩ := HLS5.out.acct hlz
                    show 0 ≤ cntA (st2.acc z) ∧ cntA (st2.acc z) ≤ _
                    rw [r4]; omega)
                  have hle : (keysV pre).length ≤ 40 := by unfold keysV; rw [List.length_map]; omega
                  omega
                have FIN : Hid (∀ S, S = sumL (fun o => cntA (st2.acc o)) (keysV pre) → HeldAt w (W.setCell ⟨X, 0, none⟩ (.int .i64 (S + (hv + sv)))) G2 ((X, .cells #[.int .i64 (sumL (fun o => cntA (st2.acc o)) (keysV (pre ++ [⟨x, hx⟩])))] 3 (0, 0)) :: LeaK w B7 mb om p Ds) p st2 N2) := Lib.hid (fun S hS => by
                  refine hI.put (fun y hy e => by have := HKX.out y hy; omega) hwX (grownBy_setCell' W X _) ?_
                  rw [block_setCell hXW]
                  have e1 : keysV (pre ++ [⟨x, hx⟩]) = keysV pre ++ [x] := by simp [keysV]
                  rw [e1, sumL_snoc, q4, hS]
                  rfl)
                generalize hS : sumL (fun o => cntA (st2.acc o)) (keysV pre) = S at *
                have HS := Lib.hid hS
                clear hI hIK hXW hsz hsome hlim q1 q2 q3 q4 hlen hwfx hS
                subst hfr
                simp only [List.setIfInBounds_toArray, List.set_cons_succ, List.set_cons_zero]
                gi_wp2_with (refine ⟨trivial, ?_⟩; gi_at_call 13; refine (CallsIn.inRound l (callsIn_wide.2 HD.out)).mono ?_; rintro e w' ⟨rfl, rfl⟩)
                gi_wp2_with (refine ⟨trivial, ?_⟩; gi_at_call 14; refine (CallsIn.inRound l (callsIn_wide.2 LD.out)).mono ?_; rintro e w' ⟨rfl, rfl⟩)
                gi_wp2
                refine ⟨KeepsOthers.setCell _ _ _, KeepsWalks.setCell _ _ _, ?_⟩
                exact FIN.out S rfl
              case done =>
                rintro D' ks W hD hks hI hK
                have hnb : ¬ G2 D' := fun x => by have := hGlt _ x; omega
                have hsum : sumL (fun o => cntA (st2.acc o)) (keysV ks) = st2.total := HLS5.out.sum hks.1 (fun o => by rw [hks.2 o, (HMO.out.2 o).1])
                rw [hsum] at hI
                have HR : Hid (HeldAt w W G2 ((X, .cells #[.int .i64 st2.total] 3 (0, 0)) :: LeaK w B7 mb om p (D' :: Ds)) p st2 N2) := Lib.hid ((hI.add hK hnb).less (fun x hx => by
                  rw [show LeaK w B7 mb om p (D' :: Ds) = (D', Obj.deferred (some [])) :: LeaK w B7 mb om p Ds from rfl] at hx
                  simp only [List.mem_cons] at hx ⊢
                  rcases hx with hx | hx | hx
                  · exact Or.inr (Or.inl hx)
                  · exact Or.inl hx
                  · exact Or.inr (Or.inr hx)))
                have HDS2 : Hid ((D' :: Ds).Nodup ∧ ∀ E ∈ D' :: Ds, w.heap.size ≤ E) := Lib.hid ⟨List.nodup_cons.2 ⟨fun hm => by
                    have := HKX.out (D', .deferred (some [])) (by simp [LeaK, hm])
                    simp only at this
                    omega, HDS.out.1⟩, fun E hE => by
                    rcases List.mem_cons.1 hE with rfl | hE
                    · exact Nat.le_trans hwB hD
                    · exact HDS.out.2 E hE⟩
                have c7 := (HR.out.less (K' := LeaK w B7 mb om p (D' :: Ds)) (fun x hx => List.mem_cons_of_mem _ hx)).c7
                have LV := Lib.hid (leasesB_any p W G2 st2 N2 HR.out.book HLS5.out.good)
                clear hI hK hks hsum hnb hX7 hGX HA70 hX7lt hGlt hbm
                subst hfr
                go_wp2_with fail
                refine LV.out.mono ?_
                rintro e w8 ⟨lv, rfl, hrow, hb8⟩
                have R8 := Lib.hid (HR.out.under hb8)
                obtain ⟨va, vc, rfl, _, _⟩ := ownsRow_sh hrow
                have HROW := Lib.hid hrow
                have hll := HLS5.out.good.leaLen
                clear hb8 c7 HR LV hrow
                go_wp2_with fail
                go_loopw [187] (fun i wr => ∃ k : Nat, k ≤ st2.leases.length ∧ i = .int .i64 k ∧ HeldAt w wr G2 ((X, .cells #[.int .i64 st2.total] 3 (0, 0)) :: LeaK w B7 mb om p (D' :: Ds)) p st2 N2 ∧ Below w8.heap.size w8 wr) (fun i _ => st2.leases.length - (intOf i).toNat)
                case atStart => exact ⟨0, Nat.zero_le _, rfl, R8.out, Below.refl _ _⟩
                case round =>
                  obtain ⟨k, hk, rfl, ha9, hb9⟩ := hrel
                  have HA9 := Lib.hid ha9
                  have HB9 := Lib.hid hb9
                  by_cases hlt : k < st2.leases.length
                  case pos =>
                    obtain ⟨l, hl⟩ : ∃ l, st2.leases[k]? = some l := ⟨_, List.getElem?_eq_getElem hlt⟩
                    obtain ⟨g, cap, cur, hv, _, _, _, _, _, _, hcell⟩ := lrow_open HROW.out (by omega)
                    simp only [Value.slice.injEq] at hv
                    obtain ⟨rfl, _, rfl⟩ := hv
                    have htl := (HLS5.out.good.lea l (List.mem_of_getElem? hl)).2.2.2.1
                    have x0 : wr.cell? ⟨g, k * 4, none⟩ = some (.int .i64 l.no) := old_cell hb9 ((hcell k l hl 0 (by omega)).trans rfl)
                    have x1 : wr.cell? ⟨g, k * 4 + 1, none⟩ = some (.int .i64 l.owner) := old_cell hb9 ((hcell k l hl 1 (by omega)).trans rfl)
                    have x2 : wr.cell? ⟨g, k * 4 + 2, none⟩ = some (.int .i64 l.amount) := old_cell hb9 ((hcell k l hl 2 (by omega)).trans rfl)
                    have x3 : wr.cell? ⟨g, k * 4 + 3, none⟩ = some (.int .i64 l.untl) := old_cell hb9 ((hcell k l hl 3 (by omega)).trans rfl)
                    obtain ⟨l1, l2, l3, l4⟩ := l
                    simp only at x0 x1 x2 x3 htl
                    have hgt : ¬ l4 ≤ now2 := by omega
                    clear hcell hl ha9 hb9
                    go_wp2_with fail
                    go_roundw
                    case measure => simp only [intOf]; omega
                    case rel => exact ⟨k + 1, by omega, by simp, HA9.out.under ((Below.refl _ _).alloc (Nat.le_refl _) _), HB9.out.alloc HB9.out.size _⟩
                  case neg =>
                    obtain rfl : k = st2.leases.length := by omega
                    have hLK := ha9.less (K' := LeaK w B7 mb om p (D' :: Ds)) (fun x hx => List.mem_cons_of_mem _ hx)
                    have HLK := Lib.hid hLK
                    have c7 := hLK.c7
                    have hXW := (ha9.keep _ (List.mem_cons_self)).1
                    have cX : wr.cell? ⟨X, 0, none⟩ = some (.int .i64 st2.total) := by rw [cell_of hXW]; rfl
                    have TT : Hid (∀ m, Calls Try.prog 16 #[.pointer (some ⟨p, 0, none⟩)] (wr.drewN m) (fun e w' => e = .returned (.int .i64 st2.total) ∧ w' = wr.drewN m)) := Lib.hid (fun m => (total_any p (wr.drewN m) G2 st2 N2 (ha9.book.same (fun k _ _ => rfl))).mono (fun e w' h => ⟨h.1, h.2.symm⟩))
                    have hb1 := HLS5.out.good.totb
                    rw [HLS5.out.bud] at hb1
                    clear ha9 hb9 hLK hXW hlt
                    go_wp2_with fail
                    go_quiet ((go_at_call 16; exact Calls.quiet_of_same (TT.out _)))
                    have FIN := Lib.hid (HLK.out.under (bdrewN (Below.refl _ wr) nq))
                    generalize wr.drewN nq = w9 at *
                    clear cX TT
                    go_wp2_with fail
                    all_goals
                      go_roundg (n - 3)
                      case measure => omega
                      case rel =>
                        first
                          | exact ⟨⟨ys.drop 3, now2, D' :: Ds, G2, st2, N2, rfl, rfl, HDS2.out.1, HYS.out.2 _, by simp only [sliceFits] at hfu ⊢; omega, FIN.out, HLS5.out, hti5, by rw [List.length_drop]; omega, HDS2.out.2⟩, rfl⟩
                          | exact ⟨⟨ys.drop 3, now2, D' :: Ds, G2, st2, N2, rfl, rfl, HDS2.out.1, tail_nil HYS.out.1 (by simp only [sliceFits] at hfu; omega), by simp only [sliceFits] at hfu ⊢; omega, FIN.out, HLS5.out, hti5, by rw [List.length_drop]; omega, HDS2.out.2⟩, rfl⟩

end Go.Proofs.Ytfgpophbgjeefaa
