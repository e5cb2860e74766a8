/-
  The walk of LedgerRuns. No conditions.
-/
import Derived.Test.YtfgpophbgjeefaaGreatLedgerRunsPbv
import Derived.Test.YtfgpophbgjeefaaGreatLedgerRunsPas
import Derived.Test.YtfgpophbgjeefaaGreatLedgerRunsPbp
import Derived.Deep.Cut
namespace Go.Proofs.YtfgpophbgjeefaaGreat
open Go.RowKit
set_option linter.unusedVariables false

theorem entrIn_off {w : World} {v : Value} {ls : List Ent} (h : OffRow w 61 6 v ls.length (ls.flatMap Ent.cells)) : EntrIn w v ls := by
  obtain ⟨a, c, rfl, _, _⟩ := h.sh
  refine ⟨a, c, rfl, fun k e hk => ?_⟩
  rcases h.2 with ⟨h1, h2⟩ | ⟨g, off, cap, cur, hv, _⟩
  · have := (List.getElem?_eq_some_iff.1 hk).1
    omega
  · simp only [Value.slice.injEq, true_and] at hv
    obtain ⟨rfl, rfl⟩ := hv
    have f : ∀ i, i < 6 → w.cell? ⟨g, off + k * 6 + i, none⟩ = e.cells[i]? := fun i hi => by
      have h1 := ecells_get ls k i e hk hi
      obtain ⟨u, hu⟩ : ∃ u, e.cells[i]? = some u := ⟨_, List.getElem?_eq_getElem (by simp [Ent.cells]; omega)⟩
      rw [hu] at h1 ⊢
      have h2 := h.cell h1
      rw [Nat.add_assoc]; exact h2
    exact ⟨g, off, rfl, (f 0 (by omega)).trans rfl, (f 1 (by omega)).trans rfl, (f 2 (by omega)).trans rfl, (f 3 (by omega)).trans rfl, (f 4 (by omega)).trans rfl, (f 5 (by omega)).trans rfl⟩
theorem entrIn_row {w : World} {B : Nat} {v : Value} {ls : List Ent} (h : w.ownsRow B 61 6 v ls.length (ls.flatMap Ent.cells)) : EntrIn w v ls := entrIn_off (OffRow.of_own h)

/-- What holds between two calls of the script. -/
def RunAt (w wr : World) (k : Nat) (s5 s7 : Value) : Prop :=
  ∃ (p q : Nat) (st : BookSt) (N : Nat) (F G : Nat → Prop), s5 = .pointer (some ⟨p, 0, none⟩) ∧ s7 = .pointer (some ⟨q, 0, none⟩) ∧ BothAt w wr p q st N F G ∧ Good st ∧ st.last ≤ k ∧ N ≤ 40 + k

set_option maxHeartbeats 8000000 in
set_option maxRecDepth 100000 in
theorem ledgerRuns (bud : Int) (v : Value) (L : List Cl) (w : World) (_ : -9223372036854775808 ≤ bud ∧ bud ≤ 9223372036854775807) (hc : ClsIn w v L) :
    Calls Tryz.prog 6 #[.int .i64 bud, v] w (LawPost w) := by
  obtain ⟨a, cap, rfl, hll, hcell⟩ := hc
  by_cases hbud : 0 ≤ bud ∧ bud ≤ 10000000
  case neg =>
    have NB := Lib.hid (newBook_bad bud w hbud)
    have NR := Lib.hid (refNew_bad bud w hbud)
    clear hbud hcell hll
    go_enter Tryz.func6, Tryz.ntmps6
    go_wp2_with fail
    refine NB.out.mono ?_
    rintro e w1 ⟨rfl, rfl⟩
    go_wp2_with fail
    refine NR.out.mono ?_
    rintro e w1 ⟨rfl, rfl⟩
    go_wp2_with fail
    go_ret
    exact ⟨rfl, Below.refl _ _⟩
  have NB := Lib.hid (newBook_ok bud w hbud.1 hbud.2)
  have NR := Lib.hid (fun W => refNew_ok bud W hbud)
  have HC := Lib.hid hcell
  have GN := Lib.hid (Good.new bud hbud)
  clear hcell hbud
  go_enter Tryz.func6, Tryz.ntmps6
  go_wp2_with fail
  refine NB.out.mono ?_
  rintro e w1 ⟨p, rfl, hb1, hbel1⟩
  go_wp2_with fail
  refine (NR.out w1).mono ?_
  rintro e w2 ⟨q, rfl, hr2, hbel2⟩
  have START : Hid (RunAt w w2 0 (.pointer (some ⟨p, 0, none⟩)) (.pointer (some ⟨q, 0, none⟩))) := Lib.hid (by
    have s1 := hbel1.size
    have s2 := hbel2.size
    refine ⟨p, q, newSt bud, 0, fun k => w.heap.size ≤ k ∧ k < w1.heap.size, fun k => w1.heap.size ≤ k ∧ k < w2.heap.size, rfl, rfl, ⟨?_, ?_, fun k h1 h2 => by omega, fun k h => by omega, fun k h => h.2, fun k h => h.1, fun k h => by omega, hbel1.trans (hbel2.mono s1)⟩, GN.out, by simp [newSt], by omega⟩
    · exact hb1.narrow'.same (fun k hk hlt => hbel2.block k hk.2)
    · exact (RefAt.narrow' hr2).more (by omega))
  clear hb1 hbel1 hr2 hbel2 NB NR GN
  go_wp2_with fail
  go_loopw [5, 7, 39] (fun s5 s7 i wr => ∃ k : Nat, k ≤ L.length ∧ i = .int .i64 k ∧ RunAt w wr k s5 s7) (fun _ _ i _ => L.length - (intOf i).toNat)
  case atStart => exact ⟨0, Nat.zero_le _, rfl, START.out⟩
  case round =>
    obtain ⟨k, hk, rfl, p, q, st, N, F, G, rfl, rfl, hB, g, hla, hN⟩ := hrel
    have HB := Lib.hid hB
    have HG := Lib.hid g
    by_cases hlt : k < L.length
    · obtain ⟨b, o, ha, c5⟩ := HC.out k hlt
      subst ha
      have c5' := c5.below (w' := wr) hB.below
      obtain ⟨g0, g1, g2, g3, dv, g4, hrd, hz, hfk, hfa, hfb, hfc⟩ := c5'
      obtain ⟨da, dc, rfl, _, _⟩ := hrd
      have HFK := Lib.hid hfk
      generalize L.getD k Cl.zero = cl at *
      obtain ⟨ck, ca, cb, cc, cd⟩ := cl
      simp only at g0 g1 g2 g3 g4
      generalize cd.length = dn at *
      clear c5 hB g hfa hfb hfc hfk hz
      have BX := (Below.refl wr.heap.size wr).alloc (Nat.le_refl _) (.cells #[.int .i64 ck, .int .i64 ca, .int .i64 cb, .int .i64 cc, .slice da dn dc] 44)
      have HB1 := Lib.hid (HB.out.under BX)
      have HX1 : Hid (BoxC wr.heap.size ck ca cb cc (.slice da dn dc) (wr.alloc (.cells #[.int .i64 ck, .int .i64 ca, .int .i64 cb, .int .i64 cc, .slice da dn dc] 44))) := Lib.hid (heap_alloc_new wr _)
      have HFL := Lib.hid (fun hk => Nat.lt_irrefl _ (HB.out.flt wr.heap.size hk))
      have HGL := Lib.hid (fun hk => Nat.lt_irrefl _ (HB.out.glt wr.heap.size hk))
      have hwr := HB.out.below.size
      clear BX HB
      by_cases heq : ((k : Int) == (L.length : Int) / 2) = true
      case neg =>
        have heq : ((k : Int) == (L.length : Int) / 2) = false := by simpa using heq
        go_upto_region 14 with fail
        generalize hW1 : wr.alloc (.cells #[.int .i64 ck, .int .i64 ca, .int .i64 cb, .int .i64 cc, .slice da dn dc] 44) = W1 at *
        clear g0 g1 g2 g3 g4 hW1
        have n0 : W1.cell? ⟨wr.heap.size, 0, none⟩ = some (.int .i64 ck) := by rw [cell_of HX1.out]; rfl
        have n1 : W1.cell? ⟨wr.heap.size, 1, none⟩ = some (.int .i64 ca) := by rw [cell_of HX1.out]; rfl
        have n2 : W1.cell? ⟨wr.heap.size, 2, none⟩ = some (.int .i64 cb) := by rw [cell_of HX1.out]; rfl
        have n3 : W1.cell? ⟨wr.heap.size, 3, none⟩ = some (.int .i64 cc) := by rw [cell_of HX1.out]; rfl
        have n4 : W1.cell? ⟨wr.heap.size, 4, none⟩ = some (.slice da dn dc) := by rw [cell_of HX1.out]; rfl
        go_wp2_with fail
        refine (bookCall_any p q ck ca cb cc da dn dc w W1 st N _ _ HB1.out HG.out (by unfold maxLen; omega) (by omega) HFK.out).mono ?_
        rintro e w6 ⟨rfl, ⟨st', F', G', hB6, g6, hl6⟩, ht6⟩
        have X6 : BoxC wr.heap.size ck ca cb cc (.slice da dn dc) w6 := BoxC.touch HX1.out ht6 (fun hk => by exact hk.elim HFL.out HGL.out)
        have y1 : w6.cell? ⟨wr.heap.size, 1, none⟩ = some (.int .i64 ca) := by rw [cell_of X6]; rfl
        have SB := Lib.hid (sameBook_any p q ca w w6 st' (N + 1) F' G' hB6 g6)
        have FIN : Hid (∀ w7, Below w6.heap.size w6 w7 → RunAt w w7 (k + 1) (.pointer (some ⟨p, 0, none⟩)) (.pointer (some ⟨q, 0, none⟩))) := Lib.hid (fun w7 h7 => ⟨p, q, st', N + 1, F', G', rfl, rfl, hB6.under h7, g6, by omega, by omega⟩)
        clear hB6 g6 hl6 ht6 X6 n0 n1 n2 n3 n4
        go_wp2_with fail
        refine SB.out.mono ?_
        rintro e w7 ⟨rfl, hb7⟩
        have FIN7 := Lib.hid (FIN.out w7 hb7)
        clear hb7
        go_wp2_with fail
        go_roundw
        case measure => simp only [intOf]; omega
        case rel => exact ⟨k + 1, by omega, by simp, FIN7.out⟩
      case pos =>
        have CB := Lib.hid (copyB_any p _ F st N HB1.out.own HB1.out.flt HG.out)
        have CR := Lib.hid (fun W (hW : Below (wr.alloc (.cells #[.int .i64 ck, .int .i64 ca, .int .i64 cb, .int .i64 cc, .slice da dn dc] 44)).heap.size (wr.alloc (.cells #[.int .i64 ck, .int .i64 ca, .int .i64 cb, .int .i64 cc, .slice da dn dc] 44)) W) => copyR_any q W G st false (HB1.out.ref.below hW) (fun k hk => Nat.lt_of_lt_of_le (HB1.out.glt k hk) hW.size) HG.out.e (by simp))
        go_upto_region 11 with fail
        generalize hW1 : wr.alloc (.cells #[.int .i64 ck, .int .i64 ca, .int .i64 cb, .int .i64 cc, .slice da dn dc] 44) = W1 at *
        clear g0 g1 g2 g3 g4 hW1 heq
        go_wp2_with fail
        refine CB.out.mono ?_
        rintro e w3 ⟨p2, rfl, hb3, bel3⟩
        have B3 := Lib.hid bel3
        have H3 := Lib.hid hb3
        clear hb3 bel3
        go_wp2_with fail
        refine (CR.out w3 B3.out).mono ?_
        rintro e w4 ⟨q2, rfl, hr4, bel4⟩
        have h0 := HB1.out.below
        have h3 := B3.out
        have hs1 := lt_of HX1.out
        have hs3 := h3.size
        have HX4 : Hid (BoxC wr.heap.size ck ca cb cc (.slice da dn dc) w4) := Lib.hid ((bel4.block _ (Nat.lt_of_lt_of_le hs1 h3.size)).trans ((h3.block _ hs1).trans HX1.out))
        have HB4 : Hid (BothAt w w4 p2 q2 st 40 (fun k => W1.heap.size ≤ k ∧ k < w3.heap.size) (fun k => w3.heap.size ≤ k ∧ k < w4.heap.size)) := Lib.hid (by
          have s1 := h0.size
          have s3 := h3.size
          have s4 := bel4.size
          exact ⟨H3.out.narrow'.same (fun k hk hlt => bel4.block k hk.2), RefAt.narrow' hr4, fun k h1 h2 => by omega, fun k h => by omega, fun k h => h.2, fun k h => by omega, fun k h => by omega, h0.trans ((h3.mono s1).trans (bel4.mono (by omega)))⟩)
        clear hr4 bel4 h0 h3
        have n0 : w4.cell? ⟨wr.heap.size, 0, none⟩ = some (.int .i64 ck) := by rw [cell_of HX4.out]; rfl
        have n1 : w4.cell? ⟨wr.heap.size, 1, none⟩ = some (.int .i64 ca) := by rw [cell_of HX4.out]; rfl
        have n2 : w4.cell? ⟨wr.heap.size, 2, none⟩ = some (.int .i64 cb) := by rw [cell_of HX4.out]; rfl
        have n3 : w4.cell? ⟨wr.heap.size, 3, none⟩ = some (.int .i64 cc) := by rw [cell_of HX4.out]; rfl
        have n4 : w4.cell? ⟨wr.heap.size, 4, none⟩ = some (.slice da dn dc) := by rw [cell_of HX4.out]; rfl
        go_wp2_with fail
        refine (bookCall_any p2 q2 ck ca cb cc da dn dc w w4 st 40 _ _ HB4.out HG.out (by unfold maxLen; omega) (by omega) HFK.out).mono ?_
        rintro e w6 ⟨rfl, ⟨st', F', G', hB6, g6, hl6⟩, ht6⟩
        have X6 : BoxC wr.heap.size ck ca cb cc (.slice da dn dc) w6 := BoxC.touch HX4.out ht6 (fun hk => by rcases hk with h1 | h1 <;> omega)
        have y1 : w6.cell? ⟨wr.heap.size, 1, none⟩ = some (.int .i64 ca) := by rw [cell_of X6]; rfl
        have SB := Lib.hid (sameBook_any p2 q2 ca w w6 st' (40 + 1) F' G' hB6 g6)
        have FIN : Hid (∀ w7, Below w6.heap.size w6 w7 → RunAt w w7 (k + 1) (.pointer (some ⟨p2, 0, none⟩)) (.pointer (some ⟨q2, 0, none⟩))) := Lib.hid (fun w7 h7 => ⟨p2, q2, st', 40 + 1, F', G', rfl, rfl, hB6.under h7, g6, by omega, by omega⟩)
        clear hB6 g6 hl6 ht6 X6 n0 n1 n2 n3 n4
        go_wp2_with fail
        refine SB.out.mono ?_
        rintro e w7 ⟨rfl, hb7⟩
        have FIN7 := Lib.hid (FIN.out w7 hb7)
        clear hb7
        go_wp2_with fail
        go_roundw
        case measure => simp only [intOf]; omega
        case rel => exact ⟨k + 1, by omega, by simp, FIN7.out⟩
    · obtain rfl : k = L.length := by omega
      obtain ⟨mb, lv, ev, D, hm⟩ := hB.ref
      obtain ⟨ea, ec, rfl, _, _⟩ := hm.erow.sh
      have hes : (lastE st).length ≤ 5000 := last5_len st.entries
      have EB := Lib.hid (fun W (hW : Below wr.heap.size wr W) => entriesB_any p W F st N (hB.own.same (Below.same_on hW)) g)
      have S0 : ∀ W, Below wr.heap.size wr W → TwoS q 6 6 (.slice ea (seenE false st.entries).length ec) (.slice ea (seenE false st.entries).length ec) W := fun W hW => by
        have : W.cell? ⟨q, 6, none⟩ = some (.slice ea (seenE false st.entries).length ec) := by rw [cell_of (hm.same (Below.same_on hW)).self]; rfl
        exact ⟨this, this⟩
      have ER : Hid (∀ W, Below wr.heap.size wr W → EntrIn W (.slice ea (seenE false st.entries).length ec) (lastE st)) := Lib.hid (fun W hW => entrIn_off (hm.same (Below.same_on hW)).erow)
      have S0 := Lib.hid S0
      have HBB := Lib.hid hB.below
      generalize hse : (seenE false st.entries).length = sl at *
      have s1 : ∀ y : WIn (TwoS q 6 6 (.slice ea sl ec) (.slice ea sl ec)), y.w.cell? ⟨q, 6, none⟩ = some (.slice ea sl ec) := fun y => y.h.1
      haveI ne : Nonempty (WIn (TwoS q 6 6 (.slice ea sl ec) (.slice ea sl ec))) := ⟨⟨wr, S0.out wr (Below.refl _ _)⟩⟩
      clear hB g hm hse HB HG hla hN
      go_upto_region 17 with fail
      have B0 := bdrewN (Below.refl wr.heap.size wr) 1
      refine wp_normal ?_
      refine wp_region_plan 7 (TwoS q 6 6 (.slice ea sl ec) (.slice ea sl ec)) rfl ?_
      refine wpN_seg [0, 2, 3, 4, 5] (by kernel_rfl) (by kernel_rfl) (by kernel_rfl) (by kernel_rfl) (by decide) (fun _ _ _ _ _ h => h) (S0.out _ B0) ?_
      simp only [pick, List.map_cons, List.map_nil, List.getElem?_cons_succ, List.getElem?_cons_zero, Option.getD_some]
      repeat (go_big_quiet_step (fail))
      refine wpQuiet_nil ?_
      refine wpN_one 1 _ (by kernel_rfl) rfl ?_
      refine NextAt.held ?_
      intro K hK
      go_simp
      refine (EB.out _ B0).mono ?_
      rintro e w3 ⟨v3, rfl, hr3, hb3⟩
      have B3 := B0.trans (hb3.mono B0.size)
      have EQ := Lib.hid (equal_entr _ _ (lastE st) w3 (by omega) (entrIn_row hr3) (ER.out _ B3))
      obtain ⟨a3, c3, rfl, _, _⟩ := ownsRow_sh hr3
      have HB3 := Lib.hid B3
      clear hr3 hb3
      go_simp
      refine hK _ _ (S0.out _ B3) ?_
      clear hK K
      refine wpN_one 6 _ (by kernel_rfl) rfl ?_
      refine NextAt.held ?_
      intro K hK
      go_simp
      refine EQ.out.mono ?_
      rintro e w4 ⟨rfl, q4, rfl⟩
      have B4 := bdrewN B3 q4
      have FIN := Lib.hid (HBB.out.trans (B4.mono HBB.out.size))
      go_simp
      refine hK _ _ (S0.out _ B4) ?_
      clear hK K
      refine wpN_one 7 _ (by kernel_rfl) rfl ?_
      refine NextAt.free (by kernel_rfl) ?_
      intro K hK
      go_simp
      refine hK _ _ ?_
      clear hK K
      refine wpN_done (by kernel_rfl) ?_
      go_wp2_with fail
      go_ret
      exact ⟨rfl, FIN.out⟩

end Go.Proofs.YtfgpophbgjeefaaGreat
