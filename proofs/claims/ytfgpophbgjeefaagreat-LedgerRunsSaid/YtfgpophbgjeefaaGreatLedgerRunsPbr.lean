/-
  The reference's book: Copy. No conditions but what always holds of a book.
-/
import Derived.Test.YtfgpophbgjeefaaGreatLedgerRunsPbo
import Derived.Test.YtfgpophbgjeefaaGreatLedgerRunsPah
namespace Go.Proofs.YtfgpophbgjeefaaGreat
open Go.RowKit Go.Maps
set_option linter.unusedVariables false

theorem cloneNil_ents (w : World) :
    Calls Tryz.prog 70 #[.slice none 0 0] w (OwnEnts [] 0 w) := by
  have hq := fun (w : World) (a : Option Addr) (n c : Nat) => Lib.run_eql_slice_nil (P := Tryz.prog) w 59 61 a n c 0 0 Tryz.underlying59
  go_enter Tryz.func70, Tryz.ntmps70
  go_wp2_with fail
  go_ret
  exact ⟨_, rfl, World.ownsRow_nil _ _ _ _, Below.refl _ _⟩
/-- Clone of the entries, wherever they begin. -/
theorem clone_off (v : Value) (es : List Ent) (w : World) (h : OffRow w 61 6 v es.length (es.flatMap Ent.cells)) (hmax : es.length ≤ 1000000) :
    Calls Tryz.prog 70 #[v] w (OwnEnts (es.flatMap Ent.cells) es.length w) := by
  rcases h.2 with ⟨rfl, h0⟩ | ⟨g, off, cap, cur, rfl, hg, rest⟩
  · have hz : es = [] := List.eq_nil_of_length_eq_zero h0
    subst hz
    exact cloneNil_ents w
  · exact clone_ents ⟨g, off, none⟩ es.length cap es w rfl (fun j u hj => by rw [Addr.add_lit]; exact h.cell hj) hmax

def BookCopy (wh : Bool) (st : BookSt) (w : World) : Ending → World → Prop := fun e w' =>
  ∃ q, e = .returned (.pointer (some ⟨q, 0, none⟩)) ∧ RB w' (fun k => w.heap.size ≤ k) q st wh ∧ Below w.heap.size w w'

def TwoS (p i j : Nat) (u v : Value) : World → Prop := fun W => W.cell? ⟨p, i, none⟩ = some u ∧ W.cell? ⟨p, j, none⟩ = some v

set_option maxHeartbeats 8000000 in
set_option maxRecDepth 100000 in
theorem copyR_any (p : Nat) (w : World) (F : Nat → Prop) (st : BookSt) (wh : Bool) (hb : RB w F p st wh) (hF : ∀ k, F k → k < w.heap.size) (g : GoodE st) (hw : wh = true → st.entries.length ≤ 9999) :
    Calls Tryz.prog 36 #[.pointer (some ⟨p, 0, none⟩)] w (BookCopy wh st w) := by
  have HG := Lib.hid g
  have HF := Lib.hid hF
  have hlen := g.leaLen
  have hmm := @run_makeMap Tryz.prog
  obtain ⟨mb, lv, ev, D, hm⟩ := hb
  have hes := seen_len wh st hw
  obtain ⟨la, lc, rfl, hl1, hl2⟩ := ownsRow_sh hm.lrow
  obtain ⟨ea, ec, rfl, he1, he2⟩ := hm.erow.sh
  have HM := Lib.hid hm
  have c0 : w.cell? ⟨p, 0, none⟩ = some (.int .i64 st.budget) := by rw [cell_of hm.self]; rfl
  have c1 : w.cell? ⟨p, 1, none⟩ = some (.map (some mb)) := by rw [cell_of hm.self]; rfl
  have c2 : w.cell? ⟨p, 2, none⟩ = some (.slice la st.leases.length lc) := by rw [cell_of hm.self]; rfl
  have c3 : w.cell? ⟨p, 3, none⟩ = some (.int .i64 st.last) := by rw [cell_of hm.self]; rfl
  have c4 : w.cell? ⟨p, 4, none⟩ = some (.int .i64 st.time) := by rw [cell_of hm.self]; rfl
  have c5 : w.cell? ⟨p, 5, none⟩ = some (.bool wh) := by rw [cell_of hm.self]; rfl
  have c6 : w.cell? ⟨p, 6, none⟩ = some (.slice ea (seenE wh st.entries).length ec) := by rw [cell_of hm.self]; rfl
  have hpl := lt_of hm.self
  have hmbl := hm.map.lt
  generalize hes0 : seenE wh st.entries = es at *
  have HES := Lib.hid hes0.symm
  clear hm g hw hF hes0
  have B1 : Below w.heap.size w ((w.alloc (.cells #[.int .i64 st.budget, .map (some (w.heap.size + 1)), .slice la st.leases.length lc, .int .i64 st.last, .int .i64 st.time, .bool wh, .slice ea es.length ec] 66)).alloc (.map #[] 0)) := ((Below.refl _ w).alloc (Nat.le_refl _) _).alloc (by simp) _
  have hself := (heap_alloc_old (w.alloc (.cells #[.int .i64 st.budget, .map (some (w.heap.size + 1)), .slice la st.leases.length lc, .int .i64 st.last, .int .i64 st.time, .bool wh, .slice ea es.length ec] 66)) (.map #[] 0) (r := w.heap.size) (by simp)).trans (heap_alloc_new w _)
  have hmap1 : ((w.alloc (.cells #[.int .i64 st.budget, .map (some (w.heap.size + 1)), .slice la st.leases.length lc, .int .i64 st.last, .int .i64 st.time, .bool wh, .slice ea es.length ec] 66)).alloc (.map #[] 0)).ownsMap Tryz.prog 3 accElem (w.heap.size + 1) 0 (.map [] : DataW Unit) := by
    have h0 := World.ownsMap_made (H := Unit) (w.alloc (.cells #[.int .i64 st.budget, .map (some (w.heap.size + 1)), .slice la st.leases.length lc, .int .i64 st.last, .int .i64 st.time, .bool wh, .slice ea es.length ec] 66)) Tryz.prog 3 accElem
    simp only [World.size_alloc] at h0
    exact h0
  have hsz1 : ((w.alloc (.cells #[.int .i64 st.budget, .map (some (w.heap.size + 1)), .slice la st.leases.length lc, .int .i64 st.last, .int .i64 st.time, .bool wh, .slice ea es.length ec] 66)).alloc (.map #[] 0)).heap.size = w.heap.size + 2 := by simp
  have B1 := Lib.hid B1
  have HSELF := Lib.hid hself
  have HMAP1 := Lib.hid hmap1
  have HSZ1 := Lib.hid hsz1
  clear hself hmap1 hsz1
  go_enter Tryz.func36, Tryz.ntmps36
  go_upto_region 3 with fail
  generalize ((w.alloc (.cells #[.int .i64 st.budget, .map (some (w.heap.size + 1)), .slice la st.leases.length lc, .int .i64 st.last, .int .i64 st.time, .bool wh, .slice ea es.length ec] 66)).alloc (.map #[] 0)) = W1 at *
  have hem : accIn st [] = fun _ => none := by funext o; simp [accIn]
  have hm1 : RefMem W1 (fun k => F k ∨ k = w.heap.size ∨ k = w.heap.size + 1) w.heap.size { st with acc := accIn st [] } es wh 40 (w.heap.size + 1) (.slice la st.leases.length lc) (.slice ea es.length ec) (.map []) := by
    refine ⟨?_, Or.inr (Or.inl rfl), HMAP1.out.mono (Nat.zero_le _), Or.inr (Or.inr rfl), tidy_empty, ?_, fun o z => ?_, fun o => ?_, ownsRow_same HM.out.lrow (fun k hk => B1.out.block k (HF.out k (HM.out.flea k hk))), fun k hk => Or.inl (HM.out.flea k hk), HM.out.erow.same (fun k hk => B1.out.block k (HF.out k (HM.out.fent k hk))), fun k hk => Or.inl (HM.out.fent k hk)⟩
    · rw [HSELF.out]; rfl
    · show _ = accCnt (accIn st [])
      rw [hem]; simp [accCnt, accOne, sumN, Maps.size]
    · show _ = accAt (accIn st [] o) z
      rw [hem]; rfl
    · show _ = (accIn st [] o).isSome
      rw [hem]; rfl
  have HM1 := Lib.hid hm1
  have d1 : W1.cell? ⟨p, 1, none⟩ = some (.map (some mb)) := old_cell B1.out c1
  have hown : W1.ownsMap Tryz.prog 3 accElem mb 40 D := ownsMap_same HM.out.map (B1.out.block mb hmbl)
  clear hm1 c0 c1 c3 c4 c5 HSELF HMAP1
  go_wp2_with (first
    | (at_range; refine wpList_range_own _ rfl _ 63 rfl 3 170 intKey Tryz.underlying63 accElem mb 40 D rfl hown ?_; intro w0 hrg0 hg0 hs0)
    | fail)
  have hb0 : Below w.heap.size w w0 := B1.out.grown hg0 B1.out.size (fun k e => by cases e)
  have hm0 : Hid (RefMem w0 (fun k => F k ∨ k = w.heap.size ∨ k = w.heap.size + 1) w.heap.size { st with acc := accIn st [] } es wh 40 (w.heap.size + 1) (.slice la st.leases.length lc) (.slice ea es.length ec) (.map [])) := Lib.hid (HM1.out.same (fun k _ hlt => hg0.block k hlt (fun e => by cases e)))
  have HRG0 := Lib.hid hrg0
  have HB0 := Lib.hid hb0
  clear hrg0 hg0 hs0 hb0 hown d1
  go_frame
  go_loopw [4] (fun _ wr => ∃ (left : Lit → Bool) (cnt : Nat) (ss : List Int) (D2 : DataW Unit), RefMem wr (fun k => F k ∨ k = w.heap.size ∨ k = w.heap.size + 1) w.heap.size { st with acc := accIn st ss } es wh 40 (w.heap.size + 1) (.slice la st.leases.length lc) (.slice ea es.length ec) D2 ∧ wr.ranges Tryz.prog 3 accElem mb W1.heap.size 40 D left cnt ∧ CameR st left ss ∧ Below w.heap.size w wr)
    (fun _ wr => wr.rangeLeft mb W1.heap.size)
  case atStart =>
    exact ⟨_, _, [], _, hm0.out, HRG0.out, ⟨List.nodup_nil, fun x => by rw [HM.out.has x]; cases (st.acc x).isSome <;> simp⟩, HB0.out⟩
  case round =>
    obtain ⟨left, cnt, ss, D2, hmc, hrg, hC, hbr⟩ := hrel
    have HBR := Lib.hid hbr
    have HMC := Lib.hid hmc
    go_wp2_with (first
      | (at_next; refine wpList_next_ranges _ rfl _ rfl 3 intKey accElem (fun x : Int => .int .i64 x) (fun c : Int × Int => .agg #[.int .i64 c.1, .int .i64 c.2]) (fun key kl hkey => by obtain ⟨x, rfl, _⟩ := Maps.keyOf_int_inv Tryz.underlying3 hkey; exact ⟨x, rfl⟩) (fun v y hv => accElem_shape hv) mb W1.heap.size 40 D _ _ rfl hrg ?_ ?_)
      | fail)
    · intro hc0 hl0
      have hall : ({ st with acc := accIn st ss } : BookSt) = st := by
        rw [accIn_all st ss (fun x hx => (hC.2 x).2 ⟨hx, hl0 _⟩)]
      rw [hall] at HMC
      have hmr := HM.out.same (Below.same_on hbr)
      have S0 : Hid (∀ W, Below wr.heap.size wr W → TwoS p 2 6 (.slice la st.leases.length lc) (.slice ea es.length ec) W) := Lib.hid (fun W hW => ⟨by rw [cell_of (hmr.same (Below.same_on hW)).self]; rfl, by rw [cell_of (hmr.same (Below.same_on hW)).self]; rfl⟩)
      have CL := Lib.hid (fun W (hW : Below wr.heap.size wr W) => clone_lea (.slice la st.leases.length lc) 0 st.leases W (ownsRow_same hmr.lrow (fun k hk => hW.block k (by have := HF.out k (HM.out.flea k hk); have := hbr.size; omega))) (by omega))
      have CE := Lib.hid (fun W (hW : Below wr.heap.size wr W) => clone_off (.slice ea es.length ec) es W (hmr.erow.same (fun k hk => hW.block k (by have := HF.out k (HM.out.fent k hk); have := hbr.size; omega))) (by omega))
      have s1 : ∀ y : WIn (TwoS p 2 6 (.slice la st.leases.length lc) (.slice ea es.length ec)), y.w.cell? ⟨p, 2, none⟩ = some (.slice la st.leases.length lc) := fun y => y.h.1
      have s2 : ∀ y : WIn (TwoS p 2 6 (.slice la st.leases.length lc) (.slice ea es.length ec)), y.w.cell? ⟨p, 6, none⟩ = some (.slice ea es.length ec) := fun y => y.h.2
      haveI ne : Nonempty (WIn (TwoS p 2 6 (.slice la st.leases.length lc) (.slice ea es.length ec))) := ⟨⟨wr, S0.out wr (Below.refl _ _)⟩⟩
      clear hrg hC hbr hmc hall hl0 hc0 hmr
      go_upto_region 7 with fail
      refine wp_normal ?_
      refine wp_region_plan 13 (TwoS p 2 6 (.slice la st.leases.length lc) (.slice ea es.length ec)) rfl ?_
      have B0' : Below wr.heap.size wr wr.drew := bdrewN (Below.refl _ _) 1
      refine wpN_seg [0, 1, 2, 3, 5, 6, 7, 8] (by kernel_rfl) (by kernel_rfl) (by kernel_rfl) (by kernel_rfl) (by decide) (fun _ _ _ _ _ h => h) (S0.out _ B0') ?_
      simp only [pick, List.map_cons, List.map_nil, List.getElem?_cons_succ, List.getElem?_cons_zero, Option.getD_some]
      repeat (go_big_quiet_step (fail))
      refine wpQuiet_nil ?_
      refine wpN_one 4 _ (by kernel_rfl) rfl ?_
      refine NextAt.held ?_
      intro K hK
      go_simp
      refine (CL.out _ B0').mono ?_
      rintro e w5 ⟨v5, rfl, hr5, hb5⟩
      have B5 := B0'.trans (hb5.mono B0'.size)
      obtain ⟨a5, k5, rfl, _, _⟩ := ownsRow_sh hr5
      go_simp
      refine hK _ _ (S0.out _ B5) ?_
      clear hK K
      refine wpN_one 9 _ (by kernel_rfl) rfl ?_
      refine NextAt.held ?_
      intro K hK
      go_simp
      refine (CE.out _ B5).mono ?_
      rintro e w6 ⟨v6, rfl, hr6, hb6⟩
      have B6 := B5.trans (hb6.mono B5.size)
      obtain ⟨a6, k6, rfl, _, _⟩ := ownsRow_sh hr6
      go_simp
      refine hK _ _ (S0.out _ B6) ?_
      clear hK K
      have hm6 := HMC.out.same (Below.same_on B6)
      have g2 : w6.cell? ⟨w.heap.size, 2, none⟩ = some (.slice la st.leases.length lc) := by rw [cell_of hm6.self]; rfl
      have z2 : w6.frozen? ⟨w.heap.size, 2, none⟩ = false := free_of hm6.self 2
      have g6 : (w6.setCell ⟨w.heap.size, 2, none⟩ (.slice a5 st.leases.length k5)).cell? ⟨w.heap.size, 6, none⟩ = some (.slice ea es.length ec) := by rw [cell_of (block_setCell hm6.self 2 (.slice a5 st.leases.length k5))]; rfl
      have z6 : (w6.setCell ⟨w.heap.size, 2, none⟩ (.slice a5 st.leases.length k5)).frozen? ⟨w.heap.size, 6, none⟩ = false := free_of (block_setCell hm6.self 2 (.slice a5 st.leases.length k5)) 6
      have hs5 := B5.size
      have hs6 := hb6.size
      have hbs := HBR.out.size
      have hcl := lt_of HMC.out.self
      have hml := HMC.out.map.lt
      have FIN : Hid (RB ((w6.setCell ⟨w.heap.size, 2, none⟩ (.slice a5 st.leases.length k5)).setCell ⟨w.heap.size, 6, none⟩ (.slice a6 es.length k6)) (fun k => w.heap.size ≤ k) w.heap.size st wh ∧ Below w.heap.size w ((w6.setCell ⟨w.heap.size, 2, none⟩ (.slice a5 st.leases.length k5)).setCell ⟨w.heap.size, 6, none⟩ (.slice a6 es.length k6))) := Lib.hid (by
        have keep : ∀ k, k ≠ w.heap.size → ((w6.setCell ⟨w.heap.size, 2, none⟩ (.slice a5 st.leases.length k5)).setCell ⟨w.heap.size, 6, none⟩ (.slice a6 es.length k6)).heap[k]? = w6.heap[k]? := fun k hk => (Below.heap_setCell _ _ _ k hk).trans (Below.heap_setCell _ _ _ k hk)
        refine ⟨?_, ((HBR.out.trans (B6.mono HBR.out.size)).setCell (p := ⟨w.heap.size, 2, none⟩) (Nat.le_refl _) _).setCell (p := ⟨w.heap.size, 6, none⟩) (Nat.le_refl _) _⟩
        unfold RB
        rw [← HES.out]
        refine ⟨w.heap.size + 1, .slice a5 st.leases.length k5, .slice a6 es.length k6, D2, ?_, Nat.le_refl _, ownsMap_same hm6.map (keep _ (by omega)), by omega, hm6.tidy, hm6.size, hm6.look, hm6.has, ?_, fun k hk => ?_, ?_, fun k hk => ?_⟩
        · rw [block_setCell (block_setCell hm6.self 2 (.slice a5 st.leases.length k5)) 6 (.slice a6 es.length k6)]; rfl
        · refine row_zero (ownsRow_same hr5 (fun k hk => ?_))
          have h1 := hr5.lt k hk
          exact (keep k (by simp at h1; omega)).trans (hb6.block k h1.2)
        · have h1 := (hr5.lt k hk).1
          simp at h1; omega
        · refine OffRow.of_own (ownsRow_same hr6 (fun k hk => keep k ?_))
          have h1 := (hr6.lt k hk).1
          omega
        · have h1 := (hr6.lt k hk).1
          omega)
      have S6 := Lib.hid (S0.out _ B6)
      have S7 : Hid (TwoS p 2 6 (.slice la st.leases.length lc) (.slice ea es.length ec) (w6.setCell ⟨w.heap.size, 2, none⟩ (.slice a5 st.leases.length k5))) := Lib.hid
        ⟨(World.cell?_setCell_other _ _ _ _ (by simp)).trans S6.out.1, (World.cell?_setCell_other _ _ _ _ (by simp)).trans S6.out.2⟩
      clear hm6 hr5 hr6 hb5 hb6 B5 B6 HMC CL CE S0 s1 s2 ne
      refine wpN_one 10 _ (by kernel_rfl) rfl ?_
      refine NextAt.held ?_
      intro K hK
      go_simp
      refine hK _ _ S6.out ?_
      clear hK K
      refine wpN_one 11 _ (by kernel_rfl) rfl ?_
      refine NextAt.held ?_
      intro K hK
      go_simp
      refine hK _ _ S7.out ?_
      clear hK K
      refine wpN_one 12 _ (by kernel_rfl) rfl ?_
      refine NextAt.held ?_
      intro K hK
      go_simp
      refine hK _ _ S7.out ?_
      clear hK K
      refine wpN_one 13 _ (by kernel_rfl) rfl ?_
      refine NextAt.free (by kernel_rfl) ?_
      intro K hK
      go_simp
      refine hK _ _ ?_
      clear hK K
      refine wpN_done (by kernel_rfl) ?_
      go_wp2_with fail
      go_ret
      exact ⟨_, rfl, FIN.out.1, FIN.out.2⟩
    · intro x l h kl y ps w2 cnt2 hkey hlk hv hat hrg2 hlt hg2 hs2 hen
      obtain ⟨x', ex, rfl, hwx⟩ := Maps.keyOf_int_inv Tryz.underlying3 hkey
      cases ex
      have hy : y = .agg [.lit (.int .i64 l), .lit (.int .i64 h)] := by
        have : accElem (.agg #[.int .i64 l, .int .i64 h]) = some (.agg [.lit (.int .i64 l), .lit (.int .i64 h)], []) := rfl
        rw [this] at hv
        simp only [Option.some.injEq, Prod.mk.injEq] at hv
        exact hv.1.symm
      obtain ⟨s, hacc⟩ : ∃ s, st.acc x = some (l, h, s) := by
        have h1 := hat .nil
        rw [HM.out.look x, hy] at h1
        cases ha : st.acc x with
        | none => rw [ha] at h1; simp [accAt] at h1
        | some a =>
          obtain ⟨l', h', s⟩ := a
          rw [ha] at h1
          simp only [accAt, DataW.agg.injEq, List.cons.injEq, DataW.lit.injEq, Lit.int.injEq, true_and, and_true] at h1
          obtain ⟨rfl, rfl⟩ := h1
          exact ⟨s, rfl⟩
      have ho := (HG.out.own x l h s hacc).1
      have B2 := Lib.hid (hbr.grown hg2 hbr.size (fun k e => by cases e; have := HSZ1.out; omega))
      have hC2 := hC.step (x := x) (by rw [hacc]; rfl) hlk
      have hmbr := hmc.map.lt
      have hm2 := hmc.same (w' := w2) (fun k hk hlt' => hg2.block k hlt' (fun e => by cases e; have hz := HSZ1.out; exact hk.elim (fun h1 => by have := HF.out _ h1; omega) (fun h1 => by omega)))
      have hm3 := hm2.same (w' := w2.alloc (.cells #[.int .i64 l, .int .i64 h] 170)) (fun k _ hlt' => heap_alloc_old _ _ hlt')
      have hwf : (Lit.int .i64 x).wf = true := WalkArith.wf_i64 (by omega)
      obtain ⟨w4, h1, h2, h3⟩ := hm3.map.update (t := 63) intKey Tryz.underlying63 (by unfold maxLen; omega) (Maps.keyOf_int_mk Tryz.underlying3 hwf) (val := .agg #[.int .i64 l, .int .i64 h]) (d := .agg [.lit (.int .i64 l), .lit (.int .i64 h)]) (ps := []) rfl
      obtain ⟨⟨D4, hm4⟩, ht4⟩ := hm3.putMem x l h s ho h2 h3
      have est : ({ st with acc := accIn st ss } : BookSt).put x (some (l, h, s)) = { st with acc := accIn st (ss ++ [x]) } := by
        rw [accIn_snoc, hacc]; rfl
      rw [est] at hm4
      have hlt2 := ranges_lt hrg2
      have hrg4 : w4.ranges Tryz.prog 3 accElem mb W1.heap.size 40 D (fun z => left z && !z.sameKey (.int .i64 x)) cnt2 :=
        ranges_same hrg2 ((h3.block mb (by simp; omega) (fun e => by simp at e; omega)).trans (heap_alloc_old _ _ hlt2.1)) ((h3.block W1.heap.size (by have := hlt2.2; simp; omega) (fun e => by simp at e; have := HSZ1.out; omega)).trans (heap_alloc_old _ _ hlt2.2))
      have REL : Hid (RefMem w4 (fun k => F k ∨ k = w.heap.size ∨ k = w.heap.size + 1) w.heap.size { st with acc := accIn st (ss ++ [x]) } es wh 40 (w.heap.size + 1) (.slice la st.leases.length lc) (.slice ea es.length ec) D4 ∧ w4.ranges Tryz.prog 3 accElem mb W1.heap.size 40 D (fun z => left z && !z.sameKey (.int .i64 x)) cnt2 ∧ CameR st (fun z => left z && !z.sameKey (.int .i64 x)) (ss ++ [x]) ∧ Below w.heap.size w w4 ∧ w4.rangeLeft mb W1.heap.size < wr.rangeLeft mb W1.heap.size) :=
        Lib.hid ⟨hm4, hrg4, hC2, (B2.out.alloc B2.out.size _).grown h3 (by have := B2.out.size; simp; omega) (fun k e => by cases e; have := HSZ1.out; omega), by rw [hrg4.left_eq, hrg.left_eq]; exact hlt⟩
      have c1 : (w2.alloc (.cells #[.int .i64 l, .int .i64 h] 170)).cell? ⟨w.heap.size, 1, none⟩ = some (.map (some (w.heap.size + 1))) := by rw [cell_of hm3.self]; rfl
      clear hs2 hat hv hy hkey hacc hbr hm2 hm3 hm4 hrg4 hC2 hC hrg hrg2 hlt hg2 ht4 h2 h3 hlt2 hmc hlk est
      go_wp2_with fail
      go_roundw
      case rel => exact ⟨_, cnt2, ss ++ [x], D4, REL.out.1, REL.out.2.1, REL.out.2.2.1, REL.out.2.2.2.1⟩
      case measure => exact REL.out.2.2.2.2

end Go.Proofs.YtfgpophbgjeefaaGreat
