/-
  The program's book: Copy. No conditions but what always holds of a book.
-/
import Derived.Test.YtfgpophbgjeefaaGreatLedgerRunsPbr
import Derived.Test.YtfgpophbgjeefaaGreatLedgerRunsPal
namespace Go.Proofs.YtfgpophbgjeefaaGreat
open Go.RowKit Go.Maps
set_option linter.unusedVariables false

def BookCopyB (st : BookSt) (w : World) : Ending → World → Prop := fun e w' =>
  ∃ q, e = .returned (.pointer (some ⟨q, 0, none⟩)) ∧ BookAt w' (fun k => w.heap.size ≤ k) q st 40 ∧ Below w.heap.size w w'

/-- The accounts that have come, as blocks of their own. -/
structure CopyAt (w : World) (B mb2 : Nat) (st : BookSt) (ss : List Int) (blk2 : Int → Option Nat) (D2 : DataW Unit) : Prop where
  map : w.ownsMap Tryz.prog 3 ptrElem mb2 ss.length D2
  look : ∀ o z, D2.atKey (.int .i64 o) z = ptrZ (blk2 o) z
  none_ : ∀ o, blk2 o = none ↔ accIn st ss o = none
  some_ : ∀ o b, blk2 o = some b → ∃ l h s, accIn st ss o = some (l, h, s) ∧ w.heap[b]? = some (.cells #[.int .i64 l, .int .i64 h, .int .i64 s] 167 (0, 0)) ∧ B ≤ b
  inj : ∀ o o' b, blk2 o = some b → blk2 o' = some b → o = o'

theorem CopyAt.same {w w' : World} {B mb2 : Nat} {st : BookSt} {ss : List Int} {blk2 : Int → Option Nat} {D2 : DataW Unit} (h : CopyAt w B mb2 st ss blk2 D2) (hm : w'.heap[mb2]? = w.heap[mb2]?) (hb : ∀ k cur, w.heap[k]? = some (.cells cur 167 (0, 0)) → B ≤ k → w'.heap[k]? = w.heap[k]?) : CopyAt w' B mb2 st ss blk2 D2 :=
  ⟨ownsMap_same h.map hm, h.look, h.none_, fun o b e => by
    obtain ⟨l, x, s, h1, h2, h3⟩ := h.some_ o b e
    exact ⟨l, x, s, h1, (hb b _ h2 h3).trans h2, h3⟩, h.inj⟩

/-- One account more: a new block, and its pointer in the map. -/
theorem CopyAt.put {w w' : World} {B mb2 : Nat} {st : BookSt} {ss : List Int} {blk2 : Int → Option Nat} {D2 : DataW Unit} (h : CopyAt w B mb2 st ss blk2 D2) {x l y s : Int} (hacc : st.acc x = some (l, y, s)) (hx : x ∉ ss) (hB : B ≤ w.heap.size)
    (hm : w'.ownsMap Tryz.prog 3 ptrElem mb2 (ss.length + 1) (D2.put (.int .i64 x) (.lit (.int .i64 (w.heap.size : Int)))))
    (hg : (w.alloc (.cells #[.int .i64 l, .int .i64 y, .int .i64 s] 167)).grownBy w' (some mb2)) :
    CopyAt w' B mb2 st (ss ++ [x]) (fun o => if o = x then some w.heap.size else blk2 o) (D2.put (.int .i64 x) (.lit (.int .i64 (w.heap.size : Int)))) := by
  have hk : ∀ k, k < w.heap.size → k ≠ mb2 → w'.heap[k]? = w.heap[k]? := fun k hk hne => (hg.block k (by simp; omega) (fun e => hne (by simpa using e))).trans (heap_alloc_old w _ hk)
  have hmap : Maps.IsMap D2 := by obtain ⟨_, _, _, _, _, hD⟩ := h.map; exact ⟨_, hD⟩
  have notmb : ∀ b cur t, w.heap[b]? = some (.cells cur t (0, 0)) → b ≠ mb2 := by
    intro b cur t hb e
    subst e
    obtain ⟨xs, clock, hx, _⟩ := h.map
    rw [hb] at hx; simp at hx
  refine ⟨by rw [List.length_append]; exact hm, ?_, ?_, ?_, ?_⟩
  · intro o z
    by_cases e : o = x
    · subst e
      rw [Maps.atKey_put_same hmap (isLit o), if_pos rfl]
      rfl
    · rw [Maps.atKey_put_other (lit_ne e), if_neg e]
      exact h.look o z
  · intro o
    rw [accIn_snoc]
    by_cases e : o = x
    · simp [e, hacc]
    · simp only [if_neg e]; exact h.none_ o
  · intro o b hb
    rw [accIn_snoc]
    by_cases e : o = x
    · subst e
      have hb' : some w.heap.size = some b := by simpa using hb
      cases hb'
      refine ⟨l, y, s, by simp [hacc], ?_, hB⟩
      rw [hg.block w.heap.size (by simp) (fun e => ?_)]
      · exact heap_alloc_new w _
      · have := h.map.lt; simp only [Option.some.injEq] at e; omega
    · simp only [if_neg e] at hb ⊢
      obtain ⟨l', x', s', h1, h2, h3⟩ := h.some_ o b hb
      exact ⟨l', x', s', h1, (hk b (lt_of h2) (notmb _ _ _ h2)).trans h2, h3⟩
  · intro o o' b ho ho'
    by_cases e : o = x
    · by_cases e' : o' = x
      · rw [e, e']
      · exfalso
        simp only [if_pos e, Option.some.injEq] at ho
        simp only [if_neg e'] at ho'
        obtain ⟨_, _, _, _, h2, _⟩ := h.some_ o' b ho'
        have := lt_of h2
        omega
    · by_cases e' : o' = x
      · exfalso
        simp only [if_pos e', Option.some.injEq] at ho'
        simp only [if_neg e] at ho
        obtain ⟨_, _, _, _, h2, _⟩ := h.some_ o b ho
        have := lt_of h2
        omega
      · simp only [if_neg e, if_neg e'] at ho ho'
        exact h.inj o o' b ho ho'

set_option maxHeartbeats 8000000 in
set_option maxRecDepth 100000 in
theorem copyB_any (p : Nat) (w : World) (F : Nat → Prop) (st : BookSt) (N : Nat) (hb : BookAt w F p st N) (hF : ∀ k, F k → k < w.heap.size) (g : Good st) :
    Calls Tryz.prog 35 #[.pointer (some ⟨p, 0, none⟩)] w (BookCopyB st w) := by
  have HG := Lib.hid g
  have HF := Lib.hid hF
  have hlen := g.leaLen
  have hen2 := g.ents
  have hmm := @run_makeMap Tryz.prog
  obtain ⟨mb, blk, lv, ev, D, hm⟩ := hb
  obtain ⟨la, lc, rfl, hl1, hl2⟩ := ownsRow_sh hm.lrow
  obtain ⟨ea, ec, rfl, he1, he2⟩ := ownsRow_sh hm.erow
  have HM := Lib.hid hm
  have c0 : w.cell? ⟨p, 0, none⟩ = some (.int .i64 st.budget) := by rw [cell_of hm.self]; rfl
  have c1 : w.cell? ⟨p, 1, none⟩ = some (.int .i64 st.total) := by rw [cell_of hm.self]; rfl
  have c2 : w.cell? ⟨p, 2, none⟩ = some (.int .i64 st.time) := by rw [cell_of hm.self]; rfl
  have c3 : w.cell? ⟨p, 3, none⟩ = some (.int .i64 st.last) := by rw [cell_of hm.self]; rfl
  have c4 : w.cell? ⟨p, 4, none⟩ = some (.map (some mb)) := by rw [cell_of hm.self]; rfl
  have c5 : w.cell? ⟨p, 5, none⟩ = some (.slice la st.leases.length lc) := by rw [cell_of hm.self]; rfl
  have c6 : w.cell? ⟨p, 6, none⟩ = some (.slice ea st.entries.length ec) := by rw [cell_of hm.self]; rfl
  have hpl := lt_of hm.self
  have hmbl := hm.map.lt
  clear hm g hF
  have B1 : Below w.heap.size w ((w.alloc (.cells #[.int .i64 st.budget, .int .i64 st.total, .int .i64 st.time, .int .i64 st.last, .map (some (w.heap.size + 1)), .slice la st.leases.length lc, .slice ea st.entries.length ec] 130)).alloc (.map #[] 0)) := ((Below.refl _ w).alloc (Nat.le_refl _) _).alloc (by simp) _
  have hself := (heap_alloc_old (w.alloc (.cells #[.int .i64 st.budget, .int .i64 st.total, .int .i64 st.time, .int .i64 st.last, .map (some (w.heap.size + 1)), .slice la st.leases.length lc, .slice ea st.entries.length ec] 130)) (.map #[] 0) (r := w.heap.size) (by simp)).trans (heap_alloc_new w _)
  have hmap1 : ((w.alloc (.cells #[.int .i64 st.budget, .int .i64 st.total, .int .i64 st.time, .int .i64 st.last, .map (some (w.heap.size + 1)), .slice la st.leases.length lc, .slice ea st.entries.length ec] 130)).alloc (.map #[] 0)).ownsMap Tryz.prog 3 ptrElem (w.heap.size + 1) 0 (.map [] : DataW Unit) := by
    have h0 := World.ownsMap_made (H := Unit) (w.alloc (.cells #[.int .i64 st.budget, .int .i64 st.total, .int .i64 st.time, .int .i64 st.last, .map (some (w.heap.size + 1)), .slice la st.leases.length lc, .slice ea st.entries.length ec] 130)) Tryz.prog 3 ptrElem
    simp only [World.size_alloc] at h0
    exact h0
  have hsz1 : ((w.alloc (.cells #[.int .i64 st.budget, .int .i64 st.total, .int .i64 st.time, .int .i64 st.last, .map (some (w.heap.size + 1)), .slice la st.leases.length lc, .slice ea st.entries.length ec] 130)).alloc (.map #[] 0)).heap.size = w.heap.size + 2 := by simp
  have B1 := Lib.hid B1
  have HSELF := Lib.hid hself
  have HMAP1 := Lib.hid hmap1
  have HSZ1 := Lib.hid hsz1
  clear hself hmap1 hsz1
  go_enter Tryz.func35, Tryz.ntmps35
  go_upto_region 3 with fail
  generalize ((w.alloc (.cells #[.int .i64 st.budget, .int .i64 st.total, .int .i64 st.time, .int .i64 st.last, .map (some (w.heap.size + 1)), .slice la st.leases.length lc, .slice ea st.entries.length ec] 130)).alloc (.map #[] 0)) = W1 at *
  have hself1 : W1.heap[w.heap.size]? = some (.cells (bookCells st (w.heap.size + 1) (.slice la st.leases.length lc) (.slice ea st.entries.length ec)) 130 (0, 0)) := HSELF.out.trans rfl
  have hm1 : CopyAt W1 w.heap.size (w.heap.size + 1) st [] (fun _ => none) (.map []) :=
    ⟨HMAP1.out, fun o z => rfl, fun o => by simp [accIn], fun o b e => by simp at e, fun o o' b e => by simp at e⟩
  have HM1 := Lib.hid hm1
  have HS1 := Lib.hid hself1
  have d1 : W1.cell? ⟨p, 4, none⟩ = some (.map (some mb)) := old_cell B1.out c4
  have hown : W1.ownsMap Tryz.prog 3 ptrElem mb N D := ownsMap_same HM.out.map (B1.out.block mb hmbl)
  clear hm1 c0 c1 c2 c3 c4 HSELF HMAP1 hself1
  go_wp2_with (first
    | (at_range; refine wpList_range_own _ rfl _ 128 rfl 3 165 intKey Tryz.underlying128 ptrElem mb N D rfl hown ?_; intro w0 hrg0 hg0 hs0)
    | fail)
  have hb0 : Below w.heap.size w w0 := B1.out.grown hg0 B1.out.size (fun k e => by cases e)
  have hsz := HSZ1.out
  have hm0 : Hid (CopyAt w0 w.heap.size (w.heap.size + 1) st [] (fun _ => none) (.map [])) := Lib.hid (HM1.out.same (hg0.block _ (by omega) (fun e => by cases e)) (fun k cur hk _ => hg0.block k (lt_of hk) (fun e => by cases e)))
  have hself0 : Hid (w0.heap[w.heap.size]? = some (.cells (bookCells st (w.heap.size + 1) (.slice la st.leases.length lc) (.slice ea st.entries.length ec)) 130 (0, 0))) := Lib.hid ((hg0.block _ (by omega) (fun e => by cases e)).trans HS1.out)
  have HRG0 := Lib.hid hrg0
  have HB0 := Lib.hid hb0
  clear hrg0 hg0 hs0 hb0 hown d1 hsz
  go_frame
  go_loopw [4, 5] (fun _ _ wr => ∃ (left : Lit → Bool) (cnt : Nat) (ss : List Int) (blk2 : Int → Option Nat) (D2 : DataW Unit), CopyAt wr w.heap.size (w.heap.size + 1) st ss blk2 D2 ∧ wr.heap[w.heap.size]? = some (.cells (bookCells st (w.heap.size + 1) (.slice la st.leases.length lc) (.slice ea st.entries.length ec)) 130 (0, 0)) ∧ wr.ranges Tryz.prog 3 ptrElem mb W1.heap.size N D left cnt ∧ CameR st left ss ∧ Below w.heap.size w wr)
    (fun _ _ wr => wr.rangeLeft mb W1.heap.size)
  case atStart =>
    exact ⟨_, _, [], _, _, hm0.out, hself0.out, HRG0.out, ⟨List.nodup_nil, fun x => by rw [HM.out.has x]; cases (st.acc x).isSome <;> simp⟩, HB0.out⟩
  case round =>
    obtain ⟨left, cnt, ss, blk2, D2, hmc, hsf, hrg, hC, hbr⟩ := hrel
    have HBR := Lib.hid hbr
    have HMC := Lib.hid hmc
    have HSF := Lib.hid hsf
    have hss := hC.len HG.out.e
    go_wp2_with (first
      | (at_next; refine wpList_next_ranges _ rfl _ rfl 3 intKey ptrElem (fun x : Int => .int .i64 x) (fun c : Option Nat => ptrOf c) (fun key kl hkey => by obtain ⟨x, rfl, _⟩ := Maps.keyOf_int_inv Tryz.underlying3 hkey; exact ⟨x, rfl⟩) (fun v y hv => ptrElem_shape hv) mb W1.heap.size N D _ _ rfl hrg ?_ ?_)
      | fail)
    · intro hc0 hl0
      have hall : accIn st ss = st.acc := accIn_all st ss (fun x hx => (hC.2 x).2 ⟨hx, hl0 _⟩)
      have HALL := Lib.hid hall
      have HSS := Lib.hid hss
      have hmr := HM.out.same (Below.same_on hbr)
      have S0 : Hid (∀ W, Below wr.heap.size wr W → TwoS p 5 6 (.slice la st.leases.length lc) (.slice ea st.entries.length ec) W) := Lib.hid (fun W hW => ⟨by rw [cell_of (hmr.same (Below.same_on hW)).self]; rfl, by rw [cell_of (hmr.same (Below.same_on hW)).self]; rfl⟩)
      have CL := Lib.hid (fun W (hW : Below wr.heap.size wr W) => clone_lea (.slice la st.leases.length lc) 0 st.leases W (ownsRow_same hmr.lrow (fun k hk => hW.block k (by have := HF.out k (HM.out.flea k hk); have := hbr.size; omega))) (by omega))
      have CE := Lib.hid (fun W (hW : Below wr.heap.size wr W) => clone_off (.slice ea st.entries.length ec) st.entries W (OffRow.of_own (ownsRow_same hmr.erow (fun k hk => hW.block k (by have := HF.out k (HM.out.fent k hk); have := hbr.size; omega)))) (by omega))
      have s1 : ∀ y : WIn (TwoS p 5 6 (.slice la st.leases.length lc) (.slice ea st.entries.length ec)), y.w.cell? ⟨p, 5, none⟩ = some (.slice la st.leases.length lc) := fun y => y.h.1
      have s2 : ∀ y : WIn (TwoS p 5 6 (.slice la st.leases.length lc) (.slice ea st.entries.length ec)), y.w.cell? ⟨p, 6, none⟩ = some (.slice ea st.entries.length ec) := fun y => y.h.2
      haveI ne : Nonempty (WIn (TwoS p 5 6 (.slice la st.leases.length lc) (.slice ea st.entries.length ec))) := ⟨⟨wr, S0.out wr (Below.refl _ _)⟩⟩
      clear hrg hC hbr hmc hall hl0 hc0 hmr hsf hss
      go_upto_region 8 with fail
      refine wp_normal ?_
      refine wp_region_plan 13 (TwoS p 5 6 (.slice la st.leases.length lc) (.slice ea st.entries.length ec)) rfl ?_
      have B0' : Below wr.heap.size wr wr.drew := bdrewN (Below.refl _ _) 1
      refine wpN_seg [0, 1, 2, 3, 5, 6, 7, 8] (by kernel_rfl) (by kernel_rfl) (by kernel_rfl) (by kernel_rfl) (by decide) (fun _ _ _ _ _ h => h) (S0.out _ B0') ?_
      simp only [pick, List.map_cons, List.map_nil, List.getElem?_cons_succ, List.getElem?_cons_zero, Option.getD_some]
      repeat (go_big_quiet_step (fail))
      refine wpQuiet_nil ?_
      refine wpN_one 4 _ (by kernel_rfl) rfl ?_
      refine NextAt.held ?_
      intro K hK
      go_simp
      refine (CL.out _ B0').mono ?_
      rintro e w5 ⟨v5, rfl, hr5, hb5⟩
      have B5 := B0'.trans (hb5.mono B0'.size)
      obtain ⟨a5, k5, rfl, _, _⟩ := ownsRow_sh hr5
      go_simp
      refine hK _ _ (S0.out _ B5) ?_
      clear hK K
      refine wpN_one 9 _ (by kernel_rfl) rfl ?_
      refine NextAt.held ?_
      intro K hK
      go_simp
      refine (CE.out _ B5).mono ?_
      rintro e w6 ⟨v6, rfl, hr6, hb6⟩
      have B6 := B5.trans (hb6.mono B5.size)
      obtain ⟨a6, k6, rfl, _, _⟩ := ownsRow_sh hr6
      go_simp
      refine hK _ _ (S0.out _ B6) ?_
      clear hK K
      have hb16 := B6
      have hmc6 := HMC.out.same (w' := w6) (B6.block _ HMC.out.map.lt) (fun k cur hk _ => B6.block k (lt_of hk))
      have hsf6 := (B6.block _ (lt_of HSF.out)).trans HSF.out
      have g2 : w6.cell? ⟨w.heap.size, 5, none⟩ = some (.slice la st.leases.length lc) := by rw [cell_of hsf6]; rfl
      have z2 : w6.frozen? ⟨w.heap.size, 5, none⟩ = false := free_of hsf6 5
      have g6 : (w6.setCell ⟨w.heap.size, 5, none⟩ (.slice a5 st.leases.length k5)).cell? ⟨w.heap.size, 6, none⟩ = some (.slice ea st.entries.length ec) := by rw [cell_of (block_setCell hsf6 5 (.slice a5 st.leases.length k5))]; rfl
      have z6 : (w6.setCell ⟨w.heap.size, 5, none⟩ (.slice a5 st.leases.length k5)).frozen? ⟨w.heap.size, 6, none⟩ = false := free_of (block_setCell hsf6 5 (.slice a5 st.leases.length k5)) 6
      have hs5 := B5.size
      have hs6 := hb6.size
      have hbs := HBR.out.size
      have hcl := lt_of HSF.out
      have hml := HMC.out.map.lt
      have FIN : Hid (BookAt ((w6.setCell ⟨w.heap.size, 5, none⟩ (.slice a5 st.leases.length k5)).setCell ⟨w.heap.size, 6, none⟩ (.slice a6 st.entries.length k6)) (fun k => w.heap.size ≤ k) w.heap.size st 40 ∧ Below w.heap.size w ((w6.setCell ⟨w.heap.size, 5, none⟩ (.slice a5 st.leases.length k5)).setCell ⟨w.heap.size, 6, none⟩ (.slice a6 st.entries.length k6))) := Lib.hid (by
        have keep : ∀ k, k ≠ w.heap.size → ((w6.setCell ⟨w.heap.size, 5, none⟩ (.slice a5 st.leases.length k5)).setCell ⟨w.heap.size, 6, none⟩ (.slice a6 st.entries.length k6)).heap[k]? = w6.heap[k]? := fun k hk => (Below.heap_setCell _ _ _ k hk).trans (Below.heap_setCell _ _ _ k hk)
        refine ⟨?_, ((HBR.out.trans (B6.mono HBR.out.size)).setCell (p := ⟨w.heap.size, 5, none⟩) (Nat.le_refl _) _).setCell (p := ⟨w.heap.size, 6, none⟩) (Nat.le_refl _) _⟩
        refine ⟨w.heap.size + 1, blk2, .slice a5 st.leases.length k5, .slice a6 st.entries.length k6, D2, ?_, Nat.le_refl _, (ownsMap_same hmc6.map (keep _ (by omega))).mono (by have := HSS.out; omega), by omega, hmc6.look, fun o => by rw [hmc6.none_, HALL.out], fun o b e => ?_, hmc6.inj, ?_, fun k hk => ?_, ?_, fun k hk => ?_⟩
        · rw [block_setCell (block_setCell hsf6 5 (.slice a5 st.leases.length k5)) 6 (.slice a6 st.entries.length k6)]; rfl
        · obtain ⟨l, x, s, h1, h2, h3⟩ := hmc6.some_ o b e
          rw [HALL.out] at h1
          refine ⟨l, x, s, h1, (keep b (fun e => ?_)).trans h2, h3⟩
          subst e
          rw [hsf6] at h2
          simp [bookCells] at h2
        · refine row_zero (ownsRow_same hr5 (fun k hk => ?_))
          have h1 := hr5.lt k hk
          exact (keep k (by simp at h1; omega)).trans (hb6.block k h1.2)
        · have h1 := (hr5.lt k hk).1
          simp at h1; omega
        · refine row_zero (ownsRow_same hr6 (fun k hk => keep k ?_))
          have h1 := (hr6.lt k hk).1
          omega
        · have h1 := (hr6.lt k hk).1
          omega)
      have S6 := Lib.hid (S0.out _ B6)
      have S7 : Hid (TwoS p 5 6 (.slice la st.leases.length lc) (.slice ea st.entries.length ec) (w6.setCell ⟨w.heap.size, 5, none⟩ (.slice a5 st.leases.length k5))) := Lib.hid
        ⟨(World.cell?_setCell_other _ _ _ _ (by simp)).trans S6.out.1, (World.cell?_setCell_other _ _ _ _ (by simp)).trans S6.out.2⟩
      clear hmc6 hsf6 hb16 hr5 hr6 hb5 hb6 B5 B6 HMC CL CE S0 s1 s2 ne
      refine wpN_one 10 _ (by kernel_rfl) rfl ?_
      refine NextAt.held ?_
      intro K hK
      go_simp
      refine hK _ _ S6.out ?_
      clear hK K
      refine wpN_one 11 _ (by kernel_rfl) rfl ?_
      refine NextAt.held ?_
      intro K hK
      go_simp
      refine hK _ _ S7.out ?_
      clear hK K
      refine wpN_one 12 _ (by kernel_rfl) rfl ?_
      refine NextAt.held ?_
      intro K hK
      go_simp
      refine hK _ _ S7.out ?_
      clear hK K
      refine wpN_one 13 _ (by kernel_rfl) rfl ?_
      refine NextAt.free (by kernel_rfl) ?_
      intro K hK
      go_simp
      refine hK _ _ ?_
      clear hK K
      refine wpN_done (by kernel_rfl) ?_
      go_wp2_with fail
      go_ret
      exact ⟨_, rfl, FIN.out.1, FIN.out.2⟩
    · intro x c kl y ps w2 cnt2 hkey hlk hv hat hrg2 hlt hg2 hs2 hen
      obtain ⟨x', ex, rfl, hwx⟩ := Maps.keyOf_int_inv Tryz.underlying3 hkey
      cases ex
      have hacc1 : (st.acc x).isSome = true := by
        rw [← HM.out.has x]
        exact has_true_of_atKey hat
      obtain ⟨b, hbk⟩ : ∃ b, blk x = some b := by
        cases hb : blk x with
        | none => rw [(HM.out.anone x).1 hb] at hacc1; cases hacc1
        | some b => exact ⟨b, rfl⟩
      obtain ⟨l, h, s, hacc, hblk, hFb⟩ := HM.out.asome x b hbk
      have hcb : c = some b := by
        have h1 := hat .nil
        rw [HM.out.look x, hbk] at h1
        cases c with
        | none =>
          simp only [ptrOf, ptrElem, Option.some.injEq, Prod.mk.injEq] at hv
          rw [← hv.1] at h1
          simp [ptrZ] at h1
        | some b' =>
          simp only [ptrOf, ptrElem, Option.some.injEq, Prod.mk.injEq] at hv
          rw [← hv.1] at h1
          simp only [ptrZ, DataW.lit.injEq, Lit.int.injEq, true_and] at h1
          congr 1
          omega
      subst hcb
      have ho := (HG.out.own x l h s hacc).1
      have hxs : x ∉ ss := fun hx => by
        have := ((hC.2 x).1 hx).2
        rw [hlk] at this; cases this
      have hbl := HF.out b hFb
      have B2 := Lib.hid (hbr.grown hg2 hbr.size (fun k e => by cases e; have := HSZ1.out; omega))
      have hC2 := hC.step (x := x) hacc1 hlk
      have hmbr := hmc.map.lt
      obtain ⟨wk, hwk, hwk2⟩ := hrg.iter_walk
      have hm2 := hmc.same (w' := w2) (hg2.block _ hmbr (fun e => by have e := Option.some.inj e; have := HSZ1.out; omega)) (fun k cur hk _ => hg2.block k (lt_of hk) (fun e => by
        cases e
        rw [hk] at hwk
        cases hwk
        simp [Obj.isWalk] at hwk2))
      have hsf2 : w2.heap[w.heap.size]? = some (.cells (bookCells st (w.heap.size + 1) (.slice la st.leases.length lc) (.slice ea st.entries.length ec)) 130 (0, 0)) := (hg2.block _ (lt_of hsf) (fun e => by have e := Option.some.inj e; have := HSZ1.out; omega)).trans hsf
      have hblk2 : w2.heap[b]? = some (.cells #[.int .i64 l, .int .i64 h, .int .i64 s] 167 (0, 0)) := (B2.out.block b hbl).trans hblk
      have e0 : w2.cell? ⟨b, 0, none⟩ = some (.int .i64 l) := by rw [cell_of hblk2]; rfl
      have e1 : w2.cell? ⟨b, 1, none⟩ = some (.int .i64 h) := by rw [cell_of hblk2]; rfl
      have e2 : w2.cell? ⟨b, 2, none⟩ = some (.int .i64 s) := by rw [cell_of hblk2]; rfl
      have hwf : (Lit.int .i64 x).wf = true := WalkArith.wf_i64 (by omega)
      have hown3 : (w2.alloc (.cells #[.int .i64 l, .int .i64 h, .int .i64 s] 167)).ownsMap Tryz.prog 3 ptrElem (w.heap.size + 1) ss.length D2 := hm2.map.alloc _
      obtain ⟨w4, h1, h2, h3⟩ := hown3.update (t := 128) intKey Tryz.underlying128 (by unfold maxLen; omega) (Maps.keyOf_int_mk Tryz.underlying3 hwf) (val := .pointer (some ⟨w2.heap.size, 0, none⟩)) (d := .lit (.int .i64 (w2.heap.size : Int))) (ps := []) rfl
      have hm4 := hm2.put hacc hxs B2.out.size h2 h3
      have hlt2 := ranges_lt hrg2
      have hrg4 : w4.ranges Tryz.prog 3 ptrElem mb W1.heap.size N D (fun z => left z && !z.sameKey (.int .i64 x)) cnt2 :=
        ranges_same hrg2 ((h3.block mb (by simp; omega) (fun e => by simp at e; omega)).trans (heap_alloc_old _ _ hlt2.1)) ((h3.block W1.heap.size (by have := hlt2.2; simp; omega) (fun e => by simp at e; have := HSZ1.out; omega)).trans (heap_alloc_old _ _ hlt2.2))
      have hsf4 := (h3.block w.heap.size (by have := lt_of hsf2; simp; omega) (fun e => by simp at e)).trans ((heap_alloc_old w2 (.cells #[.int .i64 l, .int .i64 h, .int .i64 s] 167) (lt_of hsf2)).trans hsf2)
      have REL : Hid (CopyAt w4 w.heap.size (w.heap.size + 1) st (ss ++ [x]) (fun o => if o = x then some w2.heap.size else blk2 o) (D2.put (.int .i64 x) (.lit (.int .i64 (w2.heap.size : Int)))) ∧ w4.heap[w.heap.size]? = some (.cells (bookCells st (w.heap.size + 1) (.slice la st.leases.length lc) (.slice ea st.entries.length ec)) 130 (0, 0)) ∧ w4.ranges Tryz.prog 3 ptrElem mb W1.heap.size N D (fun z => left z && !z.sameKey (.int .i64 x)) cnt2 ∧ CameR st (fun z => left z && !z.sameKey (.int .i64 x)) (ss ++ [x]) ∧ Below w.heap.size w w4 ∧ w4.rangeLeft mb W1.heap.size < wr.rangeLeft mb W1.heap.size) :=
        Lib.hid ⟨hm4, hsf4, hrg4, hC2, (B2.out.alloc B2.out.size _).grown h3 (by have := B2.out.size; simp; omega) (fun k e => by cases e; have := HSZ1.out; omega), by rw [hrg4.left_eq, hrg.left_eq]; exact hlt⟩
      have c1 : (w2.alloc (.cells #[.int .i64 l, .int .i64 h, .int .i64 s] 167)).cell? ⟨w.heap.size, 4, none⟩ = some (.map (some (w.heap.size + 1))) := by rw [cell_of ((heap_alloc_old w2 _ (lt_of hsf2)).trans hsf2)]; rfl
      clear hs2 hat hv hkey hacc hbr hm2 hm4 hrg4 hC2 hC hrg hrg2 hlt hg2 h2 h3 hlt2 hmc hlk hsf4 hsf hsf2 hblk2 hown3 hacc1 hbk hblk hwk hwk2 hxs
      unfold ptrOf at hen
      go_wp2_with fail
      go_roundw
      case rel => exact ⟨_, cnt2, ss ++ [x], _, _, REL.out.1, REL.out.2.1, REL.out.2.2.1, REL.out.2.2.2.1, REL.out.2.2.2.2.1⟩
      case measure => exact REL.out.2.2.2.2.2

end Go.Proofs.YtfgpophbgjeefaaGreat
