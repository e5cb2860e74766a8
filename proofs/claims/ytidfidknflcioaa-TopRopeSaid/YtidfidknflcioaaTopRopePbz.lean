/-
  Split of a rope. Conditions: numbers in their bounds.
-/
import Derived.Test.YtidfidknflcioaaTopRopePby
import Derived.Deep.Cut
import Derived.Deep.CutRange
import Derived.Deep.DeepCutAuto
namespace Go.Proofs.Ytidfidknflcioaa
open Go.RowKit
set_option linter.unusedVariables false

def SplitPost (r : RS) (q : Int) (w : World) : Ending → World → Prop := fun e w' =>
  if 0 ≤ q ∧ q ≤ (totS r.sz).1 then
    if splE r.I.p r.sz q.toNat = 0 then ∃ n L1 L2 v1 v2 F' G' b', e = .returned (.tuple #[.pointer (some ⟨n, 0, none⟩), .int .i64 0]) ∧ w.heap.size ≤ n ∧ Two w' r.I n L1 L2 v1 v2 F' G' b' ∧ (L1.map Lm.lc, L2.map Lm.lc) = splitC r.I.p r.lc q.toNat ∧ (∀ k, F' k ∨ G' k → r.T k ∨ w.heap.size ≤ k) ∧ Touch r.T w w'
    else e = .returned (.tuple #[.pointer none, .int .i64 (splE r.I.p r.sz q.toNat)]) ∧ ∃ r' : RS, r'.I = r.I ∧ r'.At w' ∧ r'.lc = r.lc ∧ (∀ k, r'.T k → r.T k ∨ w.heap.size ≤ k) ∧ Touch r.T w w'
  else e = .returned (.tuple #[.pointer none, .int .i64 2]) ∧ Below w.heap.size w w'

theorem RS.At.widen {r : RS} {w : World} (h : r.At w) {F : Nat → Prop} (hF : ∀ k, r.F k → F k) (hG : ∀ k, F k → ¬ r.G k) (hl : ∀ k, F k → k < w.heap.size) : ({ r with F := F } : RS).At w :=
  ⟨h.rm.wider hF, h.bk, hG, hl, h.gl, h.own, h.pok, h.acc, h.bud, h.tot, h.ent, h.room, h.oct, h.each⟩

set_option maxHeartbeats 8000000 in
set_option maxRecDepth 100000 in
theorem split_rs (r : RS) (q : Int) (w : World) (h : r.At w) : Calls Try.prog 14 #[.pointer (some ⟨r.I.r, 0, none⟩), .int .i64 q] w (SplitPost r q w) := by
  have h60 : r.L.length ≤ 60000 := by have := h.len; omega
  have B0 : Below w.heap.size w (w.alloc (.cells #[.int .i64 q] 3)) := (Below.refl w.heap.size w).alloc (Nat.le_refl _) _
  have BT := Lib.hid (between_any r.I r.L r.lv r.F q q (w.alloc (.cells #[.int .i64 q] 3)) (h.rm.below B0) h60 h.szok (by have := h.oct; omega))
  obtain ⟨N, hN⟩ : ∃ N, (totS (r.L.map Lm.sz)).1 = N := ⟨_, rfl⟩
  have hoct := h.oct
  rw [hN] at BT hoct
  have x3 : (w.alloc (.cells #[.int .i64 q] 3)).cell? ⟨w.heap.size, 0, none⟩ = some (.int .i64 q) := by rw [cell_of (heap_alloc_new w _)]; rfl
  have HN := Lib.hid (show (totS r.sz).1 = N from hN)
  have H := Lib.hid h
  have HB0 := Lib.hid B0
  clear h hN B0
  by_cases hb : 0 ≤ q ∧ q ≤ N
  · obtain ⟨qn, rfl⟩ : ∃ m : Nat, q = m := ⟨q.toNat, by omega⟩
    have hbe : betE N (qn : Int) (qn : Int) = 0 := if_pos ⟨hb.1, hb.2, Int.le_refl _, hb.2⟩
    rw [hbe] at BT
    have hqN : qn ≤ N := by omega
    clear hbe hb
    go_enter Try.func14, Try.ntmps14
    go_wp2_with fail
    refine BT.out.mono ?_
    rintro e w1 ⟨rfl, hb1⟩
    have x3' := old_cell hb1 x3
    have B1 := Lib.hid (HB0.out.trans (hb1.mono (by simp)))
    clear x3 BT hb1
    go_upto_region 4 with fail
    have H1 := Lib.hid (H.out.below B1.out)
    generalize hb3 : w.heap.size = b3 at *
    have HB3 := Lib.hid hb3
    clear hb3
    obtain ⟨c0, c1, c2, c3, c4, c5, c6, c7, c8⟩ := H1.out.rm.cells
    have S0 : BelS w1 w1.drew := (Below.refl _ w1).drew
    have s0 : ∀ y : WIn (BelS w1), y.w.cell? ⟨r.I.r, 0, none⟩ = some (.pointer (some ⟨r.I.bp, 0, none⟩)) := fun y => old_cell y.h c0
    have s1 : ∀ y : WIn (BelS w1), y.w.cell? ⟨r.I.r, 1, none⟩ = some (.int .i64 r.I.o) := fun y => old_cell y.h c1
    have s2 : ∀ y : WIn (BelS w1), y.w.cell? ⟨r.I.r, 2, none⟩ = some (.int .i64 r.I.p.k) := fun y => old_cell y.h c2
    have s3 : ∀ y : WIn (BelS w1), y.w.cell? ⟨r.I.r, 3, none⟩ = some (.int .i64 r.I.p.s) := fun y => old_cell y.h c3
    have s4 : ∀ y : WIn (BelS w1), y.w.cell? ⟨r.I.r, 4, none⟩ = some (.int .i64 r.I.p.m) := fun y => old_cell y.h c4
    have s5 : ∀ y : WIn (BelS w1), y.w.cell? ⟨r.I.r, 5, none⟩ = some (.int .i64 (r.I.p.leaf : Int)) := fun y => old_cell y.h c5
    haveI ne : Nonempty (WIn (BelS w1)) := ⟨⟨w1.drew, S0⟩⟩
    refine wp_normal ?_
    refine wp_region_plan 17 (BelS w1) rfl ?_
    refine wpN_seg [0, 1, 2, 3, 4, 5, 6, 7, 8, 9, 10, 11, 12, 13, 14, 15] (by kernel_rfl) (by kernel_rfl) (by kernel_rfl) (by kernel_rfl) (by decide) (fun _ _ _ _ _ h => h) S0 ?_
    simp only [pick, List.map_cons, List.map_nil, List.getElem?_cons_succ, List.getElem?_cons_zero, Option.getD_some]
    repeat (go_big_quiet_step (fail))
    refine wpQuiet_nil ?_
    clear s0 s1 s2 s3 s4 s5 ne c0 c1 c2 c3 c4 c5 c6 c7 c8
    refine wpN_one 16 _ (by kernel_rfl) rfl ?_
    refine NextAt.held ?_
    intro K hK
    go_simp
    refine hK _ _ S0 ?_
    clear hK K
    refine wpN_one 17 _ (by kernel_rfl) rfl ?_
    refine NextAt.free (by kernel_rfl) ?_
    intro K hK
    go_simp
    refine hK _ _ ?_
    clear hK K
    refine wpN_pure [18] (by kernel_rfl) (by kernel_rfl) (by kernel_rfl) (fun _ _ _ _ _ h => h) (fun h => by cases h) ?_
    simp only [pick, List.map_cons, List.map_nil, List.getElem?_cons_succ, List.getElem?_cons_zero, Option.getD_some]
    repeat (go_big_quiet_step (fail))
    refine wpQuiet_nil ?_
    refine wpN_done (by kernel_rfl) ?_
    have AL : Below w1.heap.size w1 ((w1.alloc (.cells #[.pointer (some ⟨r.I.bp, 0, none⟩), .int .i64 r.I.o, .int .i64 r.I.p.k, .int .i64 r.I.p.s, .int .i64 r.I.p.m, .int .i64 (r.I.p.leaf : Int), .bool false, .slice none 0 0, .slice none 0 0] 69)).drew) := ((Below.refl _ w1).alloc (Nat.le_refl _) _).drew
    have hq2 : ((w1.alloc (.cells #[.pointer (some ⟨r.I.bp, 0, none⟩), .int .i64 r.I.o, .int .i64 r.I.p.k, .int .i64 r.I.p.s, .int .i64 r.I.p.m, .int .i64 (r.I.p.leaf : Int), .bool false, .slice none 0 0, .slice none 0 0] 69)).drew).heap[w1.heap.size]? = some (.cells #[.pointer (some ⟨r.I.bp, 0, none⟩), .int .i64 r.I.o, .int .i64 r.I.p.k, .int .i64 r.I.p.s, .int .i64 r.I.p.m, .int .i64 (r.I.p.leaf : Int), .bool false, .slice none 0 0, .slice none 0 0] 69 (0, 0)) := heap_alloc_new w1 _
    have hsz2 : w1.heap.size < ((w1.alloc (.cells #[.pointer (some ⟨r.I.bp, 0, none⟩), .int .i64 r.I.o, .int .i64 r.I.p.k, .int .i64 r.I.p.s, .int .i64 r.I.p.m, .int .i64 (r.I.p.leaf : Int), .bool false, .slice none 0 0, .slice none 0 0] 69)).drew).heap.size := lt_of hq2
    have H2 := Lib.hid ((H1.out.below AL).widen (F := fun k => r.F k ∨ k = w1.heap.size) (fun k hk => Or.inl hk) (fun k hk hg => by
      rcases hk with hk | hk
      · exact H1.out.dis k hk hg
      · have := H1.out.gl k hg; omega) (fun k hk => by
      rcases hk with hk | hk
      · exact Nat.lt_trans (H1.out.fl k hk) hsz2
      · omega))
    have B2 := Lib.hid (B1.out.trans (AL.mono (HB3.out ▸ B1.out.size)))
    have x3 := old_cell AL x3'
    have HNQ := Lib.hid (HB3.out ▸ B1.out.size : b3 ≤ w1.heap.size)
    have HNR := Lib.hid (show w1.heap.size ≠ r.I.r from fun e => by have := H1.out.fl _ H1.out.rm.fr; omega)
    have HNF := Lib.hid (show ¬ r.F w1.heap.size from fun e => by have := H1.out.fl _ e; omega)
    have HQ2 := Lib.hid hq2
    clear AL hq2 hsz2 S0 x3'
    generalize (w1.alloc (.cells #[.pointer (some ⟨r.I.bp, 0, none⟩), .int .i64 r.I.o, .int .i64 r.I.p.k, .int .i64 r.I.p.s, .int .i64 r.I.p.m, .int .i64 (r.I.p.leaf : Int), .bool false, .slice none 0 0, .slice none 0 0] 69)).drew = W2 at *
    generalize w1.heap.size = nq at *
    clear H1 B1
    -- region 5
    have EI : (endsS r.sz qn).2 ≤ 100000 ∧ (endsS r.sz qn).1 ≤ 60000 ∧ (r.L = [] ∧ (endsS r.sz qn).1 = 0 ∧ (endsS r.sz qn).2 = 0 ∨ ∃ x, r.L[(endsS r.sz qn).1]? = some x ∧ (endsS r.sz qn).2 ≤ x.n ∧ 1 ≤ x.n ∧ x.n ≤ 100000) := by
      by_cases hL : r.L = []
      · have e : r.sz = [] := by unfold RS.sz; rw [hL]; rfl
        have e0 : qn = 0 := by have := HN.out; rw [e] at this; simp [totS] at this; omega
        rw [e, e0]
        exact ⟨by decide, by decide, Or.inl ⟨hL, rfl, rfl⟩⟩
      · obtain ⟨h1, h2⟩ := endsS_in r.sz qn (by rw [HN.out]; exact hqN) (by unfold RS.sz; simpa using hL)
        obtain ⟨A0, hA0⟩ : ∃ A0, (endsS r.sz qn).1 = A0 := ⟨_, rfl⟩
        rw [hA0] at h1 h2 ⊢
        have h1' : A0 < r.L.length := by rwa [show r.sz.length = r.L.length from List.length_map _] at h1
        have hx := List.getElem?_eq_getElem h1'
        have hs : (r.sz.getD A0 (0, 0)).1 = (r.L[A0]).n := by
          unfold RS.sz
          rw [List.getD_eq_getElem?_getD, List.getElem?_map, hx]
          rfl
        rw [hs] at h2
        have hm := List.getElem_mem h1'
        have h3 := (H.out.each _ hm).1
        have h4 := (H.out.szok.2 _ (List.mem_map_of_mem hm)).1
        have h4 : (r.L[A0]).n ≤ 100000 := h4
        exact ⟨by omega, by omega, Or.inr ⟨_, hx, h2, h3, h4⟩⟩
    have HSC := Lib.hid (show (endsS (r.lc.map szC) qn) = endsS r.sz qn by rw [H.out.szC])
    have SZ := Lib.hid (sizes_any r.I r.L r.lv _ W2.drew (H2.out.rm.below (Below.refl _ W2).drew) h60)
    have EN := Lib.hid (fun v w3 (hv : SzIn w3 v r.sz) => ends_any v r.sz qn w3 hv H.out.szok (by omega))
    obtain ⟨⟨A, B⟩, hAB⟩ : ∃ X, endsS r.sz qn = X := ⟨_, rfl⟩
    rw [hAB] at EN EI HSC
    have HAB := Lib.hid hAB
    simp only at EI
    obtain ⟨EB, EA, EI⟩ := EI
    have EI := Lib.hid EI
    clear hAB
    go_upto_region 5 with fail
    have S0 : BelS W2 W2.drew := (Below.refl _ W2).drew
    have s4 : ∀ y : WIn (BelS W2), y.w.cell? ⟨b3, 0, none⟩ = some (.int .i64 (qn : Int)) := fun y => old_cell y.h x3
    haveI ne : Nonempty (WIn (BelS W2)) := ⟨⟨W2.drew, S0⟩⟩
    refine wp_normal ?_
    refine wp_region_plan 3 (BelS W2) rfl ?_
    refine wpN_seg [0, 2] (by kernel_rfl) (by kernel_rfl) (by kernel_rfl) (by kernel_rfl) (by decide) (fun _ _ _ _ _ h => h) S0 ?_
    simp only [pick, List.map_cons, List.map_nil, List.getElem?_cons_succ, List.getElem?_cons_zero, Option.getD_some]
    repeat (go_big_quiet_step (fail))
    refine wpQuiet_nil ?_
    clear s4 ne
    refine wpN_one 1 _ (by kernel_rfl) rfl ?_
    refine NextAt.held ?_
    intro K hK
    go_simp
    refine SZ.out.mono ?_
    rintro e w3 ⟨v3, rfl, hrow3, hb3⟩
    have B3 : Below W2.heap.size W2 w3 := S0.trans (hb3.mono (by simp))
    have EN3 := Lib.hid (EN.out _ w3 (SzIn.row hrow3))
    have HB23 := Lib.hid B3
    clear hb3 hrow3 SZ EN S0
    go_simp
    refine hK _ _ B3 ?_
    clear hK K B3
    refine wpN_one 3 _ (by kernel_rfl) rfl ?_
    refine NextAt.free (by kernel_rfl) ?_
    intro K hK
    go_simp
    refine EN3.out.mono ?_
    rintro e w4 ⟨rfl, hw4⟩
    obtain rfl := hw4.symm
    clear hw4 EN3
    go_simp
    refine hK _ _ ?_
    clear hK K
    refine wpN_pure [4, 5, 6, 7, 8] (by kernel_rfl) (by kernel_rfl) (by kernel_rfl) (fun _ _ _ _ _ h => h) (fun h => by cases h) ?_
    simp only [pick, List.map_cons, List.map_nil, List.getElem?_cons_succ, List.getElem?_cons_zero, Option.getD_some]
    repeat (go_big_quiet_step (fail))
    refine wpQuiet_nil ?_
    refine wpN_done (by kernel_rfl) ?_
    have H3 := Lib.hid (H2.out.below HB23.out)
    have HQ3 := Lib.hid ((HB23.out.block _ (lt_of HQ2.out)).trans HQ2.out)
    have x3' := old_cell HB23.out x3
    have B23 := Lib.hid (B2.out.trans (HB23.out.mono (HB3.out ▸ B2.out.size)))
    clear x3 H2 HQ2 B2 HB23
    obtain ⟨c0, c1, c2, c3, c4, c5, c6, c7, c8⟩ := H3.out.rm.cells
    obtain ⟨la, lc, hlv⟩ := wrow_sh H3.out.rm.row
    have hlv : r.lv = .slice la r.L.length lc := hlv
    have HLV := Lib.hid hlv
    have c7 : w3.cell? ⟨r.I.r, 7, none⟩ = some r.lv := c7
    rw [hlv] at c7
    have ROW : w3.ownsRow 0 32 1 (.slice la r.L.length lc) r.L.length (r.L.map Lm.val) := by rw [← hlv]; exact H3.out.rm.row
    have HROW := Lib.hid ROW
    have X3 := Lib.hid x3'
    have C7 := Lib.hid c7
    clear c0 c1 c2 c3 c4 c5 c6 c8 hlv ROW x3'
    go_upto_region 6 with fail
    go_cut [10] (fun s10 wx => wx = w3 ∧ ∃ dv : Bool, s10 = .bool dv ∧ (dv = true ↔ ∃ x, r.L[A]? = some x ∧ 0 < B ∧ B < x.n))
    case first =>
      rcases EI.out with ⟨hL, rfl, rfl⟩ | ⟨x, hx, hB, hx1, hx2⟩
      · have hlen : r.L.length = 0 := by rw [hL]; rfl
        have hle : ¬ ((0 : Int) < (r.L.length : Int)) := by omega
        go_wp2_with fail
        go_meet
        exact ⟨rfl, false, rfl, by simp [hL]⟩
      · have hA := (List.getElem?_eq_some_iff.1 hx).1
        obtain ⟨gk, rfl, dx, _⟩ := wrow_cell HROW.out (j := A) (u := x.val) (by rw [List.getElem?_map, hx]; rfl)
        have HX := Lib.hid hx
        obtain ⟨xg, xcs, xn⟩ := x
        unfold Lm.val at dx
        simp only at dx hB hx1 hx2
        clear hx
        by_cases hB0 : 0 < B
        · by_cases hBx : B < xn
          · go_wp2_with fail
            go_meet
            exact ⟨rfl, true, rfl, by simp; exact ⟨_, HX.out, hB0, hBx⟩⟩
          · go_wp2_with fail
            go_meet
            exact ⟨rfl, false, rfl, by simp; intro y hy; rw [HX.out] at hy; cases hy; intro; show xn ≤ B; omega⟩
        · go_wp2_with fail
          go_meet
          exact ⟨rfl, false, rfl, by simp; intro y hy hb; omega⟩
    case rest =>
    obtain ⟨hwc, dv, rfl, hdv⟩ := hcut
    obtain rfl := hwc.symm
    clear hwc
    have HDV := Lib.hid hdv
    clear hdv
    go_upto_region 7 with fail
    go_cut [89] (fun s89 wx => wx = w3 ∧ ∃ d2 : Bool, s89 = .bool d2 ∧ (d2 = true ↔ ∃ x, r.L[A]? = some x ∧ B = x.n))
    case first =>
      rcases EI.out with ⟨hL, rfl, rfl⟩ | ⟨x, hx, hB, hx1, hx2⟩
      · have hlen : r.L.length = 0 := by rw [hL]; rfl
        have hle : ¬ ((0 : Int) < (r.L.length : Int)) := by omega
        go_wp2_with fail
        go_meet
        exact ⟨rfl, false, rfl, by simp [hL]⟩
      · have hA := (List.getElem?_eq_some_iff.1 hx).1
        obtain ⟨gk, rfl, dx, _⟩ := wrow_cell HROW.out (j := A) (u := x.val) (by rw [List.getElem?_map, hx]; rfl)
        have HX := Lib.hid hx
        obtain ⟨xg, xcs, xn⟩ := x
        unfold Lm.val at dx
        simp only at dx hB hx1 hx2
        clear hx
        by_cases hBx : B = xn
        · have hb' : ((B : Int) == (xn : Int)) = true := by simp; omega
          go_wp2_with fail
          go_meet
          exact ⟨rfl, true, rfl, by simp; exact ⟨_, HX.out, hBx⟩⟩
        · have hb' : ((B : Int) == (xn : Int)) = false := by simp; omega
          go_wp2_with fail
          go_meet
          exact ⟨rfl, false, rfl, by simp; intro y hy; rw [HX.out] at hy; cases hy; exact hBx⟩
    case rest =>
    obtain ⟨hwc, d2, rfl, hd2⟩ := hcut
    obtain rfl := hwc.symm
    clear hwc
    have HD2 := Lib.hid hd2
    clear hd2
    go_upto_if 89 with fail
    go_cut [8] (fun s8 wx => wx = w3 ∧ s8 = .int .i64 ((if d2 = true then A + 1 else A : Nat) : Int))
    case first =>
      cases d2
      · go_wp2_with fail
        go_meet
        exact ⟨rfl, rfl⟩
      · go_wp2_with fail
        go_meet
        exact ⟨rfl, by simp⟩
    case rest =>
    obtain ⟨hwc, rfl⟩ := hcut
    obtain rfl := hwc.symm
    clear hwc
    obtain ⟨i0, hi0⟩ : ∃ i0, (if d2 = true then A + 1 else A : Nat) = i0 := ⟨_, rfl⟩
    rw [hi0]
    have HI0 := Lib.hid hi0
    clear hi0
    have HSPL := Lib.hid (show ∀ x, r.L[A]? = some x → splitC r.I.p r.lc qn = (if B = x.n then (r.lc.take (A + 1), r.lc.drop (A + 1)) else if B = 0 then (r.lc.take A, r.lc.drop A) else (r.lc.take A ++ [(x.lc.1.take B, x.lc.2)], madeC r.I.p (x.lc.1.drop B) ++ r.lc.drop (A + 1))) ∧ splE r.I.p r.sz qn = (if B = x.n then 0 else if B = 0 then 0 else askE (roomS r.sz) (roomS (r.sz ++ piecesS r.I.p (x.n - B)))) from fun x hx => by
      have e1 : r.lc[A]? = some x.lc := by unfold RS.lc; rw [List.getElem?_map, hx]; rfl
      have e2 : r.sz[A]? = some x.sz := by unfold RS.sz; rw [List.getElem?_map, hx]; rfl
      have e3 : x.lc.1.length = x.n := lc_len (H.out.rm.mem x (List.mem_of_getElem? hx)).2.1
      refine ⟨?_, ?_⟩
      · unfold splitC
        rw [HSC.out]
        simp only
        rw [e1]
        simp only
        rw [e3]
      · unfold splE
        rw [HAB.out]
        simp only
        rw [e2]
        rfl)
    have HNIL := Lib.hid (show r.L = [] → splitC r.I.p r.lc qn = ([], []) ∧ splE r.I.p r.sz qn = 0 from fun hL => by
      have e1 : r.lc = [] := by unfold RS.lc; rw [hL]; rfl
      have e2 : r.sz = [] := by unfold RS.sz; rw [hL]; rfl
      rw [e1, e2]
      exact ⟨rfl, rfl⟩)
    go_upto_if 92 with fail
    go_cut [8] (fun s8 wx => splE r.I.p r.sz qn = 0 ∧ ∃ (i : Nat) (La Lo : List Lm) (vo : Value) (F' G' : Nat → Prop) (b' : BookSt), s8 = .int .i64 (i : Int) ∧ Mid w wx r nq (splitC r.I.p r.lc qn) i La Lo vo F' G' b')
    case first =>
      cases dv
      · as_aux_lemma =>
        have hnd := HDV.out
        go_wp2_with fail
        go_meet
        have MM : ∀ i, i ≤ r.L.length → ((r.lc.take i, r.lc.drop i) = splitC r.I.p r.lc qn) → Mid w w3 r nq (splitC r.I.p r.lc qn) i r.L [] (.slice none 0 0) (fun k => r.F k ∨ k = nq) r.G r.b := fun i hi hc => by
          have a := H3.out
          refine ⟨a.rm, ⟨HQ3.out, World.ownsRow_nil _ _ _ _, fun x hx => by simp at hx, by simp, Or.inr rfl, fun k hk => by simp [Value.ownBlock] at hk⟩, HNR.out, a.rm.inj, ⟨a.bk, a.dis, a.fl, a.gl, a.acc, a.bud, a.tot, a.ent, a.room⟩, hi, rfl, by simp, ?_, a.each, a.oct, fun k hk => by simp [Value.ownBlock], a.own, a.pok, fun k hk => ?_, Touch.of_below (HB3.out ▸ B23.out)⟩
          · rw [List.nil_append, List.map_take, List.map_drop]
            exact hc
          · rcases hk with (hk | rfl) | hk
            · exact Or.inl (Or.inl hk)
            · exact Or.inr (HB3.out ▸ HNQ.out)
            · exact Or.inl (Or.inr hk)
        rcases EI.out with ⟨hL, hA, hB⟩ | ⟨x, hx, hB, hx1, hx2⟩
        · have hd2 : d2 = false := by
            cases d2
            · rfl
            · obtain ⟨y, hy, _⟩ := HD2.out.1 rfl
              simp [hL] at hy
          have e0 : i0 = 0 := by rw [← HI0.out, hd2]; exact hA
          refine ⟨(HNIL.out hL).2, i0, r.L, [], _, _, _, _, rfl, MM i0 (by omega) ?_⟩
          rw [(HNIL.out hL).1, e0]
          have e1 : r.lc = [] := by unfold RS.lc; rw [hL]; rfl
          rw [e1]
          rfl
        · have hA := (List.getElem?_eq_some_iff.1 hx).1
          obtain ⟨g1, g2⟩ := HSPL.out x hx
          by_cases hBx : B = x.n
          · have hd2 : d2 = true := HD2.out.2 ⟨x, hx, hBx⟩
            have e0 : i0 = A + 1 := by rw [← HI0.out, if_pos hd2]
            rw [if_pos hBx] at g1 g2
            exact ⟨g2, i0, r.L, [], _, _, _, _, rfl, MM i0 (by omega) (by rw [g1, e0])⟩
          · have hd2 : ¬ d2 = true := fun e => by
              obtain ⟨y, hy, he⟩ := HD2.out.1 e
              rw [hx] at hy
              cases hy
              exact hBx he
            have e0 : i0 = A := by rw [← HI0.out, if_neg hd2]
            have hB0 : B = 0 := by
              rcases Nat.eq_zero_or_pos B with h | h
              · exact h
              · exact absurd (hnd.2 ⟨x, hx, h, by omega⟩) (by simp)
            rw [if_neg hBx, if_pos hB0] at g1 g2
            exact ⟨g2, i0, r.L, [], _, _, _, _, rfl, MM i0 (by omega) (by rw [g1, e0])⟩
      · as_aux_lemma =>
        obtain ⟨x, hx, hB0, hBx⟩ := HDV.out.1 rfl
        have hd2 : d2 = false := by
          cases d2
          · rfl
          · obtain ⟨y, hy, he⟩ := HD2.out.1 rfl
            rw [hx] at hy
            cases hy
            omega
        have e0 : i0 = A := by rw [← HI0.out, hd2]; rfl
        obtain ⟨g1, g2⟩ := HSPL.out x hx
        rw [if_neg (by omega), if_neg (by omega)] at g1 g2
        have hA := (List.getElem?_eq_some_iff.1 hx).1
        obtain ⟨gk, rfl, dx, dxf⟩ := wrow_cell HROW.out (j := A) (u := x.val) (by rw [List.getElem?_map, hx]; rfl)
        obtain ⟨xr, xok, xF⟩ := H3.out.rm.mem x (List.mem_of_getElem? hx)
        obtain ⟨xn, hxn⟩ : ∃ n, x.n = n := ⟨_, rfl⟩
        obtain ⟨cp, hcp⟩ : ∃ n, x.cs.length = n := ⟨_, rfl⟩
        have XN := Lib.hid (And.intro hxn hcp)
        have xok1 := xok.1
        have xok2 := xok.2.1
        unfold Lm.val at dx
        rw [hxn, hcp] at dx
        rw [hxn] at hBx xok1 g2
        rw [hcp] at xok1 xok2
        have hcB : ¬ cp = B := by omega
        have HG := Lib.hid (And.intro g1 g2)
        have HX := Lib.hid hx
        have XO := Lib.hid (And.intro xr xok)
        have hxl5 := H.out.each x (List.mem_of_getElem? hx)
        rw [hxn] at hxl5
        have hleaf := H.out.pok.leaf
        have SZ3 := Lib.hid (sizes_any r.I r.L r.lv _ w3 H3.out.rm h60)
        have PC := Lib.hid (fun W (hW : Below w3.heap.size w3 W) => piecesR_any r.I.r r.I.p (xn - B) W (H3.out.rm.below hW).par H.out.pok (by omega))
        have c7 := C7.out
        obtain ⟨i9, hi9, hz0, hz1, hz2⟩ := info_parts infoLeaf
        obtain rfl := e0.symm
        clear e0
        clear hx hxn hcp xr xok xF g1 g2 dxf hd2
        go_wp2_with fail
        refine SZ3.out.mono ?_
        rintro e w4 ⟨v4, rfl, hrow4, hb4⟩
        have B4 := Lib.hid hb4
        rw [List.length_map] at hrow4
        have hrow4 : w4.ownsRow w3.heap.size 39 2 v4 r.L.length (szCells r.sz) := hrow4
        obtain ⟨va4, vc4, rfl⟩ := wrow_sh hrow4
        have R4 := Lib.hid hrow4
        have PC4 := Lib.hid (PC.out _ hb4)
        clear hrow4 hb4 SZ3 PC
        go_wp2_with fail
        refine PC4.out.mono ?_
        rintro e w5 ⟨v5, rfl, hrow5, hb5⟩
        have PL := pieces_len r.I.p (xn - B) hleaf.1
        have HPB := Lib.hid (fun q hq => piecesS_bd H.out.pok q hq : ∀ q ∈ piecesS r.I.p (xn - B), q.1 ≤ 100000 ∧ q.2 ≤ 100000)
        obtain ⟨ps, hps⟩ : ∃ l, piecesS r.I.p (xn - B) = l := ⟨_, rfl⟩
        have HPS := Lib.hid hps
        rw [hps] at hrow5 PL HPB HG
        obtain ⟨M, hM⟩ : ∃ m, ps.length = m := ⟨_, rfl⟩
        have HML := Lib.hid hM
        rw [hM] at hrow5 PL
        obtain ⟨va5, vc5, rfl⟩ := wrow_sh hrow5
        have B5 := Lib.hid (B4.out.trans (hb5.mono B4.out.size))
        have R45 := Lib.hid (row_kept R4.out hb5)
        have S5 := Lib.hid (Seg.of_row hrow5 (fun u hu => by obtain ⟨y', _, hy'⟩ := List.mem_flatMap.1 hu; simp at hy'; rcases hy' with rfl | rfl <;> rfl))
        have hsz5 := B5.out.size
        clear hrow5 hb5 PC4 R4 hps hM
        go_wp2_with (at_builtin; go_must (refine wpList_append_seg rfl (.tmp 104) (.tmp 108) 37 rfl w3.heap.size 39 i9 (.agg #[.int .i64 0, .int .i64 0]) 2 16 Try.underlying37 hi9 hz0 hz1 hz2 rfl (by decide) w5 _ _ _ rfl R45.out _ _ _ rfl S5.out (by unfold maxLen; omega) (by omega) hsz5 ?_))
        intro v6 w6 hown6 hgr6
        have B6 := Lib.hid (B5.out.grown hgr6 hsz5 (fun k hk => (R45.out.lt k hk).1))
        obtain ⟨va6, vc6, rfl⟩ := wrow_sh hown6
        have AK := Lib.hid (ask_rs ({ r with F := fun k => r.F k ∨ k = nq } : RS) (.slice va6 (r.L.length + M) vc6) (r.sz ++ ps) w6 (H3.out.below B6.out) (SzIn.row (by
          rw [szCells_app, List.length_append, HML.out, show r.sz.length = r.L.length from List.length_map _]
          exact hown6)) ⟨by rw [List.length_append, HML.out, show r.sz.length = r.L.length from List.length_map _]; omega, fun p hp => (List.mem_append.1 hp).elim (fun h => H.out.szok.2 p h) (fun h => HPB.out p h)⟩)
        clear hown6 hgr6 R45 S5 c7
        go_wp2_with fail
        refine AK.out.mono ?_
        rintro e w7 ⟨rfl, ht7, hrm7, G7, b7, hG7, hif⟩
        have hif : (if askE (roomS r.sz) (roomS (r.sz ++ ps)) = 0 then Grant w7 r.I (fun k => r.F k ∨ k = nq) G7 b7 (roomS (r.sz ++ ps)) else (⟨r.I, r.L, r.lv, b7, fun k => r.F k ∨ k = nq, G7⟩ : RS).At w7) := hif
        have hrm7 : RopeMem w7 (fun k => r.F k ∨ k = nq) r.I r.L r.lv := hrm7
        have ht7 : Touch r.G w6 w7 := ht7
        have hG7 : ∀ k, G7 k → r.G k ∨ w6.heap.size ≤ k := hG7
        have B06 := Lib.hid (HB3.out ▸ B23.out.trans (B6.out.mono (HB3.out ▸ B23.out.size)) : Below w.heap.size w w6)
        have TT := Lib.hid ((Touch.of_below (F := r.T) B06.out).then (ht7.mono (fun k hk => Or.inr hk)))
        have GW := Lib.hid (show ∀ k, G7 k → r.T k ∨ w.heap.size ≤ k from fun k hk => (hG7 k hk).imp Or.inr (fun h => Nat.le_trans B06.out.size h))
        have HQ7 := Lib.hid (show w7.heap[nq]? = _ from ((ht7.block _ (Nat.lt_of_lt_of_le (lt_of HQ3.out) B6.out.size) (fun e => by have := H3.out.gl nq e; exact H3.out.dis nq (Or.inr rfl) e)).trans (B6.out.block _ (lt_of HQ3.out))).trans HQ3.out)
        clear AK ht7 hG7
        by_cases hE : askE (roomS r.sz) (roomS (r.sz ++ ps)) = 0
        · rw [if_pos hE] at hif
          rw [show askE (roomS ({ r with F := fun k => r.F k ∨ k = nq } : RS).sz) (roomS (r.sz ++ ps)) = 0 from hE]
          have GR := Lib.hid hif
          have RM7 := Lib.hid hrm7
          have HZ := Lib.hid (HG.out.2.trans hE)
          obtain ⟨xr7, xok7, _⟩ := hrm7.mem x (List.mem_of_getElem? HX.out)
          have hxl : (x.cs.take x.n).length = xn := by rw [List.length_take, XN.out.1, XN.out.2]; omega
          have RD := Lm.reads xr7 xok7
          rw [XN.out.1, XN.out.2] at RD
          have hxl2 : (x.cs.take xn).length = xn := by rw [← XN.out.1] at hxl ⊢; exact hxl
          have RD := RD.dropZ B (by rw [hxl2]; omega) (some ⟨x.g, B, none⟩) (fun _ => by rw [Nat.zero_add]) (cp - B)
          have MD := Lib.hid (made_any r.I.r r.I.p (some ⟨x.g, B, none⟩) (xn - B) (cp - B) ((x.cs.take xn).drop B) w7 hrm7.par H.out.pok RD (by rw [List.length_drop, hxl2]) (by omega) ⟨by omega, by omega⟩ (fun z hz => xok7.2.2 z (List.mem_of_mem_take (List.mem_of_mem_drop hz))))
          clear hif hrm7 hE xr7 xok7 hxl hxl2 RD
          go_wp2_with fail
          refine MD.out.mono ?_
          rintro e w8 ⟨lv', L', rfl, hma, hmc, heach, hb8⟩
          obtain ⟨va8, vc8, rfl⟩ := wrow_sh hma.row
          have MA := Lib.hid (And.intro hma (And.intro hmc (And.intro heach hb8)))
          have q8 := (hb8.block _ (lt_of HQ7.out)).trans HQ7.out
          have q81 : w8.cell? ⟨nq, 7, none⟩ = some (.slice none 0 0) := by rw [cell_of q8]; rfl
          have q82 : w8.frozen? ⟨nq, 7, none⟩ = false := free_of q8 7
          have off : ∀ (W : World) (p k j : Nat) (u : Value), k ≠ p → (W.setCell ⟨p, j, none⟩ u).heap[k]? = W.heap[k]? := fun W p k j u hk => Below.heap_setCell _ _ _ _ hk
          have m9 : RopeMem (w8.setCell ⟨nq, 7, none⟩ (.slice va8 L'.length vc8)) r.F r.I r.L (.slice (some ⟨gk, 0, none⟩) r.L.length lc) := by
            have h1 := H3.out.rm
            have h2 : RopeMem w7 r.F r.I r.L r.lv := ⟨RM7.out.self, RM7.out.row, fun y hy => by
              obtain ⟨a, b, _⟩ := RM7.out.mem y hy
              exact ⟨a, b, (H.out.rm.mem y hy).2.2⟩, RM7.out.inj, H.out.rm.fr, H.out.rm.frow⟩
            have h3 := (h2.below hb8).same (w' := w8.setCell ⟨nq, 7, none⟩ (.slice va8 L'.length vc8)) (fun k hk _ => off _ _ _ _ _ (fun e => HNF.out (e ▸ hk)))
            rw [HLV.out] at h3
            exact h3
          have M7 := Lib.hid (show RopeMem w7 r.F r.I r.L r.lv from ⟨RM7.out.self, RM7.out.row, fun y hy => by
              obtain ⟨a, b, _⟩ := RM7.out.mem y hy
              exact ⟨a, b, (H.out.rm.mem y hy).2.2⟩, RM7.out.inj, H.out.rm.fr, H.out.rm.frow⟩)
          have M9 := Lib.hid m9
          clear hma hmc heach hb8 q8 MD m9 off RM7
          go_upto_region 15 with fail
          clear q81 q82
          generalize hW9 : w8.setCell ⟨nq, 7, none⟩ (.slice va8 L'.length vc8) = W9 at *
          have HW9 := Lib.hid hW9
          clear hW9
          have RB := Lib.hid (removeB_any x.g x.cs xn cp B xn W9.drew (show byteRow W9.drew x.g x.cs from (M9.out.mem x (List.mem_of_getElem? HX.out)).1) XN.out.2 xok2 xok1 (by omega) (Nat.le_refl _) XO.out.2.2.2)
          have c7 := M9.out.cells.2.2.2.2.2.2.2.1
          obtain ⟨_, e', dx9, dxf9⟩ := wrow_cell M9.out.row (j := A) (u := x.val) (by rw [List.getElem?_map, HX.out]; rfl)
          cases e'
          unfold Lm.val at dx9
          rw [XN.out.1, XN.out.2] at dx9
          have DX9 := Lib.hid (And.intro dx9 dxf9)
          have S0 : TwoS r.I.r gk W9 W9.drew := ⟨rfl, rfl⟩
          have s7 : ∀ y : WIn (TwoS r.I.r gk W9), y.w.cell? ⟨r.I.r, 7, none⟩ = some (.slice (some ⟨gk, 0, none⟩) r.L.length lc) := fun y => (cell_sameB y.h.1 _).trans c7
          have sx : ∀ y : WIn (TwoS r.I.r gk W9), y.w.cell? ⟨gk, A, none⟩ = some (.slice (some ⟨x.g, 0, none⟩) xn cp) := fun y => (cell_sameB y.h.2 _).trans dx9
          haveI ne : Nonempty (WIn (TwoS r.I.r gk W9)) := ⟨⟨W9.drew, S0⟩⟩
          clear c7 dx9 dxf9 dx
          refine wp_normal ?_
          refine wp_region_plan 26 (TwoS r.I.r gk W9) rfl ?_
          refine wpN_segX (List.range 21 ++ [21, 22, 23, 25, 26]) (List.range 21) (by kernel_rfl) (by kernel_rfl) (by kernel_rfl) (by kernel_rfl) (by decide) (fun _ _ _ _ _ h => h) S0 ?_
          rw [show List.range 21 = [0, 1, 2, 3, 4, 5, 6, 7, 8, 9, 10, 11, 12, 13, 14, 15, 16, 17, 18, 19, 20] from rfl]
          simp only [pick, List.map_cons, List.map_nil, List.getElem?_cons_succ, List.getElem?_cons_zero, Option.getD_some]
          repeat (go_big_quiet_step (fail))
          refine wpQuiet_nil ?_
          clear s7 sx ne S0
          refine wpN_one 21 _ (by kernel_rfl) rfl ?_
          refine NextAt.held ?_
          intro K hK
          go_simp
          refine RB.out.mono ?_
          rintro e w10 ⟨ds, rfl, hr10, hl10, hby10, htk10, ht10⟩
          rw [show xn - (xn - B) = B by omega] at htk10 ⊢
          have ht10' : Touch (fun k => k = x.g) W9 w10 := ⟨ht10.os, ht10.tape, ht10.output, ht10.size, ht10.block⟩
          have tS : TwoS r.I.r gk W9 w10 := by
            obtain ⟨cur, hcur⟩ := row_block M9.out.row (k := gk) rfl
            have xr9 : W9.heap[x.g]? = _ := (M9.out.mem x (List.mem_of_getElem? HX.out)).1
            exact ⟨ht10'.block _ (lt_of M9.out.self) (type_ne M9.out.self xr9 (by decide)), ht10'.block _ (lt_of hcur) (type_ne hcur xr9 (by decide))⟩
          have htk : ds.take B = x.cs.take B := by
            rw [htk10, List.drop_eq_nil_of_le (by rw [List.length_take]; omega), List.append_nil]
          obtain ⟨F9, hMid⟩ := mid_div (w0 := w) (w9 := w10) (A := A) (B := B) M7.out HQ7.out HNF.out HNR.out GR.out (by rw [XN.out.1, HPS.out]) MA.out.1 (by rw [XN.out.1]; exact MA.out.2.1) MA.out.2.2.1 MA.out.2.2.2 HX.out ⟨hB0, by rw [XN.out.1]; exact hBx⟩ HLV.out (by rw [HW9.out]; exact ht10') hr10 (by rw [XN.out.2]; exact hl10) hby10 htk H.out.own H.out.pok H.out.each (by rw [HN.out]; exact hoct) (HB3.out ▸ HNQ.out) GW.out TT.out
          rw [XN.out.2] at hMid
          have HMID := Lib.hid hMid
          have d10 : w10.cell? ⟨gk, A, none⟩ = some (.slice (some ⟨x.g, 0, none⟩) xn cp) := (cell_sameB tS.2 _).trans DX9.out.1
          have f10 : w10.frozen? ⟨gk, A, none⟩ = false := by
            unfold World.frozen?
            simp only [tS.2]
            exact DX9.out.2
          clear RB hr10 hl10 hby10 htk10 ht10 ht10' htk hMid
          go_simp
          refine hK _ _ tS ?_
          clear hK K
          refine wpN_pure [22, 23, 24, 25] (by kernel_rfl) (by kernel_rfl) (by kernel_rfl) (fun _ _ _ _ _ h => h) (fun _ => tS) ?_
          simp only [pick, List.map_cons, List.map_nil, List.getElem?_cons_succ, List.getElem?_cons_zero, Option.getD_some]
          repeat (go_big_quiet_step (fail))
          refine wpQuiet_nil ?_
          clear tS
          refine wpN_one 26 _ (by kernel_rfl) rfl ?_
          refine NextAt.free (by kernel_rfl) ?_
          intro K hK
          go_simp
          refine hK _ _ ?_
          clear hK K d10 f10
          refine wpN_done (by kernel_rfl) ?_
          have hA6 : A ≤ 60000 := EA
          go_wp2_with fail
          go_meet
          have HC := HG.out.1
          exact ⟨HZ.out, A + 1, r.L.set A ⟨x.g, ds, B⟩, L', .slice va8 L'.length vc8, F9, G7, b7, by go_num, by rw [HC]; exact HMID.out⟩
        · rw [if_neg hE] at hif
          have hne : (askE (roomS r.sz) (roomS (r.sz ++ ps)) != 0) = true := bne_iff_ne.2 hE
          rw [show askE (roomS ({ r with F := fun k => r.F k ∨ k = nq } : RS).sz) (roomS (r.sz ++ ps)) = askE (roomS r.sz) (roomS (r.sz ++ ps)) from rfl]
          have FIN : Hid (SplitPost r (qn : Int) w (.returned (.tuple #[.pointer none, .int .i64 (askE (roomS r.sz) (roomS (r.sz ++ ps)))])) w7) := Lib.hid (by
            unfold SplitPost
            rw [if_pos ⟨by omega, by rw [HN.out]; omega⟩, show (qn : Int).toNat = qn from rfl, if_neg (by rw [HG.out.2]; exact hE), HG.out.2]
            refine ⟨rfl, ⟨r.I, r.L, r.lv, b7, fun k => r.F k ∨ k = nq, G7⟩, rfl, hif, rfl, fun k hk => ?_, TT.out⟩
            rcases hk with (hk | hk) | hk
            · exact Or.inl (Or.inl hk)
            · exact Or.inr (by have := HNQ.out; have := HB3.out; omega)
            · exact GW.out k hk)
          generalize askE (roomS r.sz) (roomS (r.sz ++ ps)) = E at *
          clear hif hrm7 hE
          go_wp2_with fail
          go_ret2
          exact FIN.out
    case rest =>
    as_aux_lemma =>
    obtain ⟨hz, i, La, Lo, vo, F', G', b', rfl, hM⟩ := hcut
    have HZ := Lib.hid hz
    have HM := Lib.hid hM
    obtain ⟨oa, oc, rfl⟩ := wrow_sh hM.mo.row
    clear C7 X3 HROW H3 HQ3 hz
    have hlc : r.L.length ≤ lc := by
      have h8 := hM.ma.row
      rw [HLV.out, hM.ll] at h8
      obtain ⟨a8, c8, e8, h9, _⟩ := (Seg.of_row h8 (fun u hu => by obtain ⟨y', _, rfl⟩ := List.mem_map.1 hu; rfl)).2.2
      simp only [Value.slice.injEq] at e8
      omega
    have c7r : wc.cell? ⟨r.I.r, 7, none⟩ = some (.slice la r.L.length lc) := by have h8 := hM.ma.cells.2.2.2.2.2.2.2.1; rw [HLV.out] at h8; exact h8
    have c7q : wc.cell? ⟨nq, 7, none⟩ = some (.slice oa Lo.length oc) := hM.mo.cells.2.2.2.2.2.2.2.1
    have hile : i ≤ r.L.length := by rw [← hM.ll]; exact hM.le
    have SEGR : Seg wc 1 (.slice la r.L.length lc) r.L.length (La.map Lm.val) := by
      have h8 := hM.ma.row
      rw [HLV.out, hM.ll] at h8
      exact Seg.of_row h8 (fun u hu => by obtain ⟨y', _, rfl⟩ := List.mem_map.1 hu; rfl)
    have HSEG := Lib.hid SEGR
    obtain ⟨U, hU⟩ : ∃ U, (if lc = i then la else Option.map (fun x => x.add i) la) = U := ⟨_, rfl⟩
    have HU := Lib.hid (show ∀ b o, la = some ⟨b, o, none⟩ → i < lc → U = some ⟨b, o + i, none⟩ from fun b o e h => by
      rw [← hU, if_neg (by omega), e]
      simp [Addr.add])
    clear hM SEGR
    go_upto_region 17 with fail
    have S0 : TwoS r.I.r nq wc wc.drew := ⟨rfl, rfl⟩
    have s7 : ∀ y : WIn (TwoS r.I.r nq wc), y.w.cell? ⟨r.I.r, 7, none⟩ = some (.slice la r.L.length lc) := fun y => (cell_sameB y.h.1 _).trans c7r
    have q7 : ∀ y : WIn (TwoS r.I.r nq wc), y.w.cell? ⟨nq, 7, none⟩ = some (.slice oa Lo.length oc) := fun y => (cell_sameB y.h.2 _).trans c7q
    haveI ne : Nonempty (WIn (TwoS r.I.r nq wc)) := ⟨⟨wc.drew, S0⟩⟩
    refine wp_normal ?_
    refine wp_region_plan 14 (TwoS r.I.r nq wc) rfl ?_
    refine wpN_seg [0, 1, 2, 3, 4, 5, 6, 7, 8, 9, 10] (by kernel_rfl) (by kernel_rfl) (by kernel_rfl) (by kernel_rfl) (by decide) (fun _ _ _ _ _ h => h) S0 ?_
    simp only [pick, List.map_cons, List.map_nil, List.getElem?_cons_succ, List.getElem?_cons_zero, Option.getD_some]
    repeat (go_big_quiet_step (fail))
    refine wpQuiet_nil ?_
    have HCQ := Lib.hid (And.intro c7q (And.intro c7r (And.intro hile hlc)))
    obtain ⟨v17, w5, hrun, hown5, hgr5, hnew5⟩ := run_append_rows wc.drew 0 (.slice oa Lo.length oc) Lo.length (Lo.map Lm.val) ((HM.out.mo.below (Below.refl _ wc).drew).row) (.slice U (r.L.length - i) (lc - i)) (r.L.length - i) ((La.map Lm.val).drop i) ((HSEG.out.dropO i hile HU.out).below (Below.refl _ wc).drew) (by have := HM.out.lo; omega) (Nat.zero_le _)
    obtain ⟨va5, vc5, rfl⟩ := wrow_sh hown5
    have SIX := Lib.hid (HM.out.six (v2 := (.slice va5 (Lo.length + (r.L.length - i)) vc5)) hgr5)
    have tS : TwoS r.I.r nq wc w5 := ⟨SIX.out.1, SIX.out.2.1⟩
    have HTS := Lib.hid tS
    have HRUN := Lib.hid (And.intro hown5 (And.intro hgr5 hnew5))
    clear hown5 hgr5 hnew5 s7 q7 ne S0
    refine wpN_one 11 _ (by kernel_rfl) rfl ?_
    refine NextAt.held ?_
    intro K hK
    refine step_append_here rfl _ _ _ rfl _ _ _ (by go_simp) (by go_simp) hrun ?_
    go_simp
    refine hK _ _ tS ?_
    clear hK K hrun hU
    refine wpN_pure [12, 13] (by kernel_rfl) (by kernel_rfl) (by kernel_rfl) (fun _ _ _ _ _ h => h) (fun _ => tS) ?_
    simp only [pick, List.map_cons, List.map_nil, List.getElem?_cons_succ, List.getElem?_cons_zero, Option.getD_some]
    repeat (go_big_quiet_step (fail))
    refine wpQuiet_nil ?_
    have d1 : w5.cell? ⟨nq, 7, none⟩ = some (.slice oa Lo.length oc) := (cell_sameB tS.2 _).trans c7q
    have f1 : w5.frozen? ⟨nq, 7, none⟩ = false := by
      refine free_of (cur := #[.pointer (some ⟨r.I.bp, 0, none⟩), .int .i64 r.I.o, .int .i64 r.I.p.k, .int .i64 r.I.p.s, .int .i64 r.I.p.m, .int .i64 (r.I.p.leaf : Int), .bool false, .slice oa Lo.length oc, .slice none 0 0]) (t := 69) ?_ 7
      exact SIX.out.2.1.trans HM.out.mo.self
    clear tS
    refine wpN_one 14 _ (by kernel_rfl) rfl ?_
    refine NextAt.free (by kernel_rfl) ?_
    intro K hK
    go_simp
    refine hK _ _ ?_
    clear hK K d1 f1 c7q c7r
    refine wpN_done (by kernel_rfl) ?_
    have self6 := SIX.out.2.2.2
    have c7 : (w5.setCell ⟨nq, 7, none⟩ (.slice va5 (Lo.length + (r.L.length - i)) vc5)).cell? ⟨r.I.r, 7, none⟩ = some (.slice la r.L.length lc) := by rw [cell_of self6, ← HLV.out]; rfl
    have HS6 := Lib.hid self6
    have CL := Lib.hid (clone_row (.slice la i lc) i ((La.map Lm.val).take i) (w5.setCell ⟨nq, 7, none⟩ (.slice va5 (Lo.length + (r.L.length - i)) vc5)) (by
      have h8 := SIX.out.2.2.1
      rw [HLV.out, HM.out.ll] at h8
      exact (Seg.of_row h8 (fun u hu => by obtain ⟨y', _, rfl⟩ := List.mem_map.1 hu; rfl)).take1 i hile) (by omega))
    have FN := Lib.hid (fun v1 w7 (hb7 : Below (w5.setCell ⟨nq, 7, none⟩ (.slice va5 (Lo.length + (r.L.length - i)) vc5)).heap.size (w5.setCell ⟨nq, 7, none⟩ (.slice va5 (Lo.length + (r.L.length - i)) vc5)) w7) h7 => HM.out.fin (HB3.out ▸ HNQ.out) (by rw [HM.out.ll, List.map_drop]; exact HRUN.out.1) HRUN.out.2.1 HRUN.out.2.2 hb7 (v1 := v1) (w7 := w7) h7)
    generalize hW6 : w5.setCell ⟨nq, 7, none⟩ (.slice va5 (Lo.length + (r.L.length - i)) vc5) = W6 at *
    clear self6 SIX hW6
    go_wp2_with fail
    refine CL.out.mono ?_
    rintro e w7 ⟨v18, rfl, hrow18, hb7⟩
    obtain ⟨va8, vc8, rfl⟩ := wrow_sh hrow18
    have FIN := FN.out (.slice va8 i vc8) w7 hb7 (by rw [List.map_take]; exact hrow18)
    have self7 := (hb7.block _ (lt_of HS6.out)).trans HS6.out
    have d7 : w7.cell? ⟨r.I.r, 7, none⟩ = some (.slice la r.L.length lc) := by rw [cell_of self7, ← HLV.out]; rfl
    have f7 : w7.frozen? ⟨r.I.r, 7, none⟩ = false := free_of self7 7
    have self8 := block_setCell self7 7 (.slice va8 i vc8)
    have d8 : (w7.setCell ⟨r.I.r, 7, none⟩ (.slice va8 i vc8)).cell? ⟨r.I.r, 8, none⟩ = some (.slice none 0 0) := by rw [cell_of self8]; rfl
    have f8 : (w7.setCell ⟨r.I.r, 7, none⟩ (.slice va8 i vc8)).frozen? ⟨r.I.r, 8, none⟩ = false := free_of self8 8
    obtain ⟨F9, hT9, hL9, hF9, ht9⟩ := FIN
    have FIN : Hid (SplitPost r (qn : Int) w (.returned (.tuple #[.pointer (some ⟨nq, 0, none⟩), .int .i64 0])) ((w7.setCell ⟨r.I.r, 7, none⟩ (.slice va8 i vc8)).setCell ⟨r.I.r, 8, none⟩ (.slice none 0 0))) := Lib.hid (by
      unfold SplitPost
      rw [if_pos ⟨by omega, by rw [HN.out]; omega⟩, show (qn : Int).toNat = qn from rfl, if_pos HZ.out]
      exact ⟨nq, _, _, (.slice va8 i vc8), (.slice va5 (Lo.length + (r.L.length - i)) vc5), F9, G', b', rfl, HB3.out ▸ HNQ.out, hT9, hL9, hF9, ht9⟩)
    clear hT9 hL9 hF9 ht9 hrow18 hb7 self7 self8 c7 FN CL
    go_upto_region 19 with fail
    clear d7 f7
    generalize w7.setCell ⟨r.I.r, 7, none⟩ (.slice va8 i vc8) = W8 at *
    go_wp2_with fail
    go_loopw [178] (fun i wr => i = .int .i64 0 ∧ wr = W8) (fun _ _ => 0)
    case atStart => exact ⟨rfl, rfl⟩
    case round =>
      obtain ⟨rfl, hw8⟩ := hrel
      obtain rfl := hw8.symm
      clear hw8
      go_wp2_with fail
      refine (deleteMark_nil _ _).mono ?_
      rintro e w9 ⟨rfl, hw9⟩
      obtain rfl := hw9.symm
      clear hw9
      go_wp2_with fail
      go_ret2
      exact FIN.out
  · have hbe : betE N q q = 2 := if_neg (fun x => hb ⟨x.1, x.2.1⟩)
    rw [hbe] at BT
    have FIN : Hid (∀ w', Below w.heap.size w w' → SplitPost r q w (.returned (.tuple #[.pointer none, .int .i64 2])) w') := Lib.hid (fun w' hb' => by
      unfold SplitPost
      rw [if_neg (by rw [HN.out]; exact hb)]
      exact ⟨rfl, hb'⟩)
    clear hb hbe
    go_enter Try.func14, Try.ntmps14
    go_wp2_with fail
    refine BT.out.mono ?_
    rintro e w1 ⟨rfl, hb1⟩
    have FIN1 := Lib.hid (FIN.out w1 (HB0.out.trans (hb1.mono (by simp))))
    clear hb1 x3 BT
    go_wp2_with fail
    go_ret2
    exact FIN1.out

end Go.Proofs.Ytidfidknflcioaa
