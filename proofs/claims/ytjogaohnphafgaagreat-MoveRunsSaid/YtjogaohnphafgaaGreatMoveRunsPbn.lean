/-
  The reference's heap: Swap. No conditions but bounds and blocks apart.
  slices.Equal at blocks, gaps and shifts: of one list, true. No conditions but bounds.
  The reference's heap: a generation is kept. No conditions but bounds.
-/
import Derived.Test.YtjogaohnphafgaaGreatMoveRunsPbl
import Derived.Test.YtjogaohnphafgaaGreatMoveRunsPbm

namespace Go.Proofs.YtjogaohnphafgaaGreat
section
open Go.RowKit
set_option linter.unusedVariables false

def SwPostR (w : World) (F : Nat → Prop) (rp pp M : Nat) (S : HpSt) (kept : List (List Blk)) (vm vb vk : Value) (vks : List Value) (a b : Int) : Ending → World → Prop := fun e w' => e = .returned (.int .i64 (swE S a b)) ∧
  ((swE S a b ≠ 0 ∧ Below w.heap.size w w') ∨ (swE S a b = 0 ∧ RfMem w' F rp pp M { S with mem := swM S.mem (blkAt S a) (blkAt S b) } kept vm vb vk vks ∧ Touch F w w'))
theorem cell_hh {W W' : World} {b o : Nat} (h : W'.heap[b]? = W.heap[b]?) : W'.cell? ⟨b, o, none⟩ = W.cell? ⟨b, o, none⟩ := by
  unfold World.cell?; rw [h]
theorem two_apart {l : List Blk} {i j : Nat} {x y : Blk} (h : l.Pairwise apartB) (hi : l[i]? = some x) (hj : l[j]? = some y) : x = y ∨ apartB x y := by
  obtain ⟨hil, rfl⟩ := List.getElem?_eq_some_iff.1 hi
  obtain ⟨hjl, rfl⟩ := List.getElem?_eq_some_iff.1 hj
  rw [List.pairwise_iff_getElem] at h
  rcases Nat.lt_trichotomy i j with hij | rfl | hij
  · exact Or.inr (h i j hil hjl hij)
  · exact Or.inl rfl
  · exact Or.inr (apartB_symm (h j i hjl hil hij))

set_option maxHeartbeats 4000000 in
set_option maxRecDepth 100000 in
theorem swapR2_any {w : World} {F : Nat → Prop} {rp pp M : Nat} {S : HpSt} {kept : List (List Blk)} {vm vb vk : Value} {vks : List Value} (m : RfMem w F rp pp M S kept vm vb vk vks) (hap : S.bl.Pairwise apartB) (a b : Int) :
    Calls Tryz.prog 20 #[.pointer (some ⟨rp, 0, none⟩), .int .i64 a, .int .i64 b] w (SwPostR w F rp pp M S kept vm vb vk vks a b) := by
  have HM := Lib.hid m
  have BA := Lib.hid (blockR_any m a)
  have BB := Lib.hid (fun W (hW : Below w.heap.size w W) => blockR_any (HM.out.below hW) b)
  unfold BkPost at BA BB
  have FINE : Hid (∀ er w', swE S a b = er → er ≠ 0 → Below w.heap.size w w' → SwPostR w F rp pp M S kept vm vb vk vks a b (.returned (.int .i64 er)) w') := Lib.hid (fun er w' h1 h2 h3 => ⟨by rw [h1], Or.inl ⟨by rw [h1]; exact h2, h3⟩⟩)
  have FINO : Hid (∀ w', swE S a b = 0 → RfMem w' F rp pp M { S with mem := swM S.mem (blkAt S a) (blkAt S b) } kept vm vb vk vks → Touch F w w' → SwPostR w F rp pp M S kept vm vb vk vks a b (.returned (.int .i64 0)) w') := Lib.hid (fun w' h1 h2 h3 => ⟨by rw [h1], Or.inr ⟨h1, h2, h3⟩⟩)
  have hbig := m.big.1
  have hx := blkAt_in (S := S) (q := a) (fun x hx => (m.hb x hx).2.2)
  have hy := blkAt_in (S := S) (q := b) (fun x hx => (m.hb x hx).2.2)
  by_cases hA : fndE S a = 0
  case neg =>
    have FIN := Lib.hid (fun w' => FINE.out (fndE S a) w' (by unfold swE; rw [if_pos hA]) hA)
    have hA' : (fndE S a != 0) = true := by simpa using hA
    generalize fndE S a = E at *
    generalize blkAt S a = X at *
    clear hA m hap FINE FINO
    go_enter Tryz.func20, Tryz.ntmps20
    go_wp2_with fail
    refine BA.out.mono ?_
    rintro e w2 ⟨rfl, hb2⟩
    have HB2 := Lib.hid (hb2.alloc hb2.size (.cells #[.int .i64 (X.h : Int), .int .i64 (X.at' : Int), .int .i64 (X.len : Int)] 78))
    clear hb2 BA BB
    go_wp2_with fail
    go_ret
    exact FIN.out _ HB2.out
  case pos =>
    rw [hA] at BA
    by_cases hB : fndE S b = 0
    case neg =>
      have FIN := Lib.hid (fun w' => FINE.out (fndE S b) w' (by unfold swE; rw [if_neg (by simpa using hA), if_pos hB]) hB)
      have hB' : (fndE S b != 0) = true := by simpa using hB
      generalize fndE S b = E at *
      generalize blkAt S a = X at *
      generalize blkAt S b = Y at *
      clear hA hB m hap FINE FINO
      go_enter Tryz.func20, Tryz.ntmps20
      go_wp2_with fail
      refine BA.out.mono ?_
      rintro e w2 ⟨rfl, hb2⟩
      have B2 := hb2.alloc hb2.size (.cells #[.int .i64 (X.h : Int), .int .i64 (X.at' : Int), .int .i64 (X.len : Int)] 78)
      have BBW := Lib.hid (BB.out _ B2)
      have HB2 := Lib.hid B2
      clear hb2 BA BB B2
      go_wp2_with fail
      refine BBW.out.mono ?_
      rintro e w3 ⟨rfl, hb3⟩
      have B3 := HB2.out.trans (hb3.mono HB2.out.size)
      have HB3 := Lib.hid (B3.alloc B3.size (.cells #[.int .i64 (Y.h : Int), .int .i64 (Y.at' : Int), .int .i64 (Y.len : Int)] 78))
      clear hb3 B3
      go_wp2_with fail
      go_ret
      exact FIN.out _ HB3.out
    case pos =>
      rw [hB] at BB
      have ev : swE S a b = if (blkAt S a).len ≠ (blkAt S b).len then 1 else 0 := by unfold swE; rw [if_neg (by simpa using hA), if_neg (by simpa using hB)]
      have hxy : blkAt S a = blkAt S b ∨ apartB (blkAt S a) (blkAt S b) := by
        obtain ⟨_, i, x, _, hi, _, e1⟩ := fndE_zero hA
        obtain ⟨_, j, y, _, hj, _, e2⟩ := fndE_zero hB
        rw [e1, e2]
        exact two_apart hap hi hj
      generalize blkAt S a = X at *
      generalize blkAt S b = Y at *
      generalize swE S a b = E at *
      clear hA hB m hap
      have HXY := Lib.hid hxy
      have HX := Lib.hid hx
      have HY := Lib.hid hy
      go_enter Tryz.func20, Tryz.ntmps20
      go_wp2_with fail
      refine BA.out.mono ?_
      rintro e w2 ⟨rfl, hb2⟩
      have B2 := hb2.alloc hb2.size (.cells #[.int .i64 (X.h : Int), .int .i64 (X.at' : Int), .int .i64 (X.len : Int)] 78)
      have R2 := heap_alloc_new w2 (.cells #[.int .i64 (X.h : Int), .int .i64 (X.at' : Int), .int .i64 (X.len : Int)] 78)
      have BBW := Lib.hid (BB.out _ B2)
      have HB2 := Lib.hid B2
      clear hb2 BA BB B2 hxy
      go_wp2_with fail
      refine BBW.out.mono ?_
      rintro e w3 ⟨rfl, hb3⟩
      have B3 := HB2.out.trans (hb3.mono HB2.out.size)
      have R3 := (hb3.block _ (lt_of R2)).trans R2
      have B4 := B3.alloc B3.size (.cells #[.int .i64 (Y.h : Int), .int .i64 (Y.at' : Int), .int .i64 (Y.len : Int)] 78)
      have R4 := (heap_alloc_old w3 (.cells #[.int .i64 (Y.h : Int), .int .i64 (Y.at' : Int), .int .i64 (Y.len : Int)] 78) (lt_of R3)).trans R3
      have Q4 := heap_alloc_new w3 (.cells #[.int .i64 (Y.h : Int), .int .i64 (Y.at' : Int), .int .i64 (Y.len : Int)] 78)
      have HB4 := Lib.hid B4
      clear hb3 B3 R3 R2 BBW B4
      go_upto_region 7 with fail
      obtain ⟨r1, hr1⟩ : ∃ r, w2.heap.size = r := ⟨_, rfl⟩
      obtain ⟨r2, hr2⟩ : ∃ r, w3.heap.size = r := ⟨_, rfl⟩
      rw [hr1] at R4 ⊢
      rw [hr2] at Q4 ⊢
      generalize w3.alloc (.cells #[.int .i64 (Y.h : Int), .int .i64 (Y.at' : Int), .int .i64 (Y.len : Int)] 78) = W4 at *
      obtain ⟨x0, x1, x2⟩ := cells3h R4
      obtain ⟨y0, y1, y2⟩ := cells3h Q4
      have HR4 := Lib.hid R4
      have HQ4 := Lib.hid Q4
      clear hr1 hr2 R4 Q4
      by_cases hl : X.len = Y.len
      case neg =>
        have FIN := Lib.hid (fun w' => FINE.out 1 w' (by rw [ev, if_pos hl]) (by decide))
        have hl' : ((X.len : Int) != (Y.len : Int)) = true := by simp; omega
        clear FINE FINO ev hl
        go_wp2_with fail
        go_ret
        exact FIN.out _ HB4.out
      case pos =>
        have FIN := Lib.hid (fun w' => FINO.out w' (by rw [ev, if_neg (by simpa using hl)]))
        have hl' : ((X.len : Int) != (Y.len : Int)) = false := by simp; omega
        have HL := Lib.hid hl
        clear FINE FINO ev hl
        go_wp2_with fail
        go_loopw [36] (fun v wr => ∃ i : Nat, i ≤ X.len ∧ v = .int .i64 (i : Int) ∧ RfMem wr F rp pp M { S with mem := swI S.mem X Y i } kept vm vb vk vks ∧ wr.heap[r1]? = some (.cells #[.int .i64 (X.h : Int), .int .i64 (X.at' : Int), .int .i64 (X.len : Int)] 78 (0, 0)) ∧ wr.heap[r2]? = some (.cells #[.int .i64 (Y.h : Int), .int .i64 (Y.at' : Int), .int .i64 (Y.len : Int)] 78 (0, 0)) ∧ Touch F w wr) (fun v _ => X.len - (intOf v).toNat)
        case atStart => exact ⟨0, Nat.zero_le _, rfl, by rw [swI_zero]; exact HM.out.below HB4.out, HR4.out, HQ4.out, Touch.of_below HB4.out⟩
        case round =>
          obtain ⟨i, hi, rfl, mi, ri1, ri2, ti⟩ := hrel
          by_cases hlt : i < X.len
          · have L := swI_len (i := i) HX.out HY.out HL.out hi
            obtain ⟨g, hg, hrow, hFg⟩ := mi.bytes (by show 0 < (swI S.mem X Y i).length; omega)
            have hg : vm = .slice (some ⟨g, 0, none⟩) (swI S.mem X Y i).length (swI S.mem X Y i).length := hg
            have hrow : byteRow wr g (swI S.mem X Y i) := hrow
            have hne0 : X.len ≠ 0 := by omega
            have ha : X.at' = Y.at' ∨ X.at' + X.len ≤ Y.at' ∨ Y.at' + Y.len ≤ X.at' := by
              have h1 := HL.out
              rcases HXY.out with h | h
              · exact Or.inl (by rw [h])
              · unfold apartB at h; omega
            obtain ⟨s1, s2, s3⟩ := swI_step HX.out HY.out HL.out hlt ha
            have hxi : X.at' + i < S.mem.length := by have := HX.out; omega
            have hyi : Y.at' + i < S.mem.length := by have := HY.out; have := HL.out; omega
            obtain ⟨u, hu⟩ : ∃ u, S.mem[X.at' + i]? = some u := ⟨_, List.getElem?_eq_getElem hxi⟩
            obtain ⟨v, hv⟩ : ∃ v, S.mem[Y.at' + i]? = some v := ⟨_, List.getElem?_eq_getElem hyi⟩
            have s3 := s3 u v hu hv
            have bu := HM.out.mb u (List.mem_of_getElem? hu)
            have bv := HM.out.mb v (List.mem_of_getElem? hv)
            have cu : wr.cell? ⟨g, X.at' + i, none⟩ = some (.int .u8 u) := by rw [hrow.cell _ (by omega), List.getD_eq_getElem?_getD, s1, hu]; rfl
            have cv : wr.cell? ⟨g, Y.at' + i, none⟩ = some (.int .u8 v) := by rw [hrow.cell _ (by omega), List.getD_eq_getElem?_getD, s2, hv]; rfl
            have fu := free_of hrow (X.at' + i)
            have fv := free_of hrow (Y.at' + i)
            have hrw1 : byteRow (wr.setCell ⟨g, X.at' + i, none⟩ (.int .u8 v)) g ((swI S.mem X Y i).set (X.at' + i) v) := hrow.set _ _
            have cv1 : ∃ q, (wr.setCell ⟨g, X.at' + i, none⟩ (.int .u8 v)).cell? ⟨g, Y.at' + i, none⟩ = some (.int .u8 q) := ⟨_, hrw1.cell _ (by rw [List.length_set]; omega)⟩
            obtain ⟨q1, cv1⟩ := cv1
            have fv1 := free_of hrw1 (Y.at' + i)
            have hrw2 := hrw1.set (Y.at' + i) u
            rw [s3] at hrw2
            have tt : Touch (fun k => k = g) wr ((wr.setCell ⟨g, X.at' + i, none⟩ (.int .u8 v)).setCell ⟨g, Y.at' + i, none⟩ (.int .u8 u)) := Touch.setCell (F := fun k => k = g) (p := ⟨g, Y.at' + i, none⟩) (Touch.setCell (F := fun k => k = g) (p := ⟨g, X.at' + i, none⟩) (Touch.refl _ wr) (Or.inl rfl) _) (Or.inl rfl) _
            have ng1 : r1 ≠ g := fun e => by rw [e, show wr.heap[g]? = _ from hrow] at ri1; simp at ri1
            have ng2 : r2 ≠ g := fun e => by rw [e, show wr.heap[g]? = _ from hrow] at ri2; simp at ri2
            have ng3 : rp ≠ g := fun e => by have := mi.self; rw [e, show wr.heap[g]? = _ from hrow] at this; simp at this
            have hbz : Go.Proofs.YtjogaohnphafgaaGreat.bytes (swI S.mem X Y (i + 1)) := by
              rw [← s3]
              intro z hz
              rcases List.mem_or_eq_of_mem_set hz with h1 | h1
              · rcases List.mem_or_eq_of_mem_set h1 with h2 | h2
                · exact mi.mb z h2
                · rw [h2]; exact bv
              · rw [h1]; exact bu
            have ms := mi.octs hg hrw2 (by show _ = (swI S.mem X Y i).length; rw [swI_len HX.out HY.out HL.out hlt, L]) hbz tt
            have NX : Hid (RfMem ((wr.setCell ⟨g, X.at' + i, none⟩ (.int .u8 v)).setCell ⟨g, Y.at' + i, none⟩ (.int .u8 u)).drew F rp pp M { S with mem := swI S.mem X Y (i + 1) } kept vm vb vk vks ∧ ((wr.setCell ⟨g, X.at' + i, none⟩ (.int .u8 v)).setCell ⟨g, Y.at' + i, none⟩ (.int .u8 u)).drew.heap[r1]? = some (.cells #[.int .i64 (X.h : Int), .int .i64 (X.at' : Int), .int .i64 (X.len : Int)] 78 (0, 0)) ∧ ((wr.setCell ⟨g, X.at' + i, none⟩ (.int .u8 v)).setCell ⟨g, Y.at' + i, none⟩ (.int .u8 u)).drew.heap[r2]? = some (.cells #[.int .i64 (Y.h : Int), .int .i64 (Y.at' : Int), .int .i64 (Y.len : Int)] 78 (0, 0)) ∧ Touch F w ((wr.setCell ⟨g, X.at' + i, none⟩ (.int .u8 v)).setCell ⟨g, Y.at' + i, none⟩ (.int .u8 u)).drew) := Lib.hid
              ⟨ms.below (Below.refl _ _).drew, (tt.block r1 (lt_of ri1) ng1).trans ri1, (tt.block r2 (lt_of ri2) ng2).trans ri2, (ti.trans tt (fun k hk => Or.inl (hk ▸ hFg))).drew⟩
            obtain ⟨N, hN⟩ : ∃ N, S.mem.length = N := ⟨_, rfl⟩
            rw [L, hN] at hg
            rw [hN] at hxi hyi hbig
            have hxi' : (X.at' : Int) + (i : Int) < (N : Int) := by omega
            have hyi' : (Y.at' : Int) + (i : Int) < (N : Int) := by omega
            have c6 := mi.cells.2.2.2.2.2.2.1
            rw [hg] at c6
            obtain ⟨x0, x1, x2⟩ := cells3h ri1
            obtain ⟨y0, y1, y2⟩ := cells3h ri2
            have SW : ∀ y : World, (y = wr.drew ∨ y = (wr.setCell ⟨g, X.at' + i, none⟩ (.int .u8 v)).drew) → ∀ k, k ≠ g → y.heap[k]? = wr.heap[k]? := fun y hy k hk => by
              rcases hy with rfl | rfl
              · rfl
              · exact Below.heap_setCell wr ⟨g, X.at' + i, none⟩ _ k hk
            have S0 : (fun y : World => y = wr.drew ∨ y = (wr.setCell ⟨g, X.at' + i, none⟩ (.int .u8 v)).drew) wr.drew := Or.inl rfl
            have e6 : ∀ z : WIn (fun y : World => y = wr.drew ∨ y = (wr.setCell ⟨g, X.at' + i, none⟩ (.int .u8 v)).drew), z.w.cell? ⟨rp, 6, none⟩ = some (.slice (some ⟨g, 0, none⟩) N N) := fun z => (cell_hh (SW _ z.h rp ng3)).trans c6
            have e1 : ∀ z : WIn (fun y : World => y = wr.drew ∨ y = (wr.setCell ⟨g, X.at' + i, none⟩ (.int .u8 v)).drew), z.w.cell? ⟨r1, 1, none⟩ = some (.int .i64 (X.at' : Int)) := fun z => (cell_hh (SW _ z.h r1 ng1)).trans x1
            have e2 : ∀ z : WIn (fun y : World => y = wr.drew ∨ y = (wr.setCell ⟨g, X.at' + i, none⟩ (.int .u8 v)).drew), z.w.cell? ⟨r2, 1, none⟩ = some (.int .i64 (Y.at' : Int)) := fun z => (cell_hh (SW _ z.h r2 ng2)).trans y1
            haveI ne : Nonempty (WIn (fun y : World => y = wr.drew ∨ y = (wr.setCell ⟨g, X.at' + i, none⟩ (.int .u8 v)).drew)) := ⟨⟨wr.drew, S0⟩⟩
            clear L hg hrow hrw1 hrw2 tt ms s1 s2 s3 hu hv ti ri1 ri2 mi hN c6 SW x0 x1 x2 y0 y1 y2 ha
            go_upto_region 12 with fail
            refine wp_normal ?_
            refine wp_region_plan 39 (fun y : World => y = wr.drew ∨ y = (wr.setCell ⟨g, X.at' + i, none⟩ (.int .u8 v)).drew) rfl ?_
            refine wpN_seg [0, 1, 2, 3, 4, 5, 6, 7, 8, 9, 10, 11, 12, 13, 14, 15, 16, 17, 18, 19, 20, 21, 22, 23, 24, 26, 27, 28, 29, 30, 31, 32, 33, 34] (by kernel_rfl) (by kernel_rfl) (by kernel_rfl) (by kernel_rfl) (by decide) (fun _ _ _ _ _ h => h) S0 ?_
            simp only [pick, List.map_cons, List.map_nil, List.getElem?_cons_succ, List.getElem?_cons_zero, Option.getD_some]
            repeat (go_big_quiet_step (fail))
            refine wpQuiet_nil ?_
            clear e6 e1 e2 ne
            refine wpN_two 25 35 _ _ (by kernel_rfl) rfl rfl ?_ ?_
            · refine NextAt.held ?_
              intro K hK
              go_simp
              refine hK _ _ S0 ?_
              clear hK K
              refine wpN_one 35 _ (by kernel_rfl) rfl ?_
              refine NextAt.held ?_
              intro K hK
              go_simp
              refine hK _ _ S0 ?_
              clear hK K
              refine wpN_pure [36] (by kernel_rfl) (by kernel_rfl) (by kernel_rfl) (fun _ _ _ _ _ h => h) (fun _ => S0) ?_
              simp only [pick, List.map_cons, List.map_nil, List.getElem?_cons_succ, List.getElem?_cons_zero, Option.getD_some]
              repeat (go_big_quiet_step (fail))
              refine wpQuiet_nil ?_
              refine wpN_one 37 _ (by kernel_rfl) rfl ?_
              refine NextAt.held ?_
              intro K hK
              go_simp
              refine hK _ _ (Or.inr rfl) ?_
              clear hK K
              refine wpN_pure [38] (by kernel_rfl) (by kernel_rfl) (by kernel_rfl) (fun _ _ _ _ _ h => h) (fun _ => Or.inr rfl) ?_
              simp only [pick, List.map_cons, List.map_nil, List.getElem?_cons_succ, List.getElem?_cons_zero, Option.getD_some]
              repeat (go_big_quiet_step (fail))
              refine wpQuiet_nil ?_
              refine wpN_one 39 _ (by kernel_rfl) rfl ?_
              refine NextAt.free (by kernel_rfl) ?_
              intro K hK
              go_simp
              refine hK _ _ ?_
              clear hK K
              refine wpN_done (by kernel_rfl) ?_
              clear S0 cu cv fu fv cv1 fv1
              go_wp2_with fail
              go_roundw
              case measure => simp only [intOf]; omega
              case rel => exact ⟨i + 1, by omega, by go_num, NX.out.1, NX.out.2.1, NX.out.2.2.1, NX.out.2.2.2⟩
            · refine NextAt.held ?_
              intro K hK
              go_simp
              refine hK _ _ S0 ?_
              clear hK K
              refine wpN_one 25 _ (by kernel_rfl) rfl ?_
              refine NextAt.held ?_
              intro K hK
              go_simp
              refine hK _ _ S0 ?_
              clear hK K
              refine wpN_pure [36] (by kernel_rfl) (by kernel_rfl) (by kernel_rfl) (fun _ _ _ _ _ h => h) (fun _ => S0) ?_
              simp only [pick, List.map_cons, List.map_nil, List.getElem?_cons_succ, List.getElem?_cons_zero, Option.getD_some]
              repeat (go_big_quiet_step (fail))
              refine wpQuiet_nil ?_
              refine wpN_one 37 _ (by kernel_rfl) rfl ?_
              refine NextAt.held ?_
              intro K hK
              go_simp
              refine hK _ _ (Or.inr rfl) ?_
              clear hK K
              refine wpN_pure [38] (by kernel_rfl) (by kernel_rfl) (by kernel_rfl) (fun _ _ _ _ _ h => h) (fun _ => Or.inr rfl) ?_
              simp only [pick, List.map_cons, List.map_nil, List.getElem?_cons_succ, List.getElem?_cons_zero, Option.getD_some]
              repeat (go_big_quiet_step (fail))
              refine wpQuiet_nil ?_
              refine wpN_one 39 _ (by kernel_rfl) rfl ?_
              refine NextAt.free (by kernel_rfl) ?_
              intro K hK
              go_simp
              refine hK _ _ ?_
              clear hK K
              refine wpN_done (by kernel_rfl) ?_
              clear S0 cu cv fu fv cv1 fv1
              go_wp2_with fail
              go_roundw
              case measure => simp only [intOf]; omega
              case rel => exact ⟨i + 1, by omega, by go_num, NX.out.1, NX.out.2.1, NX.out.2.2.1, NX.out.2.2.2⟩
          · obtain rfl : i = X.len := by omega
            have e1 := swI_all (mem := S.mem) HL.out
            rw [e1] at mi
            have F2 := Lib.hid (FIN.out wr mi ti)
            clear mi ri1 ri2 ti e1
            go_wp2_with fail
            go_ret
            exact F2.out

end
end Go.Proofs.YtjogaohnphafgaaGreat

namespace Go.Proofs.YtjogaohnphafgaaGreat
section
open Go.RowKit
set_option linter.unusedVariables false

set_option maxHeartbeats 1000000 in
set_option maxRecDepth 100000 in
theorem eqBlk_any {w : World} {v1 v2 : Value} {l : List Blk} (h1 : OffRow w 78 3 v1 l.length (l.flatMap Blk.cells)) (h2 : OffRow w 78 3 v2 l.length (l.flatMap Blk.cells)) (hl : l.length ≤ 1000000) :
    Calls Tryz.prog 69 #[v1, v2] w (fun e w' => e = .returned (.bool true) ∧ ∃ q, w' = w.drewN q) := by
  obtain ⟨a1, c1, hv1, _⟩ := h1.sh
  obtain ⟨a2, c2, hv2, _⟩ := h2.sh
  subst hv1
  subst hv2
  obtain ⟨n, hn⟩ : ∃ n, l.length = n := ⟨_, rfl⟩
  have H1 := Lib.hid h1
  have H2 := Lib.hid h2
  have HN := Lib.hid hn
  rw [hn] at hl
  rw [hn]
  clear h1 h2 hn
  go_enter Tryz.func69, Tryz.ntmps69
  go_wp2_with fail
  go_loopw [13] (fun v wr => ∃ k q : Nat, k ≤ n ∧ v = .int .i64 (k : Int) ∧ wr = w.drewN q) (fun v _ => n - (intOf v).toNat)
  case atStart => exact ⟨0, 0, Nat.zero_le _, rfl, rfl⟩
  case round =>
    obtain ⟨k, q, hk, rfl, rfl⟩ := hrel
    by_cases hlt : k < n
    · obtain ⟨x, hx⟩ : ∃ x, l[k]? = some x := ⟨_, List.getElem?_eq_getElem (by have := HN.out; omega)⟩
      obtain ⟨g, off, cap, hv, d0, d1, d2, _⟩ := oblk_cells H1.out hx
      obtain ⟨g', off', cap', hv', f0, f1, f2, _⟩ := oblk_cells H2.out hx
      simp only [Value.slice.injEq] at hv hv'
      obtain ⟨rfl, _, rfl⟩ := hv
      obtain ⟨rfl, _, rfl⟩ := hv'
      clear hx
      go_upto_region 6 with fail
      go_quiet (fail)
      go_wp2_with fail
      go_roundw
      case measure => simp only [intOf]; omega
      case rel => exact ⟨k + 1, _, by omega, by go_num, rfl⟩
    · obtain rfl : k = n := by omega
      go_wp2_with fail
      go_ret
      exact ⟨rfl, q, rfl⟩

set_option maxHeartbeats 1000000 in
set_option maxRecDepth 100000 in
theorem eqGap_any {w : World} {B1 B2 : Nat} {v1 v2 : Value} {l : List Gp} (h1 : w.ownsRow B1 92 2 v1 l.length (l.flatMap Gp.cells)) (h2 : w.ownsRow B2 92 2 v2 l.length (l.flatMap Gp.cells)) (hl : l.length ≤ 1000000) :
    Calls Tryz.prog 72 #[v1, v2] w (fun e w' => e = .returned (.bool true) ∧ ∃ q, w' = w.drewN q) := by
  obtain ⟨a1, c1, hv1⟩ := wrow_sh h1
  obtain ⟨a2, c2, hv2⟩ := wrow_sh h2
  subst hv1
  subst hv2
  obtain ⟨n, hn⟩ : ∃ n, l.length = n := ⟨_, rfl⟩
  have H1 := Lib.hid h1
  have H2 := Lib.hid h2
  have HN := Lib.hid hn
  rw [hn] at hl
  rw [hn]
  clear h1 h2 hn
  go_enter Tryz.func72, Tryz.ntmps72
  go_wp2_with fail
  go_loopw [13] (fun v wr => ∃ k q : Nat, k ≤ n ∧ v = .int .i64 (k : Int) ∧ wr = w.drewN q) (fun v _ => n - (intOf v).toNat)
  case atStart => exact ⟨0, 0, Nat.zero_le _, rfl, rfl⟩
  case round =>
    obtain ⟨k, q, hk, rfl, rfl⟩ := hrel
    by_cases hlt : k < n
    · obtain ⟨x, hx⟩ : ∃ x, l[k]? = some x := ⟨_, List.getElem?_eq_getElem (by have := HN.out; omega)⟩
      obtain ⟨g, cap, hv, d0, d1⟩ := gp_cells H1.out hx
      obtain ⟨g', cap', hv', f0, f1⟩ := gp_cells H2.out hx
      simp only [Value.slice.injEq] at hv hv'
      obtain ⟨rfl, _, rfl⟩ := hv
      obtain ⟨rfl, _, rfl⟩ := hv'
      clear hx
      go_upto_region 6 with fail
      go_quiet (fail)
      go_wp2_with fail
      go_roundw
      case measure => simp only [intOf]; omega
      case rel => exact ⟨k + 1, _, by omega, by go_num, rfl⟩
    · obtain rfl : k = n := by omega
      go_wp2_with fail
      go_ret
      exact ⟨rfl, q, rfl⟩

set_option maxHeartbeats 1000000 in
set_option maxRecDepth 100000 in
theorem eqShf_any {w : World} {B1 B2 : Nat} {v1 v2 : Value} {l : List Shf} (h1 : w.ownsRow B1 64 3 v1 l.length (l.flatMap Shf.cells)) (h2 : w.ownsRow B2 64 3 v2 l.length (l.flatMap Shf.cells)) (hl : l.length ≤ 1000000) :
    Calls Tryz.prog 23 #[v1, v2] w (fun e w' => e = .returned (.bool true) ∧ ∃ q, w' = w.drewN q) := by
  obtain ⟨a1, c1, hv1⟩ := wrow_sh h1
  obtain ⟨a2, c2, hv2⟩ := wrow_sh h2
  subst hv1
  subst hv2
  obtain ⟨n, hn⟩ : ∃ n, l.length = n := ⟨_, rfl⟩
  have H1 := Lib.hid h1
  have H2 := Lib.hid h2
  have HN := Lib.hid hn
  rw [hn] at hl
  rw [hn]
  clear h1 h2 hn
  go_enter Tryz.func23, Tryz.ntmps23
  go_wp2_with fail
  go_loopw [13] (fun v wr => ∃ k q : Nat, k ≤ n ∧ v = .int .i64 (k : Int) ∧ wr = w.drewN q) (fun v _ => n - (intOf v).toNat)
  case atStart => exact ⟨0, 0, Nat.zero_le _, rfl, rfl⟩
  case round =>
    obtain ⟨k, q, hk, rfl, rfl⟩ := hrel
    by_cases hlt : k < n
    · obtain ⟨x, hx⟩ : ∃ x, l[k]? = some x := ⟨_, List.getElem?_eq_getElem (by have := HN.out; omega)⟩
      obtain ⟨g, cap, hv, d0, d1, d2⟩ := shf_cells H1.out hx
      obtain ⟨g', cap', hv', f0, f1, f2⟩ := shf_cells H2.out hx
      simp only [Value.slice.injEq] at hv hv'
      obtain ⟨rfl, _, rfl⟩ := hv
      obtain ⟨rfl, _, rfl⟩ := hv'
      clear hx
      go_upto_region 6 with fail
      go_quiet (fail)
      go_wp2_with fail
      go_roundw
      case measure => simp only [intOf]; omega
      case rel => exact ⟨k + 1, _, by omega, by go_num, rfl⟩
    · obtain rfl : k = n := by omega
      go_wp2_with fail
      go_ret
      exact ⟨rfl, q, rfl⟩

end
end Go.Proofs.YtjogaohnphafgaaGreat

namespace Go.Proofs.YtjogaohnphafgaaGreat
section
open Go.RowKit
set_option linter.unusedVariables false

theorem RfMem.pushed {w w' : World} {F F' : Nat → Prop} {rp pp M : Nat} {S : HpSt} {kept : List (List Blk)} {vm vb vk vk' v : Value} {vks : List Value} (m : RfMem w F rp pp M S kept vm vb vk vks) (hF : ∀ k, F k → F' k)
    (self : w'.heap[rp]? = some (.cells #[.pointer (some ⟨pp, 0, none⟩), .int .i64 S.k, .int .i64 S.s, .int .i64 S.m, .bool S.closed, .int .i64 (S.count : Int), vm, vb, .int .i64 (S.last : Int), vk'] 42 (0, 0)))
    (hrow : w'.ownsRow 0 39 1 vk' (kept.length + 1) (vks ++ [v]) ∧ ∀ k, vk'.ownBlock = some k → F' k)
    (hv : w'.ownsRow 0 78 3 v S.bl.length (S.bl.flatMap Blk.cells) ∧ ∀ k, v.ownBlock = some k → F' k ∧ w.heap.size ≤ k)
    (keep : ∀ k, F k → k < w.heap.size → k ≠ rp → vk.ownBlock ≠ some k → w'.heap[k]? = w.heap[k]?) (hfew : kept.length < 1000) :
    RfMem w' F' rp pp M S (kept ++ [S.bl]) vm vb vk' (vks ++ [v]) := by
  have nrp : ∀ {k : Nat} {cur : Array Value} {e : TypeId}, w.heap[k]? = some (.cells cur e (0, 0)) → e ≠ 42 → k ≠ rp := fun {k cur e} hk he h => by
    rw [h, m.self] at hk; simp at hk; exact he hk.2.symm
  have nvk : ∀ {k : Nat} {cur : Array Value} {e : TypeId}, w.heap[k]? = some (.cells cur e (0, 0)) → e ≠ 39 → vk.ownBlock ≠ some k := fun {k cur e} hk he h => by
    obtain ⟨c2, h2⟩ := row_block m.krow.1 h
    rw [hk] at h2; simp at h2; exact he h2.2
  have far : ∀ {k : Nat} {cur : Array Value} {e : TypeId}, F k → w.heap[k]? = some (.cells cur e (0, 0)) → e ≠ 42 → e ≠ 39 → w'.heap[k]? = w.heap[k]? := fun {k cur e} hf hk h1 h2 => keep k hf (lt_of hk) (nrp hk h1) (nvk hk h2)
  refine ⟨self, hF _ m.fr, (far m.fp m.purse (by decide) (by decide)).trans m.purse, hF _ m.fp, ⟨ownsRow_same m.mem.1 (fun k hk => ?_), fun k hk => hF k (m.mem.2 k hk)⟩, m.mb, m.msh, ⟨m.row.1.same (fun k hk => ?_), fun k hk => hF k (m.row.2 k hk)⟩, ⟨by rw [List.length_append]; exact hrow.1, hrow.2⟩, ⟨by rw [List.length_append, List.length_append, m.ks.1]; rfl, fun i u l h1 h2 => ?_⟩, m.ord, m.hb, ⟨m.big.1, m.big.2.1, m.big.2.2.1, m.big.2.2.2.1, by rw [List.length_append]; simp; omega, m.big.2.2.2.2.2⟩, fun l hl => ?_⟩
  · obtain ⟨cur, hc⟩ := row_block m.mem.1 hk
    exact far (m.mem.2 k hk) hc (by decide) (by decide)
  · obtain ⟨cur, hc⟩ := m.row.1.block hk
    exact far (m.row.2 k hk) hc (by decide) (by decide)
  · rcases Nat.lt_or_ge i kept.length with hlt | hge
    · rw [List.getElem?_append_left (by rw [m.ks.1]; exact hlt)] at h1
      rw [List.getElem?_append_left hlt] at h2
      obtain ⟨r1, r2⟩ := m.ks.2 i u l h1 h2
      exact ⟨ownsRow_same r1 (fun k hk => by obtain ⟨cur, hc⟩ := row_block r1 hk; exact far (r2 k hk).1 hc (by decide) (by decide)), fun k hk => ⟨hF k (r2 k hk).1, (r2 k hk).2⟩⟩
    · have hi : i = kept.length := by
        have := (List.getElem?_eq_some_iff.1 h2).1
        rw [List.length_append] at this
        simp at this
        omega
      subst hi
      rw [← m.ks.1, List.getElem?_append_right (Nat.le_refl _)] at h1
      rw [List.getElem?_append_right (Nat.le_refl _)] at h2
      simp at h1 h2
      subst h1
      subst h2
      exact ⟨hv.1, fun k hk => ⟨(hv.2 k hk).1, fun e => by
        obtain ⟨cur, hc⟩ := m.row.1.block e
        have := lt_of hc
        have := (hv.2 k hk).2
        omega⟩⟩
  · rcases List.mem_append.1 hl with h1 | h1
    · exact m.kb l h1
    · rw [List.mem_singleton.1 h1]
      exact ⟨m.big.2.1, fun x hx => by have := (m.hb x hx).2.2; have := m.big.1; omega⟩

set_option maxRecDepth 100000 in
/-- Blocks behind an empty slice that is not nil: a row of one's own. -/
theorem append_blks {w : World} {g0 : Nat} {v : Value} {l : List Blk} (hs : w.heap[g0]? = some (.cells #[] 78 (0, 0))) (hr : OffRow w 78 3 v l.length (l.flatMap Blk.cells)) (hn : l.length ≤ 500) (ty : TypeId) :
    ∃ v' w', (Builtin.append_ #[39, 39] ty #[.slice (some ⟨g0, 0, none⟩) 0 0, v]).run Tryz.prog w = .ok v' w' ∧ w'.ownsRow 0 78 3 v' l.length (l.flatMap Blk.cells) ∧ Below w.heap.size w w' ∧ ∀ k, v'.ownBlock = some k → k = g0 ∨ w.heap.size ≤ k := by
  obtain ⟨i0, hi0, hz0, hz1, hz2⟩ := info_parts infoBlk
  obtain ⟨a, c, rfl, _⟩ := hr.sh
  by_cases h0 : l.length = 0
  · have hl : l = [] := List.eq_nil_of_length_eq_zero h0
    subst hl
    refine ⟨.slice (some ⟨g0, 0, none⟩) 0 0, w, ?_, ⟨rfl, Or.inr ⟨g0, 0, #[], rfl, Nat.zero_le _, hs, Nat.le_refl _, Nat.zero_le _, rfl, rfl⟩⟩, Below.refl _ _, fun k hk => Or.inl (by simpa [Value.ownBlock] using hk.symm)⟩
    cases a with
    | none => exact run_append_nothing w _ ty _ i0 Tryz.underlying39 hi0 g0 0 0 0 c (Nat.le_refl _)
    | some a => exact run_append_room_cells (P := Tryz.prog) (w := w) 39 ty 78 i0 Tryz.underlying39 hi0 g0 0 0 0 a 0 c [] (by simp) (fun j u h => by simp at h) (by simp) (Nat.le_refl _) (by simp) (by simp)
  · obtain ⟨g, off, rfl⟩ : ∃ g off, a = some ⟨g, off, none⟩ := by
      rcases hr.2 with ⟨h1, h2⟩ | ⟨g, off, cap, cur, h1, _⟩
      · omega
      · simp only [Value.slice.injEq] at h1
        exact ⟨g, off, h1.1⟩
    obtain ⟨v', w', h1, h2, h3⟩ := run_append_arg_grows (P := Tryz.prog) (w := w) 39 ty 78 i0 (.agg #[.int .i64 0, .int .i64 0, .int .i64 0]) 3 24 Tryz.underlying39 hi0 hz0 hz1 hz2 rfl (by decide) ⟨g0, 0, none⟩ 0 0 [] rfl (by simp) ⟨g, off, none⟩ l.length c (l.flatMap Blk.cells) (blk_len l)
      (fun j u hj => by
        have e1 : (⟨g, off, none⟩ : Addr).add j = ⟨g, off + j, none⟩ := by unfold Addr.add; split <;> simp_all
        rw [e1]
        exact hr.cell hj) (by omega) (by unfold maxLen; omega) (by omega)
    refine ⟨v', w', h1, ?_, (Below.refl _ w).grown h3 (Nat.le_refl _) (by simp), fun k hk => Or.inr (h2.lt k hk).1⟩
    have := row_low h2 (Nat.zero_le _)
    rw [Nat.zero_add] at this
    exact this

/-- copy of octets of the memory within the memory. -/
theorem RfMem.cpy {w : World} {F : Nat → Prop} {rp pp M : Nat} {S : HpSt} {kept : List (List Blk)} {vm vb vk : Value} {vks : List Value} (m : RfMem w F rp pp M S kept vm vb vk vks) (to' n fr k c : Nat) (ad sr : Option Addr) (hle : to' + n ≤ S.mem.length) (hkn : k ≤ n) (hle2 : fr + k ≤ S.mem.length)
    (hd : 0 < n → ∃ g, vm = .slice (some ⟨g, 0, none⟩) S.mem.length S.mem.length ∧ ad = some ⟨g, to', none⟩) (hs : 0 < k → ∃ g, vm = .slice (some ⟨g, 0, none⟩) S.mem.length S.mem.length ∧ sr = some ⟨g, fr, none⟩) :
    ∃ w', (Builtin.copy_ #[38, 38] 3 #[.slice ad n n, .slice sr k c]).run Tryz.prog w = .ok (.int .i64 k) w' ∧ RfMem w' F rp pp M { S with mem := splice S.mem to' ((S.mem.drop fr).take k) } kept vm vb vk vks ∧ Touch (fun k => vm.ownBlock = some k) w w' :=
  m.put to' n k c ad sr _ hle hkn hd (m.octR fr k c sr hle2 hs) (fun u hu => m.mb u (List.mem_of_mem_drop (List.mem_of_mem_take hu)))

theorem OffRow.set {w : World} {e size n g off cap : Nat} {xs : List Value} (h : OffRow w e size (.slice (some ⟨g, off, none⟩) n cap) n xs) (j : Nat) (u : Value) : OffRow (w.setCell ⟨g, off + j, none⟩ u) e size (.slice (some ⟨g, off, none⟩) n cap) n (xs.set j u) := by
  refine ⟨by rw [List.length_set]; exact h.1, ?_⟩
  rcases h.2 with ⟨h1, h2⟩ | ⟨g', off', cap', cur, h1, hg, hn, hm, hs, ht⟩
  · cases h1
  · simp only [Value.slice.injEq, Option.some.injEq, Addr.mk.injEq, and_true, true_and] at h1
    obtain ⟨⟨rfl, rfl⟩, rfl⟩ := h1
    refine Or.inr ⟨g, off, cap, cur.setIfInBounds (off + j) u, rfl, block_setCell hg (off + j) u, hn, hm, by simpa using hs, ?_⟩
    rw [Array.toList_setIfInBounds, ← ht, List.drop_set, if_neg (by omega), Nat.add_sub_cancel_left, List.take_set]

end
end Go.Proofs.YtjogaohnphafgaaGreat
