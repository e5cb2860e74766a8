/-
  The reference's heap: the blocks sorted are one list; the place that is found (plain). No conditions.
  The reference's heap: a place for octets. No conditions but bounds and blocks apart.
-/
import Derived.Test.YtjogaohnphafgaaGreatMoveRunsPbe
import Derived.Test.YtjogaohnphafgaaGreatMoveRunsPap
import Derived.Test.YtjogaohnphafgaaGreatMoveRunsPau

namespace Go.Proofs.YtjogaohnphafgaaGreat
section
open Go.RowKit
set_option linter.unusedVariables false

/-- The chosen of some gaps. -/
def selOf (l : List Gp) (n : Nat) (way : Int) : Option Gp := if way = 1 then (l.filter fun y => !decide ((y.len : Int) < (n : Int))).head? else minG (l.filter fun y => !decide ((y.len : Int) < (n : Int)))
theorem gapSel_selOf (M : Nat) (L : List Blk) (n : Nat) (way : Int) : gapSel M L n way = selOf (gapsOf M L) n way := rfl
theorem minG_snoc (l : List Gp) (g : Gp) : minG (l ++ [g]) = some (match minG l with | none => g | some m => if g.len < m.len then g else m) := by
  cases l with
  | nil => rfl
  | cons x l =>
    show some (minOf x (l ++ [g])) = some (if g.len < (minOf x l).len then g else minOf x l)
    unfold minOf
    rw [List.foldl_append]
    rfl
theorem selOf_skip {G : List Gp} {k n : Nat} {way : Int} {g : Gp} (hg : G[k]? = some g) (h : g.len < n) : selOf (G.take (k + 1)) n way = selOf (G.take k) n way := by
  have e : (G.take (k + 1)).filter (fun y => !decide ((y.len : Int) < (n : Int))) = (G.take k).filter (fun y => !decide ((y.len : Int) < (n : Int))) := by
    rw [List.take_add_one, hg, List.filter_append]
    simp [h]
  unfold selOf
  rw [e]
theorem selOf_none {G : List Gp} {k n : Nat} {way : Int} {g : Gp} (hg : G[k]? = some g) (h : n ≤ g.len) (hs : selOf (G.take k) n way = none) : selOf (G.take (k + 1)) n way = some g := by
  have e : (G.take (k + 1)).filter (fun y => !decide ((y.len : Int) < (n : Int))) = (G.take k).filter (fun y => !decide ((y.len : Int) < (n : Int))) ++ [g] := by
    rw [List.take_add_one, hg, List.filter_append]
    simp [h]
  unfold selOf at hs ⊢
  rw [e]
  split at hs
  · next hw =>
    rw [if_pos hw]
    have : (G.take k).filter (fun y => !decide ((y.len : Int) < (n : Int))) = [] := List.head?_eq_none_iff.1 hs
    rw [this]
    rfl
  · next hw =>
    rw [if_neg hw, minG_snoc, hs]
theorem selOf_some {G : List Gp} {k n : Nat} {way : Int} {g m : Gp} (hg : G[k]? = some g) (h : n ≤ g.len) (hs : selOf (G.take k) n way = some m) : selOf (G.take (k + 1)) n way = some (if way ≠ 1 ∧ g.len < m.len then g else m) := by
  have e : (G.take (k + 1)).filter (fun y => !decide ((y.len : Int) < (n : Int))) = (G.take k).filter (fun y => !decide ((y.len : Int) < (n : Int))) ++ [g] := by
    rw [List.take_add_one, hg, List.filter_append]
    simp [h]
  unfold selOf at hs ⊢
  rw [e]
  split at hs
  · next hw =>
    rw [if_pos hw, if_neg (fun x => x.1 hw), List.head?_append, hs]
    rfl
  · next hw =>
    rw [if_neg hw, minG_snoc, hs]
    congr 1
    by_cases hlt : g.len < m.len
    · rw [if_pos ⟨hw, hlt⟩]; simp only; rw [if_pos hlt]
    · rw [if_neg (fun x => hlt x.2)]; simp only; rw [if_neg hlt]

/-- The best so far: its number. -/
def BestI (G : List Gp) (n : Nat) (way : Int) (k : Nat) (b : Int) : Prop := (b = -1 ∧ selOf (G.take k) n way = none) ∨ ∃ (i : Nat) (m : Gp), b = (i : Int) ∧ i < k ∧ G[i]? = some m ∧ selOf (G.take k) n way = some m
theorem BestI.skip {G : List Gp} {k n : Nat} {way b : Int} {g : Gp} (h : BestI G n way k b) (hg : G[k]? = some g) (hn : g.len < n) : BestI G n way (k + 1) b := by
  rcases h with ⟨h1, h2⟩ | ⟨i, m, h1, h2, h3, h4⟩
  · exact Or.inl ⟨h1, by rw [selOf_skip hg hn]; exact h2⟩
  · exact Or.inr ⟨i, m, h1, by omega, h3, by rw [selOf_skip hg hn]; exact h4⟩
theorem BestI.first {G : List Gp} {k n : Nat} {way : Int} {g : Gp} (h : BestI G n way k (-1)) (hg : G[k]? = some g) (hn : n ≤ g.len) : BestI G n way (k + 1) (k : Int) := by
  rcases h with ⟨h1, h2⟩ | ⟨i, m, h1, h2, h3, h4⟩
  · exact Or.inr ⟨k, g, rfl, by omega, hg, selOf_none hg hn h2⟩
  · omega
theorem BestI.keep {G : List Gp} {k n i : Nat} {way : Int} {g m : Gp} (h : BestI G n way k (i : Int)) (hi : G[i]? = some m) (hg : G[k]? = some g) (hn : n ≤ g.len) (hw : ¬ (way ≠ 1 ∧ g.len < m.len)) : BestI G n way (k + 1) (i : Int) := by
  rcases h with ⟨h1, h2⟩ | ⟨j, m', h1, h2, h3, h4⟩
  · omega
  · obtain rfl : i = j := by omega
    rw [hi] at h3
    cases h3
    exact Or.inr ⟨i, m, rfl, by omega, hi, by rw [selOf_some hg hn h4, if_neg hw]⟩
theorem BestI.turn {G : List Gp} {k n i : Nat} {way : Int} {g m : Gp} (h : BestI G n way k (i : Int)) (hi : G[i]? = some m) (hg : G[k]? = some g) (hn : n ≤ g.len) (hw : way ≠ 1 ∧ g.len < m.len) : BestI G n way (k + 1) (k : Int) := by
  rcases h with ⟨h1, h2⟩ | ⟨j, m', h1, h2, h3, h4⟩
  · omega
  · obtain rfl : i = j := by omega
    rw [hi] at h3
    cases h3
    exact Or.inr ⟨k, g, rfl, by omega, hg, by rw [selOf_some hg hn h4, if_pos hw]⟩
theorem BestI.start (G : List Gp) (n : Nat) (way : Int) : BestI G n way 0 (-1) := Or.inl ⟨rfl, by unfold selOf; split <;> rfl⟩

end
end Go.Proofs.YtjogaohnphafgaaGreat

namespace Go.Proofs.YtjogaohnphafgaaGreat
section
open Go.RowKit
set_option linter.unusedVariables false

theorem pol_ok {k s m : Int} (h : polErr k s m = 0) : (1 ≤ k ∧ k ≤ 5) ∧ (k = 2 → 1 ≤ s ∧ s ≤ 100000) ∧ (0 ≤ m ∧ m ≤ 100000) := by
  unfold polErr at h
  split at h
  · next h1 =>
    split at h
    · next h2 => exact ⟨h1, h2.1, h2.2.2⟩
    · cases h
  · cases h
/-- What place gives: an address and the room then. -/
def RpPost (S : HpSt) (L : List Blk) (n : Nat) (way : Int) (w : World) : Ending → World → Prop := fun e w' => Below w.heap.size w w' ∧
  ((∃ g, gapSel S.mem.length L n way = some g ∧ e = .returned (.tuple #[.int .i64 (g.at' : Int), .int .i64 (S.mem.length : Int), .int .i64 0])) ∨
   (gapSel S.mem.length L n way = none ∧ ((100000 < endL L + n ∧ e = .returned (.tuple #[.int .i64 0, .int .i64 0, .int .i64 4])) ∨
    (endL L + n ≤ 100000 ∧ S.m < ((endL L + n : Nat) : Int) ∧ e = .returned (.tuple #[.int .i64 0, .int .i64 0, .int .i64 12])) ∨
    (endL L + n ≤ 100000 ∧ ((endL L + n : Nat) : Int) ≤ S.m ∧ e = .returned (.tuple #[.int .i64 (endL L : Int), .int .i64 (growR S.k S.s S.m S.mem.length ((endL L + n : Nat) : Int)), .int .i64 0])))))

set_option maxHeartbeats 4000000 in
set_option maxRecDepth 100000 in
theorem placeR_any {w : World} {F : Nat → Prop} {rp pp M : Nat} {S : HpSt} {kept : List (List Blk)} {vm vb vk : Value} {vks : List Value} (m : RfMem w F rp pp M S kept vm vb vk vks) (hap : S.bl.Pairwise apartB) (hp : polErr S.k S.s S.m = 0)
    {L : List Blk} (hL : SortedL (lieL S.bl) L) (n : Nat) (hn : n ≤ 100000) (way : Int) (hw : way = 1 ∨ way = 2) :
    Calls Tryz.prog 37 #[.pointer (some ⟨rp, 0, none⟩), .int .i64 (n : Int), .int .i64 way] w (RpPost S L n way w) := by
  have HM := Lib.hid m
  obtain ⟨G, hG⟩ : ∃ G, gapsOf S.mem.length L = G := ⟨_, rfl⟩
  have hGS : gapSel S.mem.length L n way = selOf G n way := by rw [gapSel_selOf, hG]
  have GP : Hid (∀ W, Below w.heap.size w W → Calls Tryz.prog 45 #[.pointer (some ⟨rp, 0, none⟩)] W (fun e W' => ∃ (a : Option Addr) (cap : Nat), e = .returned (.slice a G.length cap) ∧ W'.ownsRow W.heap.size 92 2 (.slice a G.length cap) G.length (G.flatMap Gp.cells) ∧ Below W.heap.size W W')) := Lib.hid (fun W hW => by
    refine (gapsR_any (HM.out.below hW)).mono ?_
    rintro e W' ⟨L', v, hs, rfl, hr, hb⟩
    rw [← sorted_one hL hs hap, hG] at hr
    obtain ⟨a, cap, hv⟩ := wrow_sh hr
    subst hv
    exact ⟨a, cap, rfl, hr, hb⟩)
  have EN : Hid (∀ W, Below w.heap.size w W → Calls Tryz.prog 54 #[.pointer (some ⟨rp, 0, none⟩)] W (fun e W' => e = .returned (.int .i64 (endL L : Int)) ∧ Below W.heap.size W W')) := Lib.hid (fun W hW => by
    refine (endR_any (HM.out.below hW)).mono ?_
    rintro e W' ⟨L', hs, rfl, hb⟩
    rw [← sorted_one hL hs hap]
    exact ⟨rfl, hb⟩)
  have hGL : ∀ g ∈ G, g.len ≤ 100000 ∧ g.at' ≤ 100000 := fun g hg => by
    rw [← hG] at hg
    have := gapsOf_in (fun x hx => by have := (m.hb x (hL.mem hx).1).2.2; omega) g hg
    have := m.big.1
    omega
  have hfew : G.length ≤ 501 := by rw [← hG]; have := gapsOf_len S.mem.length L; have := hL.len; have := m.big.2.1; omega
  have hend : endL L ≤ 100000 := by have := endL_le hL (fun x hx => (m.hb x hx).2.2); have := m.big.1; omega
  have HGL := Lib.hid hGL
  have FINS : Hid (∀ e w', Below w.heap.size w w' → ((∃ g, selOf G n way = some g ∧ e = .returned (.tuple #[.int .i64 (g.at' : Int), .int .i64 (S.mem.length : Int), .int .i64 0])) ∨
   (selOf G n way = none ∧ ((100000 < endL L + n ∧ e = .returned (.tuple #[.int .i64 0, .int .i64 0, .int .i64 4])) ∨
    (endL L + n ≤ 100000 ∧ S.m < ((endL L + n : Nat) : Int) ∧ e = .returned (.tuple #[.int .i64 0, .int .i64 0, .int .i64 12])) ∨
    (endL L + n ≤ 100000 ∧ ((endL L + n : Nat) : Int) ≤ S.m ∧ e = .returned (.tuple #[.int .i64 (endL L : Int), .int .i64 (growR S.k S.s S.m S.mem.length ((endL L + n : Nat) : Int)), .int .i64 0]))))) → RpPost S L n way w e w') := Lib.hid (fun e w' h1 h2 => ⟨h1, by rw [hGS]; exact h2⟩)
  obtain ⟨N, hN⟩ : ∃ N, G.length = N := ⟨_, rfl⟩
  have HN := Lib.hid hN
  rw [hN] at hfew GP
  have G1 := Lib.hid (GP.out w (Below.refl _ _))
  have HP := Lib.hid hp
  generalize endL L = E at *
  clear m hap hL hG hGS hGL hN hp
  go_enter Tryz.func37, Tryz.ntmps37
  go_wp2_with fail
  refine G1.out.mono ?_
  rintro e w1 ⟨a, cap, rfl, hrow, hb1⟩
  have HROW := Lib.hid hrow
  have HB1 := Lib.hid hb1
  clear hrow hb1 G1
  go_wp2_with fail
  go_loopw [9, 16] (fun b i wr => ∃ (k : Nat) (bb : Int), k ≤ N ∧ i = .int .i64 (k : Int) ∧ b = .int .i64 bb ∧ BestI G n way k bb ∧ Below w1.heap.size w1 wr) (fun _ i _ => N - (intOf i).toNat)
  case atStart => exact ⟨0, -1, Nat.zero_le _, rfl, rfl, BestI.start G n way, Below.refl _ _⟩
  case round =>
    obtain ⟨k, bb, hk, rfl, rfl, hbi, hb⟩ := hrel
    by_cases hlt : k < N
    · obtain ⟨x, hx⟩ : ∃ x, G[k]? = some x := ⟨_, List.getElem?_eq_getElem (by have := HN.out; omega)⟩
      obtain ⟨g, cap2, hv2, d0, d1⟩ := gp_cells (by rw [HN.out]; exact HROW.out) hx
      simp only [Value.slice.injEq] at hv2
      obtain ⟨rfl, k6, rfl⟩ := hv2
      have d0 := old_cell hb d0
      have d1 := old_cell hb d1
      have hxl := HGL.out x (List.mem_of_getElem? hx)
      have HX := Lib.hid hx
      have HBI := Lib.hid hbi
      have B2 := (hb.alloc hb.size (.cells #[.int .i64 (x.at' : Int), .int .i64 (x.len : Int)] 92))
      have HB2 := Lib.hid B2
      clear k6 hx hb B2 hbi
      by_cases hfit : (n : Int) ≤ (x.len : Int)
      · rcases (show bb = -1 ∨ ∃ i m, bb = ((i : Nat) : Int) ∧ i < k ∧ G[i]? = some m from by
          rcases HBI.out with ⟨h1, _⟩ | ⟨i, m, h1, h2, h3, _⟩
          · exact Or.inl h1
          · exact Or.inr ⟨i, m, h1, h2, h3⟩) with hbb | ⟨i, m, hbb, hik, him⟩
        · subst hbb
          have NX := Lib.hid (HBI.out.first HX.out (by omega))
          go_upto_region 5 with fail
          go_quiet (fail)
          go_wp2_with fail
          go_roundw
          case measure => simp only [intOf]; omega
          case rel => exact ⟨k + 1, (k : Int), by omega, by go_num, rfl, NX.out, bdrewN HB2.out _⟩
        · have HIM := Lib.hid him
          have hml := (HGL.out m (List.mem_of_getElem? him)).1
          have hneg : ¬ bb < 0 := by omega
          have HBB := Lib.hid hbb
          clear him hbb
          rcases hw with rfl | rfl
          · have NX : Hid (BestI G n 1 (k + 1) bb) := Lib.hid (by
              have hbb := HBB.out
              subst hbb
              exact HBI.out.keep HIM.out HX.out (by omega) (fun x => x.1 rfl))
            go_upto_region 5 with fail
            go_quiet (fail)
            go_wp2_with fail
            go_roundw
            case measure => simp only [intOf]; omega
            case rel => exact ⟨k + 1, bb, by omega, by go_num, rfl, NX.out, bdrewN HB2.out _⟩
          · go_upto_region 5 with fail
            have RS := heap_alloc_new wr (.cells #[.int .i64 (x.at' : Int), .int .i64 (x.len : Int)] 92)
            obtain ⟨r, hr⟩ : ∃ r, wr.heap.size = r := ⟨_, rfl⟩
            rw [hr] at RS ⊢
            generalize wr.alloc (.cells #[.int .i64 (x.at' : Int), .int .i64 (x.len : Int)] 92) = W at *
            have q1 := (cells2 RS).2
            have hbb := HBB.out
            subst hbb
            have S0 : BelM W W.drew := (Below.refl _ W).drew
            have e1 : ∀ z : WIn (BelM W), z.w.cell? ⟨r, 1, none⟩ = some (.int .i64 (x.len : Int)) := fun z => old_cell z.h q1
            haveI ne : Nonempty (WIn (BelM W)) := ⟨⟨W.drew, S0⟩⟩
            have hlti : (i : Int) < (N : Int) := by omega
            clear RS d0 d1
            refine wp_normal ?_
            refine wp_region_plan 19 (BelM W) rfl ?_
            refine wpN_seg [0, 1, 2, 3, 4, 5, 6, 7, 8, 9, 10, 11, 12, 13] (by kernel_rfl) (by kernel_rfl) (by kernel_rfl) (by kernel_rfl) (by decide) (fun _ _ _ _ _ h => h) S0 ?_
            simp only [pick, List.map_cons, List.map_nil, List.getElem?_cons_succ, List.getElem?_cons_zero, Option.getD_some]
            repeat (go_big_quiet_step (fail))
            refine wpQuiet_nil ?_
            clear e1 ne
            refine wpN_pure [15] (by kernel_rfl) (by kernel_rfl) (by kernel_rfl) (fun _ _ _ _ _ h => h) (fun _ => S0) ?_
            simp only [pick, List.map_cons, List.map_nil, List.getElem?_cons_succ, List.getElem?_cons_zero, Option.getD_some]
            repeat (go_big_quiet_step (fail))
            refine wpQuiet_nil ?_
            refine wpN_one 14 _ (by kernel_rfl) rfl ?_
            refine NextAt.held ?_
            intro K hK
            go_simp
            have BW := HB1.out.trans (HB2.out.mono HB1.out.size)
            have BD : Below w.heap.size w W.drew := BW.drew
            refine (GP.out _ BD).mono ?_
            rintro e w3 ⟨a3, cap3, rfl, hrow3, hb3⟩
            obtain ⟨g3, cap4, hv3, f0, f1⟩ := gp_cells (by rw [HN.out]; exact hrow3) HIM.out
            rw [HN.out] at hv3
            simp only [Value.slice.injEq, true_and] at hv3
            obtain ⟨rfl, rfl⟩ := hv3
            have HB3 := Lib.hid ((HB2.out.drew).trans (hb3.mono HB2.out.size))
            have S3 : BelM W w3 := S0.trans (hb3.mono (Nat.le_refl _))
            clear hrow3 hb3 BW BD f0
            go_simp
            refine hK _ _ S3 ?_
            clear hK K
            refine wpN_pure [16, 17] (by kernel_rfl) (by kernel_rfl) (by kernel_rfl) (fun _ _ _ _ _ h => h) (fun _ => S3) ?_
            simp only [pick, List.map_cons, List.map_nil, List.getElem?_cons_succ, List.getElem?_cons_zero, Option.getD_some]
            repeat (go_big_quiet_step (fail))
            refine wpQuiet_nil ?_
            refine wpN_one 18 _ (by kernel_rfl) rfl ?_
            refine NextAt.held ?_
            intro K hK
            go_simp
            refine hK _ _ S3 ?_
            clear hK K
            refine wpN_one 19 _ (by kernel_rfl) rfl ?_
            refine NextAt.free (by kernel_rfl) ?_
            intro K hK
            go_simp
            refine hK _ _ ?_
            clear hK K
            refine wpN_one 20 _ (by kernel_rfl) rfl ?_
            refine NextAt.free (by kernel_rfl) ?_
            intro K hK
            go_simp
            refine hK _ _ ?_
            clear hK K
            refine wpN_one 21 _ (by kernel_rfl) rfl ?_
            refine NextAt.free (by kernel_rfl) ?_
            intro K hK
            go_simp
            refine hK _ _ ?_
            clear hK K
            refine wpN_one 22 _ (by kernel_rfl) rfl ?_
            refine NextAt.free (by kernel_rfl) ?_
            intro K hK
            go_simp
            refine hK _ _ ?_
            clear hK K
            refine wpN_done (by kernel_rfl) ?_
            by_cases hless : (x.len : Int) < (m.len : Int)
            · have NX := Lib.hid (HBI.out.turn HIM.out HX.out (by omega) ⟨by decide, by omega⟩)
              clear S0 q1
              go_wp2_with fail
              go_roundw
              case measure => simp only [intOf]; omega
              case rel => exact ⟨k + 1, (k : Int), by omega, by go_num, rfl, NX.out, HB3.out⟩
            · have NX := Lib.hid (HBI.out.keep HIM.out HX.out (by omega) (fun x => by omega))
              clear S0 q1
              go_wp2_with fail
              go_roundw
              case measure => simp only [intOf]; omega
              case rel => exact ⟨k + 1, (i : Int), by omega, by go_num, rfl, NX.out, HB3.out⟩
      · have NX := Lib.hid (HBI.out.skip HX.out (by omega))
        go_upto_region 5 with fail
        go_quiet (fail)
        go_wp2_with fail
        go_roundw
        case measure => simp only [intOf]; omega
        case rel => exact ⟨k + 1, bb, by omega, by go_num, rfl, NX.out, bdrewN HB2.out _⟩
    · obtain rfl : k = N := by omega
      have ek : G.take k = G := List.take_of_length_le (by have := HN.out; omega)
      have BW := HB1.out.trans (hb.mono HB1.out.size)
      have HBW := Lib.hid BW
      have c6 := (HM.out.below BW).cells.2.2.2.2.2.2.1
      obtain ⟨ma, mc, hvm, hmc1, hmc2, _⟩ := HM.out.memory
      rw [hvm] at c6
      have hml := HM.out.big.1
      rcases hbi with ⟨hbb, hsel⟩ | ⟨i, m, hbb, hik, him, hsel⟩
      · subst hbb
        rw [ek] at hsel
        obtain ⟨pk, ps, pm⟩ := pol_ok HP.out
        have EW := Lib.hid (EN.out _ BW)
        have FN := Lib.hid (fun e w' h1 h2 => FINS.out e w' h1 (Or.inr ⟨hsel, h2⟩))
        have mc3 := (HM.out.below BW).cells.2.2.2.1
        clear hb BW ek hvm hsel FINS GP
        go_wp2_with fail
        refine EW.out.mono ?_
        rintro e w3 ⟨rfl, hb3⟩
        have HB3 := Lib.hid (HBW.out.trans (hb3.mono HBW.out.size))
        have c6 := old_cell hb3 c6
        have c3 := old_cell hb3 mc3
        clear hb3 EW mc3
        by_cases h1 : 100000 < E + n
        · have F1 := Lib.hid (FN.out _ w3 HB3.out (Or.inl ⟨h1, rfl⟩))
          have h1' : (100000 : Int) < (E : Int) + (n : Int) := by omega
          clear FN c3 c6
          go_wp2_with fail
          go_ret3
          exact F1.out
        · have h1' : ¬ (100000 : Int) < (E : Int) + (n : Int) := by omega
          by_cases h2 : S.m < (E : Int) + (n : Int)
          · have F1 := Lib.hid (FN.out _ w3 HB3.out (Or.inr (Or.inl ⟨by omega, by omega, rfl⟩)))
            clear FN c6
            go_wp2_with fail
            go_ret3
            exact F1.out
          · have GW := Lib.hid (fun W => grownR_any S.k S.s S.m (S.mem.length : Int) ((E + n : Nat) : Int) W pk ps pm ⟨by omega, by omega⟩ ⟨by omega, by omega⟩)
            unfold WPost at GW
            rw [Int.natCast_add] at GW
            have m3 := HM.out.below HB3.out
            have c1 := m3.cells.2.1
            have c2 := m3.cells.2.2.1
            have F1 : Hid (∀ W, Below w.heap.size w W → RpPost S L n way w (.returned (.tuple #[.int .i64 (E : Int), .int .i64 (growR S.k S.s S.m (S.mem.length : Int) ((E : Int) + (n : Int))), .int .i64 0])) W) := Lib.hid (fun W hW => FN.out _ W hW (Or.inr (Or.inr ⟨by omega, by omega, by rw [Int.natCast_add]⟩)))
            have S0 : BelM w3 w3.drew := (Below.refl _ w3).drew
            have e1 : ∀ z : WIn (BelM w3), z.w.cell? ⟨rp, 1, none⟩ = some (.int .i64 S.k) := fun z => old_cell z.h c1
            have e2 : ∀ z : WIn (BelM w3), z.w.cell? ⟨rp, 2, none⟩ = some (.int .i64 S.s) := fun z => old_cell z.h c2
            have e3 : ∀ z : WIn (BelM w3), z.w.cell? ⟨rp, 3, none⟩ = some (.int .i64 S.m) := fun z => old_cell z.h c3
            have e6 : ∀ z : WIn (BelM w3), z.w.cell? ⟨rp, 6, none⟩ = some (.slice ma S.mem.length mc) := fun z => old_cell z.h c6
            haveI ne : Nonempty (WIn (BelM w3)) := ⟨⟨w3.drew, S0⟩⟩
            generalize growR S.k S.s S.m (S.mem.length : Int) ((E : Int) + (n : Int)) = gr at *
            clear FN m3 c1 c2
            go_upto_region 15 with fail
            refine wp_normal ?_
            refine wp_region_plan 13 (BelM w3) rfl ?_
            refine wpN_pure [0, 1, 2, 3, 5, 6, 7, 10, 11, 12] (by kernel_rfl) (by kernel_rfl) (by kernel_rfl) (fun _ _ _ _ _ h => h) (fun _ => S0) ?_
            simp only [pick, List.map_cons, List.map_nil, List.getElem?_cons_succ, List.getElem?_cons_zero, Option.getD_some]
            repeat (go_big_quiet_step (fail))
            refine wpQuiet_nil ?_
            refine wpN_segX [4, 8, 9, 13] [4, 8, 9] (by kernel_rfl) (by kernel_rfl) (by kernel_rfl) (by kernel_rfl) (by decide) (fun _ _ _ _ _ h => h) S0 ?_
            simp only [pick, List.map_cons, List.map_nil, List.getElem?_cons_succ, List.getElem?_cons_zero, Option.getD_some]
            repeat (go_big_quiet_step (fail))
            refine wpQuiet_nil ?_
            clear e1 e2 e3 e6 ne
            refine wpN_one 13 _ (by kernel_rfl) rfl ?_
            refine NextAt.free (by kernel_rfl) ?_
            intro K hK
            go_simp
            refine (GW.out _).mono ?_
            rintro e w4 ⟨rfl, hb4⟩
            have F2 := Lib.hid (F1.out _ (HB3.out.drew.trans (hb4.mono HB3.out.size)))
            clear hb4 S0
            go_simp
            refine hK _ _ ?_
            clear hK K
            refine wpN_pure [14, 15, 16] (by kernel_rfl) (by kernel_rfl) (by kernel_rfl) (fun _ _ _ _ _ h => h) (fun h => by cases h) ?_
            simp only [pick, List.map_cons, List.map_nil, List.getElem?_cons_succ, List.getElem?_cons_zero, Option.getD_some]
            repeat (go_big_quiet_step (fail))
            refine wpQuiet_nil ?_
            refine wpN_done (by kernel_rfl) ?_
            go_wp2_with fail
            go_ret3
            exact F2.out
      · subst hbb
        rw [ek] at hsel
        have hneg : ¬ (i : Int) < 0 := by omega
        have hpos : (0 : Int) ≤ (i : Int) := by omega
        have HIM := Lib.hid him
        have hlti : (i : Int) < (k : Int) := by omega
        have FN := Lib.hid (fun w' h1 => FINS.out (.returned (.tuple #[.int .i64 (m.at' : Int), .int .i64 (S.mem.length : Int), .int .i64 0])) w' h1 (Or.inl ⟨m, hsel, rfl⟩))
        clear hb ek hvm hsel FINS EN him
        go_upto_region 9 with fail
        have S0 : BelM wr wr.drew := (Below.refl _ wr).drew
        have e6 : ∀ z : WIn (BelM wr), z.w.cell? ⟨rp, 6, none⟩ = some (.slice ma S.mem.length mc) := fun z => old_cell z.h c6
        haveI ne : Nonempty (WIn (BelM wr)) := ⟨⟨wr.drew, S0⟩⟩
        refine wp_normal ?_
        refine wp_region_plan 12 (BelM wr) rfl ?_
        refine wpN_seg [0, 2, 6, 7, 8, 9, 10] (by kernel_rfl) (by kernel_rfl) (by kernel_rfl) (by kernel_rfl) (by decide) (fun _ _ _ _ _ h => h) S0 ?_
        simp only [pick, List.map_cons, List.map_nil, List.getElem?_cons_succ, List.getElem?_cons_zero, Option.getD_some]
        repeat (go_big_quiet_step (fail))
        refine wpQuiet_nil ?_
        clear e6 ne
        refine wpN_one 1 _ (by kernel_rfl) rfl ?_
        refine NextAt.held ?_
        intro K hK
        go_simp
        have BD : Below w.heap.size w wr.drew := BW.drew
        refine (GP.out _ BD).mono ?_
        rintro e w3 ⟨a3, cap3, rfl, hrow3, hb3⟩
        obtain ⟨g3, cap4, hv3, f0, f1⟩ := gp_cells (by rw [HN.out]; exact hrow3) HIM.out
        rw [HN.out] at hv3
        simp only [Value.slice.injEq, true_and] at hv3
        obtain ⟨rfl, rfl⟩ := hv3
        have S3 : BelM wr w3 := S0.trans (hb3.mono (Nat.le_refl _))
        have F2 := Lib.hid (FN.out w3 (HBW.out.drew.trans (hb3.mono HBW.out.size)))
        clear hrow3 hb3 BD f1
        go_simp
        refine hK _ _ S3 ?_
        clear hK K
        refine wpN_pure [3, 4] (by kernel_rfl) (by kernel_rfl) (by kernel_rfl) (fun _ _ _ _ _ h => h) (fun _ => S3) ?_
        simp only [pick, List.map_cons, List.map_nil, List.getElem?_cons_succ, List.getElem?_cons_zero, Option.getD_some]
        repeat (go_big_quiet_step (fail))
        refine wpQuiet_nil ?_
        refine wpN_one 5 _ (by kernel_rfl) rfl ?_
        refine NextAt.held ?_
        intro K hK
        go_simp
        refine hK _ _ S3 ?_
        clear hK K
        refine wpN_pure [11] (by kernel_rfl) (by kernel_rfl) (by kernel_rfl) (fun _ _ _ _ _ h => h) (fun _ => S3) ?_
        simp only [pick, List.map_cons, List.map_nil, List.getElem?_cons_succ, List.getElem?_cons_zero, Option.getD_some]
        repeat (go_big_quiet_step (fail))
        refine wpQuiet_nil ?_
        refine wpN_one 12 _ (by kernel_rfl) rfl ?_
        refine NextAt.free (by kernel_rfl) ?_
        intro K hK
        go_simp
        refine hK _ _ ?_
        clear hK K
        refine wpN_pure [13] (by kernel_rfl) (by kernel_rfl) (by kernel_rfl) (fun _ _ _ _ _ h => h) (fun h => by cases h) ?_
        simp only [pick, List.map_cons, List.map_nil, List.getElem?_cons_succ, List.getElem?_cons_zero, Option.getD_some]
        repeat (go_big_quiet_step (fail))
        refine wpQuiet_nil ?_
        refine wpN_done (by kernel_rfl) ?_
        clear S0 S3 BW
        go_wp2_with fail
        go_ret3
        exact F2.out

end
end Go.Proofs.YtjogaohnphafgaaGreat
