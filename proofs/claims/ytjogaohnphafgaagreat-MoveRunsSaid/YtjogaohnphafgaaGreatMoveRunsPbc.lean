/-
  The reference's heap: the end, the gaps. No conditions but bounds.
  The reference's heap: Plan. No conditions but bounds.
-/
import Derived.Test.YtjogaohnphafgaaGreatMoveRunsPbb
import Derived.Test.YtjogaohnphafgaaGreatMoveRunsPax

namespace Go.Proofs.YtjogaohnphafgaaGreat
section
open Go.RowKit
set_option linter.unusedVariables false

theorem RfMem.memory {w : World} {F : Nat → Prop} {rp pp M : Nat} {S : HpSt} {kept : List (List Blk)} {vm vb vk : Value} {vks : List Value} (m : RfMem w F rp pp M S kept vm vb vk vks) :
    ∃ a cap, vm = .slice a S.mem.length cap ∧ S.mem.length ≤ cap ∧ cap ≤ 9223372036854775807 ∧ (0 < S.mem.length → ∃ g, a = some ⟨g, 0, none⟩) := by
  rcases m.mem.1.2 with ⟨h1, h2⟩ | ⟨g, cap, cur, h1, _, hg, hle, hmx, hsz, htk⟩
  · exact ⟨none, 0, by rw [h1, h2], by omega, by omega, fun h => by omega⟩
  · unfold maxLen at hmx
    exact ⟨_, cap, h1, hle, by omega, fun _ => ⟨g, rfl⟩⟩

set_option maxHeartbeats 4000000 in
set_option maxRecDepth 100000 in
theorem endR_any {w : World} {F : Nat → Prop} {rp pp M : Nat} {S : HpSt} {kept : List (List Blk)} {vm vb vk : Value} {vks : List Value} (m : RfMem w F rp pp M S kept vm vb vk vks) :
    Calls Tryz.prog 54 #[.pointer (some ⟨rp, 0, none⟩)] w (EndPost S w) := by
  have C := Lib.hid (lyingR_any m)
  have HM := Lib.hid m
  clear m
  go_enter Tryz.func54, Tryz.ntmps54
  go_wp2_with fail
  refine C.out.mono ?_
  rintro e w1 ⟨v, L, rfl, hs, hrow, hb⟩
  have HS := Lib.hid hs
  have HROW := Lib.hid hrow
  have HB := Lib.hid hb
  obtain ⟨a, cap, hv⟩ := wrow_sh hrow
  obtain ⟨N, hN⟩ : ∃ N, L.length = N := ⟨_, rfl⟩
  have HN := Lib.hid hN
  have HV := Lib.hid hv
  rw [hN] at hv
  subst hv
  have hfew : N ≤ 500 := by have := hs.len; have := HM.out.big.2.1; omega
  clear hs hrow hb C hN
  go_wp2_with fail
  go_loopw [3, 9] (fun n i wr => ∃ k : Nat, k ≤ N ∧ i = .int .i64 (k : Int) ∧ n = .int .i64 (endL (L.take k) : Int) ∧ Below w1.heap.size w1 wr) (fun _ i _ => N - (intOf i).toNat)
  case atStart => exact ⟨0, Nat.zero_le _, rfl, rfl, Below.refl _ _⟩
  case round =>
    obtain ⟨k, hk, rfl, rfl, hb⟩ := hrel
    by_cases hlt : k < N
    · obtain ⟨x, hx⟩ : ∃ x, L[k]? = some x := ⟨_, List.getElem?_eq_getElem (by have := HN.out; omega)⟩
      obtain ⟨g, cap2, hv2, d0, d1, d2, _⟩ := blk_cells (row_low HROW.out (Nat.zero_le _)) hx
      have hv3 := HV.out
      rw [hv2] at hv3
      simp only [Value.slice.injEq] at hv3
      obtain ⟨rfl, k6, rfl⟩ := hv3
      have d0 := old_cell hb d0
      have d1 := old_cell hb d1
      have d2 := old_cell hb d2
      have hin := HM.out.hb x (HS.out.mem (List.mem_of_getElem? hx)).1
      have hbig := HM.out.big.1
      have FIN := Lib.hid (endL_take hx)
      have HB2 := Lib.hid hb
      clear k6 hx hv2 hb
      go_wp2_with fail
      go_roundw
      case measure => simp only [intOf]; omega
      case rel => exact ⟨k + 1, by omega, by go_num, by rw [FIN.out]; go_num, HB2.out.trans ((Below.refl _ _).alloc HB2.out.size _)⟩
    · obtain rfl : k = N := by omega
      have ek : L.take k = L := List.take_of_length_le (by have := HN.out; omega)
      rw [ek]
      have HB2 := Lib.hid hb
      clear ek hb
      go_wp2_with fail
      go_ret
      exact ⟨L, HS.out, rfl, HB.out.trans (HB2.out.mono HB.out.size)⟩

set_option maxHeartbeats 4000000 in
set_option maxRecDepth 100000 in
theorem gapsR_any {w : World} {F : Nat → Prop} {rp pp M : Nat} {S : HpSt} {kept : List (List Blk)} {vm vb vk : Value} {vks : List Value} (m : RfMem w F rp pp M S kept vm vb vk vks) :
    Calls Tryz.prog 45 #[.pointer (some ⟨rp, 0, none⟩)] w (GapsPost S w) := by
  obtain ⟨MM, hM⟩ : ∃ MM, S.mem.length = MM := ⟨_, rfl⟩
  have HMM := Lib.hid hM
  obtain ⟨ma, mc, hvm, _⟩ := m.memory
  have c6 := m.cells.2.2.2.2.2.2.1
  rw [hvm, hM] at c6
  have C := Lib.hid (fun W (hW : Below w.heap.size w W) => lyingR_any (m.below hW))
  have hbig := m.big.1
  rw [hM] at hbig
  have HM := Lib.hid m
  have S0 : BelM w w.drew := (Below.refl _ w).drew
  have e6 : ∀ z : WIn (BelM w), z.w.cell? ⟨rp, 6, none⟩ = some (.slice ma MM mc) := fun z => old_cell z.h c6
  -- what the region leaves
  have REG : Hid (∀ (v : Value) (L : List Blk) (W : World) (sb : Nat), SortedL (lieL S.bl) L → W.ownsRow w.heap.size 78 3 v L.length (L.flatMap Blk.cells) → W.heap[sb]? = some (.cells #[.int .i64 0, .int .i64 (MM : Int), .int .i64 0] 78 (0, 0)) → Below w.heap.size w W →
      ∃ g cap w2, (Builtin.append_ #[39, 39] 39 #[v, .slice (some ⟨sb, 0, none⟩) 1 1]).run Tryz.prog W = .ok (.slice (some ⟨g, 0, none⟩) (L.length + 1) cap) w2 ∧ w2.ownsRow w.heap.size 78 3 (.slice (some ⟨g, 0, none⟩) (L.length + 1) cap) (L ++ [(⟨0, MM, 0⟩ : Blk)]).length ((L ++ [(⟨0, MM, 0⟩ : Blk)]).flatMap Blk.cells) ∧ Below w.heap.size w w2) := Lib.hid (by
    intro v L W sb hs hr hsb hb
    obtain ⟨g, cap, w2, h1, h2, h3, _⟩ := append_blk (us := [.int .i64 0, .int .i64 (MM : Int), .int .i64 0]) hr hsb rfl (by intro u hu; simp at hu; rcases hu with rfl | rfl | rfl <;> rfl) (by have := hs.len; have := HM.out.big.2.1; omega) hb.size 39
    refine ⟨g, cap, w2, h1, ?_, hb.trans h3⟩
    rw [List.length_append, List.flatMap_append]
    exact h2)
  haveI ne : Nonempty (WIn (BelM w)) := ⟨⟨w.drew, S0⟩⟩
  clear m hM hvm c6
  go_enter Tryz.func45, Tryz.ntmps45
  go_upto_region 3 with fail
  go_cut [3, 4, 16, 17, 18] (fun v3 v4 v16 v17 v18 wr => ∃ (L : List Blk) (N g cap : Nat), SortedL (lieL S.bl) L ∧ L.length = N ∧ v3 = .slice none 0 0 ∧ v4 = .int .i64 0 ∧ v16 = .slice (some ⟨g, 0, none⟩) (N + 1) cap ∧ v17 = .int .i64 ((N : Int) + 1) ∧ v18 = .int .i64 0 ∧ wr.ownsRow w.heap.size 78 3 (.slice (some ⟨g, 0, none⟩) (N + 1) cap) (L ++ [(⟨0, MM, 0⟩ : Blk)]).length ((L ++ [(⟨0, MM, 0⟩ : Blk)]).flatMap Blk.cells) ∧ Below w.heap.size w wr)
  case first =>
    refine wp_normal ?_
    refine wp_region_plan 9 (BelM w) rfl ?_
    refine wpN_pure [0, 2, 11] (by kernel_rfl) (by kernel_rfl) (by kernel_rfl) (fun _ _ _ _ _ h => h) (fun _ => S0) ?_
    simp only [pick, List.map_cons, List.map_nil, List.getElem?_cons_succ, List.getElem?_cons_zero, Option.getD_some]
    repeat (go_big_quiet_step (fail))
    refine wpQuiet_nil ?_
    refine wpN_seg [3, 4, 5, 6] (by kernel_rfl) (by kernel_rfl) (by kernel_rfl) (by kernel_rfl) (by decide) (fun _ _ _ _ _ h => h) S0 ?_
    simp only [pick, List.map_cons, List.map_nil, List.getElem?_cons_succ, List.getElem?_cons_zero, Option.getD_some]
    repeat (go_big_quiet_step (fail))
    refine wpQuiet_nil ?_
    clear e6 ne
    refine wpN_two 1 7 _ _ (by kernel_rfl) rfl rfl ?_ ?_
    · refine NextAt.held ?_
      intro K hK
      go_simp
      refine (C.out _ S0).mono ?_
      rintro e w1 ⟨v, L, rfl, hs, hrow, hb⟩
      have hb1 : Below w.heap.size w w1 := Below.trans (a := w) S0 (hb.mono (S0).size)
      have hrow1 := row_low hrow (S0).size
      go_simp
      refine hK _ _ hb1 ?_
      clear hK K
      refine wpN_one 7 _ (by kernel_rfl) rfl ?_
      refine NextAt.held ?_
      intro K hK
      go_simp
      refine hK _ _ hb1 ?_
      clear hK K
      refine wpN_one 8 _ (by kernel_rfl) rfl ?_
      refine NextAt.held ?_
      intro K hK
      go_simp
      have AZ := heap_alloc_new w1 (.cells #[.int .i64 0, .int .i64 (MM : Int), .int .i64 0] 78)
      have BZ : Below (w1).heap.size w1 ((w1).alloc (.cells #[.int .i64 0, .int .i64 (MM : Int), .int .i64 0] 78)) := (Below.refl _ _).alloc (Nat.le_refl _) _
      have hbF := Below.trans (a := w) hb1 (BZ.mono hb1.size)
      refine hK _ _ hbF ?_
      clear hK K
      have hrowF := row_kept hrow1 BZ
      have hsbF := AZ
      obtain ⟨g9, cap9, w9, hrun, hrow9, hb9⟩ := REG.out v L _ _ hs hrowF hsbF hbF
      refine wpN_one 9 _ (by kernel_rfl) rfl ?_
      refine NextAt.free (by kernel_rfl) ?_
      intro K hK
      refine step_append_known rfl (.tmp 8) (.tmp 15) 39 rfl _ _ _ (by rfl) (by rfl) hrun ?_
      go_simp
      refine hK _ _ ?_
      clear hK K
      refine wpN_pure [10] (by kernel_rfl) (by kernel_rfl) (by kernel_rfl) (fun _ _ _ _ _ h => h) (fun h => by cases h) ?_
      simp only [pick, List.map_cons, List.map_nil, List.getElem?_cons_succ, List.getElem?_cons_zero, Option.getD_some]
      repeat (go_big_quiet_step (fail))
      refine wpQuiet_nil ?_
      refine wpN_done (by kernel_rfl) ?_
      have FIN := Lib.hid (And.intro hrow9 hb9)
      have HS := Lib.hid hs
      obtain ⟨N, hN⟩ : ∃ N, L.length = N := ⟨_, rfl⟩
      have HN := Lib.hid hN
      clear hrow9 hb9 hrun hs hrowF hsbF hbF hN
      go_wp2_with fail
      go_meet
      exact ⟨L, L.length, g9, cap9, HS.out, rfl, rfl, rfl, rfl, rfl, rfl, FIN.out.1, FIN.out.2⟩
    · refine NextAt.held ?_
      intro K hK
      go_simp
      refine hK _ _ S0 ?_
      clear hK K
      refine wpN_two 1 8 _ _ (by kernel_rfl) rfl rfl ?_ ?_
      · refine NextAt.held ?_
        intro K hK
        go_simp
        refine (C.out _ S0).mono ?_
        rintro e w1 ⟨v, L, rfl, hs, hrow, hb⟩
        have hb1 : Below w.heap.size w w1 := Below.trans (a := w) S0 (hb.mono (S0).size)
        have hrow1 := row_low hrow (S0).size
        go_simp
        refine hK _ _ hb1 ?_
        clear hK K
        refine wpN_one 8 _ (by kernel_rfl) rfl ?_
        refine NextAt.held ?_
        intro K hK
        go_simp
        have AZ := heap_alloc_new w1 (.cells #[.int .i64 0, .int .i64 (MM : Int), .int .i64 0] 78)
        have BZ : Below (w1).heap.size w1 ((w1).alloc (.cells #[.int .i64 0, .int .i64 (MM : Int), .int .i64 0] 78)) := (Below.refl _ _).alloc (Nat.le_refl _) _
        have hbF := Below.trans (a := w) hb1 (BZ.mono hb1.size)
        refine hK _ _ hbF ?_
        clear hK K
        have hrowF := row_kept hrow1 BZ
        have hsbF := AZ
        obtain ⟨g9, cap9, w9, hrun, hrow9, hb9⟩ := REG.out v L _ _ hs hrowF hsbF hbF
        refine wpN_one 9 _ (by kernel_rfl) rfl ?_
        refine NextAt.free (by kernel_rfl) ?_
        intro K hK
        refine step_append_known rfl (.tmp 8) (.tmp 15) 39 rfl _ _ _ (by rfl) (by rfl) hrun ?_
        go_simp
        refine hK _ _ ?_
        clear hK K
        refine wpN_pure [10] (by kernel_rfl) (by kernel_rfl) (by kernel_rfl) (fun _ _ _ _ _ h => h) (fun h => by cases h) ?_
        simp only [pick, List.map_cons, List.map_nil, List.getElem?_cons_succ, List.getElem?_cons_zero, Option.getD_some]
        repeat (go_big_quiet_step (fail))
        refine wpQuiet_nil ?_
        refine wpN_done (by kernel_rfl) ?_
        have FIN := Lib.hid (And.intro hrow9 hb9)
        have HS := Lib.hid hs
        obtain ⟨N, hN⟩ : ∃ N, L.length = N := ⟨_, rfl⟩
        have HN := Lib.hid hN
        clear hrow9 hb9 hrun hs hrowF hsbF hbF hN
        go_wp2_with fail
        go_meet
        exact ⟨L, L.length, g9, cap9, HS.out, rfl, rfl, rfl, rfl, rfl, rfl, FIN.out.1, FIN.out.2⟩
      · refine NextAt.held ?_
        intro K hK
        go_simp
        have AZ := heap_alloc_new w.drew (.cells #[.int .i64 0, .int .i64 (MM : Int), .int .i64 0] 78)
        have BZ : Below (w.drew).heap.size w.drew ((w.drew).alloc (.cells #[.int .i64 0, .int .i64 (MM : Int), .int .i64 0] 78)) := (Below.refl _ _).alloc (Nat.le_refl _) _
        have SB : BelM w (w.drew.alloc (.cells #[.int .i64 0, .int .i64 (MM : Int), .int .i64 0] 78)) := Below.trans (a := w) S0 (BZ.mono (Nat.le_refl _))
        refine hK _ _ SB ?_
        clear hK K
        refine wpN_one 1 _ (by kernel_rfl) rfl ?_
        refine NextAt.held ?_
        intro K hK
        go_simp
        refine (C.out _ SB).mono ?_
        rintro e w1 ⟨v, L, rfl, hs, hrow, hb⟩
        have hb1 : Below w.heap.size w w1 := Below.trans (a := w) SB (hb.mono (SB).size)
        have hrow1 := row_low hrow (SB).size
        go_simp
        refine hK _ _ hb1 ?_
        clear hK K
        have hbF := hb1
        have hrowF := hrow1
        have hsbF := (hb.block _ (lt_of AZ)).trans AZ
        obtain ⟨g9, cap9, w9, hrun, hrow9, hb9⟩ := REG.out v L _ _ hs hrowF hsbF hbF
        refine wpN_one 9 _ (by kernel_rfl) rfl ?_
        refine NextAt.free (by kernel_rfl) ?_
        intro K hK
        refine step_append_known rfl (.tmp 8) (.tmp 15) 39 rfl _ _ _ (by rfl) (by rfl) hrun ?_
        go_simp
        refine hK _ _ ?_
        clear hK K
        refine wpN_pure [10] (by kernel_rfl) (by kernel_rfl) (by kernel_rfl) (fun _ _ _ _ _ h => h) (fun h => by cases h) ?_
        simp only [pick, List.map_cons, List.map_nil, List.getElem?_cons_succ, List.getElem?_cons_zero, Option.getD_some]
        repeat (go_big_quiet_step (fail))
        refine wpQuiet_nil ?_
        refine wpN_done (by kernel_rfl) ?_
        have FIN := Lib.hid (And.intro hrow9 hb9)
        have HS := Lib.hid hs
        obtain ⟨N, hN⟩ : ∃ N, L.length = N := ⟨_, rfl⟩
        have HN := Lib.hid hN
        clear hrow9 hb9 hrun hs hrowF hsbF hbF hN
        go_wp2_with fail
        go_meet
        exact ⟨L, L.length, g9, cap9, HS.out, rfl, rfl, rfl, rfl, rfl, rfl, FIN.out.1, FIN.out.2⟩
  case rest =>
    obtain ⟨L, N, g, cap, hs, hN, rfl, rfl, rfl, rfl, rfl, hrow, hb⟩ := hcut
    have hfew : N ≤ 500 := by have := hs.len; have := HM.out.big.2.1; omega
    have HS := Lib.hid hs
    have HN := Lib.hid hN
    have HROW := Lib.hid hrow
    have HB := Lib.hid hb
    obtain ⟨FL, hFL⟩ : ∃ FL, L ++ [(⟨0, MM, 0⟩ : Blk)] = FL := ⟨_, rfl⟩
    have hFN : FL.length = N + 1 := by rw [← hFL, List.length_append, hN]; rfl
    have hBD : ∀ x ∈ FL, x.at' + x.len ≤ MM := fun x hx => by
      rw [← hFL] at hx
      rcases List.mem_append.1 hx with h | h
      · have := (HM.out.hb x (hs.mem h).1).2.2
        rw [HMM.out] at this
        exact this
      · rw [List.mem_singleton] at h
        subst h
        exact Nat.le_refl _
    have HFN := Lib.hid hFN
    have HBD := Lib.hid hBD
    have HFL := Lib.hid hFL
    rw [hFL] at HROW
    have sz := hb.size
    obtain ⟨i0, hi0, hz0, hz1, hz2⟩ := info_parts infoGp
    clear hs hN hrow hb hFN hBD hFL S0 e6 ne C REG
    go_wp2_with fail
    go_loopw [3, 4, 18] (fun v a i wr => ∃ (k at' : Nat) (G : List Gp), k ≤ N + 1 ∧ i = .int .i64 (k : Int) ∧ a = .int .i64 (at' : Int) ∧ at' ≤ MM ∧ G.length ≤ k ∧ wr.ownsRow wc.heap.size 92 2 v G.length (G.flatMap Gp.cells) ∧ Below wc.heap.size wc wr ∧ gapsG 0 FL = G ++ gapsG at' (FL.drop k)) (fun _ _ i _ => N + 1 - (intOf i).toNat)
    case atStart => exact ⟨0, 0, [], Nat.zero_le _, rfl, rfl, Nat.zero_le _, Nat.le_refl _, World.ownsRow_nil _ _ _ _, Below.refl _ _, rfl⟩
    case round =>
      obtain ⟨k, at', G, hk, rfl, rfl, hat, hgk, hG, hb, hgl⟩ := hrel
      by_cases hlt : k < N + 1
      · obtain ⟨x, hx⟩ : ∃ x, FL[k]? = some x := ⟨_, List.getElem?_eq_getElem (by have := HFN.out; omega)⟩
        obtain ⟨g2, cap2, hv2, d0, d1, d2, _⟩ := blk_cells (row_low HROW.out (Nat.zero_le _)) hx
        rw [HFN.out] at hv2
        simp only [Value.slice.injEq, Option.some.injEq, Addr.mk.injEq, and_true, true_and] at hv2
        obtain ⟨rfl, rfl⟩ := hv2
        have d0 := old_cell hb d0
        have d1 := old_cell hb d1
        have d2 := old_cell hb d2
        have hin := HBD.out x (List.mem_of_getElem? hx)
        have HSTEP := Lib.hid (gapsG_step hx hgl)
        have HB2 := Lib.hid hb
        have HG := Lib.hid hG
        have B1 : ∀ o, Below wr.heap.size wr (wr.alloc o) := fun o => (Below.refl _ _).alloc (Nat.le_refl _) o
        have HB1 := Lib.hid B1
        have szr := hb.size
        have bx : (wr.alloc (.cells #[.int .i64 (x.h : Int), .int .i64 (x.at' : Int), .int .i64 (x.len : Int)] 78)).heap[wr.heap.size]? = some (.cells #[.int .i64 (x.h : Int), .int .i64 (x.at' : Int), .int .i64 (x.len : Int)] 78 (0, 0)) := heap_alloc_new _ _
        have HBX := Lib.hid bx
        by_cases hgt : at' < x.at'
        · have hgt' : (at' : Int) < (x.at' : Int) := by omega
          obtain ⟨GN, hGN⟩ : ∃ GN, G.length = GN := ⟨_, rfl⟩
          have HGN := Lib.hid hGN
          obtain ⟨va, vc, hv⟩ := wrow_sh hG
          rw [hGN] at HG hgk hv
          subst hv
          have hst := HSTEP.out
          rw [if_pos hgt] at hst
          have HST := Lib.hid hst
          have RW : Hid ((wr.alloc (.cells #[.int .i64 (x.h : Int), .int .i64 (x.at' : Int), .int .i64 (x.len : Int)] 78)).ownsRow wc.heap.size 92 2 (.slice va GN vc) GN (G.flatMap Gp.cells)) := Lib.hid (row_kept HG.out (HB1.out _))
          have BW := Lib.hid (HB2.out.trans ((HB1.out (.cells #[.int .i64 (x.h : Int), .int .i64 (x.at' : Int), .int .i64 (x.len : Int)] 78)).mono HB2.out.size))
          have hbs := BW.out.size
          clear hx hgl hb hG bx hGN B1 hst HSTEP
          go_wp2_with (at_builtin; go_must (refine wpList_append_w rfl (.tmp 26) (.tmp 33) 89 rfl wc.heap.size 92 i0 (.agg #[.int .i64 0, .int .i64 0]) 2 16 Tryz.underlying89 hi0 hz0 hz1 hz2 rfl (by decide) _ _ _ (wr.alloc (.cells #[.int .i64 (x.h : Int), .int .i64 (x.at' : Int), .int .i64 (x.len : Int)] 78)) _ [.int .i64 (at' : Int), .int .i64 ((x.at' : Int) - (at' : Int))] rfl (by exact RW.out) (by simp [Act.eval]) rfl (by intro u hu; simp at hu; rcases hu with rfl | rfl <;> rfl) (by unfold maxLen; omega) (by omega) hbs ?_))
          intro v' w' hown' hgr hb'
          have hx' := (hgr.block wr.heap.size (by simp) (fun e => by have := (HG.out.lt _ e.symm).2; omega)).trans HBX.out
          have d3 : w'.cell? ⟨wr.heap.size, 1, none⟩ = some (.int .i64 (x.at' : Int)) := (cell_of hx' 1).trans rfl
          have d4 : w'.cell? ⟨wr.heap.size, 2, none⟩ = some (.int .i64 (x.len : Int)) := (cell_of hx' 2).trans rfl
          clear hgr hx'
          have FIN : Hid (w'.ownsRow wc.heap.size 92 2 v' (G ++ [(⟨at', x.at' - at'⟩ : Gp)]).length ((G ++ [(⟨at', x.at' - at'⟩ : Gp)]).flatMap Gp.cells)) := Lib.hid (by
            rw [List.length_append, HGN.out, List.flatMap_append]
            have e : ((x.at' - at' : Nat) : Int) = (x.at' : Int) - (at' : Int) := by omega
            show w'.ownsRow _ _ _ v' (GN + 1) (_ ++ [.int .i64 (at' : Int), .int .i64 ((x.at' - at' : Nat) : Int)])
            rw [e]
            exact hown')
          have B2 := Lib.hid (BW.out.trans hb')
          clear hown' hb' RW BW
          go_wp2_with fail
          go_roundw
          case measure => simp only [intOf]; omega
          case rel => exact ⟨k + 1, x.at' + x.len, _, by omega, by go_num, by go_num, hin, by rw [List.length_append, HGN.out]; simp; omega, FIN.out, B2.out, HST.out⟩
        · have hgt' : ¬ (at' : Int) < (x.at' : Int) := by omega
          have hst := HSTEP.out
          rw [if_neg hgt, List.append_nil] at hst
          have HST := Lib.hid hst
          clear hx hgl hb hG bx hst HSTEP B1
          go_wp2_with fail
          go_roundw
          case measure => simp only [intOf]; omega
          case rel => exact ⟨k + 1, x.at' + x.len, G, by omega, by go_num, by go_num, hin, by omega, row_kept HG.out (HB1.out _), HB2.out.trans ((HB1.out _).mono HB2.out.size), HST.out⟩
      · obtain rfl : k = N + 1 := by omega
        have ed : FL.drop (N + 1) = [] := List.drop_eq_nil_of_le (by have := HFN.out; omega)
        rw [ed] at hgl
        have eG : gapsOf S.mem.length L = G := by
          unfold gapsOf
          rw [HMM.out, HFL.out, hgl]
          exact List.append_nil _
        have FIN : Hid (GapsPost S w (.returned u3) wr) := Lib.hid ⟨L, _, HS.out, rfl, by rw [eG]; exact row_low hG HB.out.size, HB.out.trans (hb.mono HB.out.size)⟩
        clear hgl hG hb ed eG
        go_wp2_with fail
        go_ret
        exact FIN.out

end
end Go.Proofs.YtjogaohnphafgaaGreat

namespace Go.Proofs.YtjogaohnphafgaaGreat
section
open Go.RowKit
set_option linter.unusedVariables false

set_option maxHeartbeats 4000000 in
set_option maxRecDepth 100000 in
theorem planR_any {w : World} {F : Nat → Prop} {rp pp M : Nat} {S : HpSt} {kept : List (List Blk)} {vm vb vk : Value} {vks : List Value} (m : RfMem w F rp pp M S kept vm vb vk vks) :
    Calls Tryz.prog 53 #[.pointer (some ⟨rp, 0, none⟩)] w (PlanPost S w) := by
  have C := Lib.hid (lyingR_any m)
  have HM := Lib.hid m
  clear m
  go_enter Tryz.func53, Tryz.ntmps53
  go_upto_region 3 with fail
  go_wp2_with fail
  refine C.out.mono ?_
  rintro e wc ⟨v, L, rfl, hs, hrow, hb⟩
  have hfew : L.length ≤ 500 := by have := hs.len; have := HM.out.big.2.1; omega
  have HS := Lib.hid hs
  have HROW := Lib.hid hrow
  have HB := Lib.hid hb
  have HLE : Hid (L.length ≤ S.bl.length) := Lib.hid hs.len
  obtain ⟨N, hN⟩ : ∃ N, L.length = N := ⟨_, rfl⟩
  have HN := Lib.hid hN
  obtain ⟨va, vc, hv⟩ := wrow_sh hrow
  rw [hN] at hv hfew
  subst hv
  have hBD : ∀ k, sumB (L.take k) ≤ k * 100000 := fun k => by
    have : ∀ (l : List Blk) (k : Nat), (∀ x ∈ l, x.len ≤ 100000) → sumB (l.take k) ≤ k * 100000 := by
      intro l
      induction l with
      | nil => intro k _; simp [sumB]
      | cons x l ih =>
        intro k h
        cases k with
        | zero => simp [sumB]
        | succ k =>
          rw [List.take_succ_cons, sumB_cons]
          have h1 := ih k (fun y hy => h y (List.mem_cons_of_mem _ hy))
          have h2 := h x List.mem_cons_self
          omega
    exact this L k (fun x hx => by have := (HM.out.hb x (hs.mem hx).1).2.2; have := HM.out.big.1; omega)
  have HBD := Lib.hid hBD
  have sz := hb.size
  obtain ⟨i0, hi0, hz0, hz1, hz2⟩ := info_parts infoShf
  clear hs hN hrow hb hBD C
  go_wp2_with fail
  go_loopw [3, 4, 10] (fun v a i wr => ∃ (k at' : Nat) (G : List Shf), k ≤ N ∧ i = .int .i64 (k : Int) ∧ a = .int .i64 (at' : Int) ∧ at' = sumB (L.take k) ∧ G.length ≤ k ∧ wr.ownsRow wc.heap.size 64 3 v G.length (G.flatMap Shf.cells) ∧ Below wc.heap.size wc wr ∧ shiftsG 0 L = G ++ shiftsG at' (L.drop k)) (fun _ _ i _ => N - (intOf i).toNat)
  case atStart => exact ⟨0, 0, [], Nat.zero_le _, rfl, rfl, rfl, Nat.le_refl _, World.ownsRow_nil _ _ _ _, Below.refl _ _, rfl⟩
  case round =>
    obtain ⟨k, at', G, hk, rfl, rfl, hat, hgk, hG, hb, hgl⟩ := hrel
    by_cases hlt : k < N
    · obtain ⟨x, hx⟩ : ∃ x, L[k]? = some x := ⟨_, List.getElem?_eq_getElem (by have := HN.out; omega)⟩
      obtain ⟨g2, cap2, hv2, d0, d1, d2, _⟩ := blk_cells (row_low HROW.out (Nat.zero_le _)) hx
      rw [HN.out] at hv2
      simp only [Value.slice.injEq, true_and] at hv2
      obtain ⟨rfl, rfl⟩ := hv2
      have d0 := old_cell hb d0
      have d1 := old_cell hb d1
      have d2 := old_cell hb d2
      have HSTEP := Lib.hid (shiftsG_step hx hgl)
      have hs1 : sumB (L.take (k + 1)) = at' + x.len := by
        rw [hat, List.take_add_one, hx]
        simp [sumB]
      have HS1 := Lib.hid hs1
      have hbd := HBD.out (k + 1)
      rw [hs1] at hbd
      have HB2 := Lib.hid hb
      have HG := Lib.hid hG
      have B1 : ∀ o, Below wr.heap.size wr (wr.alloc o) := fun o => (Below.refl _ _).alloc (Nat.le_refl _) o
      have HB1 := Lib.hid B1
      have szr := hb.size
      have bx : (wr.alloc (.cells #[.int .i64 (x.h : Int), .int .i64 (x.at' : Int), .int .i64 (x.len : Int)] 78)).heap[wr.heap.size]? = some (.cells #[.int .i64 (x.h : Int), .int .i64 (x.at' : Int), .int .i64 (x.len : Int)] 78 (0, 0)) := heap_alloc_new _ _
      have HBX := Lib.hid bx
      by_cases hgt : x.at' = at'
      · have hgt' : ((x.at' : Int) != (at' : Int)) = false := by rw [hgt]; simp
        have hst := HSTEP.out
        rw [if_pos hgt, List.append_nil] at hst
        have HST := Lib.hid hst
        clear hx hgl hb hG bx hst HSTEP B1 hgt hat hs1
        go_wp2_with fail
        go_roundw
        case measure => simp only [intOf]; omega
        case rel => exact ⟨k + 1, at' + x.len, G, by omega, by go_num, by go_num, HS1.out.symm, by omega, row_kept HG.out (HB1.out _), HB2.out.trans ((HB1.out _).mono HB2.out.size), HST.out⟩
      · have hgt' : ((x.at' : Int) != (at' : Int)) = true := by simp; omega
        obtain ⟨GN, hGN⟩ : ∃ GN, G.length = GN := ⟨_, rfl⟩
        have HGN := Lib.hid hGN
        obtain ⟨va, vc, hv⟩ := wrow_sh hG
        rw [hGN] at HG hgk hv
        subst hv
        have hst := HSTEP.out
        rw [if_neg hgt] at hst
        have HST := Lib.hid hst
        have RW : Hid ((wr.alloc (.cells #[.int .i64 (x.h : Int), .int .i64 (x.at' : Int), .int .i64 (x.len : Int)] 78)).ownsRow wc.heap.size 64 3 (.slice va GN vc) GN (G.flatMap Shf.cells)) := Lib.hid (row_kept HG.out (HB1.out _))
        have BW := Lib.hid (HB2.out.trans ((HB1.out (.cells #[.int .i64 (x.h : Int), .int .i64 (x.at' : Int), .int .i64 (x.len : Int)] 78)).mono HB2.out.size))
        have hbs := BW.out.size
        clear hx hgl hb hG bx hGN B1 hst HSTEP hat hs1
        go_wp2_with (at_builtin; go_must (refine wpList_append_w rfl (.tmp 18) (.tmp 25) 59 rfl wc.heap.size 64 i0 (.agg #[.int .i64 0, .int .i64 0, .int .i64 0]) 3 24 Tryz.underlying59 hi0 hz0 hz1 hz2 rfl (by decide) _ _ _ (wr.alloc (.cells #[.int .i64 (x.h : Int), .int .i64 (x.at' : Int), .int .i64 (x.len : Int)] 78)) _ [.int .i64 (x.h : Int), .int .i64 (x.at' : Int), .int .i64 (at' : Int)] rfl (by exact RW.out) (by simp [Act.eval]) rfl (by intro u hu; simp at hu; rcases hu with rfl | rfl | rfl <;> rfl) (by unfold maxLen; omega) (by omega) (by simpa using hbs) ?_))
        intro v' w' hown' hgr hb'
        have hx' := (hgr.block wr.heap.size (by simp) (fun e => by have := (HG.out.lt _ e.symm).2; omega)).trans HBX.out
        have d3 : w'.cell? ⟨wr.heap.size, 1, none⟩ = some (.int .i64 (x.at' : Int)) := (cell_of hx' 1).trans rfl
        have d4 : w'.cell? ⟨wr.heap.size, 2, none⟩ = some (.int .i64 (x.len : Int)) := (cell_of hx' 2).trans rfl
        clear hgr hx'
        have FIN : Hid (w'.ownsRow wc.heap.size 64 3 v' (G ++ [(⟨x.h, x.at', at'⟩ : Shf)]).length ((G ++ [(⟨x.h, x.at', at'⟩ : Shf)]).flatMap Shf.cells)) := Lib.hid (by
          rw [List.length_append, HGN.out, List.flatMap_append]
          exact hown')
        have B2 := Lib.hid (BW.out.trans hb')
        clear hown' hb' RW BW
        go_wp2_with fail
        go_roundw
        case measure => simp only [intOf]; omega
        case rel => exact ⟨k + 1, at' + x.len, _, by omega, by go_num, by go_num, HS1.out.symm, by rw [List.length_append, HGN.out]; simp; omega, FIN.out, B2.out, HST.out⟩
    · obtain rfl : k = N := by omega
      have ed : L.drop k = [] := List.drop_eq_nil_of_le (by have := HN.out; omega)
      rw [ed] at hgl
      have eG : shiftsG 0 L = G := by
        rw [hgl]
        exact List.append_nil _
      have FIN : Hid (PlanPost S w (.returned u3) wr) := Lib.hid ⟨L, _, HS.out, rfl, by rw [eG]; exact row_low hG HB.out.size, by rw [eG]; have := HLE.out; have := HN.out; omega, HB.out.trans (hb.mono HB.out.size)⟩
      clear hgl hG hb ed eG
      go_wp2_with fail
      go_ret
      exact FIN.out


end
end Go.Proofs.YtjogaohnphafgaaGreat
