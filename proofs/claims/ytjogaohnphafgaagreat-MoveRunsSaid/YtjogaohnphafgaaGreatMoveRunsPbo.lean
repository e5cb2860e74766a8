/-
  The reference's heap: Compact. No conditions but bounds and blocks apart.
-/
import Derived.Test.YtjogaohnphafgaaGreatMoveRunsPbn
import Derived.Test.YtjogaohnphafgaaGreatMoveRunsPbc
import Derived.Test.YtjogaohnphafgaaGreatMoveRunsPaw
namespace Go.Proofs.YtjogaohnphafgaaGreat
open Go.RowKit
set_option linter.unusedVariables false

theorem RfMem.set1 {w : World} {F : Nat → Prop} {rp pp M : Nat} {S : HpSt} {kept : List (List Blk)} {vm vb vk : Value} {vks : List Value} (m : RfMem w F rp pp M S kept vm vb vk vks) {i r : Nat} {x y : Blk} {v : Value} (hx : S.bl[i]? = some x) (hr : r < 3) (hy : y.cells = x.cells.set r v) (hh : y.h = x.h) (hin : y.at' + y.len ≤ S.mem.length)
    {g off n cap : Nat} (hv : vb = .slice (some ⟨g, off, none⟩) n cap) : RfMem (w.setCell ⟨g, off + i * 3 + r, none⟩ v) F rp pp M { S with bl := S.bl.set i y } kept vm vb vk vks ∧ Touch (fun k => vb.ownBlock = some k) w (w.setCell ⟨g, off + i * 3 + r, none⟩ v) := by
  have hg : vb.ownBlock = some g := by rw [hv]; rfl
  obtain ⟨cur, hcg⟩ := m.row.1.block hg
  have keep : ∀ k, k ≠ g → (w.setCell ⟨g, off + i * 3 + r, none⟩ v).heap[k]? = w.heap[k]? := fun k hne => Below.heap_setCell _ ⟨g, off + i * 3 + r, none⟩ _ k hne
  have far : ∀ {k : Nat} {c : Array Value} {e : TypeId}, w.heap[k]? = some (.cells c e (0, 0)) → e ≠ 78 → (w.setCell ⟨g, off + i * 3 + r, none⟩ v).heap[k]? = w.heap[k]? := fun {k c e} hk he => keep k (fun e2 => by
    rw [e2, hcg] at hk
    simp at hk
    exact he hk.2.symm)
  have hln : (S.bl.set i y).length = S.bl.length := List.length_set
  refine ⟨m.re (fun _ h => h) ((far m.self (by decide)).trans m.self) ((far m.purse (by decide)).trans m.purse) ⟨ownsRow_same m.mem.1 (fun k hk => by obtain ⟨c, hc⟩ := row_block m.mem.1 hk; exact far hc (by decide)), m.mem.2⟩ m.mb m.msh ⟨?_, fun k hk => ⟨m.row.2 k hk, Or.inl hk⟩⟩ (fun k _ _ _ _ _ h => keep k (fun e => h (e ▸ hg))) ?_ (fun z hz => ?_) ⟨m.big.1, by show (S.bl.set i y).length ≤ 500; rw [hln]; exact m.big.2.1, m.big.2.2.1, m.big.2.2.2.1, m.big.2.2.2.2.2.2⟩, Touch.setCell (F := fun k => vb.ownBlock = some k) (p := ⟨g, off + i * 3 + r, none⟩) (Touch.refl _ w) (Or.inl hg) _⟩
  · show OffRow _ _ 3 vb (S.bl.set i y).length ((S.bl.set i y).flatMap Blk.cells)
    have h1 := m.row.1
    obtain ⟨_, _, hv2, _⟩ := m.row.1.sh
    rw [hv] at hv2
    simp only [Value.slice.injEq] at hv2
    obtain ⟨_, hn, _⟩ := hv2
    rw [hv, hn] at h1 ⊢
    rw [hln, ← blk_flat_set hx hr hy, Nat.add_assoc]
    exact h1.set (i * 3 + r) v
  · show ((S.bl.set i y).map Blk.h).Pairwise (· < ·)
    rw [set_map_h hx hh]
    exact m.ord
  · rcases List.mem_or_eq_of_mem_set hz with h1 | rfl
    · exact m.hb z h1
    · have := m.hb x (List.mem_of_getElem? hx)
      exact ⟨by rw [hh]; exact this.1, by rw [hh]; exact this.2.1, hin⟩

/-- One generation more. -/
theorem RfMem.counted {w : World} {F : Nat → Prop} {rp pp M c : Nat} {S : HpSt} {hi kept : List (List Blk)} {vm vb vk : Value} {vks : List Value} (m : RfMem w F rp pp M S kept vm vb vk vks) (hc : c < 1000000000) :
    RfMem (w.setCell ⟨rp, 5, none⟩ (.int .i64 ((c : Int) + 1))) F rp pp M { S with hist := hi, count := c + 1 } kept vm vb vk vks ∧ Touch (fun k => k = rp) w (w.setCell ⟨rp, 5, none⟩ (.int .i64 ((c : Int) + 1))) := by
  have keep : ∀ k, k ≠ rp → (w.setCell ⟨rp, 5, none⟩ (.int .i64 ((c : Int) + 1))).heap[k]? = w.heap[k]? := fun k hne => Below.heap_setCell _ ⟨rp, 5, none⟩ _ k hne
  have far : ∀ {k : Nat} {cur : Array Value} {e : TypeId}, w.heap[k]? = some (.cells cur e (0, 0)) → e ≠ 42 → (w.setCell ⟨rp, 5, none⟩ (.int .i64 ((c : Int) + 1))).heap[k]? = w.heap[k]? := fun {k cur e} hk he => keep k (fun e2 => by
    rw [e2, m.self] at hk
    simp at hk
    exact he hk.2.symm)
  have s1 := block_setCell m.self 5 (.int .i64 ((c : Int) + 1))
  refine ⟨m.re (S' := { S with hist := hi, count := c + 1 }) (fun _ h => h) ?_ ((far m.purse (by decide)).trans m.purse) ⟨ownsRow_same m.mem.1 (fun k hk => by obtain ⟨c2, hc2⟩ := row_block m.mem.1 hk; exact far hc2 (by decide)), m.mem.2⟩ m.mb m.msh ⟨m.row.1.same (fun k hk => by obtain ⟨c2, hc2⟩ := m.row.1.block hk; exact far hc2 (by decide)), fun k hk => ⟨m.row.2 k hk, Or.inl hk⟩⟩ (fun k _ _ h _ _ _ => keep k h) m.ord m.hb ⟨m.big.1, m.big.2.1, m.big.2.2.1, hc, m.big.2.2.2.2.2.2⟩, Touch.setCell (F := fun k => k = rp) (p := ⟨rp, 5, none⟩) (Touch.refl _ w) (Or.inl rfl) _⟩
  rw [s1]
  show _ = some (Obj.cells #[_, _, _, _, _, .int .i64 ((c + 1 : Nat) : Int), _, _, _, _] _ _)
  rw [show ((c + 1 : Nat) : Int) = (c : Int) + 1 by omega]
  rfl

/-- What Compact leaves. -/
def RcmPost (w : World) (F : Nat → Prop) (rp pp M : Nat) (S : HpSt) (kept : List (List Blk)) (vm vb : Value) : Ending → World → Prop := fun e w' =>
  (S.closed = true ∧ e = .returned (.tuple #[.slice none 0 0, .int .i64 11]) ∧ Below w.heap.size w w') ∨
  (S.closed = false ∧ ∃ (L L' : List Blk) (v vk' : Value) (vks' : List Value) (F' : Nat → Prop), SortedL (lieL S.bl) L ∧ SortedL (lieL (cpF S 0 L).bl) L' ∧ e = .returned (.tuple #[v, .int .i64 0]) ∧
    w'.ownsRow w.heap.size 64 3 v (shiftsG 0 L).length ((shiftsG 0 L).flatMap Shf.cells) ∧
    RfMem w' F' rp pp M { cpF S 0 L with mem := fill 0 (cpF S 0 L).mem (endL L') ((cpF S 0 L).mem.length - endL L'), hist := keep8 (S.hist ++ [S.bl]), count := S.count + 1 } (kept ++ [S.bl]) vm vb vk' vks' ∧ (∀ k, F' k → F k ∨ w.heap.size ≤ k) ∧ (∀ k, v.ownBlock = some k → ¬ F' k) ∧ Touch F w w')

set_option maxHeartbeats 8000000 in
set_option maxRecDepth 100000 in
theorem compactR_any {w : World} {F : Nat → Prop} {rp pp M : Nat} {S : HpSt} {kept : List (List Blk)} {vm vb vk : Value} {vks : List Value} (m : RfMem w F rp pp M S kept vm vb vk vks) (hfl : ∀ k, F k → k < w.heap.size) (hap : S.bl.Pairwise apartB) (hcnt : S.count < 1000000000) (hkl : kept.length < 1000) :
    Calls Tryz.prog 22 #[.pointer (some ⟨rp, 0, none⟩)] w (RcmPost w F rp pp M S kept vm vb) := by
  have c4 := m.cells.2.2.2.2.1
  cases hc : S.closed with
  | true =>
    rw [hc] at c4
    have FIN : Hid (RcmPost w F rp pp M S kept vm vb (.returned (.tuple #[.slice none 0 0, .int .i64 11])) w) := Lib.hid (Or.inl ⟨hc, rfl, Below.refl _ _⟩)
    clear m hc hfl hap hcnt hkl
    go_enter Tryz.func22, Tryz.ntmps22
    go_wp2_with fail
    go_ret2
    exact FIN.out
  | false =>
    rw [hc] at c4
    have HM := Lib.hid m
    have HFL := Lib.hid hfl
    have HAP := Lib.hid hap
    have HCN := Lib.hid hcnt
    have HKL := Lib.hid hkl
    have HCC := Lib.hid hc
    have PL := Lib.hid (planR_any m)
    unfold PlanPost at PL
    clear m hfl hap hcnt hkl hc
    go_enter Tryz.func22, Tryz.ntmps22
    go_wp2_with fail
    refine PL.out.mono ?_
    rintro e w2 ⟨L, v, hs, rfl, hrow, hlen, hb2⟩
    have HS := Lib.hid hs
    have HB2 := Lib.hid hb2
    obtain ⟨N, hN⟩ : ∃ N, (shiftsG 0 L).length = N := ⟨_, rfl⟩
    have HN := Lib.hid hN
    obtain ⟨xa, xc, hv⟩ := wrow_sh hrow
    rw [hN] at hv
    subst hv
    have hN5 : N ≤ 500 := by
      rw [hN] at hlen
      exact Nat.le_trans hlen HM.out.big.2.1
    have HR2 : Hid (w2.ownsRow w.heap.size 64 3 (.slice xa N xc) N ((shiftsG 0 L).flatMap Shf.cells)) := Lib.hid (by rw [hN] at hrow; exact hrow)
    have m2 := HM.out.below hb2
    have HM2 := Lib.hid m2
    obtain ⟨va, vc, hvb, _⟩ := m2.row.1.sh
    obtain ⟨ka, kc, hvk⟩ := wrow_sh m2.krow.1
    have HVB := Lib.hid hvb
    have HVK := Lib.hid hvk
    obtain ⟨BL, hBL⟩ : ∃ BL, S.bl.length = BL := ⟨_, rfl⟩
    obtain ⟨KL, hKL⟩ : ∃ KL, kept.length = KL := ⟨_, rfl⟩
    have HBL := Lib.hid hBL
    have HKLN := Lib.hid hKL
    have hfew := m2.big.2.1
    rw [hBL] at hfew
    have hkl := HKL.out
    rw [hKL] at hkl
    rw [hBL] at hvb
    rw [hKL] at hvk
    obtain ⟨o, ho⟩ : ∃ o, o = (Obj.cells #[.pointer (some ⟨pp, 0, none⟩), .int .i64 S.k, .int .i64 S.s, .int .i64 S.m, .bool S.closed, .int .i64 (S.count : Int), vm, vb, .int .i64 (S.last : Int), vk] 42 (0, 0)) := ⟨_, rfl⟩
    have S0 : AtB rp o w2.drew := by rw [ho]; exact m2.self
    have g7 : ∀ y : WIn (AtB rp o), y.w.cell? ⟨rp, 7, none⟩ = some (.slice va BL vc) := fun y => (cell_of (Eq.trans y.h (congrArg some ho)) 7).trans (by show some vb = _; rw [hvb])
    have g9 : ∀ y : WIn (AtB rp o), y.w.cell? ⟨rp, 9, none⟩ = some (.slice ka KL kc) := fun y => (cell_of (Eq.trans y.h (congrArg some ho)) 9).trans (by show some vk = _; rw [hvk])
    haveI ne : Nonempty (WIn (AtB rp o)) := ⟨⟨w2.drew, S0⟩⟩
    have HO := Lib.hid ho
    clear hs hrow hlen hb2 m2 hvb hvk hBL hKL ho hN PL c4
    go_upto_region 4 with fail
    refine wp_normal ?_
    refine wp_region_plan 15 (AtB rp o) rfl ?_
    refine wpN_seg [0, 1, 2, 3, 4, 6, 7, 8, 9] (by kernel_rfl) (by kernel_rfl) (by kernel_rfl) (by kernel_rfl) (by decide) (fun _ _ _ _ _ h => h) S0 ?_
    simp only [pick, List.map_cons, List.map_nil, List.getElem?_cons_succ, List.getElem?_cons_zero, Option.getD_some]
    repeat (go_big_quiet_step (fail))
    refine wpQuiet_nil ?_
    clear g7 g9 ne
    refine wpN_one 5 _ (by kernel_rfl) rfl ?_
    refine NextAt.held ?_
    intro K hK
    go_simp
    have AZ : ((w2.alloc (.cells #[] 78)).drew).heap[w2.heap.size]? = some (.cells #[] 78 (0, 0)) := heap_alloc_new w2 (.cells #[] 78)
    have BZ : Below w2.heap.size w2 ((w2.alloc (.cells #[] 78)).drew) := ((Below.refl _ _).alloc (Nat.le_refl _) _).drew
    have S1 : AtB rp o ((w2.alloc (.cells #[] 78)).drew) := (BZ.block rp (lt_of S0)).trans S0
    refine hK _ _ S1 ?_
    clear hK K
    have hr1 : OffRow ((w2.alloc (.cells #[] 78)).drew) 78 3 (.slice va BL vc) S.bl.length (S.bl.flatMap Blk.cells) := by
      have h1 := (HM2.out.below BZ).row.1
      rw [HVB.out, HBL.out] at h1
      rw [HBL.out]
      exact h1
    obtain ⟨v1, w3, hrun, hrow3, hb3, hnew3⟩ := append_blks AZ hr1 (by rw [HBL.out]; exact hfew) 39
    have B3 : Below w2.heap.size w2 w3 := BZ.trans (hb3.mono BZ.size)
    have S3 : AtB rp o w3 := (B3.block rp (lt_of S0)).trans S0
    refine wpN_one 10 _ (by kernel_rfl) rfl ?_
    refine NextAt.held ?_
    intro K hK
    refine step_append_known rfl (.tmp 20) (.tmp 24) 39 rfl _ _ _ (by rfl) (by rfl) hrun ?_
    go_simp
    refine hK _ _ S3 ?_
    clear hK K hrun
    obtain ⟨ua, uc, hv1⟩ := wrow_sh hrow3
    rw [HBL.out] at hv1
    subst hv1
    refine wpN_one 11 _ (by kernel_rfl) rfl ?_
    refine NextAt.held ?_
    intro K hK
    go_simp
    have AZ4 : (w3.alloc (.cells #[.slice ua BL uc] 39)).heap[w3.heap.size]? = some (.cells #[.slice ua BL uc] 39 (0, 0)) := heap_alloc_new w3 _
    have BZ4 : Below w3.heap.size w3 (w3.alloc (.cells #[.slice ua BL uc] 39)) := (Below.refl _ w3).alloc (Nat.le_refl _) _
    have S4 : AtB rp o (w3.alloc (.cells #[.slice ua BL uc] 39)) := (BZ4.block rp (lt_of S3)).trans S3
    refine hK _ _ S4 ?_
    clear hK K
    have B4 : Below w2.heap.size w2 (w3.alloc (.cells #[.slice ua BL uc] 39)) := B3.trans (BZ4.mono B3.size)
    have hrk := row_kept HM2.out.krow.1 B4
    rw [HVK.out, HKLN.out] at hrk
    obtain ⟨g, cap, w5, hrun5, hrow5, hgr5, hpl5⟩ := append_his hrk AZ4 rfl (by omega) (Nat.zero_le _) 40
    have hvk : vk.ownBlock = (Value.slice ka KL kc).ownBlock := by rw [HVK.out, HKLN.out]
    have hT5 : Touch (fun k => vk.ownBlock = some k) w2 w5 := by
      rw [hvk]
      exact (Touch.of_below B4).trans ((Touch.refl (fun k => (Value.slice ka KL kc).ownBlock = some k) _).grown hgr5 (fun k hk => Or.inl hk)) (fun k hk => Or.inl hk)
    have nvk : vk.ownBlock ≠ some rp := fun e => by
      obtain ⟨c2, h2⟩ := row_block HM2.out.krow.1 e
      rw [HM2.out.self] at h2; simp at h2
    have S5 : AtB rp o w5 := (hT5.block rp (lt_of S0) nvk).trans S0
    refine wpN_one 12 _ (by kernel_rfl) rfl ?_
    refine NextAt.held ?_
    intro K hK
    refine step_append_known rfl (.tmp 19) (.tmp 26) 40 rfl _ _ _ (by rfl) (by rfl) hrun5 ?_
    go_simp
    refine hK _ _ S5 ?_
    clear hK K
    have s5 : w5.heap[rp]? = _ := S5.trans (congrArg some HO.out)
    have d9 : w5.cell? ⟨rp, 9, none⟩ = some vk := (cell_of s5 9).trans rfl
    have f9 := free_of s5 9
    refine wpN_pure [13, 14] (by kernel_rfl) (by kernel_rfl) (by kernel_rfl) (fun _ _ _ _ _ h => h) (fun _ => S5) ?_
    simp only [pick, List.map_cons, List.map_nil, List.getElem?_cons_succ, List.getElem?_cons_zero, Option.getD_some]
    repeat (go_big_quiet_step (fail))
    refine wpQuiet_nil ?_
    refine wpN_one 15 _ (by kernel_rfl) rfl ?_
    refine NextAt.free (by kernel_rfl) ?_
    intro K hK
    go_simp
    refine hK _ _ ?_
    clear hK K
    refine wpN_done (by kernel_rfl) ?_
    -- the state
    have hv1 : ∀ k, (Value.slice ua BL uc).ownBlock = some k → w2.heap.size ≤ k := fun k hk => (hnew3 k hk).elim (fun e => by omega) (fun e => Nat.le_trans BZ.size e)
    have hgs : vk.ownBlock = some g ∨ w2.heap.size ≤ g := by rw [hvk]; exact hpl5.imp id (fun e => Nat.le_trans B4.size e)
    have PU : ∃ F1 : Nat → Prop, RfMem (w5.setCell ⟨rp, 9, none⟩ (.slice (some ⟨g, 0, none⟩) (KL + 1) cap)) F1 rp pp M S (kept ++ [S.bl]) vm vb (.slice (some ⟨g, 0, none⟩) (KL + 1) cap) (vks ++ [.slice ua BL uc]) ∧ (∀ k, F k → F1 k) ∧ (∀ k, F1 k → F k ∨ w2.heap.size ≤ k) ∧ Touch F w2 (w5.setCell ⟨rp, 9, none⟩ (.slice (some ⟨g, 0, none⟩) (KL + 1) cap)) := by
      have grp : g ≠ rp := fun e => hgs.elim (fun h => nvk (e ▸ h)) (fun h => by have := lt_of S0; rw [e] at h; exact absurd this (by simpa using h))
      refine ⟨fun k => F k ∨ k = g ∨ (Value.slice ua BL uc).ownBlock = some k, HM2.out.pushed (fun k h => Or.inl h) (block_setCell s5 9 _) ⟨?_, fun k hk => ?_⟩ ⟨?_, fun k hk => ⟨Or.inr (Or.inr hk), hv1 k hk⟩⟩ (fun k _ hk h1 h2 => (Below.heap_setCell w5 ⟨rp, 9, none⟩ _ k h1).trans (hT5.block k hk h2)) HKL.out, fun k h => Or.inl h, fun k hk => ?_, ?_⟩
      · rw [HKLN.out]
        exact ownsRow_same hrow5 (fun k hk => Below.heap_setCell w5 ⟨rp, 9, none⟩ _ k (fun e => by
          simp only [Value.ownBlock, Option.some.injEq] at hk
          exact grp (hk.trans e)))
      · simp only [Value.ownBlock, Option.some.injEq] at hk
        exact Or.inr (Or.inl hk.symm)
      · have h1 := row_kept hrow3 BZ4
        refine ownsRow_same h1 (fun k hk => (Below.heap_setCell w5 ⟨rp, 9, none⟩ _ k (fun e => ?_)).trans (hgr5.block k (h1.lt k hk).2 (fun e => ?_)))
        · have := hv1 k hk
          have h5 : rp < w2.heap.size := lt_of S0
          have e' : k = rp := e
          omega
        · have h2 := hv1 k hk
          have h3 := (HM2.out.krow.1.lt k (by rw [hvk]; exact e.symm)).2
          omega
      · rcases hk with hk | rfl | hk
        · exact Or.inl hk
        · exact hgs.imp (fun e => HM2.out.krow.2 _ e) id
        · exact Or.inr (hv1 k hk)
      · exact Touch.setCell (F := F) (p := ⟨rp, 9, none⟩) (hT5.mono (fun k hk => HM2.out.krow.2 k hk)) (Or.inl HM2.out.fr) _
    obtain ⟨F1, m5, hF1, hF1', hT1⟩ := PU
    have M5 := Lib.hid m5
    have HF1 := Lib.hid (And.intro hF1 (And.intro hF1' hT1))
    have NV : Hid (∀ k, (Value.slice xa N xc).ownBlock = some k → ¬ F1 k) := Lib.hid (fun k hk h => by
      have h1 := HR2.out.lt k hk
      rcases hF1' k h with e | e
      · have := HFL.out k e; omega
      · omega)
    have R5 : Hid ((w5.setCell ⟨rp, 9, none⟩ (.slice (some ⟨g, 0, none⟩) (KL + 1) cap)).ownsRow w.heap.size 64 3 (.slice xa N xc) N ((shiftsG 0 L).flatMap Shf.cells)) := Lib.hid (ownsRow_same HR2.out (fun k hk => hT1.block k (HR2.out.lt k hk).2 (fun e => NV.out k hk (hF1 k e))))
    generalize hvk' : (Value.slice (some ⟨g, 0, none⟩) (KL + 1) cap) = vk' at *
    generalize vks ++ [Value.slice ua BL uc] = vks' at *
    clear d9 f9 s5 S5 nvk hT5 hvk hrun5 hrow5 hgr5 hpl5 hrk B4 S4 BZ4 AZ4 S3 B3 hrow3 hb3 hnew3 hr1 S1 BZ AZ S0 m5 hF1 hF1' hT1 hv1 hgs
    generalize w5.setCell ⟨rp, 9, none⟩ vk' = W3 at *
    have C0 : Hid (CpI S S 0 L) := Lib.hid (CpI.start HS.out HAP.out (HM.out.ord.imp (fun h => by omega)) (fun x hx => (HM.out.hb x hx).2.2))
    go_wp2_with fail
    go_loopw [32] (fun i wr => ∃ (k a : Nat) (l : List Blk) (S' : HpSt), k ≤ N ∧ i = .int .i64 (k : Int) ∧ (shiftsG 0 L).drop k = shiftsG a l ∧ CpI S S' a l ∧ RfMem wr F1 rp pp M S' (kept ++ [S.bl]) vm vb vk' vks' ∧ wr.ownsRow w.heap.size 64 3 (.slice xa N xc) N ((shiftsG 0 L).flatMap Shf.cells) ∧ Touch F1 W3 wr) (fun i _ => N - (intOf i).toNat)
    case atStart => exact ⟨0, 0, L, _, Nat.zero_le _, rfl, rfl, C0.out, M5.out, R5.out, Touch.refl _ _⟩
    case round =>
      obtain ⟨k, a0, l0, S', hk, rfl, hdr, hcp, hRF, hrow, hT⟩ := hrel
      by_cases hlt : k < N
      · obtain ⟨a, l', hn1, hn2, hn3⟩ := CpI.norm l0 hcp
        rw [hn1] at hdr
        obtain ⟨x, l, rfl, hxa⟩ : ∃ x l, l' = x :: l ∧ x.at' ≠ a := by
          rcases hn3 with rfl | h
          · have h1 := congrArg List.length hdr
            rw [List.length_drop, HN.out] at h1
            simp [shiftsG] at h1
            omega
          · exact h
        have e1 : shiftsG a (x :: l) = ⟨x.h, x.at', a⟩ :: shiftsG (a + x.len) l := by
          show (if x.at' = a then [] else _) ++ _ = _
          rw [if_neg hxa]
          rfl
        rw [e1] at hdr
        have hsk : (shiftsG 0 L)[k]? = some ⟨x.h, x.at', a⟩ := by
          have h1 : ((shiftsG 0 L).drop k)[0]? = some ⟨x.h, x.at', a⟩ := by rw [hdr]; rfl
          rw [List.getElem?_drop, Nat.add_zero] at h1
          exact h1
        have hdr2 : (shiftsG 0 L).drop (k + 1) = shiftsG (a + x.len) l := by
          rw [← List.drop_drop, hdr]
          rfl
        obtain ⟨hxm, hx0, hxle⟩ := hn2.sub x List.mem_cons_self
        have hcl' : S'.closed = false := by rw [hn2.st]; exact HCC.out
        obtain ⟨i, hfi⟩ := findB_of_mem hn2.nd hxm
        have hfe := fndE_hit hRF.hb hcl' hfi
        have hin := hn2.inn x hxm
        have hrow2 := hrow
        rw [← HN.out] at hrow2
        obtain ⟨gs, cs, hvs, z0, z1, z2⟩ := shf_cells hrow2 hsk
        rw [HN.out] at hvs
        simp only [Value.slice.injEq, true_and] at hvs
        obtain ⟨rfl, rfl⟩ := hvs
        have hix := (findB_at hfi).1
        have HXA := Lib.hid hxa
        have B1 : Below wr.heap.size wr (wr.alloc (.cells #[.int .i64 (x.h : Int), .int .i64 (x.at' : Int), .int .i64 (a : Int)] 64)) := (Below.refl _ _).alloc (Nat.le_refl _) _
        have N1 := heap_alloc_new wr (.cells #[.int .i64 (x.h : Int), .int .i64 (x.at' : Int), .int .i64 (a : Int)] 64)
        have FD := Lib.hid (atR_any (hRF.below B1) (x.h : Int))
        unfold AtPost at FD
        rw [hfe.1, hfe.2] at FD
        have q0 : (wr.alloc (.cells #[.int .i64 (x.h : Int), .int .i64 (x.at' : Int), .int .i64 (a : Int)] 64)).cell? ⟨wr.heap.size, 0, none⟩ = some (.int .i64 (x.h : Int)) := (cell_of N1 0).trans rfl
        have HN1 := Lib.hid N1
        have HB1 := Lib.hid B1
        have HRF := Lib.hid hRF
        have HCP := Lib.hid hn2
        have HDR := Lib.hid hdr2
        have HRW := Lib.hid hrow
        have HTR := Lib.hid hT
        have HFI := Lib.hid (And.intro hfi hix)
        obtain ⟨K, hK⟩ : ∃ K, S'.mem.length = K := ⟨_, rfl⟩
        have HK := Lib.hid hK
        rw [hK] at hin
        have hKb : K ≤ 100000 := by rw [← hK]; exact hRF.big.1
        obtain ⟨gm, hvm, _, _⟩ := hRF.bytes (by omega)
        have HVM := Lib.hid hvm
        have hil : i < S'.bl.length := (List.getElem?_eq_some_iff.1 hix).1
        have hbl5 := hRF.big.2.1
        clear hdr hcp hRF hrow hT hn1 hn2 hn3 e1 hsk hdr2 hxm hcl' hfi hfe hrow2 hix B1 N1 hK hvm hxa
        go_wp2_with fail
        generalize wr.alloc (.cells #[.int .i64 (x.h : Int), .int .i64 (x.at' : Int), .int .i64 (a : Int)] 64) = Wb at *
        refine FD.out.mono ?_
        rintro e w2b ⟨rfl, hb2b⟩
        have BW : Hid (Below wr.heap.size wr w2b) := Lib.hid (HB1.out.trans (hb2b.mono HB1.out.size))
        have N2 := Lib.hid ((hb2b.block _ (lt_of HN1.out)).trans HN1.out)
        clear hb2b q0 FD
        go_upto_region 9 with fail
        have mb := HRF.out.below BW.out
        obtain ⟨gb, off, capb, hvb2, d0, d1, d2, dz⟩ := oblk_cells mb.row.1 HFI.out.2
        have HVB2 := Lib.hid hvb2
        have c6 := mb.cells.2.2.2.2.2.2.1
        have c7 := mb.cells.2.2.2.2.2.2.2.1
        rw [HVM.out, HK.out] at c6
        rw [hvb2] at c7
        obtain ⟨q0, q1, q2⟩ := cells3h N2.out
        obtain ⟨NB, hNB⟩ : ∃ NB, S'.bl.length = NB := ⟨_, rfl⟩
        rw [hNB] at c7 hil hbl5
        have T0 : BelM w2b w2b.drew := (Below.refl _ w2b).drew
        have g6 : ∀ z : WIn (BelM w2b), z.w.cell? ⟨rp, 6, none⟩ = some (.slice (some ⟨gm, 0, none⟩) K K) := fun z => old_cell z.h c6
        have g7 : ∀ z : WIn (BelM w2b), z.w.cell? ⟨rp, 7, none⟩ = some (.slice (some ⟨gb, off, none⟩) NB capb) := fun z => old_cell z.h c7
        have b1 : ∀ z : WIn (BelM w2b), z.w.cell? ⟨wr.heap.size, 1, none⟩ = some (.int .i64 (x.at' : Int)) := fun z => old_cell z.h q1
        have b2 : ∀ z : WIn (BelM w2b), z.w.cell? ⟨wr.heap.size, 2, none⟩ = some (.int .i64 (a : Int)) := fun z => old_cell z.h q2
        have e2 : ∀ z : WIn (BelM w2b), z.w.cell? ⟨gb, off + i * 3 + 2, none⟩ = some (.int .i64 (x.len : Int)) := fun z => old_cell z.h d2
        haveI ne : Nonempty (WIn (BelM w2b)) := ⟨⟨w2b.drew, T0⟩⟩
        have hsum : (x.at' : Int) + (x.len : Int) ≤ 100000 := by omega
        have HNB := Lib.hid hNB
        clear mb hvb2 d0 d1 d2 dz q0 q1 q2 hNB
        refine wp_normal ?_
        refine wp_region_plan 25 (BelM w2b) rfl ?_
        refine wpN_seg [0, 1, 2, 3, 4, 5, 6, 7, 8, 9, 10, 11, 12, 13, 14, 15, 16, 17, 18, 19, 20, 21, 22, 23, 24] (by kernel_rfl) (by kernel_rfl) (by kernel_rfl) (by kernel_rfl) (by decide) (fun _ _ _ _ _ h => h) T0 ?_
        simp only [pick, List.map_cons, List.map_nil, List.getElem?_cons_succ, List.getElem?_cons_zero, Option.getD_some]
        repeat (go_big_quiet_step (fail))
        refine wpQuiet_nil ?_
        rw [show x.at' + x.len - x.at' = x.len by omega]
        try rw [if_neg (show ¬ K = a by omega)]
        try rw [if_neg (show ¬ K = x.at' by omega)]
        have MB := Lib.hid (HRF.out.below (BW.out.trans (Below.mono (w := w2b) T0 BW.out.size)))
        obtain ⟨w7, CPY, m7, t7⟩ := MB.out.cpy a (K - a) x.at' x.len (K - x.at') (some ⟨gm, a, none⟩) (some ⟨gm, x.at', none⟩) (by rw [HK.out]; omega) (by omega) (by rw [HK.out]; omega) (fun h => ⟨gm, HVM.out, rfl⟩) (fun h => ⟨gm, HVM.out, rfl⟩)
        have N7 := Lib.hid ((t7.block _ (lt_of N2.out) (fun e => by have := (HRF.out.mem.1.lt _ e).2; omega)).trans N2.out)
        have M7 := Lib.hid m7
        have T7 := Lib.hid t7
        clear g6 g7 b1 b2 e2 ne m7 t7
        refine wpN_one 25 _ (by kernel_rfl) rfl ?_
        refine NextAt.free (by kernel_rfl) ?_
        intro K1 hK1
        refine step_copy_known rfl (.tmp 49) (.tmp 67) 38 rfl _ _ _ (by rfl) (by rfl) CPY ?_
        go_simp
        refine hK1 _ _ ?_
        clear hK1 K1 CPY c6 c7
        refine wpN_done (by kernel_rfl) ?_
        have TB := Lib.hid (Below.mono (w := w2b) T0 (Nat.le_refl _))
        clear T0
        go_upto_region 10 with fail
        obtain ⟨gb', off', capb', hvb3, d0, d1, d2, dz⟩ := oblk_cells M7.out.row.1 HFI.out.2
        rw [HVB2.out] at hvb3
        simp only [Value.slice.injEq, Option.some.injEq, Addr.mk.injEq, and_true] at hvb3
        obtain ⟨⟨rfl, rfl⟩, hNB, rfl⟩ := hvb3
        have c7 := M7.out.cells.2.2.2.2.2.2.2.1
        rw [HVB2.out, HNB.out] at c7
        obtain ⟨q0, q1, q2⟩ := cells3h N7.out
        have T0 : BelM w7 w7.drew := (Below.refl _ w7).drew
        have g7 : ∀ z : WIn (BelM w7), z.w.cell? ⟨rp, 7, none⟩ = some (.slice (some ⟨gb, off, none⟩) NB capb) := fun z => old_cell z.h c7
        have b2 : ∀ z : WIn (BelM w7), z.w.cell? ⟨wr.heap.size, 2, none⟩ = some (.int .i64 (a : Int)) := fun z => old_cell z.h q2
        haveI ne : Nonempty (WIn (BelM w7)) := ⟨⟨w7.drew, T0⟩⟩
        obtain ⟨m8, t8⟩ := (M7.out.below T0).set1 (y := ⟨x.h, a, x.len⟩) (r := 1) (v := .int .i64 (a : Int)) HFI.out.2 (by decide) rfl rfl (by show a + x.len ≤ (splice S'.mem a ((S'.mem.drop x.at').take x.len)).length; rw [splice_ln (by rw [List.length_take, List.length_drop, HK.out]; omega), HK.out]; omega) HVB2.out
        have T9 : Touch F1 wr ((w7.drew).setCell ⟨gb, off + i * 3 + 1, none⟩ (.int .i64 (a : Int))) := ((((Touch.of_below BW.out).then (Touch.of_below TB.out)).then (T7.out.mono (fun k hk => HRF.out.mem.2 k hk))).then (Touch.of_below T0)).then (t8.mono (fun k hk => HRF.out.row.2 k hk))
        have FIN := Lib.hid (And.intro (HCP.out.step HXA.out HFI.out.1) (And.intro m8 (And.intro (ownsRow_same HRW.out (fun k hk => T9.block k (HRW.out.lt k hk).2 (NV.out k hk))) (HTR.out.then T9))))
        have e1' := d1
        have dz1 := dz (off + i * 3 + 1)
        clear m8 t8 T9 d0 d1 d2 dz q0 q1 q2 c7 hNB
        refine wp_normal ?_
        refine wp_region_plan 9 (BelM w7) rfl ?_
        refine wpN_seg [0, 1, 2, 3, 4, 5, 6] (by kernel_rfl) (by kernel_rfl) (by kernel_rfl) (by kernel_rfl) (by decide) (fun _ _ _ _ _ h => h) T0 ?_
        simp only [pick, List.map_cons, List.map_nil, List.getElem?_cons_succ, List.getElem?_cons_zero, Option.getD_some]
        repeat (go_big_quiet_step (fail))
        refine wpQuiet_nil ?_
        clear g7 b2 ne
        refine wpN_pure [7, 8] (by kernel_rfl) (by kernel_rfl) (by kernel_rfl) (fun _ _ _ _ _ h => h) (fun _ => T0) ?_
        simp only [pick, List.map_cons, List.map_nil, List.getElem?_cons_succ, List.getElem?_cons_zero, Option.getD_some]
        repeat (go_big_quiet_step (fail))
        refine wpQuiet_nil ?_
        have e1'' : (w7.drew).cell? ⟨gb, off + i * 3 + 1, none⟩ = some (.int .i64 (x.at' : Int)) := e1'
        have dz1' : (w7.drew).frozen? ⟨gb, off + i * 3 + 1, none⟩ = false := dz1
        refine wpN_one 9 _ (by kernel_rfl) rfl ?_
        refine NextAt.free (by kernel_rfl) ?_
        intro K1 hK1
        go_simp
        refine hK1 _ _ ?_
        clear hK1 K1 e1' e1'' dz1 dz1' T0
        refine wpN_done (by kernel_rfl) ?_
        go_wp2_with fail
        go_roundw
        case measure => simp only [intOf]; omega
        case rel => exact ⟨k + 1, a + x.len, l, _, by omega, by go_num, HDR.out, FIN.out⟩
      · obtain rfl : k = N := by omega
        have hd0 : (shiftsG 0 L).drop k = [] := List.drop_eq_nil_of_le (by rw [HN.out]; exact Nat.le_refl _)
        obtain ⟨a, l', hn1, hn2, hn3⟩ := CpI.norm l0 hcp
        rw [hd0, hn1] at hdr
        have hl' : l' = [] := by
          rcases hn3 with h | ⟨x, l'', rfl, hxa⟩
          · exact h
          · have e1 : shiftsG a (x :: l'') = ⟨x.h, x.at', a⟩ :: shiftsG (a + x.len) l'' := by
              show (if x.at' = a then [] else _) ++ _ = _
              rw [if_neg hxa]
              rfl
            rw [e1] at hdr
            cases hdr
        subst hl'
        have hdone := hn2.done HS.out
        have hcount : S'.count = S.count := by rw [hn2.st]
        obtain ⟨K, hK⟩ : ∃ K, S'.mem.length = K := ⟨_, rfl⟩
        have HK := Lib.hid hK
        have HMS := Lib.hid hRF.msh
        obtain ⟨ma, mc, hvm, hmc, hmc2, _⟩ := hRF.memory
        have c6 := hRF.cells.2.2.2.2.2.2.1
        rw [hvm, hK] at c6
        rw [hK] at hmc
        have HVM := Lib.hid hvm
        have hKb : K ≤ 100000 := by rw [← hK]; exact hRF.big.1
        have S0 : BelM wr wr.drew := (Below.refl _ wr).drew
        have g6 : ∀ z : WIn (BelM wr), z.w.cell? ⟨rp, 6, none⟩ = some (.slice ma K mc) := fun z => old_cell z.h c6
        haveI ne : Nonempty (WIn (BelM wr)) := ⟨⟨wr.drew, S0⟩⟩
        have HRF := Lib.hid hRF
        have HRW := Lib.hid hrow
        have HTR := Lib.hid hT
        have HDN := Lib.hid hdone
        have HCT := Lib.hid hcount
        clear hcp hRF hrow hT hn1 hn2 hn3 hdr hd0 hK hvm c6 hdone hcount
        go_upto_region 12 with fail
        refine wp_normal ?_
        refine wp_region_plan 7 (BelM wr) rfl ?_
        refine wpN_seg [0, 1, 2, 3, 4] (by kernel_rfl) (by kernel_rfl) (by kernel_rfl) (by kernel_rfl) (by decide) (fun _ _ _ _ _ h => h) S0 ?_
        simp only [pick, List.map_cons, List.map_nil, List.getElem?_cons_succ, List.getElem?_cons_zero, Option.getD_some]
        repeat (go_big_quiet_step (fail))
        refine wpQuiet_nil ?_
        clear g6 ne
        refine wpN_one 5 _ (by kernel_rfl) rfl ?_
        refine NextAt.held ?_
        intro K1 hK1
        go_simp
        refine (endR_any (HRF.out.below S0)).mono ?_
        rintro e w4 ⟨L', hs', rfl, hb4⟩
        have S4 : BelM wr w4 := Below.trans (a := wr) S0 (hb4.mono (Below.size S0))
        have hel : endL L' ≤ K := by rw [← HK.out]; exact endL_le hs' (fun x hx => (HRF.out.hb x hx).2.2)
        have HS' := Lib.hid hs'
        obtain ⟨E, hE⟩ : ∃ E, endL L' = E := ⟨_, rfl⟩
        have HE := Lib.hid hE
        rw [hE] at hel ⊢
        go_simp
        refine hK1 _ _ S4 ?_
        clear hK1 K1 hb4 hs' hE
        have FINK : Hid (∀ w5, RfMem w5 F1 rp pp M { S' with mem := fill 0 S'.mem E (K - E) } (kept ++ [S.bl]) vm vb vk' vks' → Touch (fun k => vm.ownBlock = some k) w4 w5 → w5.cell? ⟨rp, 5, none⟩ = some (.int .i64 (S.count : Int)) ∧ w5.frozen? ⟨rp, 5, none⟩ = false ∧ RcmPost w F rp pp M S kept vm vb (.returned (.tuple #[.slice xa k xc, .int .i64 0])) (w5.setCell ⟨rp, 5, none⟩ (.int .i64 ((S.count : Int) + 1)))) := Lib.hid (fun w5 h5 t5 => by
          obtain ⟨h6, t6⟩ := h5.counted (c := S.count) (hi := keep8 (S.hist ++ [S.bl])) HCN.out
          have TT : Touch F1 wr (w5.setCell ⟨rp, 5, none⟩ (.int .i64 ((S.count : Int) + 1))) := ((Touch.of_below S4).then (t5.mono (fun k hk => HRF.out.mem.2 k hk))).then (t6.mono (fun k hk => hk ▸ h5.fr))
          have hw5 : (w5.setCell ⟨rp, 5, none⟩ (.int .i64 ((S.count : Int) + 1))).ownsRow w.heap.size 64 3 (.slice xa k xc) k ((shiftsG 0 L).flatMap Shf.cells) := ownsRow_same HRW.out (fun j hj => TT.block j (HRW.out.lt j hj).2 (NV.out j hj))
          have hd := HDN.out
          have h1 : w5.cell? ⟨rp, 5, none⟩ = some (.int .i64 (S'.count : Int)) := h5.cells.2.2.2.2.2.1
          rw [HCT.out] at h1
          have hs2 := HB2.out.size
          have h7 : SortedL (lieL (cpF S 0 L).bl) L' := by rw [← hd]; exact HS'.out
          have h8 : (w5.setCell ⟨rp, 5, none⟩ (.int .i64 ((S.count : Int) + 1))).ownsRow w.heap.size 64 3 (.slice xa k xc) (shiftsG 0 L).length ((shiftsG 0 L).flatMap Shf.cells) := by rw [HN.out]; exact hw5
          have h9 : RfMem (w5.setCell ⟨rp, 5, none⟩ (.int .i64 ((S.count : Int) + 1))) F1 rp pp M { cpF S 0 L with mem := fill 0 (cpF S 0 L).mem (endL L') ((cpF S 0 L).mem.length - endL L'), hist := keep8 (S.hist ++ [S.bl]), count := S.count + 1 } (kept ++ [S.bl]) vm vb vk' vks' := by
            rw [← hd, HE.out, HK.out]
            exact h6
          have h10 : Touch F w (w5.setCell ⟨rp, 5, none⟩ (.int .i64 ((S.count : Int) + 1))) := (Touch.of_below HB2.out).trans (HF1.out.2.2.trans (HTR.out.then TT) (fun j hj => HF1.out.2.1 j hj)) (fun j hj => (Or.inl hj))
          exact ⟨h1, free_of h5.self 5, Or.inr ⟨HCC.out, L, L', _, _, _, F1, HS.out, h7, rfl, h8, h9, fun j hj => (HF1.out.2.1 j hj).imp id (fun e => Nat.le_trans hs2 e), NV.out, h10⟩⟩)
        have CLK : Hid (∀ (c : Nat) (f : Option Addr), (0 < K - E → ∃ g, vm = .slice (some ⟨g, 0, none⟩) S'.mem.length S'.mem.length ∧ f = some ⟨g, E, none⟩) → ∃ w', (∀ ty, (Builtin.clear_ #[38] ty #[.slice f (K - E) c]).run Tryz.prog w4 = .ok (.tuple #[]) w') ∧ RfMem w' F1 rp pp M { S' with mem := fill 0 S'.mem E (K - E) } (kept ++ [S.bl]) vm vb vk' vks' ∧ Touch (fun k => vm.ownBlock = some k) w4 w') := Lib.hid (fun c f hf => (HRF.out.below S4).clr E (K - E) c f (by rw [HK.out]; omega) hf)
        have hcb := HCN.out
        rcases HMS.out with ⟨hv0, hz0⟩ | ⟨g, hvg⟩
        · have hv1 := HVM.out
          rw [hv0] at hv1
          simp only [Value.slice.injEq] at hv1
          obtain ⟨rfl, h00, rfl⟩ := hv1
          clear h00
          have hK0 : K = 0 := by rw [← HK.out]; exact hz0
          subst hK0
          obtain rfl : E = 0 := by omega
          obtain ⟨w5, CLR, h5, t5⟩ := CLK.out 0 none (fun h => by omega)
          obtain ⟨c5, f5, hfin⟩ := FINK.out w5 h5 t5
          have FIN := Lib.hid hfin
          have HCR : Hid (∀ ty, (Builtin.clear_ #[38] ty #[.slice none 0 0]).run Tryz.prog w4 = .ok (.tuple #[]) w5) := Lib.hid CLR
          have HZ0 := Lib.hid hz0
          clear FINK CLK h5 t5 CLR hel hmc hmc2 hKb hz0 hfin
          refine wpN_pure [6] (by kernel_rfl) (by kernel_rfl) (by kernel_rfl) (fun _ _ _ _ _ h => h) (fun _ => S4) ?_
          simp only [pick, List.map_cons, List.map_nil, List.getElem?_cons_succ, List.getElem?_cons_zero, Option.getD_some]
          repeat (go_big_quiet_step (fail))
          refine wpQuiet_nil ?_
          refine wpN_one 7 _ (by kernel_rfl) rfl ?_
          refine NextAt.free (by kernel_rfl) ?_
          intro K1 hK1
          refine step_clear_known rfl (.tmp 85) 38 rfl (.slice none 0 0) _ (by first | simp [Act.eval] | simp [Act.eval, List.length_eq_zero_iff.1 HZ0.out]) (HCR.out _) ?_
          go_simp
          refine hK1 _ _ ?_
          clear hK1 K1
          refine wpN_done (by kernel_rfl) ?_
          go_wp2_with fail
          go_ret2
          exact FIN.out
        · have hv1 := HVM.out
          rw [hvg, HK.out] at hv1
          simp only [Value.slice.injEq, true_and] at hv1
          obtain ⟨rfl, rfl⟩ := hv1
          obtain ⟨z, hz⟩ : ∃ z, (if K = E then some (⟨g, 0, none⟩ : Addr) else some ⟨g, E, none⟩) = z := ⟨_, rfl⟩
          obtain ⟨w5, CLR, h5, t5⟩ := CLK.out (K - E) z (fun h => ⟨g, hvg, by rw [← hz, if_neg (by omega)]⟩)
          obtain ⟨c5, f5, hfin⟩ := FINK.out w5 h5 t5
          have FIN := Lib.hid hfin
          have HCR := Lib.hid CLR
          clear FINK CLK h5 t5 hvg CLR hfin
          refine wpN_pure [6] (by kernel_rfl) (by kernel_rfl) (by kernel_rfl) (fun _ _ _ _ _ h => h) (fun _ => S4) ?_
          simp only [pick, List.map_cons, List.map_nil, List.getElem?_cons_succ, List.getElem?_cons_zero, Option.getD_some]
          repeat (go_big_quiet_step (fail))
          refine wpQuiet_nil ?_
          refine wpN_one 7 _ (by kernel_rfl) rfl ?_
          refine NextAt.free (by kernel_rfl) ?_
          intro K1 hK1
          refine step_clear_known rfl (.tmp 85) 38 rfl _ _ (by rfl) (HCR.out _) ?_
          go_simp
          refine hK1 _ _ ?_
          clear hK1 K1
          refine wpN_done (by kernel_rfl) ?_
          go_wp2_with fail
          go_ret2
          exact FIN.out

end Go.Proofs.YtjogaohnphafgaaGreat
