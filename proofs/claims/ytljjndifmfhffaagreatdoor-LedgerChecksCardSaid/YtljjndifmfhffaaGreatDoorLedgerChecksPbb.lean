/-
  The book's Lease: what it gives. No conditions but those of the book's own state.
-/
import Derived.Test.YtljjndifmfhffaaGreatDoorLedgerChecksPba
import Derived.Deep.Cut
namespace Go.Proofs.YtljjndifmfhffaaGreatDoor
open Go.RowKit
set_option linter.unusedVariables false

def TwoPost (r err : Int) (F : Nat → Prop) (p : Nat) (st : BookSt) (N : Nat) (w : World) : Ending → World → Prop := fun e w' =>
  e = .returned (.tuple #[.int .i64 r, .int .i64 err]) ∧ BookAt w' (fun k => F k ∨ w.heap.size ≤ k) p st N ∧ Touch F w w'

set_option maxHeartbeats 1000000 in
set_option maxRecDepth 100000 in
theorem lease_err (p : Nat) (o n u : Int) (w : World) (F : Nat → Prop) (st : BookSt) (N : Nat) (hb : BookAt w F p st N) (e : Int) (he : BadAcc st o [n] e) :
    Calls Tryz.prog 30 #[.pointer (some ⟨p, 0, none⟩), .int .i64 o, .int .i64 n, .int .i64 u] w (fun x w' => x = .returned (.tuple #[.int .i64 0, .int .i64 e]) ∧ BookAt w' (fun k => F k ∨ w.heap.size ≤ k) p st N ∧ Touch F w w') := by
  have B1 : Below w.heap.size w (w.alloc (.cells #[.int .i64 n] 3)) := (Below.refl _ _).alloc (Nat.le_refl _) _
  have HC := Lib.hid (account_bad p o _ [n] (w.alloc (.cells #[.int .i64 n] 3)) F st N (reads_one w n 3) (hb.same (Below.same_on B1)) e he)
  have FIN := Lib.hid (bad_fin hb B1)
  have hv := he.vals
  clear he hb B1
  rcases hv with rfl | rfl
  all_goals
    go_enter Tryz.func30, Tryz.ntmps30
    go_wp2_with fail
    refine HC.out.mono ?_
    rintro e w' ⟨rfl, rfl⟩
    go_wp2_with fail
    go_ret2
    exact ⟨rfl, FIN.out.1, FIN.out.2⟩

set_option maxHeartbeats 2000000 in
set_option maxRecDepth 100000 in
theorem lease_until (p : Nat) (o n u l h s : Int) (w : World) (F : Nat → Prop) (st : BookSt) (N : Nat) (hb : BookAt w F p st N) (g : Good st) (hc : chkE o [n] = 0) (ha : st.acc o = some (l, h, s)) (hu : untilE st u ≠ 0) :
    Calls Tryz.prog 30 #[.pointer (some ⟨p, 0, none⟩), .int .i64 o, .int .i64 n, .int .i64 u] w (TwoPost 0 (untilE st u) F p st N w) := by
  have B1 : Below w.heap.size w (w.alloc (.cells #[.int .i64 n] 3)) := (Below.refl _ _).alloc (Nat.le_refl _) _
  have FIN := Lib.hid (bad_fin hb B1)
  have HU := Lib.hid (until_any p u _ F st N (hb.same (Below.same_on B1)))
  obtain ⟨mb, blk, lv, ev, D, hm⟩ := hb
  obtain ⟨b, hbk, hblk, hFb, hpb⟩ := hm.found ha
  have hm1 := hm.same (Below.same_on B1)
  have A := account_any p o _ [n] _ F st N mb blk lv ev D (reads_one w n 3) hc hm1
  rw [hbk] at A
  have HA := Lib.hid A
  have hv := untilE_vals st u
  generalize untilE st u = ue at *
  clear A hm hm1 hblk ha hbk B1 hc g
  rcases hv with rfl | rfl | rfl
  · exact absurd rfl hu
  all_goals
    clear hu
    go_enter Tryz.func30, Tryz.ntmps30
    go_wp2_with fail
    refine HA.out.mono ?_
    rintro e w1 ⟨rfl, rfl⟩
    unfold ptrOf
    go_wp2_with fail
    refine HU.out.mono ?_
    rintro e w2 ⟨rfl, rfl⟩
    go_wp2_with fail
    go_ret2
    exact ⟨rfl, FIN.out.1, FIN.out.2⟩

set_option maxHeartbeats 2000000 in
set_option maxRecDepth 100000 in
theorem lease_many (p : Nat) (o n u l h s : Int) (w : World) (F : Nat → Prop) (st : BookSt) (N : Nat) (hb : BookAt w F p st N) (g : Good st) (hc : chkE o [n] = 0) (ha : st.acc o = some (l, h, s)) (hu : untilE st u = 0) (h200 : st.leases.length = 200) :
    Calls Tryz.prog 30 #[.pointer (some ⟨p, 0, none⟩), .int .i64 o, .int .i64 n, .int .i64 u] w (TwoPost 0 4 F p st N w) := by
  have B1 : Below w.heap.size w (w.alloc (.cells #[.int .i64 n] 3)) := (Below.refl _ _).alloc (Nat.le_refl _) _
  have FIN := Lib.hid (bad_fin hb B1)
  have HU := until_any p u _ F st N (hb.same (Below.same_on B1))
  rw [hu] at HU
  have HU := Lib.hid HU
  obtain ⟨mb, blk, lv, ev, D, hm⟩ := hb
  obtain ⟨b, hbk, hblk, hFb, hpb⟩ := hm.found ha
  have hm1 := hm.same (Below.same_on B1)
  have A := account_any p o _ [n] _ F st N mb blk lv ev D (reads_one w n 3) hc hm1
  rw [hbk] at A
  have HA := Lib.hid A
  have c5 : (w.alloc (.cells #[.int .i64 n] 3)).cell? ⟨p, 5, none⟩ = some lv := by rw [cell_of hm1.self]; rfl
  obtain ⟨la, lc, rfl, _, _⟩ := ownsRow_sh hm1.lrow
  rw [h200] at c5
  clear A hm hm1 hblk ha hbk B1 hc g hu h200
  go_enter Tryz.func30, Tryz.ntmps30
  go_wp2_with fail
  refine HA.out.mono ?_
  rintro e w1 ⟨rfl, rfl⟩
  unfold ptrOf
  go_wp2_with fail
  refine HU.out.mono ?_
  rintro e w2 ⟨rfl, rfl⟩
  go_wp2_with fail
  go_ret2
  exact ⟨rfl, FIN.out.1, FIN.out.2⟩

theorem lease_mem {w w' : World} {F : Nat → Prop} {p : Nat} {st : BookSt} {N mb : Nat} {blk : Int → Option Nat} {lv ev : Value} {D : DataW Unit} (h : BookMem w F p st N mb blk lv ev D) (l : Lea) (g cap : Nat)
    (hrow : w'.ownsRow 0 88 4 (.slice (some ⟨g, 0, none⟩) (st.leases.length + 1) cap) (st.leases.length + 1) (st.leases.flatMap Lea.cells ++ l.cells))
    (hgr : w.drew.grownBy w' lv.ownBlock) (hpl : lv.ownBlock = some g ∨ w.heap.size ≤ g) :
    BookMem (w'.setCell ⟨p, 5, none⟩ (.slice (some ⟨g, 0, none⟩) (st.leases.length + 1) cap)) (fun k => F k ∨ w.heap.size ≤ k) p { st with leases := st.leases ++ [l] } N mb blk (.slice (some ⟨g, 0, none⟩) (st.leases.length + 1) cap) ev D ∧
      Touch F w (w'.setCell ⟨p, 5, none⟩ (.slice (some ⟨g, 0, none⟩) (st.leases.length + 1) cap)) := by
  have hp := lt_of h.self
  have blk' : ∀ k, k < w.heap.size → lv.ownBlock ≠ some k → w'.heap[k]? = w.heap[k]? := fun k hk hne => hgr.block k hk (fun e => hne e.symm)
  have hp' : w'.heap[p]? = some (.cells (bookCells st mb lv ev) 39 (0, 0)) := (blk' p hp h.pl).trans h.self
  have hgp : g ≠ p := by
    rcases hpl with e | e
    · intro x; subst x; exact h.pl e
    · omega
  refine ⟨h.leasesTo _ _ ?_ ?_ ?_ ?_, ?_⟩
  · rw [block_setCell hp']; rfl
  · intro k hk hne hne2
    rw [Below.heap_setCell _ _ _ _ hne]
    exact blk' k hk hne2
  · have := ownsRow_setCell_other hrow (a := ⟨p, 5, none⟩) (by simp [Value.ownBlock]; exact hgp) (.slice (some ⟨g, 0, none⟩) (st.leases.length + 1) cap)
    simpa [List.flatMap_append] using this
  · intro k hk
    simp only [Value.ownBlock, Option.some.injEq] at hk
    subst hk
    rcases hpl with e | e
    · exact Or.inl (h.flea _ e)
    · exact Or.inr e
  · refine Touch.setCell ?_ (Or.inl h.fp) _
    exact (Touch.refl F w).drew.grown hgr (fun k hk => Or.inl (h.flea k hk))

/-- What Lease has turned ahead of the list. -/
def leaseSt1 (st : BookSt) (o n l h s : Int) : BookSt := { st with total := st.total + n, last := st.last + 1, acc := fun x => if x = o then some (l, h, s + n) else st.acc x }

set_option maxHeartbeats 8000000 in
set_option maxRecDepth 100000 in
theorem lease_in (p : Nat) (o n u l h s : Int) (w : World) (F : Nat → Prop) (st : BookSt) (N : Nat) (hb : BookAt w F p st N) (g : Good st) (hc : chkE o [n] = 0) (ha : st.acc o = some (l, h, s)) (hu : untilE st u = 0) (h200 : st.leases.length ≠ 200) (hlast : st.last < 9223372036854775807) :
    Calls Tryz.prog 30 #[.pointer (some ⟨p, 0, none⟩), .int .i64 o, .int .i64 n, .int .i64 u] w
      (TwoPost (if min (l - (h + s)) (st.budget - st.total) < n then 0 else st.last + 1) (if min (l - (h + s)) (st.budget - st.total) < n then 12 else 0) F p (if min (l - (h + s)) (st.budget - st.total) < n then st else leaseSt st o n u l h s) N w) := by
  obtain ⟨i0, hi0, hz0, hz1, hz2⟩ := info_parts infoLea
  have hlen := g.leaLen
  have B1 : Below w.heap.size w (w.alloc (.cells #[.int .i64 n] 3)) := (Below.refl _ _).alloc (Nat.le_refl _) _
  have FIN := Lib.hid (fun q => bad_fin hb (bdrewN B1 q))
  have HU := until_any p u _ F st N (hb.same (Below.same_on B1))
  rw [hu] at HU
  have HU := Lib.hid HU
  obtain ⟨mb, blk, lv, ev, D, hm⟩ := hb
  obtain ⟨b, hbk, hblk, hFb, hpb⟩ := hm.found ha
  have hm1 := hm.same (Below.same_on B1)
  have A := account_any p o _ [n] _ F st N mb blk lv ev D (reads_one w n 3) hc hm1
  rw [hbk] at A
  have HA := Lib.hid A
  have hblk1 := (B1.block b (lt_of hblk)).trans hblk
  have h0 := g.s0 ha
  have h1 := g.tot0
  have h2 := g.totb
  have h3 := g.bud
  have h4 := g.last
  obtain ⟨n1, n2⟩ := (chkE_zero hc).2 n (by simp)
  obtain ⟨a1, a2, a3, a4, a5⟩ := g.own o l h s ha
  have HL := Lib.hid (left_any p b st mb lv ev l h s _ hm1.self hblk1 (by omega) (by omega) (by omega) (by omega) (by omega))
  have c5 : (w.alloc (.cells #[.int .i64 n] 3)).cell? ⟨p, 5, none⟩ = some lv := by rw [cell_of hm1.self]; rfl
  have c3 : (w.alloc (.cells #[.int .i64 n] 3)).cell? ⟨p, 3, none⟩ = some (.int .i64 st.last) := by rw [cell_of hm1.self]; rfl
  have f3 : (w.alloc (.cells #[.int .i64 n] 3)).frozen? ⟨p, 3, none⟩ = false := free_of hm1.self 3
  have c1 : (w.alloc (.cells #[.int .i64 n] 3)).cell? ⟨p, 1, none⟩ = some (.int .i64 st.total) := by rw [cell_of hm1.self]; rfl
  have f1 : (w.alloc (.cells #[.int .i64 n] 3)).frozen? ⟨p, 1, none⟩ = false := free_of hm1.self 1
  have b2 : (w.alloc (.cells #[.int .i64 n] 3)).cell? ⟨b, 2, none⟩ = some (.int .i64 s) := by rw [cell_of hblk1]; rfl
  have g2 : (w.alloc (.cells #[.int .i64 n] 3)).frozen? ⟨b, 2, none⟩ = false := free_of hblk1 2
  have ne1 : ∀ (W : World) (v : Value), (W.setCell ⟨p, 3, none⟩ v).cell? ⟨b, 2, none⟩ = W.cell? ⟨b, 2, none⟩ := fun W v => World.cell?_setCell_other _ _ _ _ (by simp)
  have ne2 : ∀ (W : World) (v : Value), (W.setCell ⟨b, 2, none⟩ v).cell? ⟨p, 1, none⟩ = W.cell? ⟨p, 1, none⟩ := fun W v => World.cell?_setCell_other _ _ _ _ (by simp)
  have ne3 : ∀ (W : World) (v : Value), (W.setCell ⟨p, 3, none⟩ v).cell? ⟨p, 1, none⟩ = W.cell? ⟨p, 1, none⟩ := fun W v => World.cell?_setCell_other _ _ _ _ (by simp)
  have HM3 := Lib.hid (fun q => (hm1.same (w' := (w.alloc (.cells #[.int .i64 n] 3)).drewN q) (fun k _ _ => rfl)).acct (W := ((((w.alloc (.cells #[.int .i64 n] 3)).drewN q).setCell ⟨p, 3, none⟩ (.int .i64 (st.last + 1))).setCell ⟨b, 2, none⟩ (.int .i64 (s + n))).setCell ⟨p, 1, none⟩ (.int .i64 (st.total + n))) hbk l h (s + n) (leaseSt1 st o n l h s) rfl rfl rfl
    (by
      have hp0 : ((w.alloc (.cells #[.int .i64 n] 3)).drewN q).heap[p]? = some (.cells (bookCells st mb lv ev) 39 (0, 0)) := hm1.self
      rw [block_setCell ((Below.heap_setCell _ _ _ p (Ne.symm hpb)).trans (block_setCell hp0 3 (.int .i64 (st.last + 1)))) 1 (.int .i64 (st.total + n))]; rfl)
    (by
      have hb0 : ((w.alloc (.cells #[.int .i64 n] 3)).drewN q).heap[b]? = some (.cells #[.int .i64 l, .int .i64 h, .int .i64 s] 81 (0, 0)) := hblk1
      rw [Below.heap_setCell _ _ _ b hpb, block_setCell ((Below.heap_setCell _ _ _ b hpb).trans hb0) 2 (.int .i64 (s + n))]; rfl)
    (fun k h1 h2 h3 => (Below.heap_setCell _ _ _ k h2).trans ((Below.heap_setCell _ _ _ k h3).trans (Below.heap_setCell _ _ _ k h2))))
  have TT := Lib.hid (fun q => ((((Touch.of_below (F := F) B1).drewN q).setCell (p := ⟨p, 3, none⟩) (Or.inl hm.fp) (.int .i64 (st.last + 1))).setCell (p := ⟨b, 2, none⟩) (Or.inl hFb) (.int .i64 (s + n))).setCell (p := ⟨p, 1, none⟩) (Or.inl hm.fp) (.int .i64 (st.total + n)))
  have ONE : ∀ v ∈ [Value.int .i64 (st.last + 1), .int .i64 o, .int .i64 n, .int .i64 u], v.oneCell' = true := by
    intro v hv
    simp at hv
    rcases hv with rfl | rfl | rfl | rfl <;> rfl
  have GE := g.ents
  have HST := Lib.hid (show leaseSt st o n u l h s = { leaseSt1 st o n l h s with leases := st.leases ++ [⟨st.last + 1, o, n, u⟩], entries := trimE (st.entries ++ [⟨8, o, 0, n, st.last + 1, u⟩]) } from rfl)
  obtain ⟨la, lc, hlv, hlv1, hlv2⟩ := ownsRow_sh hm1.lrow
  have hmn : -1000000000 ≤ min (l - (h + s)) (st.budget - st.total) ∧ min (l - (h + s)) (st.budget - st.total) ≤ 1000000000 := by omega
  generalize hMIN : min (l - (h + s)) (st.budget - st.total) = mn at *
  obtain ⟨mn1, mn2⟩ := hmn
  have hs1 : s ≤ 10000000 := by omega
  have ht1 : st.total ≤ 10000000 := by omega
  subst hlv
  have hlen2 : ¬ ((st.leases.length : Int) = 200) := by omega
  clear A hm hm1 hblk hblk1 ha hbk B1 hc g hu a1 a2 a3 a4 a5 hMIN h2 h3
  by_cases hlt : mn < n
  · rw [if_pos hlt, if_pos hlt, if_pos hlt]
    clear HM3 TT
    go_enter Tryz.func30, Tryz.ntmps30
    go_wp2_with fail
    refine HA.out.mono ?_
    rintro e w1 ⟨rfl, rfl⟩
    unfold ptrOf
    go_wp2_with fail
    refine HU.out.mono ?_
    rintro e w2 ⟨rfl, rfl⟩
    go_wp2_with fail
    refine HL.out.mono ?_
    rintro e w3 ⟨rfl, q, rfl⟩
    go_wp2_with fail
    go_ret2
    exact ⟨rfl, (FIN.out q).1, (FIN.out q).2⟩
  · rw [if_neg hlt, if_neg hlt, if_neg hlt]
    go_enter Tryz.func30, Tryz.ntmps30
    go_wp2_with fail
    refine HA.out.mono ?_
    rintro e w1 ⟨rfl, rfl⟩
    unfold ptrOf
    go_wp2_with fail
    refine HU.out.mono ?_
    rintro e w2 ⟨rfl, rfl⟩
    go_wp2_with fail
    refine HL.out.mono ?_
    rintro e w3 ⟨rfl, q, rfl⟩
    go_upto_region 14 with fail
    have HM3' := Lib.hid (HM3.out q)
    have TT' := Lib.hid (TT.out q)
    clear HM3 TT FIN HU HL HA c5 c3 c1 b2 f3 f1 g2
    generalize ((((w.alloc (.cells #[.int .i64 n] 3)).drewN q).setCell ⟨p, 3, none⟩ (.int .i64 (st.last + 1))).setCell ⟨b, 2, none⟩ (.int .i64 (s + n))).setCell ⟨p, 1, none⟩ (.int .i64 (st.total + n)) = W3 at *
    have d5 : W3.cell? ⟨p, 5, none⟩ = some (.slice la st.leases.length lc) := by rw [cell_of HM3'.out.self]; rfl
    have d3 : W3.cell? ⟨p, 3, none⟩ = some (.int .i64 (st.last + 1)) := by rw [cell_of HM3'.out.self]; rfl
    have d5a : ∀ ob, (W3.alloc ob).cell? ⟨p, 5, none⟩ = some (.slice la st.leases.length lc) := fun ob => Lib.cell?_alloc_some _ d5
    have d3a : ∀ ob, (W3.alloc ob).cell? ⟨p, 3, none⟩ = some (.int .i64 (st.last + 1)) := fun ob => Lib.cell?_alloc_some _ d3
    have PC : ∀ w', W3.drew.grownBy w' (Value.slice la st.leases.length lc).ownBlock → w'.cell? ⟨p, 5, none⟩ = some (.slice la st.leases.length lc) ∧ w'.frozen? ⟨p, 5, none⟩ = false := fun w' hg => by
      have hs := (hg.block p (lt_of HM3'.out.self) (fun e => HM3'.out.pl e.symm)).trans (show W3.drew.heap[p]? = _ from HM3'.out.self)
      exact ⟨(cell_of hs 5).trans rfl, free_of hs 5⟩
    have HPC := Lib.hid PC
    clear PC
    go_region_law ((go_loud (refine step_append_new rfl (.tmp 70) (.tmp 79) 37 rfl 0 88 i0 (.agg #[.int .i64 0, .int .i64 0, .int .i64 0, .int .i64 0]) 4 32 Tryz.underlying37 hi0 hz0 hz1 hz2 rfl (by decide) (.slice la st.leases.length lc) st.leases.length (st.leases.flatMap Lea.cells) W3.drew _ [.int .i64 (st.last + 1), .int .i64 o, .int .i64 n, .int .i64 u] (by simp [Act.eval]) (by exact HM3'.out.lrow) (by simp [Act.eval]) rfl ONE (by unfold maxLen; omega) (by omega) (by omega) ?_); intro gb cap w' hrow hgr hpl hsz; have d6 := (HPC.out w' hgr).1; have f6 := (HPC.out w' hgr).2))
    all_goals
      obtain ⟨k1, k2⟩ := lease_mem HM3'.out ⟨st.last + 1, o, n, u⟩ gb cap hrow hgr hpl
      simp only [show (leaseSt1 st o n l h s).leases = st.leases from rfl] at k1 k2
      have NT := Lib.hid (note_any p ⟨8, o, 0, n, st.last + 1, u⟩ _ _ _ N ⟨mb, _, _, _, _, k1⟩ GE)
      have e3 : (w'.setCell ⟨p, 5, none⟩ (.slice (some ⟨gb, 0, none⟩) (st.leases.length + 1) cap)).cell? ⟨p, 3, none⟩ = some (.int .i64 (st.last + 1)) := by rw [cell_of k1.self]; rfl
      have T2 := Lib.hid (TT'.out.then k2)
      have HS := Lib.hid TT'.out.size
      clear k1 k2 hrow hgr hpl hsz d6 f6 d5 d3 d5a d3a
      go_wp2_with fail
      refine NT.out.mono ?_
      rintro e w5 ⟨rfl, hb5, ht5⟩
      obtain ⟨mb5, blk5, lv5, ev5, D5, hm5⟩ := hb5
      have e5 : w5.cell? ⟨p, 3, none⟩ = some (.int .i64 (st.last + 1)) := by rw [cell_of hm5.self]; rfl
      have HP := Lib.hid (OpPost.mk (err := 0) (F := F) (w := w) T2.out ht5 ⟨mb5, blk5, lv5, ev5, D5, hm5⟩ (fun k hk => hk.imp id (fun x => Nat.le_trans HS.out x)))
      clear hm5 ht5 e3
      go_wp2_with fail
      go_ret2
      exact ⟨rfl, by rw [HST.out]; exact HP.out.2.1, HP.out.2.2⟩

def leaseV (st : BookSt) (o n u : Int) : Int := if leaseE st o n u = 0 then st.last + 1 else 0
theorem lease_all (p : Nat) (o n u : Int) (w : World) (F : Nat → Prop) (st : BookSt) (N : Nat) (hb : BookAt w F p st N) (g : Good st) (hlast : st.last < 9223372036854775807) :
    Calls Tryz.prog 30 #[.pointer (some ⟨p, 0, none⟩), .int .i64 o, .int .i64 n, .int .i64 u] w (TwoPost (leaseV st o n u) (leaseR st o n u).1 F p (leaseR st o n u).2 N w) := by
  have bad : ∀ e, e ≠ 0 → leaseE st o n u = e → Calls Tryz.prog 30 #[.pointer (some ⟨p, 0, none⟩), .int .i64 o, .int .i64 n, .int .i64 u] w (TwoPost 0 e F p st N w) → Calls Tryz.prog 30 #[.pointer (some ⟨p, 0, none⟩), .int .i64 o, .int .i64 n, .int .i64 u] w (TwoPost (leaseV st o n u) (leaseR st o n u).1 F p (leaseR st o n u).2 N w) := by
    intro e he h1 h2
    have : ¬ leaseE st o n u = 0 := by rw [h1]; exact he
    unfold leaseV leaseR
    rw [if_neg this, if_neg this, h1]
    exact h2
  rcases chkE_vals o [n] with hc | hc
  · cases ha : st.acc o with
    | none => exact bad 7 (by decide) (by unfold leaseE; rw [if_pos hc, ha]) (lease_err p o n u w F st N hb 7 (Or.inr ⟨hc, ha, rfl⟩))
    | some a =>
      obtain ⟨l, h, s⟩ := a
      by_cases hu : untilE st u = 0
      · by_cases h200 : st.leases.length = 200
        · exact bad 4 (by decide) (by unfold leaseE; rw [if_pos hc, ha]; simp [hu, h200]) (lease_many p o n u l h s w F st N hb g hc ha hu h200)
        · have C := lease_in p o n u l h s w F st N hb g hc ha hu h200 hlast
          by_cases hm : min (l - (h + s)) (st.budget - st.total) < n
          · rw [if_pos hm, if_pos hm, if_pos hm] at C
            exact bad 12 (by decide) (by unfold leaseE; rw [if_pos hc, ha]; simp only; rw [if_pos hu, if_neg h200, if_pos hm]) C
          · rw [if_neg hm, if_neg hm, if_neg hm] at C
            have hz : leaseE st o n u = 0 := by unfold leaseE; rw [if_pos hc, ha]; simp only; rw [if_pos hu, if_neg h200, if_neg hm]
            unfold leaseV leaseR
            rw [if_pos hz, if_pos hz, ha]
            exact C
      · exact bad _ hu (by unfold leaseE; rw [if_pos hc, ha]; simp only; rw [if_neg hu]) (lease_until p o n u l h s w F st N hb g hc ha hu)
  · exact bad 2 (by decide) (by unfold leaseE; rw [if_neg (by rw [hc]; decide)]) (lease_err p o n u w F st N hb 2 (Or.inl ⟨hc, rfl⟩))

end Go.Proofs.YtljjndifmfhffaaGreatDoor
