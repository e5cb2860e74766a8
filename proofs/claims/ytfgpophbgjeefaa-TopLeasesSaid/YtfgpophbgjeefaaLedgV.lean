/-
  The leases and the entries that a book tells. No conditions but those of the book's own state.
-/
import Derived.Test.YtfgpophbgjeefaaLedgS
namespace Go.Proofs.Ytfgpophbgjeefaa
open Go.RowKit
set_option linter.unusedVariables false

set_option maxHeartbeats 1000000 in
set_option maxRecDepth 100000 in
theorem leasesB_any (p : Nat) (w : World) (F : Nat → Prop) (st : BookSt) (N : Nat) (hb : BookAt w F p st N) (g : Good st) :
    Calls Try.prog 15 #[.pointer (some ⟨p, 0, none⟩)] w (OwnLeas st.leases w) := by
  obtain ⟨mb, blk, lv, ev, D, hm⟩ := hb
  have c5 : w.cell? ⟨p, 5, none⟩ = some lv := by rw [cell_of hm.self]; rfl
  have CL := Lib.hid (clone_lea lv 0 st.leases w hm.lrow (by have := g.leaLen; omega))
  obtain ⟨la, lc, rfl, _, _⟩ := ownsRow_sh hm.lrow
  clear hm g
  go_enter Try.func15, Try.ntmps15
  go_wp2_with fail
  refine CL.out.mono ?_
  rintro e w3 ⟨v3, rfl, h1, h2⟩
  have H := Lib.hid (And.intro h1 h2)
  clear h1 h2
  go_wp2_with fail
  go_ret
  exact ⟨_, rfl, H.out.1, H.out.2⟩

set_option maxHeartbeats 1000000 in
set_option maxRecDepth 100000 in
theorem clone_ents_nil (w : World) :
    Calls Try.prog 36 #[.slice none 0 0] w (OwnEnts [] 0 w) := by
  have hq := fun (w : World) (a : Option Addr) (n c : Nat) => Lib.run_eql_slice_nil (P := Try.prog) w 44 58 a n c 0 0 Try.underlying44
  go_enter Try.func36, Try.ntmps36
  go_wp2_with fail
  go_ret
  exact ⟨_, rfl, World.ownsRow_nil _ _ _ _, Below.refl _ _⟩

def lastE (st : BookSt) : List Ent := st.entries.drop (st.entries.length - 5000)

set_option maxHeartbeats 2000000 in
set_option maxRecDepth 100000 in
theorem entriesB_any (p : Nat) (w : World) (F : Nat → Prop) (st : BookSt) (N : Nat) (hb : BookAt w F p st N) (g : Good st) :
    Calls Try.prog 17 #[.pointer (some ⟨p, 0, none⟩)] w (fun e w' => ∃ v, e = .returned v ∧ w'.ownsRow w.heap.size 58 6 v (lastE st).length ((lastE st).flatMap Ent.cells) ∧ Below w.heap.size w w') := by
  obtain ⟨mb, blk, lv, ev, D, hm⟩ := hb
  have c6 : w.cell? ⟨p, 6, none⟩ = some ev := by rw [cell_of hm.self]; rfl
  have hn := g.ents
  have hER := hm.erow
  clear hm g
  unfold lastE
  rcases hER.2 with ⟨rfl, h0⟩ | ⟨g, cap, cur, rfl, _, hg, hcap, hcm, hs, ht⟩
  · have hz : st.entries = [] := by cases h : st.entries with | nil => rfl | cons x xs => rw [h] at h0; simp at h0
    rw [hz]
    clear hER hz
    have CL := Lib.hid (fun q => clone_ents_nil (w.drewN q))
    go_enter Try.func17, Try.ntmps17
    go_wp2_with fail
    refine wp_region_mid 12 _ (by kernel_rfl) (by kernel_rfl) rfl ?_
    simp only [List.take_succ_cons, List.take_zero, List.drop_succ_cons, List.drop_zero]
    repeat (go_big_quiet_step (fail))
    refine wpQuiet_nil ?_
    intro _ hw'
    obtain ⟨nq, rfl⟩ := hw'
    intro K hK
    go_simp
    refine (CL.out nq).mono ?_
    rintro e w3 ⟨v3, rfl, h1, h2⟩
    have H := Lib.hid (fun q => And.intro (show (w3.drewN q).ownsRow w.heap.size 58 6 v3 0 [] from h1) ((bdrewN (Below.refl w.heap.size w) nq).trans (bdrewN (show Below w.heap.size (w.drewN nq) w3 from h2) q)))
    clear h1 h2
    go_simp
    refine hK _ _ ?_
    clear hK K
    repeat (go_big_quiet_step (fail))
    refine wpQuiet_nil ?_
    intro _ hw'
    obtain ⟨nq3, rfl⟩ := hw'
    go_wp2_with fail
    go_ret
    exact ⟨_, rfl, (H.out nq3).1, (H.out nq3).2⟩
  · obtain ⟨low, hlow⟩ : ∃ low, low = st.entries.length - 5000 := ⟨_, rfl⟩
    have hmax : max ((st.entries.length : Int) - 5000) 0 = (low : Int) := by omega
    have hll : low ≤ st.entries.length := by omega
    have hcells : ∀ W : World, W.heap[g]? = some (.cells cur 58 (0, 0)) → ∀ j u, ((st.entries.drop low).flatMap Ent.cells)[j]? = some u → W.cell? ⟨g, low * 6 + j, none⟩ = some u := by
      intro W hW j u hj
      rw [← drop_cells, List.getElem?_drop, ← ht] at hj
      have hlt := (List.getElem?_eq_some_iff.1 hj).1
      rw [List.length_take] at hlt
      rw [List.getElem?_take_of_lt (by omega), Array.getElem?_toList] at hj
      rw [cell_of hW]; exact hj
    obtain ⟨A, hA, hsrc⟩ : ∃ A : Addr, (if cap = low then (some ⟨g, 0, none⟩ : Option Addr) else some ⟨g, low * 6, none⟩) = some A ∧ Hid (∀ W : World, W.heap[g]? = some (.cells cur 58 (0, 0)) → ∀ j u, ((st.entries.drop low).flatMap Ent.cells)[j]? = some u → W.cell? (A.add j) = some u) := by
      by_cases h : cap = low
      · refine ⟨⟨g, 0, none⟩, by simp [h], Lib.hid fun W hW j u hj => ?_⟩
        have : st.entries.drop low = [] := List.drop_eq_nil_of_le (by omega)
        rw [this] at hj; simp at hj
      · refine ⟨⟨g, low * 6, none⟩, by simp [h], Lib.hid fun W hW j u hj => ?_⟩
        rw [Addr.add_lit]; exact hcells W hW j u hj
    have hdl : (st.entries.drop low).length = st.entries.length - low := by rw [List.length_drop]
    have CL := Lib.hid (fun (q : Nat) => clone_ents A (st.entries.length - low) (cap - low) (st.entries.drop low) (w.drewN q) hdl (hsrc.out _ hg) (by omega))
    rw [← hlow, hdl]
    have hmx : max ((st.entries.length : Int) - 5000) 0 = (low : Int) := hmax
    have HDL := Lib.hid hdl
    clear hER hcells hsrc hs ht hg hdl hlow
    have hlc : low ≤ cap := by omega
    have hcc : cap ≤ 9223372036854775807 := by unfold maxLen at hcm; omega
    go_enter Try.func17, Try.ntmps17
    go_wp2_with fail
    refine wp_region_mid 12 _ (by kernel_rfl) (by kernel_rfl) rfl ?_
    simp only [List.take_succ_cons, List.take_zero, List.drop_succ_cons, List.drop_zero]
    repeat (go_big_quiet_step (fail))
    refine wpQuiet_nil ?_
    intro _ hw'
    obtain ⟨nq, rfl⟩ := hw'
    intro K hK
    go_simp
    refine (CL.out nq).mono ?_
    rintro e w3 ⟨v3, rfl, h1, h2⟩
    have H := Lib.hid (fun q => And.intro (show (w3.drewN q).ownsRow w.heap.size 58 6 v3 (st.entries.length - low) ((st.entries.drop low).flatMap Ent.cells) from h1) ((bdrewN (Below.refl w.heap.size w) nq).trans (bdrewN (show Below w.heap.size (w.drewN nq) w3 from h2) q)))
    clear h1 h2
    go_simp
    refine hK _ _ ?_
    clear hK K
    repeat (go_big_quiet_step (fail))
    refine wpQuiet_nil ?_
    intro _ hw'
    obtain ⟨nq3, rfl⟩ := hw'
    go_wp2_with fail
    go_ret
    exact ⟨_, rfl, (H.out nq3).1, (H.out nq3).2⟩

end Go.Proofs.Ytfgpophbgjeefaa
