/-
  The reference's book: where a lease stands, what a time is, Leases. No conditions but what always holds of a book.
-/
import Derived.Test.YtljjndifmfhffaaGreatDoorLedgerChecksPau
import Derived.Test.YtljjndifmfhffaaGreatDoorLedgerChecksPbb
import Derived.Test.YtljjndifmfhffaaGreatDoorLedgerChecksPbe
namespace Go.Proofs.YtljjndifmfhffaaGreatDoor
open Go.RowKit Go.Maps
set_option linter.unusedVariables false

/-- What is leased to an owner is not in the reference's map. -/
theorem RefMem.accs {w : World} {F : Nat → Prop} {p : Nat} {st : BookSt} {es : List Ent} {wh : Bool} {N mb : Nat} {lv ev : Value} {D : DataW Unit} (h : RefMem w F p st es wh N mb lv ev D) {st' : BookSt}
    (ha : ∀ o, (st'.acc o).map (fun a => (a.1, a.2.1)) = (st.acc o).map (fun a => (a.1, a.2.1))) (h1 : st'.budget = st.budget) (h3 : st'.leases = st.leases) (h4 : st'.last = st.last) (h5 : st'.time = st.time) : RefMem w F p st' es wh N mb lv ev D := by
  have hz : ∀ o z, accAt (st'.acc o) z = accAt (st.acc o) z := by
    intro o z
    have := ha o
    rcases e1 : st'.acc o with _ | ⟨a, b, c⟩ <;> rcases e2 : st.acc o with _ | ⟨a', b', c'⟩ <;> rw [e1, e2] at this
    · cases this
    · cases this
    · simp only [Option.map_some, Option.some.injEq, Prod.mk.injEq] at this
      obtain ⟨rfl, rfl⟩ := this
      rfl
  have hs : ∀ o, (st'.acc o).isSome = (st.acc o).isSome := by
    intro o
    have := ha o
    cases e1 : st'.acc o <;> cases e2 : st.acc o <;> rw [e1, e2] at this
    · cases this
    · cases this
    · rfl
  have hc : accCnt st'.acc = accCnt st.acc := sumN_congr 40 (fun o _ _ => by unfold accOne; rw [hs o])
  refine ⟨?_, h.fp, h.map, h.fmap, h.tidy, by rw [hc]; exact h.size, fun o z => by rw [hz]; exact h.look o z, fun o => by rw [hs]; exact h.has o, by rw [h3]; exact h.lrow, h.flea, h.erow, h.fent⟩
  have := h.self
  unfold refCells at *
  rw [h1, h4, h5]
  exact this
theorem RB.accs {w : World} {F : Nat → Prop} {p : Nat} {st : BookSt} {wh : Bool} (h : RB w F p st wh) {st' : BookSt}
    (ha : ∀ o, (st'.acc o).map (fun a => (a.1, a.2.1)) = (st.acc o).map (fun a => (a.1, a.2.1))) (h1 : st'.budget = st.budget) (h3 : st'.leases = st.leases) (h4 : st'.last = st.last) (h5 : st'.time = st.time) (h6 : st'.entries = st.entries) : RB w F p st' wh := by
  obtain ⟨mb, lv, ev, D, hm⟩ := h
  unfold RB
  rw [h6]
  exact ⟨mb, lv, ev, D, hm.accs ha h1 h3 h4 h5⟩

set_option maxHeartbeats 1000000 in
set_option maxRecDepth 100000 in
theorem leaseAtW (bx : Nat) (no : Int) (x : Lea) (W : World) (h : W.cell? ⟨bx, 0, none⟩ = some (.int .i64 no)) :
    Calls Tryz.prog 87 #[.agg #[.int .i64 x.no, .int .i64 x.owner, .int .i64 x.amount, .int .i64 x.untl], .pointer (some ⟨bx, 0, none⟩)] W fun e w' => e = .returned (.bool (decide (x.no = no))) ∧ Below W.heap.size W w' := by
  obtain ⟨a1, a2, a3, a4⟩ := x
  have hlt : bx < W.heap.size := World.block_lt_of_cell? W ⟨bx, 0, none⟩ h
  have h' : (W.alloc (.cells #[.int .i64 a1, .int .i64 a2, .int .i64 a3, .int .i64 a4] 88)).cell? ⟨bx, 0, none⟩ = some (.int .i64 no) := Lib.cell?_alloc_some _ h
  clear h
  go_enter Tryz.func87, Tryz.ntmps87
  go_wp2_with fail
  go_ret
  exact ⟨ret_bool (by simp [Bool.beq_eq_decide_eq]), (Below.refl _ _).alloc (Nat.le_refl _) _⟩

set_option maxHeartbeats 1000000 in
set_option maxRecDepth 100000 in
theorem leaseAt_any (p : Nat) (no : Int) (w : World) (F : Nat → Prop) (st : BookSt) (wh : Bool) (hb : RB w F p st wh) (hlen : st.leases.length ≤ 1000000) :
    Calls Tryz.prog 72 #[.pointer (some ⟨p, 0, none⟩), .int .i64 no] w (SeePost (findV st no) w) := by
  obtain ⟨mb, lv, ev, D, hm⟩ := hb
  have B1 : Below w.heap.size w (w.alloc (.cells #[.int .i64 no] 3)) := (Below.refl _ _).alloc (Nat.le_refl _) _
  have hm1 := hm.same (Below.same_on B1)
  have c2 : (w.alloc (.cells #[.int .i64 no] 3)).cell? ⟨p, 2, none⟩ = some lv := by rw [cell_of hm1.self]; rfl
  have eg : ∀ args w, (callFunc 87 args).run Tryz.prog w = .ok (.enter 87 args) w := enters_of Tryz.func87 (by kernel_rfl) rfl
  have C : Calls Tryz.prog 79 #[lv, .func (.func 87) #[] #[.pointer (some ⟨w.heap.size, 0, none⟩)]] (w.alloc (.cells #[.int .i64 no] 3)) (SeePost (findV st no) (w.alloc (.cells #[.int .i64 no] 3))) := by
    rcases Nat.eq_zero_or_pos st.leases.length with h0 | h0
    · obtain ⟨a, c, rfl, _, _⟩ := ownsRow_sh hm1.lrow
      have : st.leases = [] := by cases h : st.leases with | nil => rfl | cons x xs => rw [h] at h0; simp at h0
      rw [h0]
      have hv : findV st no = -1 := by unfold findV; rw [this]; rfl
      rw [hv]
      exact index_none a c _ _ _
    · obtain ⟨g, cap, cur, rfl, _, hg, _, _, _, _, hc⟩ := lrow_open hm1.lrow h0
      have hbx : (w.alloc (.cells #[.int .i64 no] 3)).cell? ⟨w.heap.size, 0, none⟩ = some (.int .i64 no) := by rw [cell_of_row _ _ _ _ _ _ (heap_alloc_new w _)]; rfl
      have := index_row g cap st.leases 87 #[.pointer (some ⟨w.heap.size, 0, none⟩)] (fun x => decide (x.no = no)) _ eg (lt_of hg) (by omega) hc (fun W x hb => (leaseAtW w.heap.size no x W ((hb.cell (p := ⟨w.heap.size, 0, none⟩) (by simp)).trans hbx)).mono fun e w' ⟨h1, h2⟩ => ⟨h1, hb.trans (h2.mono hb.size)⟩)
      rw [idxBy_findL no default st.leases 0] at this
      have hv : findV st no = match findL no st.leases with | none => -1 | some k => ((0 + k : Nat) : Int) := by
        unfold findV; cases findL no st.leases <;> simp
      rw [hv]
      exact this
  obtain ⟨la, lc, rfl, _, _⟩ := ownsRow_sh hm1.lrow
  have HC := Lib.hid C
  have HB1 := Lib.hid B1
  clear C hm hm1 B1 eg
  go_enter Tryz.func72, Tryz.ntmps72
  go_wp2_with fail
  refine HC.out.mono ?_
  rintro e w' ⟨rfl, hb2⟩
  have HB2 := Lib.hid (HB1.out.trans (hb2.mono HB1.out.size))
  clear hb2
  go_wp2_with fail
  go_ret
  exact ⟨rfl, HB2.out⟩

set_option maxRecDepth 100000 in
theorem isTimeR_any (n : Int) (w : World) : Calls Tryz.prog 71 #[.int .i64 n] w (fun e w' => e = .returned (.bool (decide (0 ≤ n ∧ n ≤ 1000000))) ∧ w = w') := by
  by_cases h1 : 0 ≤ n
  · by_cases h2 : n ≤ 1000000
    · have e : decide (0 ≤ n ∧ n ≤ 1000000) = true := by simp [h1, h2]
      rw [e]
      clear e
      go_enter Tryz.func71, Tryz.ntmps71
      go_wp2_with fail
      go_ret
      exact ⟨rfl, rfl⟩
    · have e : decide (0 ≤ n ∧ n ≤ 1000000) = false := by simp [h2]
      rw [e]
      clear e
      go_enter Tryz.func71, Tryz.ntmps71
      go_wp2_with fail
      go_ret
      exact ⟨rfl, rfl⟩
  · have e : decide (0 ≤ n ∧ n ≤ 1000000) = false := by simp [h1]
    rw [e]
    clear e
    go_enter Tryz.func71, Tryz.ntmps71
    go_wp2_with fail
    go_ret
    exact ⟨rfl, rfl⟩

end Go.Proofs.YtljjndifmfhffaaGreatDoor
