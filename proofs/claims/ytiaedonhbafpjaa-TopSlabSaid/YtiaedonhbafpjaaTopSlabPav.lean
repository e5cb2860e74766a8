/-
  The class of a number of octets; whether a slot is in use. No conditions but bounds.
-/
import Derived.Test.YtiaedonhbafpjaaTopSlabPau
import Derived.Deep.QuietTactic
import Derived.BigQuiet
namespace Go.Proofs.Ytiaedonhbafpjaa
open Go.RowKit
set_option linter.unusedVariables false

theorem clsFrom_zero {zs : List Int} : ∀ {n j : Nat}, clsFrom zs j n = 0 → ∀ k, j ≤ k → k < j + n → clsBad zs k = 0
  | 0, j, _, k, h1, h2 => by omega
  | n + 1, j, h, k, h1, h2 => by
    by_cases hb : clsBad zs j = 0
    · rw [clsFrom_step _ _ _ hb] at h
      by_cases e : k = j
      · rw [e]; exact hb
      · exact clsFrom_zero h k (by omega) (by omega)
    · rw [clsFrom_stop _ _ _ hb] at h
      exact absurd h hb
theorem clsErr_all {zs : List Int} (h : clsErr zs = 0) : 1 ≤ zs.length ∧ zs.length ≤ 20 ∧ (∀ j, j < zs.length → 1 ≤ zs.getD j 0 ∧ zs.getD j 0 ≤ 4096) ∧ ∀ i j, i < j → j < zs.length → zs.getD i 0 < zs.getD j 0 := by
  have hl := clsErr_len h
  have h0 : clsFrom zs 0 zs.length = 0 := by
    unfold clsErr at h
    rw [if_pos hl] at h
    exact h
  have hb := clsFrom_zero h0
  have hr : ∀ j, j < zs.length → 1 ≤ zs.getD j 0 ∧ zs.getD j 0 ≤ 4096 := fun j hj => by
    have h1 := hb j (Nat.zero_le _) (by omega)
    unfold clsBad at h1
    split at h1
    · next hc => exact hc
    · cases h1
  have hs : ∀ j, 0 < j → j < zs.length → zs.getD (j - 1) 0 < zs.getD j 0 := fun j h0 hj => by
    have h1 := hb j (Nat.zero_le _) (by omega)
    unfold clsBad at h1
    rw [if_pos (hr j hj)] at h1
    split at h1
    · cases h1
    · omega
  refine ⟨hl.1, hl.2, hr, fun i j hij => ?_⟩
  induction j with
  | zero => omega
  | succ j ih =>
    intro hj
    have h1 := hs (j + 1) (by omega) hj
    rw [Nat.add_sub_cancel] at h1
    by_cases e : i = j
    · rw [e]; exact h1
    · have := ih (by omega) (by omega)
      omega
/-- The least class for n octets. -/
def clsIdx (zs : List Int) (n : Int) : Nat := zs.findIdx fun z => decide (n ≤ z)
theorem clsIdx_of {zs : List Int} {n : Int} {i : Nat} (hi : i ≤ zs.length) (h1 : ∀ j, j < i → zs.getD j 0 < n) (h2 : ∀ j, i ≤ j → j < zs.length → n ≤ zs.getD j 0) : clsIdx zs n = i := by
  unfold clsIdx
  have gd : ∀ j (hj : j < zs.length), zs.getD j 0 = zs[j] := fun j hj => by rw [List.getD_eq_getElem?_getD, List.getElem?_eq_getElem hj]; rfl
  by_cases e : i < zs.length
  · rw [List.findIdx_eq e]
    refine ⟨by have := h2 i (Nat.le_refl _) e; rw [gd i e] at this; simpa using this, fun j hj => ?_⟩
    have := h1 j hj
    rw [gd j (by omega)] at this
    simp
    omega
  · have : i = zs.length := by omega
    subst this
    rw [List.findIdx_eq_length]
    intro x hx
    obtain ⟨j, hj, rfl⟩ := List.mem_iff_getElem.1 hx
    have := h1 j hj
    rw [gd j hj] at this
    simp
    omega
theorem clsIdx_le (zs : List Int) (n : Int) : clsIdx zs n ≤ zs.length := List.findIdx_le_length
theorem clsIdx_get {zs : List Int} {n : Int} (h : clsIdx zs n < zs.length) : n ≤ zs.getD (clsIdx zs n) 0 := by
  have h1 := List.findIdx_getElem (w := h)
  rw [List.getD_eq_getElem?_getD, List.getElem?_eq_getElem h]
  exact of_decide_eq_true h1
def clsE (S : CaSt) (n : Int) : Int := if S.closed then 11 else if n < 0 then 2 else if clsIdx S.classes n = S.classes.length then 4 else 0
def clsV (S : CaSt) (n : Int) : Int := if clsE S n = 0 then (clsIdx S.classes n : Nat) else 0

theorem CaMem.classes {w : World} {F : Nat → Prop} {c bp : Nat} {S : CaSt} {vc vs : Value} (m : CaMem w F c bp S vc vs) : ∃ b cap, vc = .slice (some ⟨b, 0, none⟩) S.classes.length cap ∧ ∀ j, j < S.classes.length → w.cell? ⟨b, j, none⟩ = some (.int .i64 (S.classes.getD j 0)) := by
  have hl := (clsErr_all m.cok).1
  obtain ⟨a, cap, rfl, _, hc⟩ := (Reads.own (k := .i64) (zs := S.classes) m.cls.1 (by have := (clsErr_all m.cok).2.1; omega)).open
  obtain ⟨b, o, rfl, h0⟩ := hc 0 hl
  have ho : o = 0 := by
    rcases m.cls.1.2 with ⟨h1, h2⟩ | ⟨g, cap', cur, h1, _⟩
    · simp at h1
    · simp only [Value.slice.injEq, Option.some.injEq, Addr.mk.injEq, and_true] at h1
      exact h1.1.2
  subst ho
  refine ⟨b, cap, rfl, fun j hj => ?_⟩
  obtain ⟨b', o', e, h⟩ := hc j hj
  simp only [Option.some.injEq, Addr.mk.injEq, and_true] at e
  obtain ⟨rfl, rfl⟩ := e
  rw [Nat.zero_add] at h
  exact h

set_option maxHeartbeats 2000000 in
set_option maxRecDepth 100000 in
theorem classFor_any {w : World} {F : Nat → Prop} {c bp : Nat} {S : CaSt} {vc vs : Value} (m : CaMem w F c bp S vc vs) (n : Int) :
    Calls Try.prog 28 #[.pointer (some ⟨c, 0, none⟩), .int .i64 n] w (fun e w' => e = .returned (.tuple #[.int .i64 (clsV S n), .int .i64 (clsE S n)]) ∧ w' = w) := by
  obtain ⟨c0, c1, c2, c3, c4, c5, c6⟩ := m.cells
  obtain ⟨b, cap, rfl, hcl⟩ := m.classes
  obtain ⟨k1, k2, k3, k4⟩ := clsErr_all m.cok
  obtain ⟨ln, hln⟩ : ∃ ln, S.classes.length = ln := ⟨_, rfl⟩
  have BS := Lib.hid (bsearch_any b 0 ln cap S.classes n w hln (by omega) (fun j hj => by rw [Nat.zero_add]; exact hcl j (by omega)) (fun i j hij hj => by
    by_cases e : i = j
    · rw [e]; exact Int.le_refl _
    · have := k4 i j (by omega) (by omega)
      omega))
  have HLN := Lib.hid hln
  rw [hln] at c2
  clear m hcl k1 k2 k3 k4 hln c0 c1 c3 c5 c6
  by_cases hcd : S.closed = true
  · have E := Lib.hid (show clsE S n = 11 by unfold clsE; rw [if_pos hcd])
    have V := Lib.hid (show clsV S n = 0 by unfold clsV; rw [E.out]; rfl)
    rw [hcd] at c4
    clear hcd
    go_enter Try.func28, Try.ntmps28
    go_wp2_with fail
    go_ret2
    exact ⟨by rw [E.out, V.out]; rfl, rfl⟩
  · have hcd' : S.closed = false := by simpa using hcd
    rw [hcd'] at c4
    have HCD := Lib.hid hcd'
    clear hcd hcd'
    by_cases hn : n < 0
    · have E := Lib.hid (show clsE S n = 2 by unfold clsE; rw [if_neg (by rw [HCD.out]; simp), if_pos hn])
      have V := Lib.hid (show clsV S n = 0 by unfold clsV; rw [E.out]; rfl)
      go_enter Try.func28, Try.ntmps28
      go_wp2_with fail
      go_ret2
      exact ⟨by rw [E.out, V.out]; rfl, rfl⟩
    · have E := Lib.hid (show clsE S n = if clsIdx S.classes n = S.classes.length then 4 else 0 by unfold clsE; rw [if_neg (by rw [HCD.out]; simp), if_neg hn])
      go_enter Try.func28, Try.ntmps28
      go_wp2_with fail
      refine BS.out.mono ?_
      rintro e w' ⟨i, bb, rfl, h1, h2, h3, hw⟩
      obtain rfl := hw
      have HI := Lib.hid (clsIdx_of h1 h2 h3)
      have hi2 : i ≤ ln := by have := HLN.out; omega
      clear h1 h2 h3 BS
      by_cases hie : i = ln
      · have E4 := Lib.hid (show clsE S n = 4 by rw [E.out, if_pos (by rw [HI.out, HLN.out]; exact hie)])
        have V := Lib.hid (show clsV S n = 0 by unfold clsV; rw [E4.out]; rfl)
        subst hie
        go_wp2_with fail
        go_ret2
        exact ⟨by rw [E4.out, V.out]; rfl, rfl⟩
      · have E4 := Lib.hid (show clsE S n = 0 by rw [E.out, if_neg (by rw [HI.out, HLN.out]; exact hie)])
        have V := Lib.hid (show clsV S n = (i : Int) by unfold clsV; rw [if_pos E4.out, HI.out])
        have hif : ((i : Int) == (ln : Int)) = false := by simp; omega
        clear hie
        go_wp2_with fail
        go_ret2
        exact ⟨by rw [E4.out, V.out]; rfl, rfl⟩

theorem res3c {W : World} {r : Nat} {t : TypeId} {x0 x1 x2 a b c : Value} (h : W.heap[r]? = some (.cells #[x0, x1, x2] t (0, 0))) :
    (((W.setCell ⟨r, 0, none⟩ a).setCell ⟨r, 1, none⟩ b).setCell ⟨r, 2, none⟩ c).heap[r]? = some (.cells #[a, b, c] t (0, 0)) := by
  have h0 := block_setCell h 0 a
  have h1 := block_setCell h0 1 b
  have h2 := block_setCell h1 2 c
  exact h2
/-- Whether a slot is in use. -/
def valE (S : CaSt) (cls no at' gen : Int) : Int :=
  if S.closed then 11 else match slabOf S.sl no with
    | none => 7
    | some x => if (0 ≤ cls ∧ cls ≤ (S.classes.length : Int) - 1) ∧ (x.cls : Int) = cls ∧ (0 ≤ at' ∧ at' ≤ (S.slots : Int) - 1) ∧ 1 ≤ gen then
        (match x.cl[at'.toNat]? with
          | none => 7
          | some y => if (y.gen : Int) ≠ gen then 14 else if y.used = false then 13 else 0)
      else 7
def VlPost (S : CaSt) (cls no at' gen : Int) (w : World) : Ending → World → Prop := fun e w' => e = .returned (.int .i64 (valE S cls no at' gen)) ∧ Below w.heap.size w w'

set_option maxHeartbeats 40000000 in
set_option maxRecDepth 100000 in
theorem valid_any {w : World} {F : Nat → Prop} {c bp : Nat} {S : CaSt} {vc vs : Value} (m : CaMem w F c bp S vc vs) (cls no at' gen : Int) :
    Calls Try.prog 17 #[.pointer (some ⟨c, 0, none⟩), .agg #[.int .i64 cls, .int .i64 no, .int .i64 at', .int .i64 gen]] w (VlPost S cls no at' gen w) := by
  obtain ⟨c0, c1, c2, c3, c4, c5, c6⟩ := m.cells
  obtain ⟨b, cap, rfl, _⟩ := m.classes
  have clt := lt_of m.self
  have hcl := (clsErr_all m.cok).2.1
  have hsl := m.sz
  have B0 : Below w.heap.size w (w.alloc (.cells #[.int .i64 cls, .int .i64 no, .int .i64 at', .int .i64 gen] 37)) := (Below.refl _ w).alloc (Nat.le_refl _) _
  have RS0 := heap_alloc_new w (.cells #[.int .i64 cls, .int .i64 no, .int .i64 at', .int .i64 gen] 37)
  have MM := Lib.hid (m.below B0)
  have FS := Lib.hid (findS_any (m.below B0) no)
  obtain ⟨ln, hln⟩ : ∃ ln, S.classes.length = ln := ⟨_, rfl⟩
  obtain ⟨sn, hsn⟩ : ∃ sn, S.slots = sn := ⟨_, rfl⟩
  rw [hln] at c2 hcl
  rw [hsn] at c3 hsl
  have HLN := Lib.hid (And.intro hln hsn)
  have HE : Hid (∀ e : Int, valE S cls no at' gen = e → ∀ W, Below w.heap.size w W → VlPost S cls no at' gen w (.returned (.int .i64 e)) W) := Lib.hid (fun e he W hW => ⟨by rw [he], hW⟩)
  clear m hln hsn c0 c1 c5 c6
  by_cases hcd : S.closed = true
  · have E := Lib.hid (show valE S cls no at' gen = 11 by unfold valE; rw [if_pos hcd])
    have HB0 := Lib.hid B0
    rw [hcd] at c4
    clear hcd B0 RS0
    go_enter Try.func17, Try.ntmps17
    go_wp2_with fail
    go_ret
    exact HE.out _ E.out _ HB0.out
  · have hcd' : S.closed = false := by simpa using hcd
    rw [hcd'] at c4
    have HCD := Lib.hid hcd'
    clear hcd hcd'
    have E1 := Lib.hid (show valE S cls no at' gen = match slabOf S.sl no with
      | none => 7
      | some x => if (0 ≤ cls ∧ cls ≤ (ln : Int) - 1) ∧ (x.cls : Int) = cls ∧ (0 ≤ at' ∧ at' ≤ (sn : Int) - 1) ∧ 1 ≤ gen then
          (match x.cl[at'.toNat]? with
            | none => 7
            | some y => if (y.gen : Int) ≠ gen then 14 else if y.used = false then 13 else 0)
        else 7 by
      unfold valE
      rw [if_neg (by rw [HCD.out]; simp), HLN.out.1, HLN.out.2])
    go_enter Try.func17, Try.ntmps17
    go_upto_region 1 with fail
    have c2 := old_cell B0 c2
    have c3 := old_cell B0 c3
    have c4 := old_cell B0 c4
    generalize w.alloc (.cells #[.int .i64 cls, .int .i64 no, .int .i64 at', .int .i64 gen] 37) = W0 at *
    obtain ⟨b0, b1, b2, b3⟩ := cells4 RS0
    have HB0 := Lib.hid B0
    have HRS := Lib.hid RS0
    generalize hbxe : w.heap.size = bx at *
    have HBX := Lib.hid hbxe
    clear B0 RS0 hbxe
    go_wp2_with fail
    refine FS.out.mono ?_
    rintro e w2 ⟨hw2, he⟩
    obtain rfl := hw2.symm
    have HW2 := Lib.hid hw2
    clear hw2
    by_cases hc : 0 ≤ cls ∧ cls ≤ (ln : Int) - 1
    · have WA := Lib.hid (fun W => (within_slab_yes cls 0 ((ln : Int) - 1) W hc.1 hc.2).mono (fun e w' h => (And.intro h.1 h.2.symm : e = .returned (.bool true) ∧ w' = W)))
      cases hsl0 : slabOf S.sl no with
      | none =>
        rw [hsl0] at he
        simp only at he
        subst he
        have WB := WA
        have FIN : Hid (∀ q, VlPost S cls no at' gen w (.returned (.int .i64 7)) (W0.drewN q)) := Lib.hid (fun q => HE.out _ (by rw [E1.out, hsl0]) _ (bdrewN HB0.out q))
        clear hsl0
        go_upto_region 4 with fail
        go_quiet ((go_at_call 25; first | with_reducible exact Calls.quiet_of_same (WA.out _) | with_reducible exact Calls.quiet_of_same (WB.out _)))
        go_wp2_with fail
        go_ret
        exact FIN.out _
      | some x =>
        rw [hsl0] at he
        simp only at he
        subst he
        obtain ⟨hxm, hxn⟩ := slabOf_some hsl0
        have MX := Lib.hid (MM.out.sl x hxm)
        have E2 : Hid (valE S cls no at' gen = if (0 ≤ cls ∧ cls ≤ (ln : Int) - 1) ∧ (x.cls : Int) = cls ∧ (0 ≤ at' ∧ at' ≤ (sn : Int) - 1) ∧ 1 ≤ gen then
          (match x.cl[at'.toNat]? with
            | none => 7
            | some y => if (y.gen : Int) ≠ gen then 14 else if y.used = false then 13 else 0)
        else 7) := Lib.hid (E1.out.trans (by rw [hsl0]))
        have HXM := Lib.hid hxm
        obtain ⟨d0, d1, d2, d3⟩ := MX.out.cells
        rw [HLN.out.2] at d3
        have HC := Lib.hid hc
        clear hsl0 hxm hxn d0 d2 hc
        by_cases hxc : (x.cls : Int) = cls
        · have hxf : ((x.cls : Int) != cls) = false := by simp [hxc]
          by_cases ha : 0 ≤ at' ∧ at' ≤ (sn : Int) - 1
          · have WB := Lib.hid (fun W => (within_slab_yes at' 0 ((sn : Int) - 1) W ha.1 ha.2).mono (fun e w' h => (And.intro h.1 h.2.symm : e = .returned (.bool true) ∧ w' = W)))
            by_cases hg : gen < 1
            · have FIN : Hid (∀ q, VlPost S cls no at' gen w (.returned (.int .i64 7)) (W0.drewN q)) := Lib.hid (fun q => HE.out _ (by rw [E2.out, if_neg (fun h => by omega)]) _ (bdrewN HB0.out q))
              clear hxc ha
              go_upto_region 4 with fail
              go_quiet ((go_at_call 25; first | with_reducible exact Calls.quiet_of_same (WA.out _) | with_reducible exact Calls.quiet_of_same (WB.out _)))
              go_wp2_with fail
              go_ret
              exact FIN.out _
            · have hE3 : Hid (valE S cls no at' gen = match x.cl[at'.toNat]? with
                  | none => 7
                  | some y => if (y.gen : Int) ≠ gen then 14 else if y.used = false then 13 else 0) := Lib.hid (by rw [E2.out, if_pos ⟨HC.out, hxc, ha, by omega⟩])
              obtain ⟨an, rfl⟩ : ∃ an : Nat, at' = an := ⟨at'.toNat, by omega⟩
              obtain ⟨y, hy⟩ : ∃ y, x.cl[an]? = some y := ⟨_, List.getElem?_eq_getElem (by rw [MX.out.cl, HLN.out.2]; omega)⟩
              have HY := Lib.hid hy
              have E4 := Lib.hid (show valE S cls no an gen = if (y.gen : Int) ≠ gen then 14 else if y.used = false then 13 else 0 by rw [hE3.out, Int.toNat_natCast, hy])
              have han : an < sn := by omega
              clear hxc ha hy hE3
              go_upto_region 4 with fail
              go_quiet ((go_at_call 25; first | with_reducible exact Calls.quiet_of_same (WA.out _) | with_reducible exact Calls.quiet_of_same (WB.out _)))
              have BW := Lib.hid (bdrewN HB0.out nq)
              have MX1 := Lib.hid (fun W (hW : Below (W0.drewN nq).heap.size (W0.drewN nq) W) => ((MM.out.below (bdrewN (Below.refl _ W0) nq)).below hW).sl x HXM.out)
              have RS1 : (W0.drewN nq).heap[bx]? = _ := HRS.out
              have HR1 := Lib.hid RS1
              clear b0 b1 b2 b3 c2 c3 c4 d1 d3 RS1 WA WB
              generalize W0.drewN nq = W1 at *
              obtain ⟨b0, b1, b2, b3⟩ := cells4 HR1.out
              go_upto_region 6 with fail
              have S0 : BelS W1 W1.drew := (Below.refl _ W1).drew
              have s3 : ∀ z : WIn (BelS W1), z.w.cell? ⟨x.p, 3, none⟩ = some (.slice (some ⟨x.q, 0, none⟩) sn sn) := fun z => by rw [← HLN.out.2]; exact (MX1.out z.w z.h).cells.2.2.2
              have sb : ∀ z : WIn (BelS W1), z.w.cell? ⟨bx, 2, none⟩ = some (.int .i64 (an : Int)) := fun z => (cells4 ((z.h.block _ (lt_of HR1.out)).trans HR1.out)).2.2.1
              have t0 : ∀ z : WIn (BelS W1), z.w.cell? ⟨x.q, an * 3, none⟩ = some (.int .i64 (y.gen : Int)) := fun z => ((MX1.out z.w z.h).cell HY.out).1
              have t1 : ∀ z : WIn (BelS W1), z.w.cell? ⟨x.q, an * 3 + 1, none⟩ = some (.int .i64 (y.len : Int)) := fun z => ((MX1.out z.w z.h).cell HY.out).2.1
              have t2 : ∀ z : WIn (BelS W1), z.w.cell? ⟨x.q, an * 3 + 2, none⟩ = some (.bool y.used) := fun z => ((MX1.out z.w z.h).cell HY.out).2.2
              haveI ne : Nonempty (WIn (BelS W1)) := ⟨⟨W1.drew, S0⟩⟩
              refine wp_normal ?_
              refine wp_region_plan 9 (BelS W1) rfl ?_
              refine wpN_seg [0, 1, 2, 3, 4, 5, 6, 7] (by kernel_rfl) (by kernel_rfl) (by kernel_rfl) (by kernel_rfl) (by decide) (fun _ _ _ _ _ h => h) S0 ?_
              simp only [pick, List.map_cons, List.map_nil, List.getElem?_cons_succ, List.getElem?_cons_zero, Option.getD_some]
              repeat (go_big_quiet_step (fail))
              refine wpQuiet_nil ?_
              clear s3 sb t0 t1 t2 ne S0
              have D1 : Below W1.heap.size W1 W1.drew := (Below.refl _ W1).drew
              have BD := Lib.hid (BW.out.trans (D1.mono (by rw [← HBX.out]; exact BW.out.size)))
              have HR5 : W1.drew.heap[bx]? = _ := HR1.out
              have HR5 := Lib.hid HR5
              have HD1 := Lib.hid D1
              clear b0 b1 b2 b3 D1
              generalize W1.drew = W5 at *
              have AL : Below W5.heap.size W5 (W5.alloc (.cells #[.int .i64 0, .int .i64 0, .bool false] 71)) := (Below.refl _ W5).alloc (Nat.le_refl _) _
              have HAL := Lib.hid AL
              refine wpN_one 8 _ (by kernel_rfl) rfl ?_
              refine NextAt.held ?_
              intro K1 hK1
              go_simp
              refine hK1 _ _ (HD1.out.trans (HAL.out.mono HD1.out.size)) ?_
              clear hK1 K1
              have N5 := heap_alloc_new W5 (.cells #[.int .i64 0, .int .i64 0, .bool false] 71)
              have HR6 := Lib.hid ((HAL.out.block _ (lt_of HR5.out)).trans HR5.out)
              have B6 := Lib.hid (BD.out.trans (HAL.out.mono (by rw [← HBX.out]; exact BD.out.size)))
              have hge : bx ≤ W5.heap.size := by rw [← HBX.out]; exact BD.out.size
              have hbn : bx ≠ W5.heap.size := fun e => by have := lt_of HR5.out; omega
              generalize W5.alloc (.cells #[.int .i64 0, .int .i64 0, .bool false] 71) = W6 at *
              generalize W5.heap.size = nb at *
              clear AL HAL
              have q0 : W6.cell? ⟨nb, 0, none⟩ = some (.int .i64 0) := by rw [cell_of N5]; rfl
              have q1 : W6.cell? ⟨nb, 1, none⟩ = some (.int .i64 0) := by rw [cell_of N5]; rfl
              have q2 : W6.cell? ⟨nb, 2, none⟩ = some (.bool false) := by rw [cell_of N5]; rfl
              have f0 := free_of N5 0
              have f1 := free_of N5 1
              have f2 := free_of N5 2
              have HN5 := Lib.hid N5
              clear N5
              refine wpN_one 9 _ (by kernel_rfl) rfl ?_
              refine NextAt.free (by kernel_rfl) ?_
              intro K1 hK1
              go_simp
              refine hK1 _ _ ?_
              clear hK1 K1
              refine wpN_done (by kernel_rfl) ?_
              have R7 := res3c (a := .int .i64 (y.gen : Int)) (b := .int .i64 (y.len : Int)) (c := .bool y.used) HN5.out
              have b3 : (((W6.setCell ⟨nb, 0, none⟩ (.int .i64 (y.gen : Int))).setCell ⟨nb, 1, none⟩ (.int .i64 (y.len : Int))).setCell ⟨nb, 2, none⟩ (.bool y.used)).cell? ⟨bx, 3, none⟩ = some (.int .i64 gen) := by
                rw [cell_of ((Below.heap_setCell _ _ _ _ hbn).trans ((Below.heap_setCell _ _ _ _ hbn).trans ((Below.heap_setCell _ _ _ _ hbn).trans HR6.out)))]
                rfl
              have B7 := Lib.hid (((B6.out.setCell (p := ⟨nb, 0, none⟩) hge (.int .i64 (y.gen : Int))).setCell (p := ⟨nb, 1, none⟩) hge (.int .i64 (y.len : Int))).setCell (p := ⟨nb, 2, none⟩) hge (.bool y.used))
              clear q0 q1 q2 f0 f1 f2
              generalize ((W6.setCell ⟨nb, 0, none⟩ (.int .i64 (y.gen : Int))).setCell ⟨nb, 1, none⟩ (.int .i64 (y.len : Int))).setCell ⟨nb, 2, none⟩ (.bool y.used) = W7 at *
              have q0 : W7.cell? ⟨nb, 0, none⟩ = some (.int .i64 (y.gen : Int)) := by rw [cell_of R7]; rfl
              have q2 : W7.cell? ⟨nb, 2, none⟩ = some (.bool y.used) := by rw [cell_of R7]; rfl
              clear R7 hge hbn
              by_cases hgg : (y.gen : Int) = gen
              · have hgf : ((y.gen : Int) != gen) = false := by simp [hgg]
                cases hu : y.used with
                | true =>
                  have FIN := Lib.hid (HE.out 0 (by rw [E4.out, if_neg (by simp [hgg]), if_neg (by simp [hu])]) _ B7.out)
                  rw [hu] at q2
                  clear hu hgg
                  go_wp2_with fail
                  go_ret
                  exact FIN.out
                | false =>
                  have FIN := Lib.hid (HE.out 13 (by rw [E4.out, if_neg (by simp [hgg]), if_pos hu]) _ B7.out)
                  rw [hu] at q2
                  clear hu hgg
                  go_wp2_with fail
                  go_ret
                  exact FIN.out
              · have hgf : ((y.gen : Int) != gen) = true := by simp; exact hgg
                have FIN := Lib.hid (HE.out 14 (by rw [E4.out, if_pos hgg]) _ B7.out)
                clear hgg
                go_wp2_with fail
                go_ret
                exact FIN.out
          · have WB := Lib.hid (fun W => (within_slab_no at' 0 ((sn : Int) - 1) W ha).mono (fun e w' h => (And.intro h.1 h.2.symm : e = .returned (.bool false) ∧ w' = W)))
            have FIN : Hid (∀ q, VlPost S cls no at' gen w (.returned (.int .i64 7)) (W0.drewN q)) := Lib.hid (fun q => HE.out _ (by rw [E2.out, if_neg (fun h => ha h.2.2.1)]) _ (bdrewN HB0.out q))
            clear hxc ha
            go_upto_region 4 with fail
            go_quiet ((go_at_call 25; first | with_reducible exact Calls.quiet_of_same (WA.out _) | with_reducible exact Calls.quiet_of_same (WB.out _)))
            go_wp2_with fail
            go_ret
            exact FIN.out _
        · have hxf : ((x.cls : Int) != cls) = true := by simp; exact hxc
          have WB := WA
          have FIN : Hid (∀ q, VlPost S cls no at' gen w (.returned (.int .i64 7)) (W0.drewN q)) := Lib.hid (fun q => HE.out _ (by rw [E2.out, if_neg (fun h => hxc h.2.1)]) _ (bdrewN HB0.out q))
          clear hxc
          go_upto_region 4 with fail
          go_quiet ((go_at_call 25; first | with_reducible exact Calls.quiet_of_same (WA.out _) | with_reducible exact Calls.quiet_of_same (WB.out _)))
          go_wp2_with fail
          go_ret
          exact FIN.out _
    · have WA := Lib.hid (fun W => (within_slab_no cls 0 ((ln : Int) - 1) W hc).mono (fun e w' h => (And.intro h.1 h.2.symm : e = .returned (.bool false) ∧ w' = W)))
      have WB := WA
      have FIN : Hid (∀ q, VlPost S cls no at' gen w (.returned (.int .i64 7)) (W0.drewN q)) := Lib.hid (fun q => HE.out _ (by
        rw [E1.out]
        cases slabOf S.sl no with
        | none => rfl
        | some x => exact if_neg (fun h => hc h.1)) _ (bdrewN HB0.out q))
      obtain ⟨v, rfl⟩ : ∃ v, e = .returned v := by
        cases hq : slabOf S.sl no with
        | none => rw [hq] at he; exact ⟨_, he⟩
        | some x => rw [hq] at he; exact ⟨_, he⟩
      clear hc he
      go_upto_region 4 with fail
      go_quiet ((go_at_call 25; first | with_reducible exact Calls.quiet_of_same (WA.out _) | with_reducible exact Calls.quiet_of_same (WB.out _)))
      go_wp2_with fail
      go_ret
      exact FIN.out _

end Go.Proofs.Ytiaedonhbafpjaa
