/-
  Slots: how many slots are in use. No conditions but bounds.
-/
import Derived.Test.YtiaedonhbafpjaaTopSlabPbm
import Derived.Test.YtiaedonhbafpjaaTopSlabPaq
namespace Go.Proofs.Ytiaedonhbafpjaa
open Go.RowKit Go.Shelf Go.Sort Go.Lib
set_option linter.unusedVariables false

def usedAll (l : List Sl) : Nat := (l.map fun x => usedN x.cl).sum
theorem usedAll_take {l : List Sl} {k : Nat} {x : Sl} (hx : l[k]? = some x) : usedAll (l.take (k + 1)) = usedAll (l.take k) + usedN x.cl := by
  unfold usedAll
  rw [List.take_add_one, hx]
  simp
theorem usedAll_le {B : Nat} : ∀ (l : List Sl), (∀ x ∈ l, usedN x.cl ≤ B) → usedAll l ≤ l.length * B
  | [], _ => by simp [usedAll]
  | x :: l, h => by
    have h1 := usedAll_le l (fun y hy => h y (List.mem_cons_of_mem _ hy))
    have h2 := h x List.mem_cons_self
    have h3 : usedAll (x :: l) = usedN x.cl + usedAll l := by simp [usedAll]
    rw [h3, List.length_cons, Nat.succ_mul]
    omega
/-- The slots so far. -/
def OutI (w wr : World) (v : Value) (n : Nat) : Prop := ∃ qs : List Sq, qs.length = n ∧ wr.ownsRow w.heap.size 37 4 v n (qs.flatMap Sq.cells) ∧ Below w.heap.size w wr
theorem OutI.below {w wr wr' : World} {v : Value} {n : Nat} (h : OutI w wr v n) (hb : Below wr.heap.size wr wr') : OutI w wr' v n := by
  obtain ⟨qs, h1, h2, h3⟩ := h
  exact ⟨qs, h1, row_kept h2 hb, h3.trans (hb.mono h3.size)⟩

set_option maxHeartbeats 4000000 in
set_option maxRecDepth 100000 in
theorem slotsL_any {w : World} {F : Nat → Prop} {c bp : Nat} {S : CaSt} {vc vs : Value} (m : CaMem w F c bp S vc vs)
    (SRT : ∀ (wr : World) (v : Value) (n : Nat), OutI w wr v n → n ≤ 32000 → Calls Try.prog 39 #[v, .func (.func 40) #[] #[]] wr (fun e w' => e = .returned (.tuple #[]) ∧ Below w.heap.size w w')) :
    Calls Try.prog 18 #[.pointer (some ⟨c, 0, none⟩)] w (fun e w' => ∃ a cap, e = .returned (.slice a (usedAll S.sl) cap) ∧ Below w.heap.size w w') := by
  have HM := Lib.hid m
  have HSRT := Lib.hid SRT
  have c6 := m.cells.2.2.2.2.2.2
  obtain ⟨a, cap, hvs, hcap, hcap2, hrow⟩ := m.slice
  have HVS := Lib.hid hvs
  rw [hvs] at c6
  have HR := Lib.hid hrow
  have hfew := m.few.1
  have h64 := m.sz.2
  have BD := Lib.hid (fun k => usedAll_le (B := 64) (S.sl.take k) (fun x hx => by
    have := usedN_le x.cl x.cl.length
    rw [List.take_length] at this
    have h2 := (m.sl x (List.mem_of_mem_take hx)).cl
    have := m.sz.2
    omega))
  obtain ⟨L, hL⟩ : ∃ L, S.sl.length = L := ⟨_, rfl⟩
  have HL := Lib.hid hL
  rw [hL] at c6 hfew hcap
  obtain ⟨sn, hsn⟩ : ∃ sn, S.slots = sn := ⟨_, rfl⟩
  have HSN := Lib.hid hsn
  rw [hsn] at h64
  have O0 : OutI w w (.slice none 0 0) 0 := ⟨[], rfl, ⟨rfl, Or.inl ⟨rfl, rfl⟩⟩, Below.refl _ _⟩
  have HO0 := Lib.hid O0
  clear m hvs hrow hL SRT hsn O0
  go_enter Try.func18, Try.ntmps18
  go_wp2_with fail
  go_loopw [3, 13] (fun v i wr => ∃ k : Nat, k ≤ L ∧ i = .int .i64 (k : Int) ∧ OutI w wr v (usedAll (S.sl.take k))) (fun _ i _ => L - (intOf i).toNat)
  case atStart => exact ⟨0, Nat.zero_le _, rfl, HO0.out⟩
  case round =>
    obtain ⟨k, hk, rfl, hO⟩ := hrel
    by_cases hlt : k < L
    · obtain ⟨x, hx⟩ : ∃ x, S.sl[k]? = some x := ⟨_, List.getElem?_eq_getElem (by have := HL.out; omega)⟩
      obtain ⟨g, rfl, d⟩ := HR.out k x hx
      obtain ⟨qs0, hq0, hrow0, hb0⟩ := hO
      have O0 : OutI w wr u3 (usedAll (S.sl.take k)) := ⟨qs0, hq0, hrow0, hb0⟩
      have MX := HM.out.sl x (List.mem_of_getElem? hx)
      have d := old_cell hb0 d
      have mx := MX.same (fun k _ hk => hb0.block k hk)
      obtain ⟨e0, e1, e2, e3⟩ := mx.cells
      have hcl := mx.cl
      rw [HSN.out] at e3 hcl
      have bd := BD.out k
      have bd1 : usedAll (S.sl.take k) ≤ 500 * 64 := Nat.le_trans bd (Nat.mul_le_mul_right _ (Nat.le_trans (by rw [List.length_take]; exact Nat.min_le_left _ _) (by omega : k ≤ 500)))
      have bd2 := BD.out (k + 1)
      have nx := usedAll_take hx
      have bd3 : usedAll (S.sl.take (k + 1)) ≤ 500 * 64 := Nat.le_trans bd2 (Nat.mul_le_mul_right _ (Nat.le_trans (by rw [List.length_take]; exact Nat.min_le_left _ _) (by omega : k + 1 ≤ 500)))
      obtain ⟨A, hA⟩ : ∃ A, usedAll (S.sl.take k) = A := ⟨_, rfl⟩
      rw [hA] at O0 nx bd1
      rw [nx] at bd3
      have HO := Lib.hid O0
      have HNX := Lib.hid nx
      have HCL := Lib.hid hcl
      have HMX := Lib.hid (And.intro MX (List.mem_of_getElem? hx))
      clear hq0 hrow0 mx hx hA nx O0 bd bd2 hcl e2
      go_wp2_with fail
      go_loopw [3, 22] (fun v i wr => ∃ j : Nat, j ≤ sn ∧ i = .int .i64 (j : Int) ∧ OutI w wr v (A + usedN (x.cl.take j))) (fun _ i _ => sn - (intOf i).toNat)
      case atStart => exact ⟨0, Nat.zero_le _, rfl, HO.out⟩
      case round =>
        obtain ⟨j, hj, rfl, hO⟩ := hrel
        clear hb0 d e0 e1 e3
        obtain ⟨qs0, hq0, hrow0, hb0⟩ := hO
        by_cases hlj : j < sn
        · obtain ⟨y, hy⟩ : ∃ y, x.cl[j]? = some y := ⟨_, List.getElem?_eq_getElem (by have := HCL.out; omega)⟩
          have hnx := usedN_take hy
          have mx := HMX.out.1.same (fun k _ hk => hb0.block k hk)
          obtain ⟨d0, d1, d2⟩ := mx.cell hy
          obtain ⟨e0, e1, e2, e3⟩ := mx.cells
          have hle := usedN_le x.cl j
          have hle2 := usedN_le x.cl (j + 1)
          rw [HCL.out] at hle hle2
          obtain ⟨U, hU⟩ : ∃ U, usedN (x.cl.take j) = U := ⟨_, rfl⟩
          rw [hU] at hq0 hrow0 hnx hle
          have HNY := Lib.hid hnx
          have HQ := Lib.hid (And.intro hq0 hrow0)
          have HB := Lib.hid hb0
          clear hq0 hrow0 hb0 hnx hU mx e2 e3
          cases hu : y.used with
          | false =>
            rw [hu] at d2 HNY
            have HNY := Lib.hid HNY.out
            go_wp2_with fail
            go_roundw
            case measure => simp only [intOf]; omega
            case rel => exact ⟨j + 1, by omega, by go_num, by
              rw [HNY.out]
              simp only [Bool.false_eq_true, if_false, Nat.add_zero]
              exact OutI.below ⟨qs0, HQ.out.1, HQ.out.2, HB.out⟩ ((Below.refl _ _).alloc (Nat.le_refl _) _)⟩
          | true =>
            rw [hu] at d2 HNY
            have HNY := Lib.hid HNY.out
            have A0 : Below wr.heap.size wr (wr.alloc (.cells #[.int .i64 (y.gen : Int), .int .i64 (y.len : Int), .bool true] 71)) := (Below.refl _ _).alloc (Nat.le_refl _) _
            have BX := heap_alloc_new wr (.cells #[.int .i64 (y.gen : Int), .int .i64 (y.len : Int), .bool true] 71)
            have q0 := old_cell A0 e0
            have q1 := old_cell A0 e1
            have q2 : (wr.alloc (.cells #[.int .i64 (y.gen : Int), .int .i64 (y.len : Int), .bool true] 71)).cell? ⟨wr.heap.size, 0, none⟩ = some (.int .i64 (y.gen : Int)) := (cell_of BX 0).trans rfl
            have ROW0 := Lib.hid (row_kept HQ.out.2 A0)
            have HB0 := Lib.hid (HB.out.trans (A0.mono HB.out.size))
            go_upto_region 9 with fail
            generalize wr.alloc (.cells #[.int .i64 (y.gen : Int), .int .i64 (y.len : Int), .bool true] 71) = W0 at *
            generalize wr.heap.size = rb at *
            clear A0 BX d0 d1 d2 e0 e1
            obtain ⟨i0, hi0, hz0, hz1, hz2⟩ := info_parts (show (Try.prog.info? 37).map (fun i => (i.zero, i.size, i.bytes)) = some (some (.agg #[.int .i64 0, .int .i64 0, .int .i64 0, .int .i64 0]), 4, 32) by kernel_rfl)
            have S0 : BelW W0 W0.drew := (Below.refl _ W0).drew
            have g0 : ∀ z : WIn (BelW W0), z.w.cell? ⟨x.p, 0, none⟩ = some (.int .i64 (x.no : Int)) := fun z => old_cell z.h q0
            have g1 : ∀ z : WIn (BelW W0), z.w.cell? ⟨x.p, 1, none⟩ = some (.int .i64 (x.cls : Int)) := fun z => old_cell z.h q1
            have g2 : ∀ z : WIn (BelW W0), z.w.cell? ⟨rb, 0, none⟩ = some (.int .i64 (y.gen : Int)) := fun z => old_cell z.h q2
            haveI ne : Nonempty (WIn (BelW W0)) := ⟨⟨W0.drew, S0⟩⟩
            refine wp_normal ?_
            refine wp_region_plan 14 (BelW W0) rfl ?_
            refine wpN_seg [0, 1, 2, 3, 4, 5, 6, 7, 8, 9, 10, 11] (by kernel_rfl) (by kernel_rfl) (by kernel_rfl) (by kernel_rfl) (by decide) (fun _ _ _ _ _ h => h) S0 ?_
            simp only [pick, List.map_cons, List.map_nil, List.getElem?_cons_succ, List.getElem?_cons_zero, Option.getD_some]
            repeat (go_big_quiet_step (fail))
            refine wpQuiet_nil ?_
            clear g0 g1 g2 ne
            refine wpN_one 12 _ (by kernel_rfl) rfl ?_
            refine NextAt.held ?_
            intro K hK
            go_simp
            refine hK _ _ S0 ?_
            clear hK K
            refine wpN_one 13 _ (by kernel_rfl) rfl ?_
            refine NextAt.held ?_
            intro K hK
            go_simp
            refine hK _ _ (Below.trans (a := W0) S0 ((Below.refl W0.heap.size W0.drew).alloc (Nat.le_refl _) _)) ?_
            clear hK K
            refine wpN_one 14 _ (by kernel_rfl) rfl ?_
            refine NextAt.free (by kernel_rfl) ?_
            intro K hK
            have NEW : Hid (∀ (g9 cap9 : Nat) (w9 : World), w9.ownsRow w.heap.size 37 4 (.slice (some ⟨g9, 0, none⟩) (A + U + 1) cap9) (A + U + 1) (qs0.flatMap Sq.cells ++ [.int .i64 (x.cls : Int), .int .i64 (x.no : Int), .int .i64 (j : Int), .int .i64 (y.gen : Int)]) → W0.drew.grownBy w9 u3.ownBlock → OutI w w9 (.slice (some ⟨g9, 0, none⟩) (A + U + 1) cap9) (A + usedN (x.cl.take (j + 1)))) := Lib.hid (fun g9 cap9 w9 h1 h2 => by
              rw [HNY.out]
              simp only [if_true, ← Nat.add_assoc]
              refine ⟨qs0 ++ [⟨x.cls, x.no, j, y.gen⟩], by rw [List.length_append, HQ.out.1]; rfl, by rw [List.flatMap_append]; exact h1, ?_⟩
              exact ((Touch.of_below (F := fun _ => False) HB0.out).drew.grown h2 (fun k hk => Or.inr (ROW0.out.lt k hk).1)).below (Nat.le_refl _) (fun k hk => hk.elim))
            have ROWD : Hid (W0.drew.ownsRow w.heap.size 37 4 u3 (A + U) (qs0.flatMap Sq.cells)) := Lib.hid ROW0.out
            have szw : w.heap.size ≤ W0.drew.heap.size := HB0.out.size
            refine step_append_new rfl (.tmp 29) (.tmp 42) 31 rfl w.heap.size 37 i0 (.agg #[.int .i64 0, .int .i64 0, .int .i64 0, .int .i64 0]) 4 32 Try.underlying31 hi0 hz0 hz1 hz2 rfl (by decide) u3 (A + U) (qs0.flatMap Sq.cells) W0.drew _ [.int .i64 (x.cls : Int), .int .i64 (x.no : Int), .int .i64 (j : Int), .int .i64 (y.gen : Int)] (by simp [Act.eval]) ROWD.out (by simp [Act.eval]) rfl (by intro u hu; simp at hu; rcases hu with rfl | rfl | rfl | rfl <;> rfl) (by unfold maxLen; omega) (by omega) szw ?_
            intro g9 cap9 w9 hrow9 hgr hpl hsz9
            have FIN := Lib.hid (NEW.out g9 cap9 w9 hrow9 hgr)
            clear hrow9 hgr hpl hsz9 NEW
            go_simp
            refine hK _ _ ?_
            clear hK K
            refine wpN_pure [15] (by kernel_rfl) (by kernel_rfl) (by kernel_rfl) (fun _ _ _ _ _ h => h) (fun h => by cases h) ?_
            simp only [pick, List.map_cons, List.map_nil, List.getElem?_cons_succ, List.getElem?_cons_zero, Option.getD_some]
            repeat (go_big_quiet_step (fail))
            refine wpQuiet_nil ?_
            refine wpN_done (by kernel_rfl) ?_
            go_wp2_with fail
            go_roundw
            case measure => simp only [intOf]; omega
            case rel => exact ⟨j + 1, by omega, by go_num, FIN.out⟩
        · obtain rfl : j = sn := by omega
          have ej : x.cl.take j = x.cl := List.take_of_length_le (by have := HCL.out; omega)
          have FIN : Hid (OutI w wr u3 (usedAll (S.sl.take (k + 1)))) := Lib.hid (by
            rw [HNX.out]
            rw [ej] at hq0 hrow0
            exact ⟨qs0, hq0, hrow0, hb0⟩)
          clear hq0 hrow0 hb0 ej
          go_wp2_with fail
          go_roundw
          case measure => simp only [intOf]; omega
          case rel => exact ⟨k + 1, by omega, by go_num, FIN.out⟩
    · obtain rfl : k = L := by omega
      have ek : S.sl.take k = S.sl := List.take_of_length_le (by have := HL.out; omega)
      have bd := BD.out k
      have bd1 : usedAll (S.sl.take k) ≤ 500 * 64 := Nat.le_trans bd (Nat.mul_le_mul_right _ (Nat.le_trans (by rw [List.length_take]; exact Nat.min_le_left _ _) (by omega : k ≤ 500)))
      rw [ek] at hO bd1
      have C := Lib.hid (HSRT.out wr u3 (usedAll S.sl) hO bd1)
      obtain ⟨qs0, hq0, hrow0, hb0⟩ := hO
      obtain ⟨a2, cap2, hv⟩ : ∃ a cap, u3 = .slice a (usedAll S.sl) cap := by
        rcases hrow0.2 with ⟨h1, h2⟩ | ⟨g, cap', cur, h1, _⟩
        · exact ⟨none, 0, by rw [h1, h2]⟩
        · exact ⟨_, _, h1⟩
      have HV := Lib.hid hv
      clear hq0 hrow0 hb0 hlt ek bd bd1 hv
      go_wp2_with fail
      refine C.out.mono ?_
      rintro e w2 ⟨rfl, hb2⟩
      have HB2 := Lib.hid hb2
      clear hb2 C
      go_wp2_with fail
      go_ret
      exact ⟨a2, cap2, congrArg Ending.returned HV.out, HB2.out⟩

theorem sq_get (qs : List Sq) (i r : Nat) (x : Sq) (h : qs[i]? = some x) (hr : r < 4) : (qs.flatMap Sq.cells)[i * 4 + r]? = x.cells[r]? := by
  induction qs generalizing i with
  | nil => simp at h
  | cons y qs ih =>
    rw [List.flatMap_cons]
    cases i with
    | zero =>
      simp at h
      subst h
      rw [Nat.zero_mul, Nat.zero_add, List.getElem?_append_left (by show r < 4; exact hr)]
    | succ i =>
      have e : (i + 1) * 4 + r = y.cells.length + (i * 4 + r) := by show _ = 4 + _; omega
      rw [e, List.getElem?_append_right (Nat.le_add_right _ _), Nat.add_sub_cancel_left]
      exact ih i (by simpa using h)
theorem sq_len (qs : List Sq) : (qs.flatMap Sq.cells).length = qs.length * 4 := by
  induction qs with
  | nil => rfl
  | cons y qs ih => rw [List.flatMap_cons, List.length_append, ih]; show 4 + _ = _; simp; omega

theorem sort_out {w wr : World} {v : Value} {n : Nat} (h : OutI w wr v n) (hn : n ≤ 32000) :
    Calls Try.prog 39 #[v, .func (.func 40) #[] #[]] wr (fun e w' => e = .returned (.tuple #[]) ∧ Below w.heap.size w w') := by
  obtain ⟨qs, hq, hr, hb⟩ := h
  rcases hr.2 with ⟨rfl, rfl⟩ | ⟨g, cap, cur, rfl, hlow, hg, hnc, hcm, hs, ht⟩
  · refine (sortStN_any wr _).mono ?_
    rintro e w' ⟨rfl, rfl⟩
    exact ⟨rfl, hb⟩
  · subst hq
    have hH : HoldsK Sq.cells 4 wr g 0 qs.toArray := by
      intro j hj
      have hj' : j < qs.length * 4 := by simpa using hj
      refine ⟨?_, free_of hg _⟩
      have hk : j / 4 < qs.length := by omega
      have e : j = j / 4 * 4 + j % 4 := by omega
      have h1 := sq_get qs (j / 4) (j % 4) _ (List.getElem?_eq_getElem hk) (by omega)
      rw [← e] at h1
      have h2 := get_flatK Sq.cells 4 qs.toArray j (by simpa using hj)
      have h3 : (qs.toArray)[j / 4]! = qs[j / 4] := by rw [getElem!_pos qs.toArray (j / 4) (by simpa using hk)]; simp
      rw [cell_of hg, Nat.zero_add, ← Array.getElem?_toList]
      have h4 : cur.toList[j]? = (cur.toList.take (qs.length * 4))[j]? := (List.getElem?_take_of_lt hj').symm
      rw [h4, ht, h1, h2, h3, getElem!_pos (qs[j / 4]).cells (j % 4) (by show j % 4 < 4; omega), List.getElem?_eq_getElem]
      rfl
    have I : SwIn wr g qs.length := ⟨⟨qs.toArray, by simp, hH⟩, lt_of hg, by omega⟩
    have C := sortSt_any I cap 0 qs.toArray #[] (by simp)
    have e0 : SW wr g 0 qs.toArray #[] = wr := by
      show sortWorldK Sq.cells 4 wr g 0 0 qs.toArray #[] = wr
      unfold sortWorldK
      rw [grow_empty]
      exact putRowK_self Sq.cells 4 wr g 0 qs.toArray hH
    rw [e0] at C
    refine C.mono ?_
    rintro e w' ⟨rfl, m', d', os', hd', rfl⟩
    refine ⟨rfl, ?_⟩
    have hblk : ∀ k, k < wr.heap.size → k ≠ g → (SW wr g m' d' os').heap[k]? = wr.heap[k]? := by
      intro k hk hne
      show (sortWorldK Sq.cells 4 wr g 0 m' d' os').heap[k]? = wr.heap[k]?
      unfold sortWorldK grow putRowK putRow mapBlock
      simp only [heap_ahead]
      rw [Array.getElem?_append_left (by simpa using hk), Array.getElem?_modify, if_neg (fun e => hne e.symm)]
    have hT : Touch (fun k => k = g) wr (SW wr g m' d' os') := by
      refine ⟨rfl, rfl, rfl, ?_, fun k hk hne => hblk k hk hne⟩
      exact size_sortWorldK_c Sq.cells 4 wr g 0 m' d' os'
    exact (((Touch.of_below (F := fun k => k = g) hb).then hT).below (Nat.le_refl _) (fun k hk => by omega))

theorem slotsS_any {w : World} {F : Nat → Prop} {c bp : Nat} {S : CaSt} {vc vs : Value} (m : CaMem w F c bp S vc vs) :
    Calls Try.prog 18 #[.pointer (some ⟨c, 0, none⟩)] w (fun e w' => ∃ a cap, e = .returned (.slice a (usedAll S.sl) cap) ∧ Below w.heap.size w w') :=
  slotsL_any m (fun wr v n h hn => sort_out h hn)

end Go.Proofs.Ytiaedonhbafpjaa
