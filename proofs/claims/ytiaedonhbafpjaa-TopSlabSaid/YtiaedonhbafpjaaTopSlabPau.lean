/-
  The first free slot of a class; the class of a number of octets. No conditions but bounds.
-/
import Derived.Test.YtiaedonhbafpjaaTopSlabPat
import Derived.Deep.LoopGhost
import Derived.Deep.Cut
import Derived.Deep.CutBlock
import Derived.Deep.CutRange
import Derived.Deep.DeepCutAuto
import Derived.Laws.ResultCell
namespace Go.Proofs.Ytiaedonhbafpjaa
open Go.RowKit
set_option linter.unusedVariables false

def freeIdx : List Cel → Option (Nat × Cel)
  | [] => none
  | x :: l => if x.used then (freeIdx l).map (fun p => (p.1 + 1, p.2)) else some (0, x)
theorem freeIdx_skip {l : List Cel} {k : Nat} {x : Cel} (hx : l[k]? = some x) (hu : x.used = true) : freeIdx (l.drop k) = (freeIdx (l.drop (k + 1))).map (fun p => (p.1 + 1, p.2)) := by
  obtain ⟨h, e⟩ := List.getElem?_eq_some_iff.1 hx
  rw [List.drop_eq_getElem_cons h, e]
  simp [freeIdx, hu]
theorem freeIdx_hit {l : List Cel} {k : Nat} {x : Cel} (hx : l[k]? = some x) (hu : x.used = false) : freeIdx (l.drop k) = some (0, x) := by
  obtain ⟨h, e⟩ := List.getElem?_eq_some_iff.1 hx
  rw [List.drop_eq_getElem_cons h, e]
  simp [freeIdx, hu]
theorem freeIdx_at : ∀ {l : List Cel} {i : Nat} {x : Cel}, freeIdx l = some (i, x) → l[i]? = some x ∧ x.used = false
  | [], i, x, h => by simp [freeIdx] at h
  | y :: l, i, x, h => by
    unfold freeIdx at h
    split at h
    · obtain ⟨p, hp, he⟩ := Option.map_eq_some_iff.1 h
      simp only [Prod.mk.injEq] at he
      obtain ⟨rfl, rfl⟩ := he
      have := freeIdx_at (l := l) (i := p.1) (x := p.2) hp
      simpa using this
    · next hu =>
      simp only [Option.some.injEq, Prod.mk.injEq] at h
      obtain ⟨rfl, rfl⟩ := h
      exact ⟨rfl, by simpa using hu⟩
def freeOf : List Sl → Nat → Option (Sl × Nat × Cel)
  | [], _ => none
  | x :: l, cls => if x.cls = cls then (match freeIdx x.cl with | some p => some (x, p) | none => freeOf l cls) else freeOf l cls
theorem freeOf_skip {l : List Sl} {k : Nat} {x : Sl} {cls : Nat} (hx : l[k]? = some x) (h : x.cls ≠ cls ∨ freeIdx x.cl = none) : freeOf (l.drop k) cls = freeOf (l.drop (k + 1)) cls := by
  obtain ⟨hk, e⟩ := List.getElem?_eq_some_iff.1 hx
  rw [List.drop_eq_getElem_cons hk, e]
  rcases h with h | h
  · simp [freeOf, h]
  · simp [freeOf, h]
theorem freeOf_hit {l : List Sl} {k : Nat} {x : Sl} {cls : Nat} {p : Nat × Cel} (hx : l[k]? = some x) (h1 : x.cls = cls) (h2 : freeIdx x.cl = some p) : freeOf (l.drop k) cls = some (x, p) := by
  obtain ⟨hk, e⟩ := List.getElem?_eq_some_iff.1 hx
  rw [List.drop_eq_getElem_cons hk, e]
  simp [freeOf, h1, h2]
theorem freeOf_some : ∀ {l : List Sl} {cls : Nat} {x : Sl} {p : Nat × Cel}, freeOf l cls = some (x, p) → x ∈ l ∧ x.cls = cls ∧ freeIdx x.cl = some p
  | [], cls, x, p, h => by simp [freeOf] at h
  | y :: l, cls, x, p, h => by
    unfold freeOf at h
    split at h
    · next hc =>
      split at h
      · next q hq =>
        simp only [Option.some.injEq, Prod.mk.injEq] at h
        obtain ⟨rfl, rfl⟩ := h
        exact ⟨by simp, hc, hq⟩
      · obtain ⟨h1, h2⟩ := freeOf_some h
        exact ⟨by simp [h1], h2⟩
    · obtain ⟨h1, h2⟩ := freeOf_some h
      exact ⟨by simp [h1], h2⟩

set_option maxHeartbeats 1000000 in
set_option maxRecDepth 100000 in
theorem unused_any (x : Cel) (w : World) : Calls Try.prog 50 #[.agg #[.int .i64 (x.gen : Int), .int .i64 (x.len : Int), .bool x.used]] w (fun e w' => e = .returned (.bool (!x.used)) ∧ Below w.heap.size w w') := by
  go_enter Try.func50, Try.ntmps50
  go_wp2_with fail
  go_ret
  exact ⟨rfl, by go_grown⟩

def IxPost (l : List Cel) (w : World) : Ending → World → Prop := fun e w' => Below w.heap.size w w' ∧ match freeIdx l with
  | none => e = .returned (.int .i64 (-1))
  | some p => e = .returned (.int .i64 (p.1 : Int))
set_option maxHeartbeats 1000000 in
set_option maxRecDepth 100000 in
theorem index_any (q n cap : Nat) (l : List Cel) (w : World) (hn : l.length = n) (hl : n ≤ 64) (hc : w.heap[q]? = some (.cells (celCells l).toArray 71 (0, 0))) :
    Calls Try.prog 49 #[.slice (some ⟨q, 0, none⟩) n cap, .func (.func 50) #[] #[]] w (IxPost l w) := by
  have HC := Lib.hid (fun k x (hx : l[k]? = some x) => by
    obtain ⟨h1, h2, h3⟩ := celCells_get _ _ _ hx
    exact (show w.cell? ⟨q, k * 3, none⟩ = some (.int .i64 (x.gen : Int)) ∧ w.cell? ⟨q, k * 3 + 1, none⟩ = some (.int .i64 (x.len : Int)) ∧ w.cell? ⟨q, k * 3 + 2, none⟩ = some (.bool x.used) from ⟨by rw [cell_of hc]; simpa using h1, by rw [cell_of hc]; simpa using h2, by rw [cell_of hc]; simpa using h3⟩))
  have HN := Lib.hid hn
  clear hc hn
  go_enter Try.func49, Try.ntmps49
  go_wp2_with fail
  go_loopw [8] (fun i wr => ∃ k : Nat, k ≤ n ∧ i = .int .i64 (k : Int) ∧ Below w.heap.size w wr ∧ freeIdx l = (freeIdx (l.drop k)).map (fun p => (p.1 + k, p.2))) (fun i _ => n - (intOf i).toNat)
  case atStart => exact ⟨0, Nat.zero_le _, rfl, Below.refl _ _, by rw [List.drop_zero]; cases freeIdx l <;> rfl⟩
  case round =>
    obtain ⟨k, hk, rfl, hb, hf⟩ := hrel
    have HB := Lib.hid hb
    have HF := Lib.hid hf
    clear hf
    by_cases hlt : k < n
    · obtain ⟨x, hx⟩ : ∃ x, l[k]? = some x := ⟨_, List.getElem?_eq_getElem (by have := HN.out; omega)⟩
      obtain ⟨c0, c1, c2⟩ := HC.out k x hx
      have c0 := old_cell hb c0
      have c1 := old_cell hb c1
      have c2 := old_cell hb c2
      have UN := Lib.hid (unused_any x wr)
      have HX := Lib.hid hx
      clear hb hx
      go_wp2_with fail
      refine UN.out.mono ?_
      rintro e w2 ⟨rfl, hb2⟩
      have B2 := Lib.hid (HB.out.trans (hb2.mono HB.out.size))
      clear hb2 UN c0 c1 c2
      cases hu : x.used with
      | true =>
        have HS := Lib.hid (freeIdx_skip HX.out hu)
        clear hu
        go_wp2_with fail
        go_roundw
        case measure => simp only [intOf]; omega
        case rel =>
          refine ⟨k + 1, by omega, by go_num, B2.out, ?_⟩
          rw [HF.out, HS.out]
          cases freeIdx (l.drop (k + 1)) with
          | none => rfl
          | some p => simp; omega
      | false =>
        have HS := Lib.hid (freeIdx_hit HX.out hu)
        clear hu
        go_wp2_with fail
        go_ret
        refine ⟨B2.out, ?_⟩
        rw [HF.out, HS.out]
        simp
    · obtain rfl : k = n := by omega
      have HE := Lib.hid (show l.drop k = [] from List.drop_eq_nil_of_le (by have := HN.out; omega))
      clear hb
      go_wp2_with fail
      go_ret
      refine ⟨HB.out, ?_⟩
      rw [HF.out, HE.out]
      rfl

def BelS (w W : World) : Prop := Below w.heap.size w W
theorem res4 {W : World} {r : Nat} {t : TypeId} {x0 x1 x2 x3 a b c d : Value} (h : W.heap[r]? = some (.cells #[x0, x1, x2, x3] t (0, 0))) :
    ((((W.setCell ⟨r, 0, none⟩ a).setCell ⟨r, 1, none⟩ b).setCell ⟨r, 2, none⟩ c).setCell ⟨r, 3, none⟩ d).heap[r]? = some (.cells #[a, b, c, d] t (0, 0)) := by
  have h0 := block_setCell h 0 a
  have h1 := block_setCell h0 1 b
  have h2 := block_setCell h1 2 c
  have h3 := block_setCell h2 3 d
  exact h3
theorem cells4 {W : World} {r : Nat} {t : TypeId} {a b c d : Value} (h : W.heap[r]? = some (.cells #[a, b, c, d] t (0, 0))) : W.cell? ⟨r, 0, none⟩ = some a ∧ W.cell? ⟨r, 1, none⟩ = some b ∧ W.cell? ⟨r, 2, none⟩ = some c ∧ W.cell? ⟨r, 3, none⟩ = some d := by
  refine ⟨?_, ?_, ?_, ?_⟩ <;> (rw [cell_of h]; rfl)
def slotV (cls no at' gen : Int) : Value := .agg #[.int .i64 cls, .int .i64 no, .int .i64 at', .int .i64 gen]
def FrPost (S : CaSt) (cls : Nat) (w : World) : Ending → World → Prop := fun e w' => Below w.heap.size w w' ∧ match freeOf S.sl cls with
  | none => e = .returned (.tuple #[.agg #[.int .i64 0, .int .i64 0, .int .i64 0, .int .i64 0], .bool false])
  | some (x, i, y) => e = .returned (.tuple #[.agg #[.int .i64 (cls : Int), .int .i64 (x.no : Int), .int .i64 (i : Int), .int .i64 (y.gen : Int)], .bool true])

set_option maxHeartbeats 2000000 in
set_option maxRecDepth 100000 in
theorem free_any {w : World} {F : Nat → Prop} {c bp : Nat} {S : CaSt} {vc vs : Value} (m : CaMem w F c bp S vc vs) (cls : Nat) (hcl : cls ≤ 1000) :
    Calls Try.prog 29 #[.pointer (some ⟨c, 0, none⟩), .int .i64 (cls : Int)] w (FrPost S cls w) := by
  have MM := Lib.hid m
  obtain ⟨a, cap, rfl, hcap, hcap2, hrow⟩ := m.slice
  have HR := Lib.hid hrow
  have hfew := m.few.1
  have hsl := m.sz.2
  have c6 := m.cells.2.2.2.2.2.2
  obtain ⟨n, hn⟩ : ∃ n, S.sl.length = n := ⟨_, rfl⟩
  have HN := Lib.hid hn
  rw [hn] at c6 hfew
  have clt := lt_of m.self
  clear m hrow hn hcap
  go_enter Try.func29, Try.ntmps29
  go_upto_region 1 with fail
  have B0 : Below w.heap.size w (w.alloc (.cells #[.int .i64 0, .int .i64 0, .int .i64 0, .int .i64 0] 37)) := (Below.refl _ w).alloc (Nat.le_refl _) _
  have RS0 := heap_alloc_new w (.cells #[.int .i64 0, .int .i64 0, .int .i64 0, .int .i64 0] 37)
  have c6 := old_cell B0 c6
  generalize w.alloc (.cells #[.int .i64 0, .int .i64 0, .int .i64 0, .int .i64 0] 37) = W0 at *
  have HB0 := Lib.hid B0
  have HRS := Lib.hid RS0
  have HR0 := Lib.hid (lt_of RS0)
  clear B0 RS0
  obtain ⟨r, hr⟩ : ∃ r, w.heap.size = r := ⟨_, rfl⟩
  rw [hr] at HRS HR0 ⊢
  have HRR := Lib.hid hr
  clear hr
  go_wp2_with fail
  go_loopw [14] (fun i wr => ∃ k : Nat, k ≤ n ∧ i = .int .i64 (k : Int) ∧ Below W0.heap.size W0 wr ∧ freeOf S.sl cls = freeOf (S.sl.drop k) cls) (fun i _ => n - (intOf i).toNat)
  case atStart => exact ⟨0, Nat.zero_le _, rfl, Below.refl _ _, rfl⟩
  case round =>
    obtain ⟨k, hk, rfl, hb, hf⟩ := hrel
    have HB := Lib.hid hb
    have HF := Lib.hid hf
    clear hf
    by_cases hlt : k < n
    · obtain ⟨x, hx⟩ : ∃ x, S.sl[k]? = some x := ⟨_, List.getElem?_eq_getElem (by have := HN.out; omega)⟩
      obtain ⟨g, rfl, c0⟩ := HR.out k x hx
      have c0 := old_cell hb (old_cell HB0.out c0)
      have MX := Lib.hid (((MM.out.below HB0.out).below hb).sl x (List.mem_of_getElem? hx))
      obtain ⟨d0, d1, d2, d3⟩ := MX.out.cells
      have HX := Lib.hid hx
      clear hb hx
      by_cases hc : x.cls = cls
      · have hcf : ((x.cls : Int) != (cls : Int)) = false := by simp; omega
        have IX := Lib.hid (index_any x.q S.slots S.slots x.cl wr MX.out.cl hsl MX.out.cel)
        go_wp2_with fail
        refine IX.out.mono ?_
        rintro e w2 ⟨hb2, he⟩
        have B2 := Lib.hid (HB.out.trans (hb2.mono HB.out.size))
        have M2 := Lib.hid (((MM.out.below HB0.out).below B2.out).sl x (List.mem_of_getElem? HX.out))
        clear hb2 IX c0 d0 d1 d2 d3
        cases hfi : freeIdx x.cl with
        | none =>
          rw [hfi] at he
          simp only at he
          subst he
          have HS := Lib.hid (freeOf_skip HX.out (Or.inr hfi) (cls := cls))
          clear hfi
          go_wp2_with fail
          go_roundw
          case measure => simp only [intOf]; omega
          case rel => exact ⟨k + 1, by omega, by go_num, B2.out, by rw [HF.out, HS.out]⟩
        | some q =>
          obtain ⟨i, y⟩ := q
          rw [hfi] at he
          simp only at he
          subst he
          obtain ⟨hy, hyu⟩ := freeIdx_at hfi
          have HS := Lib.hid (freeOf_hit HX.out hc hfi)
          have hi := (List.getElem?_eq_some_iff.1 hy).1
          rw [M2.out.cl] at hi
          have e3 := fun W (hW : Below w2.heap.size w2 W) => (((MM.out.below HB0.out).below (B2.out.trans (hW.mono B2.out.size))).sl x (List.mem_of_getElem? HX.out))
          have E3 := Lib.hid e3
          have HY := Lib.hid hy
          have R2 := (B2.out.block _ HR0.out).trans HRS.out
          have HR2 := Lib.hid R2
          clear hfi hy hyu e3 R2
          go_upto_region 7 with fail
          have S0 : BelS w2 w2.drew := (Below.refl _ w2).drew
          have s0 : ∀ z : WIn (BelS w2), z.w.cell? ⟨x.p, 0, none⟩ = some (.int .i64 (x.no : Int)) := fun z => (E3.out z.w z.h).cells.1
          have s3 : ∀ z : WIn (BelS w2), z.w.cell? ⟨x.p, 3, none⟩ = some (.slice (some ⟨x.q, 0, none⟩) S.slots S.slots) := fun z => (E3.out z.w z.h).cells.2.2.2
          have sg : ∀ z : WIn (BelS w2), z.w.cell? ⟨x.q, i * 3, none⟩ = some (.int .i64 (y.gen : Int)) := fun z => ((E3.out z.w z.h).cell HY.out).1
          haveI ne : Nonempty (WIn (BelS w2)) := ⟨⟨w2.drew, S0⟩⟩
          refine wp_normal ?_
          refine wp_region_plan 15 (BelS w2) rfl ?_
          refine wpN_seg [0, 1, 2, 3, 4, 5, 6, 7, 8, 9, 10, 11, 12, 13] (by kernel_rfl) (by kernel_rfl) (by kernel_rfl) (by kernel_rfl) (by decide) (fun _ _ _ _ _ h => h) S0 ?_
          simp only [pick, List.map_cons, List.map_nil, List.getElem?_cons_succ, List.getElem?_cons_zero, Option.getD_some]
          repeat (go_big_quiet_step (fail))
          refine wpQuiet_nil ?_
          clear s0 s3 sg ne
          refine wpN_one 14 _ (by kernel_rfl) rfl ?_
          refine NextAt.held ?_
          intro K1 hK1
          go_simp
          refine hK1 _ _ S0 ?_
          clear hK1 K1
          clear S0
          have R3 : w2.drew.heap[r]? = some (.cells #[.int .i64 0, .int .i64 0, .int .i64 0, .int .i64 0] 37 (0, 0)) := HR2.out
          have HR3 := Lib.hid R3
          have B3 := Lib.hid (B2.out.drew)
          generalize w2.drew = W5 at *
          obtain ⟨q0, q1, q2, q3⟩ := cells4 R3
          have f0 := free_of R3 0
          have f1 := free_of R3 1
          have f2 := free_of R3 2
          have f3 := free_of R3 3
          clear R3
          refine wpN_one 15 _ (by kernel_rfl) rfl ?_
          refine NextAt.free (by kernel_rfl) ?_
          intro K1 hK1
          go_simp
          refine hK1 _ _ ?_
          clear hK1 K1
          refine wpN_pure [16] (by kernel_rfl) (by kernel_rfl) (by kernel_rfl) (fun _ _ _ _ _ h => h) (fun h => by cases h) ?_
          simp only [pick, List.map_cons, List.map_nil, List.getElem?_cons_succ, List.getElem?_cons_zero, Option.getD_some]
          repeat (go_big_quiet_step (fail))
          refine wpQuiet_nil ?_
          refine wpN_done (by kernel_rfl) ?_
          go_wp2_with fail
          (try simp only [Exit.inBlock, Exit.then])
          obtain ⟨p0, p1, p2, p3⟩ := cells4 (res4 (a := .int .i64 (cls : Int)) (b := .int .i64 (x.no : Int)) (c := .int .i64 (i : Int)) (d := .int .i64 (y.gen : Int)) HR3.out)
          refine bodyPost_ret (v := .tuple #[.agg #[.int .i64 (cls : Int), .int .i64 (x.no : Int), .int .i64 (i : Int), .int .i64 (y.gen : Int)], .bool true]) ?_ rfl ⟨?_, ?_⟩
          · rw [results_cell_tmp rfl]
            go_simp
          · have hB := HB0.out.trans (B3.out.mono HB0.out.size)
            have hge : w.heap.size ≤ r := by rw [HRR.out]; exact Nat.le_refl _
            exact (((hB.setCell (p := ⟨r, 0, none⟩) hge _).setCell (p := ⟨r, 1, none⟩) hge _).setCell (p := ⟨r, 2, none⟩) hge _).setCell (p := ⟨r, 3, none⟩) hge _
          · rw [HF.out, HS.out]
      · have hcf : ((x.cls : Int) != (cls : Int)) = true := by simp; omega
        have HS := Lib.hid (freeOf_skip HX.out (Or.inl hc))
        go_wp2_with fail
        go_roundw
        case measure => simp only [intOf]; omega
        case rel => exact ⟨k + 1, by omega, by go_num, HB.out, by rw [HF.out, HS.out]⟩
    · obtain rfl : k = n := by omega
      have HE := Lib.hid (show freeOf S.sl cls = none by rw [HF.out, List.drop_eq_nil_of_le (by have := HN.out; omega)]; rfl)
      have R2 := (hb.block _ HR0.out).trans HRS.out
      have HR2 := Lib.hid R2
      obtain ⟨q0, q1, q2, q3⟩ := cells4 R2
      have f0 := free_of R2 0
      have f1 := free_of R2 1
      have f2 := free_of R2 2
      have f3 := free_of R2 3
      clear hb R2
      go_wp2_with fail
      (try simp only [Exit.inBlock, Exit.then])
      obtain ⟨p0, p1, p2, p3⟩ := cells4 (res4 (a := .int .i64 0) (b := .int .i64 0) (c := .int .i64 0) (d := .int .i64 0) HR2.out)
      refine bodyPost_ret (v := .tuple #[.agg #[.int .i64 0, .int .i64 0, .int .i64 0, .int .i64 0], .bool false]) ?_ rfl ⟨?_, ?_⟩
      · rw [results_cell_tmp rfl]
        go_simp
      · have hB := HB0.out.trans (HB.out.mono HB0.out.size)
        have hge : w.heap.size ≤ r := by rw [HRR.out]; exact Nat.le_refl _
        exact (((hB.setCell (p := ⟨r, 0, none⟩) hge _).setCell (p := ⟨r, 1, none⟩) hge _).setCell (p := ⟨r, 2, none⟩) hge _).setCell (p := ⟨r, 3, none⟩) hge _
      · rw [HE.out]

end Go.Proofs.Ytiaedonhbafpjaa
