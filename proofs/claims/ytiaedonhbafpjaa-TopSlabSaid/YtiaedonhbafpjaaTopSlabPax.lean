/-
  Len, Copy, Look, Free of a slot. No conditions but bounds.
-/
import Derived.Test.YtiaedonhbafpjaaTopSlabPaw
namespace Go.Proofs.Ytiaedonhbafpjaa
open Go.RowKit
set_option linter.unusedVariables false

theorem valid_is {w : World} {F : Nat → Prop} {c bp : Nat} {S : CaSt} {vc vs : Value} (m : CaMem w F c bp S vc vs) (cls no at' gen : Int) : Calls Try.prog 17 #[.pointer (some ⟨c, 0, none⟩), .agg #[.int .i64 cls, .int .i64 no, .int .i64 at', .int .i64 gen]] w (fun e w' => e = .returned (.int .i64 (valE S cls no at' gen)) ∧ Below w.heap.size w w') := valid_any m cls no at' gen

set_option maxHeartbeats 8000000 in
set_option maxRecDepth 100000 in
theorem lenS_bad {w : World} {F : Nat → Prop} {c bp : Nat} {S : CaSt} {vc vs : Value} (m : CaMem w F c bp S vc vs) (cls no at' gen : Int) (hE : valE S cls no at' gen ≠ 0) :
    Calls Try.prog 33 #[.pointer (some ⟨c, 0, none⟩), .agg #[.int .i64 cls, .int .i64 no, .int .i64 at', .int .i64 gen]] w (fun e w' => e = .returned (.tuple #[.int .i64 0, .int .i64 (valE S cls no at' gen)]) ∧ Below w.heap.size w w') := by
  have B0 : Below w.heap.size w (w.alloc (.cells #[.int .i64 cls, .int .i64 no, .int .i64 at', .int .i64 gen] 37)) := (Below.refl _ w).alloc (Nat.le_refl _) _
  have RS0 := heap_alloc_new w (.cells #[.int .i64 cls, .int .i64 no, .int .i64 at', .int .i64 gen] 37)
  have VA0 := valid_is (m.below B0) cls no at' gen
  have HB0 := Lib.hid B0
  have hE1 : (valE S cls no at' gen != 0) = true := bne_iff_ne.2 hE
  have hE2 : (valE S cls no at' gen == 0) = false := by simpa using hE
  generalize valE S cls no at' gen = E at *
  have VA := Lib.hid VA0
  clear m B0 hE VA0
  go_enter Try.func33, Try.ntmps33
  go_upto_region 1 with fail
  generalize w.alloc (.cells #[.int .i64 cls, .int .i64 no, .int .i64 at', .int .i64 gen] 37) = W0 at *
  obtain ⟨b0, b1, b2, b3⟩ := cells4 RS0
  clear RS0
  go_wp2_with fail
  refine VA.out.mono ?_
  rintro e w2 ⟨he, hb2⟩
  subst he
  have B2 := Lib.hid (HB0.out.trans (hb2.mono HB0.out.size))
  clear hb2 b0 b1 b2 b3 VA
  go_wp2_with fail
  go_ret2
  exact ⟨by first | rfl | simp, B2.out⟩

set_option maxHeartbeats 8000000 in
set_option maxRecDepth 100000 in
theorem freeS_bad {w : World} {F : Nat → Prop} {c bp : Nat} {S : CaSt} {vc vs : Value} (m : CaMem w F c bp S vc vs) (cls no at' gen : Int) (hE : valE S cls no at' gen ≠ 0) :
    Calls Try.prog 11 #[.pointer (some ⟨c, 0, none⟩), .agg #[.int .i64 cls, .int .i64 no, .int .i64 at', .int .i64 gen]] w (fun e w' => e = .returned (.int .i64 (valE S cls no at' gen)) ∧ Below w.heap.size w w') := by
  have B0 : Below w.heap.size w (w.alloc (.cells #[.int .i64 cls, .int .i64 no, .int .i64 at', .int .i64 gen] 37)) := (Below.refl _ w).alloc (Nat.le_refl _) _
  have RS0 := heap_alloc_new w (.cells #[.int .i64 cls, .int .i64 no, .int .i64 at', .int .i64 gen] 37)
  have VA0 := valid_is (m.below B0) cls no at' gen
  have HB0 := Lib.hid B0
  have hE1 : (valE S cls no at' gen != 0) = true := bne_iff_ne.2 hE
  have hE2 : (valE S cls no at' gen == 0) = false := by simpa using hE
  generalize valE S cls no at' gen = E at *
  have VA := Lib.hid VA0
  clear m B0 hE VA0
  go_enter Try.func11, Try.ntmps11
  go_upto_region 1 with fail
  generalize w.alloc (.cells #[.int .i64 cls, .int .i64 no, .int .i64 at', .int .i64 gen] 37) = W0 at *
  obtain ⟨b0, b1, b2, b3⟩ := cells4 RS0
  clear RS0
  go_wp2_with fail
  refine VA.out.mono ?_
  rintro e w2 ⟨he, hb2⟩
  subst he
  have B2 := Lib.hid (HB0.out.trans (hb2.mono HB0.out.size))
  clear hb2 b0 b1 b2 b3 VA
  go_wp2_with fail
  go_ret
  exact ⟨by first | rfl | simp, B2.out⟩

set_option maxHeartbeats 8000000 in
set_option maxRecDepth 100000 in
theorem copyS_bad {w : World} {F : Nat → Prop} {c bp : Nat} {S : CaSt} {vc vs : Value} (m : CaMem w F c bp S vc vs) (cls no at' gen : Int) (hE : valE S cls no at' gen ≠ 0) :
    Calls Try.prog 9 #[.pointer (some ⟨c, 0, none⟩), .agg #[.int .i64 cls, .int .i64 no, .int .i64 at', .int .i64 gen]] w (fun e w' => e = .returned (.tuple #[.slice none 0 0, .int .i64 (valE S cls no at' gen)]) ∧ Below w.heap.size w w') := by
  have B0 : Below w.heap.size w (w.alloc (.cells #[.int .i64 cls, .int .i64 no, .int .i64 at', .int .i64 gen] 37)) := (Below.refl _ w).alloc (Nat.le_refl _) _
  have RS0 := heap_alloc_new w (.cells #[.int .i64 cls, .int .i64 no, .int .i64 at', .int .i64 gen] 37)
  have VA0 := lenS_bad (m.below B0) cls no at' gen hE
  have HB0 := Lib.hid B0
  have hE1 : (valE S cls no at' gen != 0) = true := bne_iff_ne.2 hE
  have hE2 : (valE S cls no at' gen == 0) = false := by simpa using hE
  generalize valE S cls no at' gen = E at *
  have VA := Lib.hid VA0
  clear m B0 hE VA0
  go_enter Try.func9, Try.ntmps9
  go_upto_region 1 with fail
  generalize w.alloc (.cells #[.int .i64 cls, .int .i64 no, .int .i64 at', .int .i64 gen] 37) = W0 at *
  obtain ⟨b0, b1, b2, b3⟩ := cells4 RS0
  clear RS0
  go_wp2_with fail
  refine VA.out.mono ?_
  rintro e w2 ⟨he, hb2⟩
  subst he
  have B2 := Lib.hid (HB0.out.trans (hb2.mono HB0.out.size))
  clear hb2 b0 b1 b2 b3 VA
  go_wp2_with fail
  go_ret2
  exact ⟨by first | rfl | simp, B2.out⟩

set_option maxHeartbeats 8000000 in
set_option maxRecDepth 100000 in
theorem lookS_bad {w : World} {F : Nat → Prop} {c bp : Nat} {S : CaSt} {vc vs : Value} (m : CaMem w F c bp S vc vs) (cls no at' gen : Int) (f t : Int) (hE : valE S cls no at' gen ≠ 0) :
    Calls Try.prog 14 #[.pointer (some ⟨c, 0, none⟩), .agg #[.int .i64 cls, .int .i64 no, .int .i64 at', .int .i64 gen], .int .i64 f, .int .i64 t] w (fun e w' => e = .returned (.tuple #[.slice none 0 0, .int .i64 (valE S cls no at' gen)]) ∧ Below w.heap.size w w') := by
  have B0 : Below w.heap.size w (w.alloc (.cells #[.int .i64 cls, .int .i64 no, .int .i64 at', .int .i64 gen] 37)) := (Below.refl _ w).alloc (Nat.le_refl _) _
  have RS0 := heap_alloc_new w (.cells #[.int .i64 cls, .int .i64 no, .int .i64 at', .int .i64 gen] 37)
  have VA0 := lenS_bad (m.below B0) cls no at' gen hE
  have HB0 := Lib.hid B0
  have hE1 : (valE S cls no at' gen != 0) = true := bne_iff_ne.2 hE
  have hE2 : (valE S cls no at' gen == 0) = false := by simpa using hE
  generalize valE S cls no at' gen = E at *
  have VA := Lib.hid VA0
  clear m B0 hE VA0
  go_enter Try.func14, Try.ntmps14
  go_upto_region 1 with fail
  generalize w.alloc (.cells #[.int .i64 cls, .int .i64 no, .int .i64 at', .int .i64 gen] 37) = W0 at *
  obtain ⟨b0, b1, b2, b3⟩ := cells4 RS0
  clear RS0
  go_wp2_with fail
  refine VA.out.mono ?_
  rintro e w2 ⟨he, hb2⟩
  subst he
  have B2 := Lib.hid (HB0.out.trans (hb2.mono HB0.out.size))
  clear hb2 b0 b1 b2 b3 VA
  go_wp2_with fail
  go_ret2
  exact ⟨by first | rfl | simp, B2.out⟩

def LkS (w : World) (g A n : Nat) (f t : Int) : Ending → World → Prop := fun e w' => Below w.heap.size w w' ∧ if 0 ≤ f ∧ f ≤ t ∧ t ≤ (n : Int) then e = .returned (.tuple #[.slice (some ⟨g, A + f.toNat, none⟩) (t.toNat - f.toNat) (t.toNat - f.toNat), .int .i64 0]) ∨ (f = t ∧ ∃ a, e = .returned (.tuple #[.slice a 0 0, .int .i64 0])) else e = .returned (.tuple #[.slice none 0 0, .int .i64 2])
theorem LkS.yes {w w' : World} {g A n fn tn : Nat} {e : Ending} (hb : Below w.heap.size w w') (h : 0 ≤ (fn : Int) ∧ (fn : Int) ≤ (tn : Int) ∧ (tn : Int) ≤ (n : Int)) (he : e = .returned (.tuple #[.slice (some ⟨g, A + fn, none⟩) (tn - fn) (tn - fn), .int .i64 0]) ∨ ((fn : Int) = tn ∧ ∃ a, e = .returned (.tuple #[.slice a 0 0, .int .i64 0]))) : LkS w g A n fn tn e w' := ⟨hb, by rw [if_pos h]; exact he⟩
theorem LkS.no {w w' : World} {g A n : Nat} {f t : Int} {e : Ending} (hb : Below w.heap.size w w') (h : ¬ (0 ≤ f ∧ f ≤ t ∧ t ≤ (n : Int))) (he : e = .returned (.tuple #[.slice none 0 0, .int .i64 2])) : LkS w g A n f t e w' := ⟨hb, by rw [if_neg h]; exact he⟩
/-- A cell of a slab is written. -/
theorem cells_put {w : World} {q an : Nat} {cl : List Cel} (h : w.heap[q]? = some (.cells (celCells cl).toArray 71 (0, 0))) (hk : an < cl.length) (z : Cel) :
    (((w.setCell ⟨q, an * 3, none⟩ (.int .i64 (z.gen : Int))).setCell ⟨q, an * 3 + 1, none⟩ (.int .i64 (z.len : Int))).setCell ⟨q, an * 3 + 2, none⟩ (.bool z.used)).heap[q]? = some (.cells (celCells (cl.set an z)).toArray 71 (0, 0)) := by
  have h0 := block_setCell h (an * 3) (.int .i64 (z.gen : Int))
  have h1 := block_setCell h0 (an * 3 + 1) (.int .i64 (z.len : Int))
  have h2 := block_setCell h1 (an * 3 + 2) (.bool z.used)
  rw [h2, celCells_set _ _ _ hk]
  simp
theorem SlMem.celled {w w' : World} {F : Nat → Prop} {S : CaSt} {x : Sl} (m : SlMem w F S x) {cl : List Cel} (hc : w'.heap[x.q]? = some (.cells (celCells cl).toArray 71 (0, 0))) (keep : ∀ k, k ≠ x.q → w'.heap[k]? = w.heap[k]?) (hl : cl.length = S.slots) : SlMem w' F S { x with cl := cl } :=
  ⟨(keep _ (fun e => by have h := m.self; rw [e, m.cel] at h; simp at h)).trans m.self, (keep _ (fun e => by have h : w.heap[x.g]? = some (Obj.cells _ 5 (0, 0)) := m.oct; rw [e, m.cel] at h; simp at h)).trans m.oct, m.ol, m.ob, hc, hl, m.fp, m.fg, m.fq⟩
theorem reads_oct {w : World} {g f n : Nat} {cs : List Int} (h : byteRow w g cs) (hf : f + n ≤ cs.length) (cap : Nat) (hb : cs.length ≤ 1000000 := by omega) : Reads w .u8 (.slice (some ⟨g, f, none⟩) n cap) ((cs.drop f).take n) := by
  have hl : ((cs.drop f).take n).length = n := by rw [List.length_take, List.length_drop]; omega
  refine ⟨some ⟨g, f, none⟩, cap, by rw [hl], by omega, fun hne => ⟨g, f, rfl, fun j hj => ?_⟩⟩
  rw [hl] at hj
  rw [h.cell (f + j) (by omega), List.getD_eq_getElem?_getD, List.getD_eq_getElem?_getD, List.getElem?_take_of_lt hj, List.getElem?_drop]
set_option maxHeartbeats 8000000 in
set_option maxRecDepth 100000 in
theorem lenS_ok {w : World} {F : Nat → Prop} {c bp : Nat} {S : CaSt} {vc vs : Value} (m : CaMem w F c bp S vc vs) {x : Sl} {an : Nat} {y : Cel} {cls no at' gen : Int} (u : InUse S x an y cls no at' gen) (hE : valE S cls no at' gen = 0) :
    Calls Try.prog 33 #[.pointer (some ⟨c, 0, none⟩), .agg #[.int .i64 cls, .int .i64 no, .int .i64 at', .int .i64 gen]] w (fun e w' => e = .returned (.tuple #[.int .i64 (y.len : Int), .int .i64 0]) ∧ Below w.heap.size w w') := by
  have B0 : Below w.heap.size w (w.alloc (.cells #[.int .i64 cls, .int .i64 no, .int .i64 at', .int .i64 gen] 37)) := (Below.refl _ w).alloc (Nat.le_refl _) _
  have RS0 := heap_alloc_new w (.cells #[.int .i64 cls, .int .i64 no, .int .i64 at', .int .i64 gen] 37)
  have VA0 := valid_is (m.below B0) cls no at' gen
  rw [hE] at VA0
  have VA := Lib.hid VA0
  have CE := Lib.hid (fun W (hW : Below (w.alloc (.cells #[.int .i64 cls, .int .i64 no, .int .i64 at', .int .i64 gen] 37)).heap.size (w.alloc (.cells #[.int .i64 cls, .int .i64 no, .int .i64 at', .int .i64 gen] 37)) W) => cell_any ((m.below B0).below hW) u)
  have hxm := (u.lt m).1
  have MX := Lib.hid (fun W (hW : Below w.heap.size w W) => (((m.below hW).sl x hxm).cell u.cel).2.1)
  have HB0 := Lib.hid B0
  clear m B0 VA0 u hE hxm
  go_enter Try.func33, Try.ntmps33
  go_upto_region 1 with fail
  generalize w.alloc (.cells #[.int .i64 cls, .int .i64 no, .int .i64 at', .int .i64 gen] 37) = W0 at *
  obtain ⟨b0, b1, b2, b3⟩ := cells4 RS0
  have HRS := Lib.hid RS0
  clear RS0
  go_wp2_with fail
  refine VA.out.mono ?_
  rintro e w2 ⟨he, hb2⟩
  subst he
  have B2 := Lib.hid (HB0.out.trans (hb2.mono HB0.out.size))
  have C2 := Lib.hid (CE.out _ hb2)
  obtain ⟨b0, b1, b2, b3⟩ := cells4 ((hb2.block _ (lt_of HRS.out)).trans HRS.out)
  clear hb2 VA CE HRS
  go_wp2_with fail
  refine C2.out.mono ?_
  rintro e w3 ⟨rfl, hb3⟩
  have B3 := Lib.hid (B2.out.trans (hb3.mono B2.out.size))
  have d := MX.out _ B3.out
  clear hb3 C2 b0 b1 b2 b3
  go_wp2_with fail
  go_ret2
  exact ⟨by first | rfl | simp, B3.out⟩

set_option maxHeartbeats 8000000 in
set_option maxRecDepth 100000 in
theorem copyS_ok {w : World} {F : Nat → Prop} {c bp : Nat} {S : CaSt} {vc vs : Value} (m : CaMem w F c bp S vc vs) {x : Sl} {an : Nat} {y : Cel} {cls no at' gen : Int} (u : InUse S x an y cls no at' gen) (hE : valE S cls no at' gen = 0) :
    Calls Try.prog 9 #[.pointer (some ⟨c, 0, none⟩), .agg #[.int .i64 cls, .int .i64 no, .int .i64 at', .int .i64 gen]] w (fun e w' => ∃ v, e = .returned (.tuple #[v, .int .i64 0]) ∧ w'.ownsRow w.heap.size 5 1 v ((x.cs.drop (an * clsN S.classes x.cls)).take y.len).length (((x.cs.drop (an * clsN S.classes x.cls)).take y.len).map (Value.int .u8)) ∧ Below w.heap.size w w') := by
  have B0 : Below w.heap.size w (w.alloc (.cells #[.int .i64 cls, .int .i64 no, .int .i64 at', .int .i64 gen] 37)) := (Below.refl _ w).alloc (Nat.le_refl _) _
  have RS0 := heap_alloc_new w (.cells #[.int .i64 cls, .int .i64 no, .int .i64 at', .int .i64 gen] 37)
  have LE := Lib.hid (lenS_ok (m.below B0) u hE)
  have OC := Lib.hid (fun W (hW : Below (w.alloc (.cells #[.int .i64 cls, .int .i64 no, .int .i64 at', .int .i64 gen] 37)).heap.size (w.alloc (.cells #[.int .i64 cls, .int .i64 no, .int .i64 at', .int .i64 gen] 37)) W) => octetsS_any ((m.below B0).below hW) u)
  obtain ⟨hxm, h2, h3, h4, h5, h6, h7, h8⟩ := u.lt m
  have ol := (m.sl x hxm).ol
  obtain ⟨sz, hsz⟩ : ∃ sz, clsN S.classes x.cls = sz := ⟨_, rfl⟩
  have hfit : an * sz + y.len ≤ x.cs.length := by
    rw [ol, show S.room x.cls = S.slots * sz by rw [← hsz]; rfl]
    have h9 : (an + 1) * sz ≤ S.slots * sz := Nat.mul_le_mul_right _ h2
    rw [Nat.succ_mul] at h9
    rw [hsz] at h8
    omega
  rw [hsz] at OC h6 h8 ⊢
  obtain ⟨A, hA⟩ : ∃ A, an * sz = A := ⟨_, rfl⟩
  rw [hA] at hfit OC ⊢
  have HFIT := Lib.hid hfit
  obtain ⟨n, hn⟩ : ∃ n, y.len = n := ⟨_, rfl⟩
  rw [hn] at HFIT LE h8 ⊢
  have hbig : x.cs.length ≤ 1000000 := by
    rw [ol]
    have h10 : S.slots * clsN S.classes x.cls ≤ 64 * 4096 := Nat.mul_le_mul m.sz.2 (by rw [hsz]; exact h6)
    exact Nat.le_trans h10 (by decide)
  have RD := Lib.hid (fun W (hW : Below w.heap.size w W) cap => (reads_oct ((m.below hW).sl x hxm).oct HFIT.out cap hbig : Reads W .u8 (.slice (some ⟨x.g, A, none⟩) n cap) ((x.cs.drop A).take n)))
  have hlen : ((x.cs.drop A).take n).length = n := by have := HFIT.out; rw [List.length_take, List.length_drop]; omega
  have HLEN := Lib.hid hlen
  have HB0 := Lib.hid B0
  clear m B0 u hE hxm h2 h3 h4 h5 h7 ol hsz hfit hA hn hlen hbig
  go_enter Try.func9, Try.ntmps9
  go_upto_region 1 with fail
  generalize w.alloc (.cells #[.int .i64 cls, .int .i64 no, .int .i64 at', .int .i64 gen] 37) = W0 at *
  obtain ⟨b0, b1, b2, b3⟩ := cells4 RS0
  have HRS := Lib.hid RS0
  clear RS0
  go_wp2_with fail
  refine LE.out.mono ?_
  rintro e w2 ⟨he, hb2⟩
  subst he
  have B2 := Lib.hid (HB0.out.trans (hb2.mono HB0.out.size))
  have C2 := Lib.hid (OC.out _ hb2)
  obtain ⟨b0, b1, b2, b3⟩ := cells4 ((hb2.block _ (lt_of HRS.out)).trans HRS.out)
  clear hb2 LE OC HRS
  go_wp2_with fail
  refine C2.out.mono ?_
  rintro e w3 ⟨rfl, hb3⟩
  have B3 := Lib.hid (B2.out.trans (hb3.mono B2.out.size))
  have CL := Lib.hid (clone_byte _ _ w3 (RD.out w3 B3.out sz) (by rw [HLEN.out]; omega))
  clear hb3 C2 b0 b1 b2 b3
  go_wp2_with fail
  refine CL.out.mono ?_
  rintro e w4 ⟨v, rfl, hv, hb4⟩
  have FIN := Lib.hid (And.intro (row_low hv B3.out.size) (B3.out.trans (hb4.mono B3.out.size)))
  clear hv hb4 CL
  go_wp2_with fail
  go_ret2
  exact ⟨v, by first | rfl | simp, FIN.out.1, FIN.out.2⟩

set_option maxHeartbeats 8000000 in
set_option maxRecDepth 100000 in
theorem lookS_ok {w : World} {F : Nat → Prop} {c bp : Nat} {S : CaSt} {vc vs : Value} (m : CaMem w F c bp S vc vs) {x : Sl} {an : Nat} {y : Cel} {cls no at' gen : Int} (u : InUse S x an y cls no at' gen) (hE : valE S cls no at' gen = 0) (f t : Int) :
    Calls Try.prog 14 #[.pointer (some ⟨c, 0, none⟩), .agg #[.int .i64 cls, .int .i64 no, .int .i64 at', .int .i64 gen], .int .i64 f, .int .i64 t] w (LkS w x.g (an * clsN S.classes x.cls) y.len f t) := by
  have B0 : Below w.heap.size w (w.alloc (.cells #[.int .i64 cls, .int .i64 no, .int .i64 at', .int .i64 gen] 37)) := (Below.refl _ w).alloc (Nat.le_refl _) _
  have RS0 := heap_alloc_new w (.cells #[.int .i64 cls, .int .i64 no, .int .i64 at', .int .i64 gen] 37)
  have LE := Lib.hid (lenS_ok (m.below B0) u hE)
  have OC := Lib.hid (fun W (hW : Below (w.alloc (.cells #[.int .i64 cls, .int .i64 no, .int .i64 at', .int .i64 gen] 37)).heap.size (w.alloc (.cells #[.int .i64 cls, .int .i64 no, .int .i64 at', .int .i64 gen] 37)) W) => octetsS_any ((m.below B0).below hW) u)
  obtain ⟨hxm, h2, h3, h4, h5, h6, h7, h8⟩ := u.lt m
  have hbn : y.len ≤ 4096 := Nat.le_trans h8 h6
  obtain ⟨sz, hsz⟩ : ∃ sz, clsN S.classes x.cls = sz := ⟨_, rfl⟩
  rw [hsz] at OC h6 h8 ⊢
  obtain ⟨A, hA⟩ : ∃ A, an * sz = A := ⟨_, rfl⟩
  rw [hA] at OC ⊢
  obtain ⟨n, hn⟩ : ∃ n, y.len = n := ⟨_, rfl⟩
  rw [hn] at LE h8 hbn ⊢
  have HB0 := Lib.hid B0
  clear m B0 u hE hxm h2 h3 h4 h5 h7 hsz hA hn
  go_enter Try.func14, Try.ntmps14
  go_upto_region 1 with fail
  generalize w.alloc (.cells #[.int .i64 cls, .int .i64 no, .int .i64 at', .int .i64 gen] 37) = W0 at *
  obtain ⟨b0, b1, b2, b3⟩ := cells4 RS0
  have HRS := Lib.hid RS0
  clear RS0
  go_wp2_with fail
  refine LE.out.mono ?_
  rintro e w2 ⟨he, hb2⟩
  subst he
  have B2 := Lib.hid (HB0.out.trans (hb2.mono HB0.out.size))
  have C2 := Lib.hid (OC.out _ hb2)
  obtain ⟨b0, b1, b2, b3⟩ := cells4 ((hb2.block _ (lt_of HRS.out)).trans HRS.out)
  clear hb2 LE OC HRS
  by_cases hf : 0 ≤ f ∧ f ≤ (n : Int)
  · by_cases ht : f ≤ t ∧ t ≤ (n : Int)
    · obtain ⟨fn, rfl⟩ : ∃ fn : Nat, f = fn := ⟨f.toNat, by omega⟩
      obtain ⟨tn, rfl⟩ : ∃ tn : Nat, t = tn := ⟨t.toNat, by omega⟩
      have W1 := Lib.hid (within_slab_yes (fn : Int) 0 (n : Int) w2 hf.1 hf.2)
      have W2' := Lib.hid (within_slab_yes (tn : Int) (fn : Int) (n : Int) w2 ht.1 ht.2)
      have YES := Lib.hid (show 0 ≤ (fn : Int) ∧ (fn : Int) ≤ (tn : Int) ∧ (tn : Int) ≤ (n : Int) from ⟨hf.1, ht⟩)
      have h10 : fn ≤ tn := by omega
      have h11 : tn ≤ n := by omega
      clear hf ht
      go_wp2_with fail
      refine W1.out.mono ?_
      rintro e w' ⟨rfl, hw'⟩
      obtain rfl := hw'
      go_wp2_with fail
      refine W2'.out.mono ?_
      rintro e w' ⟨rfl, hw'⟩
      obtain rfl := hw'
      clear W1 W2'
      go_wp2_with fail
      refine C2.out.mono ?_
      rintro e w3 ⟨rfl, hb3⟩
      have B3 := Lib.hid (B2.out.trans (hb3.mono B2.out.size))
      clear hb3 C2 b0 b1 b2 b3
      by_cases hft : fn = tn
      · subst hft
        obtain ⟨U, hU⟩ : ∃ U, (if fn = fn then some (⟨x.g, A, none⟩ : Addr) else Option.map (fun z => z.add fn) (some (⟨x.g, A, none⟩ : Addr))) = U := ⟨_, rfl⟩
        clear hU
        go_wp2_with fail
        go_ret2
        exact LkS.yes B3.out YES.out (Or.inr ⟨rfl, _, by first | rfl | (simp; done) | (rw [Nat.sub_self]; rfl)⟩)
      · have hne : ¬ tn = fn := fun e => hft e.symm
        have hdd : ¬ tn - fn = 0 := by omega
        go_wp2_with fail
        go_ret2
        exact LkS.yes B3.out YES.out (Or.inl (by first | rfl | simp))
    · have W1 := Lib.hid (within_slab_yes f 0 (n : Int) w2 hf.1 hf.2)
      have W2' := Lib.hid (within_slab_no t f (n : Int) w2 ht)
      have NO := Lib.hid (show ¬ (0 ≤ f ∧ f ≤ t ∧ t ≤ (n : Int)) from fun h => ht h.2)
      clear hf ht
      go_wp2_with fail
      refine W1.out.mono ?_
      rintro e w' ⟨rfl, hw'⟩
      obtain rfl := hw'
      go_wp2_with fail
      refine W2'.out.mono ?_
      rintro e w' ⟨rfl, hw'⟩
      obtain rfl := hw'
      go_wp2_with fail
      go_ret2
      exact LkS.no B2.out NO.out rfl
  · have W1 := Lib.hid (within_slab_no f 0 (n : Int) w2 hf)
    have NO := Lib.hid (show ¬ (0 ≤ f ∧ f ≤ t ∧ t ≤ (n : Int)) from fun h => hf ⟨h.1, by omega⟩)
    clear hf
    go_wp2_with fail
    refine W1.out.mono ?_
    rintro e w' ⟨rfl, hw'⟩
    obtain rfl := hw'
    go_wp2_with fail
    go_ret2
    exact LkS.no B2.out NO.out rfl

set_option maxHeartbeats 8000000 in
set_option maxRecDepth 100000 in
theorem freeS_ok {w : World} {F : Nat → Prop} {c bp : Nat} {S : CaSt} {vc vs : Value} (m : CaMem w F c bp S vc vs) {x : Sl} {an : Nat} {y : Cel} {cls no at' gen : Int} (u : InUse S x an y cls no at' gen) (hE : valE S cls no at' gen = 0) (hg : y.gen < 1000000000) :
    Calls Try.prog 11 #[.pointer (some ⟨c, 0, none⟩), .agg #[.int .i64 cls, .int .i64 no, .int .i64 at', .int .i64 gen]] w (fun e w' => e = .returned (.int .i64 0) ∧ CaMem w' F c bp (S.put { x with cl := x.cl.set an ⟨y.gen + 1, 0, false⟩ }) vc vs ∧ Touch (fun k => k = x.q) w w') := by
  have B0 : Below w.heap.size w (w.alloc (.cells #[.int .i64 cls, .int .i64 no, .int .i64 at', .int .i64 gen] 37)) := (Below.refl _ w).alloc (Nat.le_refl _) _
  have RS0 := heap_alloc_new w (.cells #[.int .i64 cls, .int .i64 no, .int .i64 at', .int .i64 gen] 37)
  have VA0 := valid_is (m.below B0) cls no at' gen
  rw [hE] at VA0
  have VA := Lib.hid VA0
  have CE := Lib.hid (fun W (hW : Below (w.alloc (.cells #[.int .i64 cls, .int .i64 no, .int .i64 at', .int .i64 gen] 37)).heap.size (w.alloc (.cells #[.int .i64 cls, .int .i64 no, .int .i64 at', .int .i64 gen] 37)) W) => cell_any ((m.below B0).below hW) u)
  have hxm := (u.lt m).1
  have han := (u.lt m).2.1
  have MM := Lib.hid (fun W (hW : Below w.heap.size w W) => m.below hW)
  have HU := Lib.hid (And.intro hxm u.cel)
  have HB0 := Lib.hid B0
  have hlx := m.lens x hxm
  have HLX := Lib.hid hlx
  clear m B0 VA0 u hE hxm hlx
  go_enter Try.func11, Try.ntmps11
  go_upto_region 1 with fail
  generalize w.alloc (.cells #[.int .i64 cls, .int .i64 no, .int .i64 at', .int .i64 gen] 37) = W0 at *
  obtain ⟨b0, b1, b2, b3⟩ := cells4 RS0
  have HRS := Lib.hid RS0
  clear RS0
  go_wp2_with fail
  refine VA.out.mono ?_
  rintro e w2 ⟨he, hb2⟩
  subst he
  have B2 := Lib.hid (HB0.out.trans (hb2.mono HB0.out.size))
  have C2 := Lib.hid (CE.out _ hb2)
  obtain ⟨b0, b1, b2, b3⟩ := cells4 ((hb2.block _ (lt_of HRS.out)).trans HRS.out)
  clear hb2 VA CE HRS
  go_wp2_with fail
  refine C2.out.mono ?_
  rintro e w3 ⟨rfl, hb3⟩
  have B3 := Lib.hid (B2.out.trans (hb3.mono B2.out.size))
  have M3 := MM.out _ B3.out
  have mx := M3.sl x HU.out.1
  obtain ⟨d0, d1, d2⟩ := mx.cell HU.out.2
  have f0 := free_of mx.cel (an * 3)
  have f1 := free_of mx.cel (an * 3 + 1)
  have f2 := free_of mx.cel (an * 3 + 2)
  have FIN : Hid (CaMem (((w3.setCell ⟨x.q, an * 3, none⟩ (.int .i64 ((y.gen : Int) + 1))).setCell ⟨x.q, an * 3 + 1, none⟩ (.int .i64 0)).setCell ⟨x.q, an * 3 + 2, none⟩ (.bool false)) F c bp (S.put { x with cl := x.cl.set an ⟨y.gen + 1, 0, false⟩ }) vc vs ∧ Touch (fun k => k = x.q) w (((w3.setCell ⟨x.q, an * 3, none⟩ (.int .i64 ((y.gen : Int) + 1))).setCell ⟨x.q, an * 3 + 1, none⟩ (.int .i64 0)).setCell ⟨x.q, an * 3 + 2, none⟩ (.bool false))) := Lib.hid (by
    have hk : an < x.cl.length := (List.getElem?_eq_some_iff.1 HU.out.2).1
    have hc := cells_put mx.cel hk ⟨y.gen + 1, 0, false⟩
    have keep : ∀ k, k ≠ x.q → (((w3.setCell ⟨x.q, an * 3, none⟩ (.int .i64 ((y.gen : Int) + 1))).setCell ⟨x.q, an * 3 + 1, none⟩ (.int .i64 0)).setCell ⟨x.q, an * 3 + 2, none⟩ (.bool false)).heap[k]? = w3.heap[k]? := fun k hk => (Below.heap_setCell _ _ _ _ hk).trans ((Below.heap_setCell _ _ _ _ hk).trans (Below.heap_setCell _ _ _ _ hk))
    refine ⟨M3.turn HU.out.1 rfl rfl rfl rfl rfl (mx.celled hc (fun k hk => keep k hk) (by rw [List.length_set]; exact mx.cl)) (fun z hz => ?_) (fun k _ _ hq => keep k hq), ?_⟩
    · rcases List.mem_or_eq_of_mem_set hz with hz | rfl
      · exact HLX.out z hz
      · exact ⟨by show y.gen + 1 ≤ _; omega, Nat.zero_le _⟩
    · exact (((Touch.of_below (F := fun k => k = x.q) B3.out).setCell (p := ⟨x.q, an * 3, none⟩) (Or.inl rfl) _).setCell (p := ⟨x.q, an * 3 + 1, none⟩) (Or.inl rfl) _).setCell (p := ⟨x.q, an * 3 + 2, none⟩) (Or.inl rfl) _)
  clear hb3 C2 b0 b1 b2 b3 M3 mx
  go_wp2_with fail
  go_ret
  exact ⟨rfl, FIN.out⟩

end Go.Proofs.Ytiaedonhbafpjaa
