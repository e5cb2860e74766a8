/-
  A slab turned; octets, cell, Len, Copy, Look, Free of a slot. No conditions but bounds.
-/
import Derived.Test.YtiaedonhbafpjaaTopSlabPav
import Derived.Test.YtiaedonhbafpjaaTopSlabPak
namespace Go.Proofs.Ytiaedonhbafpjaa
open Go.RowKit
set_option linter.unusedVariables false

/-- A slab in the place of the one with its number. -/
def CaSt.put (S : CaSt) (x : Sl) : CaSt := { S with sl := S.sl.map fun y => if y.no = x.no then x else y }
theorem put_maps {β : Type} (f : Sl → β) {l : List Sl} {x x' : Sl} (hn : (l.map Sl.no).Pairwise (· < ·)) (hx : x ∈ l) (hno : x'.no = x.no) (hf : f x' = f x) : (l.map fun y => if y.no = x'.no then x' else y).map f = l.map f := by
  rw [List.map_map]
  refine List.map_congr_left (fun y hy => ?_)
  simp only [Function.comp]
  split
  · next h =>
    have h1 := slabOf_at hn hy
    have h2 := slabOf_at hn hx
    rw [h, hno, h2] at h1
    rw [hf, Option.some.inj h1]
  · rfl
theorem put_mem {l : List Sl} {x' y : Sl} (h : y ∈ l.map fun y => if y.no = x'.no then x' else y) : y = x' ∨ (y ∈ l ∧ y.no ≠ x'.no) := by
  obtain ⟨z, hz, rfl⟩ := List.mem_map.1 h
  split
  · exact Or.inl rfl
  · next h => exact Or.inr ⟨hz, h⟩
theorem nodup_at {β : Type} {f : Sl → β} {l : List Sl} (hn : (l.map f).Nodup) {x y : Sl} (hx : x ∈ l) (hy : y ∈ l) (h : f x = f y) : x = y := by
  induction l with
  | nil => simp at hx
  | cons z l ih =>
    rw [List.map_cons, List.nodup_cons] at hn
    rcases List.mem_cons.1 hx with h1 | h1 <;> rcases List.mem_cons.1 hy with h2 | h2
    · rw [h1, h2]
    · rw [h1] at h
      exact absurd (by rw [h]; exact List.mem_map_of_mem h2) hn.1
    · rw [h2] at h
      exact absurd (by rw [← h]; exact List.mem_map_of_mem h1) hn.1
    · exact ih hn.2 h1 h2
theorem CaMem.turn {w w3 : World} {F : Nat → Prop} {c bp : Nat} {S : CaSt} {vc vs : Value} (m : CaMem w F c bp S vc vs) {x x' : Sl} (hx : x ∈ S.sl) (hp : x'.p = x.p) (hg : x'.g = x.g) (hq : x'.q = x.q) (hno : x'.no = x.no) (hcls : x'.cls = x.cls) (hm : SlMem w3 F S x') (hl : ∀ y ∈ x'.cl, y.gen ≤ 1000000000 ∧ y.len ≤ clsN S.classes x.cls)
    (keep : ∀ k, k < w.heap.size → k ≠ x.g → k ≠ x.q → w3.heap[k]? = w.heap[k]?) : CaMem w3 F c bp (S.put x') vc vs := by
  have mx := m.sl x hx
  have typ : ∀ (k : Nat) (cs : Array Value) (t : TypeId), w.heap[k]? = some (Obj.cells cs t (0, 0)) → t ≠ 5 → t ≠ 71 → w3.heap[k]? = some (Obj.cells cs t (0, 0)) := fun k cs t hk t1 t2 => by
    refine (keep k (lt_of hk) (fun e => ?_) (fun e => ?_)).trans hk
    · have h2 : w.heap[x.g]? = some (Obj.cells _ 5 (0, 0)) := mx.oct
      rw [e, h2] at hk
      simp only [Option.some.injEq, Obj.cells.injEq] at hk
      exact t1 hk.2.1.symm
    · rw [e, mx.cel] at hk
      simp only [Option.some.injEq, Obj.cells.injEq] at hk
      exact t2 hk.2.1.symm
  have rowK : ∀ {B n : Nat} {e : TypeId} {v : Value} {xs : List Value}, w.ownsRow B e 1 v n xs → e ≠ 5 → e ≠ 71 → w3.ownsRow B e 1 v n xs := fun h t1 t2 => ownsRow_same h (fun k hk => by
    obtain ⟨cur, hc⟩ := row_block h hk
    rw [typ k _ _ hc t1 t2, hc])
  refine ⟨typ c _ _ m.self (by decide) (by decide), m.fc, ⟨rowK m.cls.1 (by decide) (by decide), m.cls.2⟩, ⟨?_, m.row.2⟩, fun y hy => ?_, ?_, ?_, ?_, ?_, fun y hy => ?_, m.cok, m.sz, ?_, fun y hy z hz => ?_⟩
  · have h1 := rowK m.row.1 (by decide) (by decide)
    have e1 : (S.put x').sl.length = S.sl.length := by unfold CaSt.put; simp
    have e2 : ((S.put x').sl.map fun x => Value.pointer (some ⟨x.p, 0, none⟩)) = S.sl.map fun x => Value.pointer (some ⟨x.p, 0, none⟩) := put_maps (fun x => Value.pointer (some ⟨x.p, 0, none⟩)) m.nos hx hno (by simp only [hp])
    rw [e1, e2]
    exact h1
  · rcases put_mem hy with rfl | ⟨hy, hne⟩
    · exact ⟨hm.self, hm.oct, hm.ol, hm.ob, hm.cel, hm.cl, hm.fp, hm.fg, hm.fq⟩
    · have my := m.sl y hy
      have hxy : y ≠ x := fun e => hne (by rw [e, hno])
      have g1 : y.g ≠ x.g := fun e => hxy (nodup_at m.ig hy hx e)
      have q1 : y.q ≠ x.q := fun e => hxy (nodup_at m.iq hy hx e)
      have g2 : y.g ≠ x.q := fun e => by
        have h2 : w.heap[y.g]? = some (Obj.cells _ 5 (0, 0)) := my.oct
        rw [e, mx.cel] at h2
        simp at h2
      have q2 : y.q ≠ x.g := fun e => by
        have h2 : w.heap[x.g]? = some (Obj.cells _ 5 (0, 0)) := mx.oct
        rw [← e, my.cel] at h2
        simp at h2
      exact ⟨typ _ _ _ my.self (by decide) (by decide), (keep _ (lt_of my.oct) g1 g2).trans my.oct, my.ol, my.ob, (keep _ (lt_of my.cel) q2 q1).trans my.cel, my.cl, my.fp, my.fg, my.fq⟩
  · have e := put_maps Sl.p m.nos hx hno hp
    show (List.map Sl.p (List.map _ _)).Nodup
    rw [e]; exact m.ip
  · have e := put_maps Sl.g m.nos hx hno hg
    show (List.map Sl.g (List.map _ _)).Nodup
    rw [e]; exact m.ig
  · have e := put_maps Sl.q m.nos hx hno hq
    show (List.map Sl.q (List.map _ _)).Nodup
    rw [e]; exact m.iq
  · have e := put_maps Sl.no m.nos hx hno hno
    show (List.map Sl.no (List.map _ _)).Pairwise _
    rw [e]; exact m.nos
  · rcases put_mem hy with rfl | ⟨hy, hne⟩
    · have := m.nb x hx
      rw [hno, hcls]
      exact this
    · exact m.nb y hy
  · have e1 : (S.put x').sl.length = S.sl.length := by unfold CaSt.put; simp
    rw [e1]
    exact m.few
  · rcases put_mem hy with rfl | ⟨hy, hne⟩
    · have := hl z hz
      rw [hcls]
      exact this
    · exact m.lens y hy z hz

/-- What is known of a slot in use. -/
structure InUse (S : CaSt) (x : Sl) (an : Nat) (y : Cel) (cls no at' gen : Int) : Prop where
  cls : cls = (x.cls : Int)
  no : slabOf S.sl no = some x
  at' : at' = (an : Int)
  cel : x.cl[an]? = some y
  gen : (y.gen : Int) = gen
  used : y.used = true
theorem valE_zero {S : CaSt} {cls no at' gen : Int} (h : valE S cls no at' gen = 0) : ∃ x an y, InUse S x an y cls no at' gen := by
  unfold valE at h
  split at h
  · cases h
  · split at h
    · cases h
    · next x hx =>
      split at h
      · next hc =>
        split at h
        · cases h
        · next y hy =>
          split at h
          · cases h
          · next hg =>
            split at h
            · cases h
            · next hu => exact ⟨x, at'.toNat, y, hc.2.1.symm, hx, by omega, hy, by omega, by simpa using hu⟩
      · cases h
theorem InUse.lt {w : World} {F : Nat → Prop} {c bp : Nat} {S : CaSt} {vc vs : Value} (m : CaMem w F c bp S vc vs) {x : Sl} {an : Nat} {y : Cel} {cls no at' gen : Int} (u : InUse S x an y cls no at' gen) : x ∈ S.sl ∧ an < S.slots ∧ x.cls < S.classes.length ∧ (x.no : Int) = no ∧ 1 ≤ clsN S.classes x.cls ∧ clsN S.classes x.cls ≤ 4096 ∧ (S.classes.getD x.cls 0) = (clsN S.classes x.cls : Int) ∧ y.len ≤ clsN S.classes x.cls := by
  obtain ⟨h1, h2⟩ := slabOf_some u.no
  have h3 := (m.nb x h1).2.2
  have h4 := (clsErr_all m.cok).2.2.1 x.cls h3
  refine ⟨h1, ?_, h3, h2, ?_, ?_, ?_, (m.lens x h1 y (List.mem_of_getElem? u.cel)).2⟩
  · rw [← (m.sl x h1).cl]
    exact (List.getElem?_eq_some_iff.1 u.cel).1
  · unfold clsN; omega
  · unfold clsN; omega
  · unfold clsN; omega
theorem findX {w : World} {F : Nat → Prop} {c bp : Nat} {S : CaSt} {vc vs : Value} (m : CaMem w F c bp S vc vs) {no : Int} {x : Sl} (hx : slabOf S.sl no = some x) : Calls Try.prog 38 #[.pointer (some ⟨c, 0, none⟩), .int .i64 no] w (fun e w' => e = .returned (.pointer (some ⟨x.p, 0, none⟩)) ∧ w' = w) :=
  (findS_any m no).mono (fun e w' h => by
    obtain ⟨h1, h2⟩ := h
    rw [hx] at h2
    exact ⟨h2, h1⟩)

set_option maxHeartbeats 8000000 in
set_option maxRecDepth 100000 in
theorem cell_any {w : World} {F : Nat → Prop} {c bp : Nat} {S : CaSt} {vc vs : Value} (m : CaMem w F c bp S vc vs) {x : Sl} {an : Nat} {y : Cel} {cls no at' gen : Int} (u : InUse S x an y cls no at' gen) :
    Calls Try.prog 31 #[.pointer (some ⟨c, 0, none⟩), .agg #[.int .i64 cls, .int .i64 no, .int .i64 at', .int .i64 gen]] w (fun e w' => e = .returned (.pointer (some ⟨x.q, an * 3, none⟩)) ∧ Below w.heap.size w w') := by
  obtain ⟨h1, h2, h3, h4, h5, h6, h7, _⟩ := u.lt m
  have hsl := m.sz.2
  have B0 : Below w.heap.size w (w.alloc (.cells #[.int .i64 cls, .int .i64 no, .int .i64 at', .int .i64 gen] 37)) := (Below.refl _ w).alloc (Nat.le_refl _) _
  have RS0 := heap_alloc_new w (.cells #[.int .i64 cls, .int .i64 no, .int .i64 at', .int .i64 gen] 37)
  have M0 := m.below B0
  have FX := Lib.hid (fun n => findX (M0.below (bdrewN (Below.refl _ _) n)) u.no)
  obtain ⟨d0, d1, d2, d3⟩ := (M0.sl x h1).cells
  obtain ⟨rfl⟩ := u.at'
  obtain ⟨sn, hsn⟩ : ∃ sn, S.slots = sn := ⟨_, rfl⟩
  rw [hsn] at d3 h2 hsl
  have HB0 := Lib.hid B0
  clear m M0 u B0 hsn d0 d1 d2 h1 h3 h4 h5 h6 h7
  go_enter Try.func31, Try.ntmps31
  go_upto_region 1 with fail
  generalize w.alloc (.cells #[.int .i64 cls, .int .i64 no, .int .i64 (an : Int), .int .i64 gen] 37) = W0 at *
  obtain ⟨b0, b1, b2, b3⟩ := cells4 RS0
  clear RS0
  go_quiet ((go_at_call 38; with_reducible exact Calls.quiet_of_same (FX.out _)))
  go_wp2_with fail
  go_ret
  exact ⟨by first | rfl | simp, bdrewN HB0.out _⟩

set_option maxHeartbeats 8000000 in
set_option maxRecDepth 100000 in
theorem octetsS_any {w : World} {F : Nat → Prop} {c bp : Nat} {S : CaSt} {vc vs : Value} (m : CaMem w F c bp S vc vs) {x : Sl} {an : Nat} {y : Cel} {cls no at' gen : Int} (u : InUse S x an y cls no at' gen) :
    Calls Try.prog 32 #[.pointer (some ⟨c, 0, none⟩), .agg #[.int .i64 cls, .int .i64 no, .int .i64 at', .int .i64 gen]] w (fun e w' => e = .returned (.slice (some ⟨x.g, an * clsN S.classes x.cls, none⟩) (clsN S.classes x.cls) (clsN S.classes x.cls)) ∧ Below w.heap.size w w') := by
  obtain ⟨h1, h2, h3, h4, h5, h6, h7, _⟩ := u.lt m
  have hsl := m.sz.2
  have B0 : Below w.heap.size w (w.alloc (.cells #[.int .i64 cls, .int .i64 no, .int .i64 at', .int .i64 gen] 37)) := (Below.refl _ w).alloc (Nat.le_refl _) _
  have RS0 := heap_alloc_new w (.cells #[.int .i64 cls, .int .i64 no, .int .i64 at', .int .i64 gen] 37)
  have M0 := m.below B0
  have FX := Lib.hid (fun n => findX (M0.below (bdrewN (Below.refl _ _) n)) u.no)
  obtain ⟨b, cap, hvc, hcl⟩ := M0.classes
  have c2 := M0.cells.2.2.1
  have cc := hcl x.cls h3
  rw [h7] at cc
  rw [hvc] at c2
  obtain ⟨d0, d1, d2, d3⟩ := (M0.sl x h1).cells
  obtain ⟨rfl⟩ := u.at'
  obtain ⟨rfl⟩ := u.cls
  obtain ⟨sz, hsz⟩ : ∃ sz, clsN S.classes x.cls = sz := ⟨_, rfl⟩
  obtain ⟨ln, hln⟩ : ∃ ln, S.classes.length = ln := ⟨_, rfl⟩
  obtain ⟨R, hR⟩ : ∃ R, S.room x.cls = R := ⟨_, rfl⟩
  have hR2 : R = S.slots * sz := by rw [← hR, ← hsz]; rfl
  rw [hsz] at cc h5 h6 ⊢
  rw [hln] at c2 h3
  rw [hR] at d2
  have k0 := (clsErr_all m.cok).2.1
  rw [hln] at k0
  obtain ⟨A, hA⟩ : ∃ A, an * sz = A := ⟨_, rfl⟩
  obtain ⟨A2, hA2⟩ : ∃ A2, (an + 1) * sz = A2 := ⟨_, rfl⟩
  have hA3 : A2 = A + sz := by rw [← hA2, ← hA, Nat.succ_mul]
  have hA4 : A2 ≤ R := by rw [← hA2, hR2]; exact Nat.mul_le_mul_right _ h2
  have hR3 : R ≤ 64 * 4096 := by rw [hR2]; exact Nat.mul_le_mul hsl h6
  have iA : (an : Int) * (sz : Int) = (A : Int) := by rw [← hA, Int.natCast_mul]
  have iA2 : ((an : Int) + 1) * (sz : Int) = (A2 : Int) := by rw [← hA2, Int.natCast_mul]; rfl
  have hsub : A2 - A = sz := by omega
  have hne : ¬ R = A := by omega
  have HB0 := Lib.hid B0
  have HS := Lib.hid hsub
  have HAA := Lib.hid hA
  clear m M0 u B0 d0 d1 d3 h1 h4 h7 hcl hvc hln hsz hR hR2 hA hA2 hsub
  rw [HAA.out]
  go_enter Try.func32, Try.ntmps32
  go_upto_region 1 with fail
  generalize w.alloc (.cells #[.int .i64 (x.cls : Int), .int .i64 no, .int .i64 (an : Int), .int .i64 gen] 37) = W0 at *
  obtain ⟨b0, b1, b2, b3⟩ := cells4 RS0
  clear RS0
  go_quiet (fail)
  go_upto_region 2 with fail
  have FX1 := Lib.hid (fun n => (by rw [World.drewN_drewN]; exact FX.out (nq + n) : Calls Try.prog 38 #[.pointer (some ⟨c, 0, none⟩), .int .i64 no] ((W0.drewN nq).drewN n) (fun e w' => e = .returned (.pointer (some ⟨x.p, 0, none⟩)) ∧ w' = (W0.drewN nq).drewN n)))
  have b1 : (W0.drewN nq).cell? ⟨w.heap.size, 1, none⟩ = some (.int .i64 no) := b1
  have b2 : (W0.drewN nq).cell? ⟨w.heap.size, 2, none⟩ = some (.int .i64 (an : Int)) := b2
  have d2 : (W0.drewN nq).cell? ⟨x.p, 2, none⟩ = some (.slice (some ⟨x.g, 0, none⟩) R R) := d2
  have HB1 := Lib.hid (bdrewN HB0.out nq)
  clear FX b0 b3 cc c2
  generalize W0.drewN nq = W1 at *
  go_quiet ((go_at_call 38; with_reducible exact Calls.quiet_of_same (FX1.out _)))
  go_wp2_with fail
  go_ret
  exact ⟨by first | rfl | (rw [HS.out]; rfl) | (simp; done), bdrewN HB1.out _⟩

end Go.Proofs.Ytiaedonhbafpjaa
