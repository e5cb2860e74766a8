/-
  clear of a stretch of octets, without an arena. No conditions.
  What Alloc leans on: a cell that is not in use, a slab that is new, a cell and octets written. No conditions but bounds.
-/
import Derived.Test.YtiaedonhbafpjaaTopSlabPad
import Derived.Test.YtiaedonhbafpjaaTopSlabPaj
import Derived.Lib.SliceRun
import Derived.Test.YtiaedonhbafpjaaTopSlabPba

namespace Go.Proofs.Ytiaedonhbafpjaa
section
open Go.RowKit
set_option linter.unusedVariables false
/-- n octets z from o on. -/
def fill (z : Int) : List Int → Nat → Nat → List Int
  | cs, _, 0 => cs
  | cs, o, n + 1 => fill z (cs.set o z) (o + 1) n
theorem fill_len (z : Int) : ∀ (n : Nat) (cs : List Int) (o : Nat), (fill z cs o n).length = cs.length
  | 0, _, _ => rfl
  | n + 1, cs, o => by rw [fill, fill_len z n]; simp
theorem fill_at (z : Int) : ∀ (n : Nat) (cs : List Int) (o j : Nat), o + n ≤ cs.length → (fill z cs o n)[j]? = if o ≤ j ∧ j < o + n then some z else cs[j]?
  | 0, cs, o, j, _ => by rw [fill, if_neg (by omega)]
  | n + 1, cs, o, j, h => by
    rw [fill, fill_at z n (cs.set o z) (o + 1) j (by simp; omega), List.getElem?_set]
    by_cases h1 : o = j
    · subst h1
      rw [if_neg (by omega), if_pos rfl, if_pos (by omega), if_pos (by omega)]
    · rw [if_neg h1]
      by_cases h2 : o + 1 ≤ j ∧ j < o + 1 + n
      · rw [if_pos h2, if_pos (by omega)]
      · rw [if_neg h2, if_neg (by omega)]

theorem setCells_row (z : Int) (b : Nat) : ∀ (n : Nat) (w : World) (cs : List Int) (o : Nat), byteRow w b cs → byteRow (w.setCells b o (List.replicate n (.int .u8 z))) b (fill z cs o n)
  | 0, w, cs, o, h => h
  | n + 1, w, cs, o, h => by
    rw [List.replicate_succ, World.setCells, fill]
    refine setCells_row z b n _ _ _ ?_
    unfold byteRow at h ⊢
    rw [block_setCell h]
    simp [List.map_set]
theorem setCells_touch (b : Nat) : ∀ (vs : List Value) (w : World) (o : Nat), Touch (fun k => k = b) w (w.setCells b o vs)
  | [], w, o => Touch.refl _ _
  | v :: vs, w, o => ((Touch.refl (fun k => k = b) w).setCell (p := ⟨b, o, none⟩) (Or.inl rfl) v).then (setCells_touch b vs _ _)

theorem zero_byte (w : World) : (zeroValue 5).run Try.prog w = .ok (.int .u8 0) w := by kernel_rfl

theorem clear_fact (w : World) (b fr n c : Nat) (f : Option Addr) (cs : List Int) (h : byteRow w b cs) (hle : fr + n ≤ cs.length) (hf : 0 < n → f = some ⟨b, fr, none⟩) :
    ∃ w', (∀ ty, (Builtin.clear_ #[33] ty #[.slice f n c]).run Try.prog w = .ok (.tuple #[]) w') ∧ byteRow w' b (fill 0 cs fr n) ∧ Touch (fun k => k = b) w w' := by
  by_cases h0 : n = 0
  · subst h0
    refine ⟨w, fun ty => ?_, h, Touch.refl _ _⟩
    cases f with
    | none => simp [Builtin.clear_, run_underlying Try.underlying33]
    | some a => simp [Builtin.clear_, run_underlying Try.underlying33]
  · obtain rfl := hf (by omega)
    refine ⟨_, fun ty => Lib.run_clear_slice w 33 5 ty (.int .u8 0) Try.underlying33 zero_byte rfl rfl b fr n c (by omega) (fun j hj => ?_) (fun j hj => free_of h _), setCells_row 0 b n w cs fr h, setCells_touch b _ _ _⟩
    rw [cell_of h]
    simp; omega

end
end Go.Proofs.Ytiaedonhbafpjaa

namespace Go.Proofs.Ytiaedonhbafpjaa
section
open Go.RowKit Go.Shelf
set_option linter.unusedVariables false

set_option maxHeartbeats 8000000 in
set_option maxRecDepth 100000 in
theorem cell_at {w : World} {F : Nat → Prop} {c bp : Nat} {S : CaSt} {vc vs : Value} (m : CaMem w F c bp S vc vs) {x : Sl} {an : Nat} {cls gen : Int} (hx : x ∈ S.sl) (h2 : an < S.slots) :
    Calls Try.prog 31 #[.pointer (some ⟨c, 0, none⟩), .agg #[.int .i64 cls, .int .i64 (x.no : Int), .int .i64 (an : Int), .int .i64 gen]] w (fun e w' => e = .returned (.pointer (some ⟨x.q, an * 3, none⟩)) ∧ Below w.heap.size w w') := by
  have hsl := m.sz.2
  obtain ⟨no, hno⟩ : ∃ no : Int, (x.no : Int) = no := ⟨_, rfl⟩
  have hs := slabOf_at m.nos hx
  rw [hno] at hs ⊢
  have B0 : Below w.heap.size w (w.alloc (.cells #[.int .i64 cls, .int .i64 no, .int .i64 (an : Int), .int .i64 gen] 37)) := (Below.refl _ w).alloc (Nat.le_refl _) _
  have RS0 := heap_alloc_new w (.cells #[.int .i64 cls, .int .i64 no, .int .i64 (an : Int), .int .i64 gen] 37)
  have M0 := m.below B0
  have FX := Lib.hid (fun n => findX (M0.below (bdrewN (Below.refl _ _) n)) hs)
  obtain ⟨d0, d1, d2, d3⟩ := (M0.sl x hx).cells
  obtain ⟨sn, hsn⟩ : ∃ sn, S.slots = sn := ⟨_, rfl⟩
  rw [hsn] at d3 h2 hsl
  have HB0 := Lib.hid B0
  clear m M0 B0 hsn d0 d1 d2 hx hs hno
  go_enter Try.func31, Try.ntmps31
  go_upto_region 1 with fail
  generalize w.alloc (.cells #[.int .i64 cls, .int .i64 no, .int .i64 (an : Int), .int .i64 gen] 37) = W0 at *
  obtain ⟨b0, b1, b2, b3⟩ := cells4 RS0
  clear RS0
  go_quiet ((go_at_call 38; with_reducible exact Calls.quiet_of_same (FX.out _)))
  go_wp2_with fail
  go_ret
  exact ⟨by first | rfl | simp, bdrewN HB0.out _⟩

/-- The new slab is the one whose first slot is free. -/
theorem freeOf_add {S : CaSt} {cls : Nat} (h : freeOf S.sl cls = none) (hs : 1 ≤ S.slots) (p g q : Nat) : freeOf (S.add cls p g q).sl cls = some (newSl S cls (S.last + 1) p g q, 0, ⟨1, 0, false⟩) := by
  have key : ∀ (l : List Sl) (z : Sl) (r : Nat × Cel), freeOf l cls = none → z.cls = cls → freeIdx z.cl = some r → freeOf (l ++ [z]) cls = some (z, r) := by
    intro l z r h1 h2 h3
    induction l with
    | nil => exact freeOf_hit (l := [z]) (k := 0) rfl h2 h3
    | cons y l ih =>
      have e1 : freeOf ((y :: l).drop 0) cls = none := h1
      by_cases hy : y.cls = cls ∧ ∃ r', freeIdx y.cl = some r'
      · obtain ⟨hy1, r', hy2⟩ := hy
        rw [freeOf_hit (l := y :: l) (k := 0) rfl hy1 hy2] at e1
        cases e1
      · have hn : y.cls ≠ cls ∨ freeIdx y.cl = none := by
          by_cases h4 : y.cls = cls
          · refine Or.inr ?_
            cases h5 : freeIdx y.cl with
            | none => rfl
            | some r' => exact absurd ⟨h4, r', h5⟩ hy
          · exact Or.inl h4
        rw [freeOf_skip (l := y :: l) (k := 0) rfl hn] at e1
        have e2 := freeOf_skip (l := y :: l ++ [z]) (k := 0) (cls := cls) rfl hn
        exact e2.trans (ih e1)
  refine key S.sl _ _ h rfl ?_
  obtain ⟨k, hk⟩ : ∃ k, S.slots = k + 1 := ⟨S.slots - 1, by omega⟩
  show freeIdx (List.replicate S.slots ⟨1, 0, false⟩) = _
  rw [hk, List.replicate_succ]
  exact freeIdx_hit (l := ⟨1, 0, false⟩ :: List.replicate k ⟨1, 0, false⟩) (k := 0) rfl rfl

/-- A slot is taken into use. -/
theorem CaMem.taken {w : World} {F : Nat → Prop} {c bp : Nat} {S : CaSt} {vc vs : Value} (m : CaMem w F c bp S vc vs) {x : Sl} {an : Nat} {y : Cel} (hx : x ∈ S.sl) (hy : x.cl[an]? = some y) (n : Nat) (hn : n ≤ clsN S.classes x.cls) :
    CaMem ((w.setCell ⟨x.q, an * 3 + 2, none⟩ (.bool true)).setCell ⟨x.q, an * 3 + 1, none⟩ (.int .i64 (n : Int))) F c bp (S.put { x with cl := x.cl.set an ⟨y.gen, n, true⟩ }) vc vs ∧ Touch (fun k => k = x.q) w ((w.setCell ⟨x.q, an * 3 + 2, none⟩ (.bool true)).setCell ⟨x.q, an * 3 + 1, none⟩ (.int .i64 (n : Int))) := by
  have mx := m.sl x hx
  have hk : an < x.cl.length := (List.getElem?_eq_some_iff.1 hy).1
  have hc0 := block_setCell (block_setCell mx.cel (an * 3 + 2) (.bool true)) (an * 3 + 1) (.int .i64 (n : Int))
  have hg0 : (celCells x.cl)[an * 3]? = some (.int .i64 (y.gen : Int)) := (celCells_get _ _ _ hy).1
  have hc : ((w.setCell ⟨x.q, an * 3 + 2, none⟩ (.bool true)).setCell ⟨x.q, an * 3 + 1, none⟩ (.int .i64 (n : Int))).heap[x.q]? = some (.cells (celCells (x.cl.set an ⟨y.gen, n, true⟩)).toArray 71 (0, 0)) := by
    rw [hc0, celCells_set _ _ _ hk]
    congr 2
    apply Array.ext'
    simp only [List.setIfInBounds_toArray]
    apply List.ext_getElem?
    intro j
    simp only [List.getElem?_set, List.length_set]
    by_cases j0 : an * 3 = j
    · subst j0
      have l0 := (List.getElem?_eq_some_iff.1 hg0).1
      rw [if_neg (by omega), if_neg (by omega)]
      have g0 := (List.getElem?_eq_some_iff.1 hg0).2
      simp [l0, g0]
    · by_cases j1 : an * 3 + 1 = j
      · subst j1
        simp
      · by_cases j2 : an * 3 + 2 = j
        · subst j2
          simp
        · simp [j0, j1, j2]
  have keep : ∀ k, k ≠ x.q → ((w.setCell ⟨x.q, an * 3 + 2, none⟩ (.bool true)).setCell ⟨x.q, an * 3 + 1, none⟩ (.int .i64 (n : Int))).heap[k]? = w.heap[k]? := fun k hk => (Below.heap_setCell _ _ _ _ hk).trans (Below.heap_setCell _ _ _ _ hk)
  refine ⟨m.turn hx rfl rfl rfl rfl rfl (mx.celled hc (fun k hk => keep k hk) (by rw [List.length_set]; exact mx.cl)) (fun z hz => ?_) (fun k _ _ hq => keep k hq), ?_⟩
  · rcases List.mem_or_eq_of_mem_set hz with hz | rfl
    · exact m.lens x hx z hz
    · exact ⟨(m.lens x hx y (List.mem_of_getElem? hy)).1, hn⟩
  · exact ((Touch.refl (fun k => k = x.q) w).setCell (p := ⟨x.q, an * 3 + 2, none⟩) (Or.inl rfl) _).setCell (p := ⟨x.q, an * 3 + 1, none⟩) (Or.inl rfl) _

/-- Octets of a slab are written. -/
theorem CaMem.octs {w w' : World} {F : Nat → Prop} {c bp : Nat} {S : CaSt} {vc vs : Value} (m : CaMem w F c bp S vc vs) {x : Sl} (hx : x ∈ S.sl) {cs : List Int} (hc : byteRow w' x.g cs) (hl : cs.length = x.cs.length) (hb : ∀ z ∈ cs, 0 ≤ z ∧ z ≤ 255) (ht : Touch (fun k => k = x.g) w w') :
    CaMem w' F c bp (S.put { x with cs := cs }) vc vs := by
  have mx := m.sl x hx
  have k1 : x.p ≠ x.g := fun e => by
    have h1 := mx.self
    have h2 : w.heap[x.g]? = some (Obj.cells _ 5 (0, 0)) := mx.oct
    rw [e, h2] at h1
    simp at h1
  have k2 : x.q ≠ x.g := fun e => by
    have h1 := mx.cel
    have h2 : w.heap[x.g]? = some (Obj.cells _ 5 (0, 0)) := mx.oct
    rw [e, h2] at h1
    simp at h1
  refine m.turn hx rfl rfl rfl rfl rfl ⟨(ht.block _ (lt_of mx.self) k1).trans mx.self, hc, hl.trans mx.ol, hb, (ht.block _ (lt_of mx.cel) k2).trans mx.cel, mx.cl, mx.fp, mx.fg, mx.fq⟩ (fun z hz => m.lens x hx z hz) (fun k hk h1 h2 => ht.block k hk h1)

end
end Go.Proofs.Ytiaedonhbafpjaa
