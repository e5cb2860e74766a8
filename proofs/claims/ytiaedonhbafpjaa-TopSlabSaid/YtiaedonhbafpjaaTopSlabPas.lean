/-
  A cache of slots in memory; the search of a slab, of a free slot. No conditions but bounds.
-/
import Derived.Test.YtiaedonhbafpjaaTopSlabPai
import Derived.Test.YtiaedonhbafpjaaTopSlabPan
import Derived.Test.YtiaedonhbafpjaaTopSlabPap
import Derived.Test.YtiaedonhbafpjaaTopSlabPaq
import Derived.Test.YtiaedonhbafpjaaTopSlabPar
import Derived.Test.YtiaedonhbafpjaaTopSlabPaj
import Derived.Test.YtiaedonhbafpjaaTopSlabPak
import Derived.Shelf.Abstract
namespace Go.Proofs.Ytiaedonhbafpjaa
open Go.RowKit
set_option linter.unusedVariables false

structure Cel where
  gen : Nat
  len : Nat
  used : Bool
/-- A slab in memory: where its numbers lie, its octets, its cells. -/
structure Sl where
  p : Nat
  g : Nat
  q : Nat
  no : Nat
  cls : Nat
  cs : List Int
  cl : List Cel
structure CaSt where
  classes : List Int
  slots : Nat
  last : Nat
  closed : Bool
  sl : List Sl
def Cel.vals (x : Cel) : List Value := [.int .i64 (x.gen : Int), .int .i64 (x.len : Int), .bool x.used]
def celCells (l : List Cel) : List Value := l.flatMap Cel.vals
theorem celCells_cons (x : Cel) (l : List Cel) : celCells (x :: l) = .int .i64 (x.gen : Int) :: .int .i64 (x.len : Int) :: .bool x.used :: celCells l := by simp [celCells, Cel.vals]
theorem celCells_len (l : List Cel) : (celCells l).length = l.length * 3 := by
  induction l with
  | nil => rfl
  | cons x l ih => rw [celCells_cons]; simp only [List.length_cons, ih]; omega
theorem celCells_get (l : List Cel) (k : Nat) (x : Cel) (h : l[k]? = some x) : (celCells l)[k * 3]? = some (.int .i64 (x.gen : Int)) ∧ (celCells l)[k * 3 + 1]? = some (.int .i64 (x.len : Int)) ∧ (celCells l)[k * 3 + 2]? = some (.bool x.used) := by
  induction l generalizing k with
  | nil => simp at h
  | cons y l ih =>
    rw [celCells_cons]
    cases k with
    | zero => simp at h; subst h; exact ⟨rfl, rfl, rfl⟩
    | succ k =>
      have := ih k (by simpa using h)
      rw [Nat.succ_mul]
      exact ⟨by simpa using this.1, by simpa [Nat.add_assoc] using this.2.1, by simpa [Nat.add_assoc] using this.2.2⟩
theorem celCells_set (l : List Cel) (k : Nat) (x : Cel) (hk : k < l.length) : celCells (l.set k x) = (((celCells l).set (k * 3) (.int .i64 (x.gen : Int))).set (k * 3 + 1) (.int .i64 (x.len : Int))).set (k * 3 + 2) (.bool x.used) := by
  induction l generalizing k with
  | nil => simp at hk
  | cons y l ih =>
    cases k with
    | zero => rw [List.set_cons_zero, celCells_cons, celCells_cons]; rfl
    | succ k =>
      rw [List.set_cons_succ, celCells_cons, celCells_cons, ih k (by simpa using hk), Nat.succ_mul]
      rfl
/-- The octets of a slot of a class. -/
def clsN (zs : List Int) (i : Nat) : Nat := (zs.getD i 0).toNat
def CaSt.room (S : CaSt) (cls : Nat) : Nat := S.slots * clsN S.classes cls

structure SlMem (w : World) (F : Nat → Prop) (S : CaSt) (x : Sl) : Prop where
  self : w.heap[x.p]? = some (.cells #[.int .i64 (x.no : Int), .int .i64 (x.cls : Int), .slice (some ⟨x.g, 0, none⟩) (S.room x.cls) (S.room x.cls), .slice (some ⟨x.q, 0, none⟩) S.slots S.slots] 82 (0, 0))
  oct : byteRow w x.g x.cs
  ol : x.cs.length = S.room x.cls
  ob : bytes x.cs
  cel : w.heap[x.q]? = some (.cells (celCells x.cl).toArray 71 (0, 0))
  cl : x.cl.length = S.slots
  fp : F x.p
  fg : F x.g
  fq : F x.q
structure CaMem (w : World) (F : Nat → Prop) (c bp : Nat) (S : CaSt) (vc vs : Value) : Prop where
  self : w.heap[c]? = some (.cells #[.pointer (some ⟨bp, 0, none⟩), .int .i64 1, vc, .int .i64 (S.slots : Int), .bool S.closed, .int .i64 (S.last : Int), vs] 65 (0, 0))
  fc : F c
  cls : w.ownsRow 0 3 1 vc S.classes.length (S.classes.map (Value.int .i64)) ∧ ∀ k, vc.ownBlock = some k → F k
  row : w.ownsRow 0 76 1 vs S.sl.length (S.sl.map fun x => .pointer (some ⟨x.p, 0, none⟩)) ∧ ∀ k, vs.ownBlock = some k → F k
  sl : ∀ x ∈ S.sl, SlMem w F S x
  ip : (S.sl.map Sl.p).Nodup
  ig : (S.sl.map Sl.g).Nodup
  iq : (S.sl.map Sl.q).Nodup
  nos : (S.sl.map Sl.no).Pairwise (· < ·)
  nb : ∀ x ∈ S.sl, 1 ≤ x.no ∧ x.no ≤ S.last ∧ x.cls < S.classes.length
  cok : clsErr S.classes = 0
  sz : 1 ≤ S.slots ∧ S.slots ≤ 64
  few : S.sl.length ≤ 500 ∧ S.last ≤ 1000000000
  lens : ∀ x ∈ S.sl, ∀ y ∈ x.cl, y.gen ≤ 1000000000 ∧ y.len ≤ clsN S.classes x.cls
theorem SlMem.same {w w' : World} {F : Nat → Prop} {S : CaSt} {x : Sl} (m : SlMem w F S x) (hs : ∀ k, F k → k < w.heap.size → w'.heap[k]? = w.heap[k]?) : SlMem w' F S x :=
  ⟨(hs _ m.fp (lt_of m.self)).trans m.self, (hs _ m.fg (lt_of m.oct)).trans m.oct, m.ol, m.ob, (hs _ m.fq (lt_of m.cel)).trans m.cel, m.cl, m.fp, m.fg, m.fq⟩
theorem CaMem.same {w w' : World} {F : Nat → Prop} {c bp : Nat} {S : CaSt} {vc vs : Value} (m : CaMem w F c bp S vc vs) (hs : ∀ k, F k → k < w.heap.size → w'.heap[k]? = w.heap[k]?) : CaMem w' F c bp S vc vs :=
  ⟨(hs _ m.fc (lt_of m.self)).trans m.self, m.fc, ⟨ownsRow_same m.cls.1 (fun k hk => hs k (m.cls.2 k hk) (m.cls.1.lt k hk).2), m.cls.2⟩, ⟨ownsRow_same m.row.1 (fun k hk => hs k (m.row.2 k hk) (m.row.1.lt k hk).2), m.row.2⟩, fun x hx => (m.sl x hx).same hs, m.ip, m.ig, m.iq, m.nos, m.nb, m.cok, m.sz, m.few, m.lens⟩
theorem CaMem.below {w w' : World} {F : Nat → Prop} {c bp : Nat} {S : CaSt} {vc vs : Value} (m : CaMem w F c bp S vc vs) (hb : Below w.heap.size w w') : CaMem w' F c bp S vc vs := m.same (fun k _ hk => hb.block k hk)
theorem CaMem.cells {w : World} {F : Nat → Prop} {c bp : Nat} {S : CaSt} {vc vs : Value} (m : CaMem w F c bp S vc vs) :
    w.cell? ⟨c, 0, none⟩ = some (.pointer (some ⟨bp, 0, none⟩)) ∧ w.cell? ⟨c, 1, none⟩ = some (.int .i64 1) ∧ w.cell? ⟨c, 2, none⟩ = some vc ∧ w.cell? ⟨c, 3, none⟩ = some (.int .i64 (S.slots : Int)) ∧ w.cell? ⟨c, 4, none⟩ = some (.bool S.closed) ∧ w.cell? ⟨c, 5, none⟩ = some (.int .i64 (S.last : Int)) ∧ w.cell? ⟨c, 6, none⟩ = some vs := by
  refine ⟨?_, ?_, ?_, ?_, ?_, ?_, ?_⟩ <;> (rw [cell_of m.self]; rfl)
theorem SlMem.cells {w : World} {F : Nat → Prop} {S : CaSt} {x : Sl} (m : SlMem w F S x) :
    w.cell? ⟨x.p, 0, none⟩ = some (.int .i64 (x.no : Int)) ∧ w.cell? ⟨x.p, 1, none⟩ = some (.int .i64 (x.cls : Int)) ∧ w.cell? ⟨x.p, 2, none⟩ = some (.slice (some ⟨x.g, 0, none⟩) (S.room x.cls) (S.room x.cls)) ∧ w.cell? ⟨x.p, 3, none⟩ = some (.slice (some ⟨x.q, 0, none⟩) S.slots S.slots) := by
  refine ⟨?_, ?_, ?_, ?_⟩ <;> (rw [cell_of m.self]; rfl)
theorem SlMem.cell {w : World} {F : Nat → Prop} {S : CaSt} {x : Sl} (m : SlMem w F S x) {k : Nat} {y : Cel} (hy : x.cl[k]? = some y) :
    w.cell? ⟨x.q, k * 3, none⟩ = some (.int .i64 (y.gen : Int)) ∧ w.cell? ⟨x.q, k * 3 + 1, none⟩ = some (.int .i64 (y.len : Int)) ∧ w.cell? ⟨x.q, k * 3 + 2, none⟩ = some (.bool y.used) := by
  obtain ⟨h1, h2, h3⟩ := celCells_get _ _ _ hy
  refine ⟨?_, ?_, ?_⟩ <;> (rw [cell_of m.cel]; simpa)
theorem CaMem.slice {w : World} {F : Nat → Prop} {c bp : Nat} {S : CaSt} {vc vs : Value} (m : CaMem w F c bp S vc vs) : ∃ a cap, vs = .slice a S.sl.length cap ∧ S.sl.length ≤ cap ∧ cap ≤ 9223372036854775807 ∧ ∀ k x, S.sl[k]? = some x → ∃ g, a = some ⟨g, 0, none⟩ ∧ w.cell? ⟨g, k, none⟩ = some (.pointer (some ⟨x.p, 0, none⟩)) := by
  rcases m.row.1.2 with ⟨h1, h2⟩ | ⟨g, cap, cur, h1, _, hg, hle, hmx, hsz, htk⟩
  · refine ⟨none, 0, by rw [h1, h2], by omega, by omega, fun k x hx => ?_⟩
    have := (List.getElem?_eq_some_iff.1 hx).1
    omega
  · unfold maxLen at hmx
    refine ⟨_, cap, h1, hle, by omega, fun k x hx => ⟨g, rfl, ?_⟩⟩
    have hk := (List.getElem?_eq_some_iff.1 hx).1
    rw [cell_of hg]
    have h3 := congrArg (fun l => l[k]?) htk
    simp only [Nat.mul_one] at h3
    rw [List.getElem?_take_of_lt hk, List.getElem?_map, hx] at h3
    rw [← Array.getElem?_toList, h3]
    rfl

/-- A slab by its number. -/
def slabOf (l : List Sl) (no : Int) : Option Sl := l.find? fun x => decide ((x.no : Int) = no)
theorem slabOf_some {l : List Sl} {no : Int} {x : Sl} (h : slabOf l no = some x) : x ∈ l ∧ (x.no : Int) = no := by
  have h1 := List.mem_of_find?_eq_some h
  have h2 := List.find?_some h
  exact ⟨h1, by simpa using h2⟩
theorem slabOf_at {l : List Sl} (hn : (l.map Sl.no).Pairwise (· < ·)) {x : Sl} (hx : x ∈ l) : slabOf l (x.no : Int) = some x := by
  induction l with
  | nil => simp at hx
  | cons y l ih =>
    rw [List.map_cons, List.pairwise_cons] at hn
    unfold slabOf
    rw [List.find?_cons]
    rcases List.mem_cons.1 hx with rfl | hx
    · simp
    · have h1 := hn.1 x.no (List.mem_map_of_mem hx)
      have h2 : ¬ (y.no : Int) = (x.no : Int) := by omega
      simp only [h2, decide_false]
      exact ih hn.2 hx
theorem slabOf_none {l : List Sl} {no : Int} (h : ∀ x ∈ l, (x.no : Int) ≠ no) : slabOf l no = none := by
  unfold slabOf
  rw [List.find?_eq_none]
  intro x hx
  simpa using h x hx

end Go.Proofs.Ytiaedonhbafpjaa
