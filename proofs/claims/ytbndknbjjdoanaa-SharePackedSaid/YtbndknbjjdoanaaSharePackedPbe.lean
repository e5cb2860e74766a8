/-
  octets of a part: what it gives. Conditions: numbers in their bounds.
-/
import Derived.Test.YtbndknbjjdoanaaSharePackedPbd
namespace Go.Proofs.Ytbndknbjjdoanaa
open Go.RowKit
set_option linter.unusedVariables false

/-- A block by its number. -/
theorem PoolMem.block {w : World} {F : Nat → Prop} {h bp : Nat} {P : PoolSt} {mb ms N1 N2 : Nat} {D1 D2 : DataW Unit} (m : PoolMem w F h bp P mb ms N1 N2 D1 D2) {s : Nat} {y : Bk} (hy : lookN P.bl s = some y) (hs : s ≤ 1000000000) :
    (Instr.lookup 60 (.map (some mb)) (.int .i64 (s : Int)) false).run Try.prog w = .ok (.pointer (some ⟨y.a, 0, none⟩)) w := by
  have hz : (zeroValue 84).run Try.prog w = .ok (.pointer none) w := by kernel_rfl
  have hwf : (Lit.int .i64 (s : Int)).wf = true := WalkArith.wf_i64 (by omega)
  obtain ⟨v, ps, hrun, hv⟩ := m.m1.lookup (Maps.int_keyed Try.underlying3) Try.underlying60 hz (zd := .nil) (zp := []) rfl (Maps.keyOf_int_mk Try.underlying3 hwf)
  rw [m.l1 s .nil, hy, ptrZ_nil] at hv
  rw [hrun, ptrElem_inv hv]
  rfl
theorem PoolMem.blkOf {w : World} {F : Nat → Prop} {h bp : Nat} {P : PoolSt} {mb ms N1 N2 : Nat} {D1 D2 : DataW Unit} (m : PoolMem w F h bp P mb ms N1 N2 D1 D2) {s : Nat} {y : Bk} (hy : lookN P.bl s = some y) :
    w.heap[y.a]? = some (.cells #[.slice (some ⟨y.g, 0, none⟩) P.size P.size, .int .i64 (y.used : Int), .bool y.pin] 83 (0, 0)) ∧ byteRow w y.g y.cs ∧ y.cs.length = P.size ∧ bytes y.cs ∧ F y.a ∧ F y.g ∧ y.used ≤ P.size ∧ 1 ≤ s ∧ s ≤ P.lastB := by
  obtain ⟨n, hn, hm⟩ := lookN_mem hy
  have e : n = s := by omega
  subst e
  have h1 := m.bk _ hm
  have h2 := m.nb _ hm
  exact ⟨h1.1, h1.2.1, h1.2.2.1, h1.2.2.2.1, h1.2.2.2.2.1, h1.2.2.2.2.2.1, h1.2.2.2.2.2.2, h2.1, h2.2⟩

/-- The octets of a part, in its block. -/
def OcPost (y : Bk) (x : Pt) (w : World) : Ending → World → Prop := fun e w' => (∃ a, e = .returned (.slice a x.n x.n) ∧ (x.f < x.t → a = some ⟨y.g, x.f, none⟩)) ∧ Below w.heap.size w w'
set_option maxHeartbeats 1000000 in
set_option maxRecDepth 100000 in
theorem octets_any {w : World} {F : Nat → Prop} {h bp : Nat} {P : PoolSt} {mb ms N1 N2 : Nat} {D1 D2 : DataW Unit} (m : PoolMem w F h bp P mb ms N1 N2 D1 D2) (x : Pt) (y : Bk) (hy : lookN P.bl x.b = some y) (h1 : x.f ≤ x.t) (h2 : x.t ≤ y.used) :
    Calls Try.prog 51 #[.pointer (some ⟨h, 0, none⟩), .agg #[.int .i64 (x.b : Int), .int .i64 (x.f : Int), .int .i64 (x.t : Int)]] w (OcPost y x w) := by
  obtain ⟨xb, xf, xt⟩ := x
  simp only at hy h1 h2
  obtain ⟨b1, b2, b3, b4, b5, b6, b7, b8, b9⟩ := m.blkOf hy
  have few := m.few.2.2.2.1
  obtain ⟨s1, s2⟩ := m.sz
  have m1 := m.below ((Below.refl _ w).alloc (Nat.le_refl _) (.cells #[.int .i64 (xb : Int), .int .i64 (xf : Int), .int .i64 (xt : Int)] 75))
  have LK := fun q => (m1.below (bdrewN (Below.refl _ (w.alloc (.cells #[.int .i64 (xb : Int), .int .i64 (xf : Int), .int .i64 (xt : Int)] 75))) q)).block hy (by omega)
  obtain ⟨c0, c1, c2, c3, c4, c5, c6, c7⟩ := m1.cells
  obtain ⟨e1, e2, e3, e4, e5, e6, e7, e8, e9⟩ := m1.blkOf hy
  have d0 : (w.alloc (.cells #[.int .i64 (xb : Int), .int .i64 (xf : Int), .int .i64 (xt : Int)] 75)).cell? ⟨y.a, 0, none⟩ = some (.slice (some ⟨y.g, 0, none⟩) P.size P.size) := by rw [cell_of e1]; rfl
  have X0 : (w.alloc (.cells #[.int .i64 (xb : Int), .int .i64 (xf : Int), .int .i64 (xt : Int)] 75)).cell? ⟨w.heap.size, 0, none⟩ = some (.int .i64 (xb : Int)) := by rw [cell_of (heap_alloc_new w _)]; rfl
  have X1 : (w.alloc (.cells #[.int .i64 (xb : Int), .int .i64 (xf : Int), .int .i64 (xt : Int)] 75)).cell? ⟨w.heap.size, 1, none⟩ = some (.int .i64 (xf : Int)) := by rw [cell_of (heap_alloc_new w _)]; rfl
  have X2 : (w.alloc (.cells #[.int .i64 (xb : Int), .int .i64 (xf : Int), .int .i64 (xt : Int)] 75)).cell? ⟨w.heap.size, 2, none⟩ = some (.int .i64 (xt : Int)) := by rw [cell_of (heap_alloc_new w _)]; rfl
  have BW := Lib.hid ((Below.refl _ w).alloc (Nat.le_refl _) (.cells #[.int .i64 (xb : Int), .int .i64 (xf : Int), .int .i64 (xt : Int)] 75))
  have HF := Lib.hid (And.intro h1 h2)
  clear m m1 b1 b2 b3 b4 b5 b6 e1 e2 e3 e4 e5 e6 hy
  go_enter Try.func51, Try.ntmps51
  go_upto_region 1 with fail
  generalize w.alloc (.cells #[.int .i64 (xb : Int), .int .i64 (xf : Int), .int .i64 (xt : Int)] 75) = W1 at *
  generalize hbx : w.heap.size = bx at *
  go_quiet (fail)
  go_wp2_with fail
  · go_ret
    exact ⟨⟨some ⟨y.g, 0, none⟩, by rw [show Pt.n ⟨xb, xf, xf⟩ = 0 from Nat.sub_self _]; rfl, fun hlt => absurd hlt (Nat.lt_irrefl _)⟩, bdrewN (hbx ▸ BW.out) _⟩
  · go_ret
    exact ⟨⟨_, rfl, fun _ => rfl⟩, bdrewN (hbx ▸ BW.out) _⟩

end Go.Proofs.Ytbndknbjjdoanaa
