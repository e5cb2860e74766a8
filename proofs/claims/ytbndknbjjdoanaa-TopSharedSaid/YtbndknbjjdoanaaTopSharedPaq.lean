/-
  octets of a part: what it gives. Conditions: numbers in their bounds.
  copied, between of a pool: what they give. Conditions: numbers in their bounds.
  between of a pool: what it gives. Conditions: numbers in their bounds.
  A region that draws its order, in a round of a range over a function: by a plan. No conditions.
-/
import Derived.Test.YtbndknbjjdoanaaTopSharedPap
import Derived.Test.YtbndknbjjdoanaaTopSharedPal
import Derived.RangeFuncNested
import Derived.RangeFuncCalls
import Derived.OrdersIn
import Derived.TacticsIn
import Derived.Test.YtbndknbjjdoanaaTopSharedPak

namespace Go.Proofs.Ytbndknbjjdoanaa
section
open Go.RowKit
set_option linter.unusedVariables false

/-- A block by its number. -/
theorem PoolMem.block {w : World} {F : Nat → Prop} {h bp : Nat} {P : PoolSt} {mb ms N1 N2 : Nat} {D1 D2 : DataW Unit} (m : PoolMem w F h bp P mb ms N1 N2 D1 D2) {s : Nat} {y : Bk} (hy : lookN P.bl s = some y) (hs : s ≤ 1000000000) :
    (Instr.lookup 60 (.map (some mb)) (.int .i64 (s : Int)) false).run Try.prog w = .ok (.pointer (some ⟨y.a, 0, none⟩)) w := by
  have hz : (zeroValue 84).run Try.prog w = .ok (.pointer none) w := by kernel_rfl
  have hwf : (Lit.int .i64 (s : Int)).wf = true := WalkArith.wf_i64 (by omega)
  obtain ⟨v, ps, hrun, hv⟩ := m.m1.lookup (Maps.int_keyed Try.underlying3) Try.underlying60 hz (zd := .nil) (zp := []) rfl (Maps.keyOf_int_mk Try.underlying3 hwf)
  rw [m.l1 s .nil, hy, ptrZ_nil] at hv
  rw [hrun, ptrElem_inv hv]
  rfl
theorem PoolMem.blkOf {w : World} {F : Nat → Prop} {h bp : Nat} {P : PoolSt} {mb ms N1 N2 : Nat} {D1 D2 : DataW Unit} (m : PoolMem w F h bp P mb ms N1 N2 D1 D2) {s : Nat} {y : Bk} (hy : lookN P.bl s = some y) :
    w.heap[y.a]? = some (.cells #[.slice (some ⟨y.g, 0, none⟩) P.size P.size, .int .i64 (y.used : Int), .bool y.pin] 83 (0, 0)) ∧ byteRow w y.g y.cs ∧ y.cs.length = P.size ∧ bytes y.cs ∧ F y.a ∧ F y.g ∧ y.used ≤ P.size ∧ 1 ≤ s ∧ s ≤ P.lastB := by
  obtain ⟨n, hn, hm⟩ := lookN_mem hy
  have e : n = s := by omega
  subst e
  have h1 := m.bk _ hm
  have h2 := m.nb _ hm
  exact ⟨h1.1, h1.2.1, h1.2.2.1, h1.2.2.2.1, h1.2.2.2.2.1, h1.2.2.2.2.2.1, h1.2.2.2.2.2.2, h2.1, h2.2⟩

/-- The octets of a part, in its block. -/
def OcPost (y : Bk) (x : Pt) (w : World) : Ending → World → Prop := fun e w' => (∃ a, e = .returned (.slice a x.n x.n) ∧ (x.f < x.t → a = some ⟨y.g, x.f, none⟩)) ∧ Below w.heap.size w w'
set_option maxHeartbeats 1000000 in
set_option maxRecDepth 100000 in
theorem octets_any {w : World} {F : Nat → Prop} {h bp : Nat} {P : PoolSt} {mb ms N1 N2 : Nat} {D1 D2 : DataW Unit} (m : PoolMem w F h bp P mb ms N1 N2 D1 D2) (x : Pt) (y : Bk) (hy : lookN P.bl x.b = some y) (h1 : x.f ≤ x.t) (h2 : x.t ≤ y.used) :
    Calls Try.prog 51 #[.pointer (some ⟨h, 0, none⟩), .agg #[.int .i64 (x.b : Int), .int .i64 (x.f : Int), .int .i64 (x.t : Int)]] w (OcPost y x w) := by
  obtain ⟨xb, xf, xt⟩ := x
  simp only at hy h1 h2
  obtain ⟨b1, b2, b3, b4, b5, b6, b7, b8, b9⟩ := m.blkOf hy
  have few := m.few.2.2.2.1
  obtain ⟨s1, s2⟩ := m.sz
  have m1 := m.below ((Below.refl _ w).alloc (Nat.le_refl _) (.cells #[.int .i64 (xb : Int), .int .i64 (xf : Int), .int .i64 (xt : Int)] 75))
  have LK := fun q => (m1.below (bdrewN (Below.refl _ (w.alloc (.cells #[.int .i64 (xb : Int), .int .i64 (xf : Int), .int .i64 (xt : Int)] 75))) q)).block hy (by omega)
  obtain ⟨c0, c1, c2, c3, c4, c5, c6, c7⟩ := m1.cells
  obtain ⟨e1, e2, e3, e4, e5, e6, e7, e8, e9⟩ := m1.blkOf hy
  have d0 : (w.alloc (.cells #[.int .i64 (xb : Int), .int .i64 (xf : Int), .int .i64 (xt : Int)] 75)).cell? ⟨y.a, 0, none⟩ = some (.slice (some ⟨y.g, 0, none⟩) P.size P.size) := by rw [cell_of e1]; rfl
  have X0 : (w.alloc (.cells #[.int .i64 (xb : Int), .int .i64 (xf : Int), .int .i64 (xt : Int)] 75)).cell? ⟨w.heap.size, 0, none⟩ = some (.int .i64 (xb : Int)) := by rw [cell_of (heap_alloc_new w _)]; rfl
  have X1 : (w.alloc (.cells #[.int .i64 (xb : Int), .int .i64 (xf : Int), .int .i64 (xt : Int)] 75)).cell? ⟨w.heap.size, 1, none⟩ = some (.int .i64 (xf : Int)) := by rw [cell_of (heap_alloc_new w _)]; rfl
  have X2 : (w.alloc (.cells #[.int .i64 (xb : Int), .int .i64 (xf : Int), .int .i64 (xt : Int)] 75)).cell? ⟨w.heap.size, 2, none⟩ = some (.int .i64 (xt : Int)) := by rw [cell_of (heap_alloc_new w _)]; rfl
  have BW := Lib.hid ((Below.refl _ w).alloc (Nat.le_refl _) (.cells #[.int .i64 (xb : Int), .int .i64 (xf : Int), .int .i64 (xt : Int)] 75))
  have HF := Lib.hid (And.intro h1 h2)
  clear m m1 b1 b2 b3 b4 b5 b6 e1 e2 e3 e4 e5 e6 hy
  go_enter Try.func51, Try.ntmps51
  go_upto_region 1 with fail
  generalize w.alloc (.cells #[.int .i64 (xb : Int), .int .i64 (xf : Int), .int .i64 (xt : Int)] 75) = W1 at *
  generalize hbx : w.heap.size = bx at *
  go_quiet (fail)
  go_wp2_with fail
  · go_ret
    exact ⟨⟨some ⟨y.g, 0, none⟩, by rw [show Pt.n ⟨xb, xf, xf⟩ = 0 from Nat.sub_self _]; rfl, fun hlt => absurd hlt (Nat.lt_irrefl _)⟩, bdrewN (hbx ▸ BW.out) _⟩
  · go_ret
    exact ⟨⟨_, rfl, fun _ => rfl⟩, bdrewN (hbx ▸ BW.out) _⟩

end
end Go.Proofs.Ytbndknbjjdoanaa

namespace Go.Proofs.Ytbndknbjjdoanaa
section
open Go.RowKit
set_option linter.unusedVariables false

/-- Parts of blocks that are there. -/
def PtsOf (P : PoolSt) (l : List Pt) : Prop := ∀ x ∈ l, ∃ y, lookN P.bl x.b = some y ∧ x.f ≤ x.t ∧ x.t ≤ y.used
theorem PtsOf.ok {w : World} {F : Nat → Prop} {h bp : Nat} {P : PoolSt} {mb ms N1 N2 : Nat} {D1 D2 : DataW Unit} (m : PoolMem w F h bp P mb ms N1 N2 D1 D2) {l : List Pt} (hl : l.length ≤ 1000) (h : PtsOf P l) : PtOk l := by
  refine ⟨hl, fun x hx => ?_⟩
  obtain ⟨y, h1, h2, h3⟩ := h x hx
  have hb := m.blkOf h1
  have := hb.2.2.2.2.2.2
  have h4 := m.sz.2
  have h5 := m.few.2.2.2.1
  exact ⟨h2, by omega, by omega⟩
theorem oct_of {P : PoolSt} {b : Nat} {y : Bk} (h : lookN P.bl b = some y) : P.oct b = y.cs := by
  unfold PoolSt.oct
  rw [h]
theorem PtsOf.okM {w : World} {F : Nat → Prop} {h bp : Nat} {P : PoolSt} {mb ms N1 N2 : Nat} {D1 D2 : DataW Unit} (m : PoolMem w F h bp P mb ms N1 N2 D1 D2) {l : List Pt} (h : PtsOf P l) : ∀ x ∈ l, x.ok P.oct := fun x hx => by
  obtain ⟨y, h1, h2, h3⟩ := h x hx
  have hb := m.blkOf h1
  refine ⟨h2, ?_⟩
  rw [oct_of h1, hb.2.2.1]
  omega
theorem oc_reads {w : World} {F : Nat → Prop} {h bp : Nat} {P : PoolSt} {mb ms N1 N2 : Nat} {D1 D2 : DataW Unit} (m : PoolMem w F h bp P mb ms N1 N2 D1 D2) {x : Pt} {y : Bk} (hy : lookN P.bl x.b = some y) (h1 : x.f ≤ x.t) (h2 : x.t ≤ y.used) {a : Option Addr} (ha : x.f < x.t → a = some ⟨y.g, x.f, none⟩) : Reads w .u8 (.slice a x.n x.n) (octPt P.oct x) := by
  have hb := m.blkOf hy
  have hl : x.t ≤ y.cs.length := by omega
  have s2 := m.sz.2
  have hlen : (octPt P.oct x).length = x.n := octPt_len ⟨h1, by rw [oct_of hy]; exact hl⟩
  refine ⟨a, x.n, by rw [hlen], by rw [hlen]; unfold Pt.n; omega, fun hne => ?_⟩
  have hn : 0 < x.n := by
    rw [← hlen]
    exact List.length_pos_iff.2 hne
  unfold Pt.n at hn
  refine ⟨y.g, x.f, ha (by omega), fun j hj => ?_⟩
  rw [hlen] at hj
  unfold Pt.n at hj
  rw [hb.2.1.cell (x.f + j) (by omega)]
  unfold octPt
  rw [oct_of hy]
  simp only [List.getD_eq_getElem?_getD, List.getElem?_drop]
  rw [List.getElem?_take_of_lt (by omega)]
theorem octP_take {M : Nat → List Int} {l : List Pt} {k : Nat} {x : Pt} (h : l[k]? = some x) : octP M (l.take (k + 1)) = octP M (l.take k) ++ octPt M x := by
  rw [List.take_add_one, h, octP_app]
  simp [octP]

set_option maxHeartbeats 1000000 in
set_option maxRecDepth 100000 in
theorem copiedP_any {w : World} {F : Nat → Prop} {h bp : Nat} {P : PoolSt} {mb ms N1 N2 : Nat} {D1 D2 : DataW Unit} (m : PoolMem w F h bp P mb ms N1 N2 D1 D2) (v : Value) (l : List Pt) (hv : PtIn w v l) (hl : l.length ≤ 1000) (ho : PtsOf P l) :
    Calls Try.prog 44 #[.pointer (some ⟨h, 0, none⟩), v] w (OwnBytes (octP P.oct l) w) := by
  have hok := ho.ok m hl
  have hM := ho.okM m
  obtain ⟨a, cap, rfl, hle, hcap, hc⟩ := hv
  have HC := Lib.hid hc
  have HO := Lib.hid ho
  have HK := Lib.hid hok
  have HM := Lib.hid m
  have HOM := Lib.hid hM
  clear hc ho hok m hM
  go_enter Try.func44, Try.ntmps44
  go_wp2_with fail
  go_loopw [5, 10] (fun s5 i wr => ∃ k : Nat, k ≤ l.length ∧ i = .int .i64 (k : Int) ∧ wr.ownsRow w.heap.size 5 1 s5 (octP P.oct (l.take k)).length ((octP P.oct (l.take k)).map (Value.int .u8)) ∧ Below w.heap.size w wr) (fun _ i _ => l.length - (intOf i).toNat)
  case atStart => exact ⟨0, Nat.zero_le _, rfl, World.ownsRow_nil _ _ _ _, Below.refl _ _⟩
  case round =>
    obtain ⟨k, hk, rfl, hrow, hb⟩ := hrel
    have HB := Lib.hid hb
    have HR := Lib.hid hrow
    by_cases hlt : k < l.length
    · obtain ⟨x, hx⟩ : ∃ x, l[k]? = some x := ⟨_, List.getElem?_eq_getElem hlt⟩
      obtain ⟨b, o, rfl, d0, d1, d2⟩ := HC.out k x hx
      have d0 := old_cell hb d0
      have d1 := old_cell hb d1
      have d2 := old_cell hb d2
      have xm := List.mem_of_getElem? hx
      obtain ⟨y, hy, y1, y2⟩ := HO.out x xm
      have LT := Lib.hid (octP_take (M := P.oct) hx)
      have BD := lenP_bd (l := l.take k) (fun y hy => HK.out.2 y (List.mem_of_mem_take hy))
      rw [List.length_take, ← octP_len (M := P.oct) (fun y hy => HOM.out y (List.mem_of_mem_take hy))] at BD
      have BD : (octP P.oct (l.take k)).length ≤ 4096000 := by
        have : min k l.length * 4096 ≤ 1000 * 4096 := Nat.mul_le_mul_right _ (by omega)
        omega
      have XL : (octPt P.oct x).length ≤ 4096 := by
        rw [octPt_len (HOM.out x xm)]
        have := (HK.out.2 x xm).2.1
        unfold Pt.n
        omega
      obtain ⟨xb, xf, xt⟩ := x
      have BX := HB.out.alloc HB.out.size (.cells #[.int .i64 (xb : Int), .int .i64 (xf : Int), .int .i64 (xt : Int)] 75)
      have X0 : (wr.alloc (.cells #[.int .i64 (xb : Int), .int .i64 (xf : Int), .int .i64 (xt : Int)] 75)).cell? ⟨wr.heap.size, 0, none⟩ = some (.int .i64 (xb : Int)) := by rw [cell_of (heap_alloc_new wr _)]; rfl
      have X1 : (wr.alloc (.cells #[.int .i64 (xb : Int), .int .i64 (xf : Int), .int .i64 (xt : Int)] 75)).cell? ⟨wr.heap.size, 1, none⟩ = some (.int .i64 (xf : Int)) := by rw [cell_of (heap_alloc_new wr _)]; rfl
      have X2 : (wr.alloc (.cells #[.int .i64 (xb : Int), .int .i64 (xf : Int), .int .i64 (xt : Int)] 75)).cell? ⟨wr.heap.size, 2, none⟩ = some (.int .i64 (xt : Int)) := by rw [cell_of (heap_alloc_new wr _)]; rfl
      have RW := Lib.hid (row_kept HR.out ((Below.refl _ wr).alloc (Nat.le_refl _) (.cells #[.int .i64 (xb : Int), .int .i64 (xf : Int), .int .i64 (xt : Int)] 75)))
      have MX := HM.out.below BX
      have BW := Lib.hid BX
      have OC := Lib.hid (octets_any MX ⟨xb, xf, xt⟩ y hy y1 y2)
      have HY := Lib.hid (And.intro hy (And.intro y1 y2))
      simp only at d0 d1 d2
      clear hx hb hrow BX MX hy y1 y2 xm
      go_upto_region 5 with fail
      clear d0 d1 d2
      generalize wr.alloc (.cells #[.int .i64 (xb : Int), .int .i64 (xf : Int), .int .i64 (xt : Int)] 75) = W1 at *
      generalize wr.heap.size = bx at *
      go_wp2_with fail
      refine OC.out.mono ?_
      rintro e w2 ⟨⟨a2, rfl, ha2⟩, hb2⟩
      have BW2 := Lib.hid (BW.out.trans (hb2.mono BW.out.size))
      have R2 := Lib.hid (oc_reads (HM.out.below BW2.out) HY.out.1 HY.out.2.1 HY.out.2.2 ha2)
      have RW2 := Lib.hid (row_kept RW.out hb2)
      have hsz2 := BW2.out.size
      clear ha2 hb2 X0 X1 X2
      obtain ⟨os, hos⟩ : ∃ os, octPt P.oct ⟨xb, xf, xt⟩ = os := ⟨_, rfl⟩
      obtain ⟨cs, hcs⟩ : ∃ cs, octP P.oct (l.take k) = cs := ⟨_, rfl⟩
      obtain ⟨nx, hnx⟩ : ∃ nx, Pt.n ⟨xb, xf, xt⟩ = nx := ⟨_, rfl⟩
      rw [hos, hnx] at R2
      rw [hos] at XL LT
      rw [hcs] at RW2 BD LT
      rw [hnx]
      clear hos hcs hnx
      go_wp2_with (at_builtin; go_must (refine wpList_append_reads rfl (.tmp 14) (.tmp 17) rfl w.heap.size w2 _ cs.length cs rfl RW2.out _ os rfl R2.out (by omega) hsz2 ?_))
      intro v' w4 hown' hg4
      have FIN := Lib.hid (show w4.ownsRow w.heap.size 5 1 v' (octP P.oct (l.take (k + 1))).length ((octP P.oct (l.take (k + 1))).map (Value.int .u8)) by rw [LT.out, List.length_append, List.map_append]; exact hown')
      have B4 := Lib.hid (BW2.out.grown hg4 BW2.out.size (fun q e => (RW2.out.lt q e).1))
      clear hown' hg4
      go_wp2_with fail
      go_roundw
      case measure => simp only [intOf]; omega
      case rel => exact ⟨k + 1, by omega, by go_num, FIN.out, B4.out⟩
    · obtain rfl : k = l.length := by omega
      rw [List.take_length] at hrow
      have FIN := Lib.hid (And.intro hrow hb)
      clear hrow hb HR
      go_wp2_with fail
      go_ret
      exact ⟨_, rfl, FIN.out.1, FIN.out.2⟩

end
end Go.Proofs.Ytbndknbjjdoanaa

namespace Go.Proofs.Ytbndknbjjdoanaa
section
open Go.RowKit
set_option linter.unusedVariables false

/-- What between answers. -/
def btE (n : Nat) (f t : Int) : Int := if 0 ≤ f ∧ f ≤ n ∧ f ≤ t ∧ t ≤ n then 0 else 2
theorem PoolMem.str {w : World} {F : Nat → Prop} {h bp : Nat} {P : PoolSt} {mb ms N1 N2 : Nat} {D1 D2 : DataW Unit} (m : PoolMem w F h bp P mb ms N1 N2 D1 D2) {s : Int} {o : Option (Nat × Nat × Nat)} {l : List Pt} (hs : lookN P.st s = some (o, l)) :
    w.ownsRow 0 75 3 (rowOf o) l.length (ptCells l) ∧ (∀ k, (rowOf o).ownBlock = some k → F k) ∧ PtsOf P l ∧ l.length ≤ 500 ∧ lenP l ≤ 100000 ∧ PtIn w (rowOf o) l ∧ PtOk l := by
  obtain ⟨n, hn, hm⟩ := lookN_mem hs
  have h1 := m.st _ hm
  have h2 : l.length ≤ 500 ∧ lenP l ≤ 100000 := m.few.2.2.1 _ hm
  have h3 : PtsOf P l := m.pt _ hm
  exact ⟨h1.1, h1.2, h3, h2.1, h2.2, PtIn.row h1.1, h3.ok m (by omega)⟩

def BwPost (P : PoolSt) (s f t : Int) (w : World) : Ending → World → Prop := fun e w' => Below w.heap.size w w' ∧ match lookN P.st s with
  | none => e = .returned (.tuple #[.slice none 0 0, .int .i64 13])
  | some x => e = .returned (.tuple #[if btE (lenP x.2) f t = 0 then rowOf x.1 else .slice none 0 0, .int .i64 (btE (lenP x.2) f t)])

set_option maxHeartbeats 1000000 in
set_option maxRecDepth 100000 in
theorem between_any' {w : World} {F : Nat → Prop} {h bp : Nat} {P : PoolSt} {mb ms N1 N2 : Nat} {D1 D2 : DataW Unit} (m : PoolMem w F h bp P mb ms N1 N2 D1 D2) (s f t : Int) (hs : -9223372036854775808 ≤ s ∧ s ≤ 9223372036854775807) :
    Calls Try.prog 35 #[.pointer (some ⟨h, 0, none⟩), .int .i64 s, .int .i64 f, .int .i64 t] w (BwPost P s f t w) := by
  have FI := Lib.hid (findP_any m s hs)
  cases hl : lookN P.st s with
  | none =>
    have HL := Lib.hid hl
    clear hl m
    go_enter Try.func35, Try.ntmps35
    go_wp2_with fail
    refine FI.out.mono ?_
    rintro e w2 ⟨rfl, he⟩
    rw [HL.out] at he
    obtain rfl := he
    go_wp2_with fail
    go_ret2
    refine ⟨Below.refl _ _, ?_⟩
    rw [HL.out]
    rfl
  | some x =>
    obtain ⟨o, l⟩ := x
    obtain ⟨a1, a2, a3, a4, a5, a6, a7⟩ := m.str hl
    obtain ⟨ra, rc, hrow, r1, r2, r3⟩ := a6
    have HL := Lib.hid hl
    have LE := Lib.hid (fun W (hW : Below w.heap.size w W) => lengthP_any (rowOf o) l W ((PtIn.row a1).below hW) a7)
    obtain ⟨N, hN⟩ : ∃ N, lenP l = N := ⟨_, rfl⟩
    have HN := Lib.hid hN
    rw [hN] at LE a5
    rw [hrow] at LE
    clear hl m a1 a2 a3 a4 a7 r1 r2 r3 hN
    go_enter Try.func35, Try.ntmps35
    go_wp2_with fail
    refine FI.out.mono ?_
    rintro e w2 ⟨rfl, he⟩
    rw [HL.out] at he
    obtain rfl := he
    rw [hrow]
    go_wp2_with fail
    refine (LE.out _ (Below.refl _ _)).mono ?_
    rintro e w3 ⟨rfl, hb3⟩
    by_cases hf : 0 ≤ f ∧ f ≤ (N : Int)
    · go_wp2_with fail
      refine (within_share_yes _ _ _ _ hf.1 hf.2).mono ?_
      rintro e w' ⟨rfl, rfl⟩
      have B3 := Lib.hid hb3
      have HF := Lib.hid hf
      clear hb3 hf
      go_wp2_with fail
      refine (LE.out _ B3.out).mono ?_
      rintro e w4 ⟨rfl, hb4⟩
      have B4 := Lib.hid (B3.out.trans (hb4.mono B3.out.size))
      clear hb4
      by_cases ht : f ≤ t ∧ t ≤ (N : Int)
      · have E := Lib.hid (show btE (lenP l) f t = 0 by rw [HN.out]; exact if_pos ⟨HF.out.1, HF.out.2, ht.1, ht.2⟩)
        have WY := Lib.hid (within_share_yes t f N w4 ht.1 ht.2)
        clear ht
        go_wp2_with fail
        refine WY.out.mono ?_
        rintro e w' ⟨rfl, rfl⟩
        go_wp2_with fail
        go_ret2
        refine ⟨B4.out, ?_⟩
        rw [HL.out]
        simp only
        rw [E.out, if_pos rfl, hrow]
        rfl
      · have E := Lib.hid (show btE (lenP l) f t = 2 by rw [HN.out]; exact if_neg (fun hx => ht ⟨hx.2.2.1, hx.2.2.2⟩))
        have WY := Lib.hid (within_share_no t f N w4 ht)
        clear ht
        go_wp2_with fail
        refine WY.out.mono ?_
        rintro e w' ⟨rfl, rfl⟩
        go_wp2_with fail
        go_ret2
        refine ⟨B4.out, ?_⟩
        rw [HL.out]
        simp only
        rw [E.out, if_neg (by decide)]
        rfl
    · have E := Lib.hid (show btE (lenP l) f t = 2 by rw [HN.out]; exact if_neg (fun hx => hf ⟨hx.1, hx.2.1⟩))
      have WY := Lib.hid (within_share_no f 0 N w3 hf)
      have B3 := Lib.hid hb3
      clear hb3 hf
      go_wp2_with fail
      refine WY.out.mono ?_
      rintro e w' ⟨rfl, rfl⟩
      go_wp2_with fail
      go_ret2
      refine ⟨B3.out, ?_⟩
      rw [HL.out]
      simp only
      rw [E.out, if_neg (by decide)]
      rfl

end
end Go.Proofs.Ytbndknbjjdoanaa

namespace Go.Proofs.Ytbndknbjjdoanaa
section
open Go Go.RowKit
set_option linter.unusedVariables false

section
variable {P : Program} {ops : Array Oper} {Q : Exit → Act → World → Prop} {md : Region.Mode} {S T : World → Prop} {n : Nat}

theorem oper_round (l m : Nat) {o : Oper} {a : Act} {w : World} {K : Act → World → Prop} (hnd : ∀ c, o.op ≠ .defer c) (h : o.wp P a w K Q) : o.wpIn (Fence.wide.inRound l) m P a w K Q := by
  refine ⟨fun _ _ => trivial, ?_⟩
  rw [Fence.inRound_round, Oper.semAt_some _ _ _ hnd]
  unfold Oper.wp at h
  generalize (execOp a.eval o).run P w = r at *
  cases r with
  | ok x w' =>
    cases x <;> simp only [Oper.upon, Oper.uponIn] at h ⊢
    case value => exact h
    case skip => exact h
    case defer => exact h
    case enter f args => exact ⟨(fun hx => by cases hx), CallsIn.inRound l (callsIn_wide.2 h)⟩
    case row row args =>
      refine ⟨(fun hx => by cases hx), fun c cs _ => ?_⟩
      obtain ⟨v, w2, h1, h2⟩ := h c cs
      exact ⟨v, w2, h1, stepsIn_wide.2 h2⟩
  | halt x w' => cases x <;> simp only [Oper.upon, Oper.uponIn] at h ⊢ <;> exact h

def noDefer (ops : Array Oper) : Bool := ops.all fun o => match o.op with | .defer .. => false | _ => true
theorem noDefer_spec (h : noDefer ops = true) (j : Nat) (o : Oper) (ho : ops[j]? = some o) (c : Call) : o.op ≠ .defer c := by
  intro heq
  have := Array.all_eq_true_iff_forall_mem.1 h o (Array.mem_of_getElem? ho)
  simp [heq] at this

theorem wpAnyIn_round (l m : Nat) (hnd : noDefer ops = true) (hL : ¬ LetsOut Q) : ∀ (fuel : Nat) (listed : Array Bool) (a : Act) (w : World), wpAny P md ops Q fuel listed a w → wpAnyIn (Fence.wide.inRound l) m P md ops Q fuel listed a w
  | 0, _, _, _, h => h
  | fuel + 1, listed, a, w, h => ⟨h.1, fun i hi => by
    have h1 := h.2 i hi
    unfold wpOp at h1
    unfold wpOpIn
    split
    · rename_i ho; simp only [ho] at h1; exact wpAnyIn_round l m hnd hL _ _ _ _ h1
    · rename_i o ho
      simp only [ho] at h1
      split
      · rename_i hw
        simp only [hw, if_true] at h1
        rcases h1 with h1 | ⟨_, h1⟩
        · exact oper_round l m (noDefer_spec hnd i o ho) (Oper.wp_mono (fun a w hx => wpAnyIn_round l m hnd hL _ _ _ _ hx) h1)
        · exact absurd h1 hL
      · rename_i hw
        simp only [hw] at h1
        exact ⟨fun _ _ => trivial, wpAnyIn_round l m hnd hL _ _ _ _ h1⟩⟩

theorem wpIn_region_plan {id m : Nat} (lr : Nat) {a : Act} {w : World} {l : List Oper} (n : Nat) (S : World → Prop) (hm : P.follows .mixedOrders = true) (hnd : noDefer l.toArray = true)
    (h : wpN P l.toArray (fun e a w => match e with | .normal => Q .normal a w | _ => False) S n [] a w.drew) : (Code.region id l.toArray true).wpIn (Fence.wide.inRound lr) m P Q a w :=
  Code.wpIn_mono (fun e a w h => by cases e <;> first | exact h | exact h.elim) (wpIn_region_any hm (wpAnyIn_round lr m hnd (fun ⟨_, _, hx⟩ => hx) _ _ _ _ (wpAny_of_plan _ _ _ _ h)))

end

end
end Go.Proofs.Ytbndknbjjdoanaa
