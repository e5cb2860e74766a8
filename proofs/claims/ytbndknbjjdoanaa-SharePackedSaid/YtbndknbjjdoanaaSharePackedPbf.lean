/-
  copied, between of a pool: what they give. Conditions: numbers in their bounds.
-/
import Derived.Test.YtbndknbjjdoanaaSharePackedPbe
import Derived.Test.YtbndknbjjdoanaaSharePackedPav
namespace Go.Proofs.Ytbndknbjjdoanaa
open Go.RowKit
set_option linter.unusedVariables false

/-- Parts of blocks that are there. -/
def PtsOf (P : PoolSt) (l : List Pt) : Prop := ∀ x ∈ l, ∃ y, lookN P.bl x.b = some y ∧ x.f ≤ x.t ∧ x.t ≤ y.used
theorem PtsOf.ok {w : World} {F : Nat → Prop} {h bp : Nat} {P : PoolSt} {mb ms N1 N2 : Nat} {D1 D2 : DataW Unit} (m : PoolMem w F h bp P mb ms N1 N2 D1 D2) {l : List Pt} (hl : l.length ≤ 1000) (h : PtsOf P l) : PtOk l := by
  refine ⟨hl, fun x hx => ?_⟩
  obtain ⟨y, h1, h2, h3⟩ := h x hx
  have hb := m.blkOf h1
  have := hb.2.2.2.2.2.2
  have h4 := m.sz.2
  have h5 := m.few.2.2.2.1
  exact ⟨h2, by omega, by omega⟩
theorem oct_of {P : PoolSt} {b : Nat} {y : Bk} (h : lookN P.bl b = some y) : P.oct b = y.cs := by
  unfold PoolSt.oct
  rw [h]
theorem PtsOf.okM {w : World} {F : Nat → Prop} {h bp : Nat} {P : PoolSt} {mb ms N1 N2 : Nat} {D1 D2 : DataW Unit} (m : PoolMem w F h bp P mb ms N1 N2 D1 D2) {l : List Pt} (h : PtsOf P l) : ∀ x ∈ l, x.ok P.oct := fun x hx => by
  obtain ⟨y, h1, h2, h3⟩ := h x hx
  have hb := m.blkOf h1
  refine ⟨h2, ?_⟩
  rw [oct_of h1, hb.2.2.1]
  omega
theorem oc_reads {w : World} {F : Nat → Prop} {h bp : Nat} {P : PoolSt} {mb ms N1 N2 : Nat} {D1 D2 : DataW Unit} (m : PoolMem w F h bp P mb ms N1 N2 D1 D2) {x : Pt} {y : Bk} (hy : lookN P.bl x.b = some y) (h1 : x.f ≤ x.t) (h2 : x.t ≤ y.used) {a : Option Addr} (ha : x.f < x.t → a = some ⟨y.g, x.f, none⟩) : Reads w .u8 (.slice a x.n x.n) (octPt P.oct x) := by
  have hb := m.blkOf hy
  have hl : x.t ≤ y.cs.length := by omega
  have s2 := m.sz.2
  have hlen : (octPt P.oct x).length = x.n := octPt_len ⟨h1, by rw [oct_of hy]; exact hl⟩
  refine ⟨a, x.n, by rw [hlen], by rw [hlen]; unfold Pt.n; omega, fun hne => ?_⟩
  have hn : 0 < x.n := by
    rw [← hlen]
    exact List.length_pos_iff.2 hne
  unfold Pt.n at hn
  refine ⟨y.g, x.f, ha (by omega), fun j hj => ?_⟩
  rw [hlen] at hj
  unfold Pt.n at hj
  rw [hb.2.1.cell (x.f + j) (by omega)]
  unfold octPt
  rw [oct_of hy]
  simp only [List.getD_eq_getElem?_getD, List.getElem?_drop]
  rw [List.getElem?_take_of_lt (by omega)]
theorem octP_take {M : Nat → List Int} {l : List Pt} {k : Nat} {x : Pt} (h : l[k]? = some x) : octP M (l.take (k + 1)) = octP M (l.take k) ++ octPt M x := by
  rw [List.take_add_one, h, octP_app]
  simp [octP]

set_option maxHeartbeats 1000000 in
set_option maxRecDepth 100000 in
theorem copiedP_any {w : World} {F : Nat → Prop} {h bp : Nat} {P : PoolSt} {mb ms N1 N2 : Nat} {D1 D2 : DataW Unit} (m : PoolMem w F h bp P mb ms N1 N2 D1 D2) (v : Value) (l : List Pt) (hv : PtIn w v l) (hl : l.length ≤ 1000) (ho : PtsOf P l) :
    Calls Try.prog 44 #[.pointer (some ⟨h, 0, none⟩), v] w (OwnBytes (octP P.oct l) w) := by
  have hok := ho.ok m hl
  have hM := ho.okM m
  obtain ⟨a, cap, rfl, hle, hcap, hc⟩ := hv
  have HC := Lib.hid hc
  have HO := Lib.hid ho
  have HK := Lib.hid hok
  have HM := Lib.hid m
  have HOM := Lib.hid hM
  clear hc ho hok m hM
  go_enter Try.func44, Try.ntmps44
  go_wp2_with fail
  go_loopw [5, 10] (fun s5 i wr => ∃ k : Nat, k ≤ l.length ∧ i = .int .i64 (k : Int) ∧ wr.ownsRow w.heap.size 5 1 s5 (octP P.oct (l.take k)).length ((octP P.oct (l.take k)).map (Value.int .u8)) ∧ Below w.heap.size w wr) (fun _ i _ => l.length - (intOf i).toNat)
  case atStart => exact ⟨0, Nat.zero_le _, rfl, World.ownsRow_nil _ _ _ _, Below.refl _ _⟩
  case round =>
    obtain ⟨k, hk, rfl, hrow, hb⟩ := hrel
    have HB := Lib.hid hb
    have HR := Lib.hid hrow
    by_cases hlt : k < l.length
    · obtain ⟨x, hx⟩ : ∃ x, l[k]? = some x := ⟨_, List.getElem?_eq_getElem hlt⟩
      obtain ⟨b, o, rfl, d0, d1, d2⟩ := HC.out k x hx
      have d0 := old_cell hb d0
      have d1 := old_cell hb d1
      have d2 := old_cell hb d2
      have xm := List.mem_of_getElem? hx
      obtain ⟨y, hy, y1, y2⟩ := HO.out x xm
      have LT := Lib.hid (octP_take (M := P.oct) hx)
      have BD := lenP_bd (l := l.take k) (fun y hy => HK.out.2 y (List.mem_of_mem_take hy))
      rw [List.length_take, ← octP_len (M := P.oct) (fun y hy => HOM.out y (List.mem_of_mem_take hy))] at BD
      have BD : (octP P.oct (l.take k)).length ≤ 4096000 := by
        have : min k l.length * 4096 ≤ 1000 * 4096 := Nat.mul_le_mul_right _ (by omega)
        omega
      have XL : (octPt P.oct x).length ≤ 4096 := by
        rw [octPt_len (HOM.out x xm)]
        have := (HK.out.2 x xm).2.1
        unfold Pt.n
        omega
      obtain ⟨xb, xf, xt⟩ := x
      have BX := HB.out.alloc HB.out.size (.cells #[.int .i64 (xb : Int), .int .i64 (xf : Int), .int .i64 (xt : Int)] 75)
      have X0 : (wr.alloc (.cells #[.int .i64 (xb : Int), .int .i64 (xf : Int), .int .i64 (xt : Int)] 75)).cell? ⟨wr.heap.size, 0, none⟩ = some (.int .i64 (xb : Int)) := by rw [cell_of (heap_alloc_new wr _)]; rfl
      have X1 : (wr.alloc (.cells #[.int .i64 (xb : Int), .int .i64 (xf : Int), .int .i64 (xt : Int)] 75)).cell? ⟨wr.heap.size, 1, none⟩ = some (.int .i64 (xf : Int)) := by rw [cell_of (heap_alloc_new wr _)]; rfl
      have X2 : (wr.alloc (.cells #[.int .i64 (xb : Int), .int .i64 (xf : Int), .int .i64 (xt : Int)] 75)).cell? ⟨wr.heap.size, 2, none⟩ = some (.int .i64 (xt : Int)) := by rw [cell_of (heap_alloc_new wr _)]; rfl
      have RW := Lib.hid (row_kept HR.out ((Below.refl _ wr).alloc (Nat.le_refl _) (.cells #[.int .i64 (xb : Int), .int .i64 (xf : Int), .int .i64 (xt : Int)] 75)))
      have MX := HM.out.below BX
      have BW := Lib.hid BX
      have OC := Lib.hid (octets_any MX ⟨xb, xf, xt⟩ y hy y1 y2)
      have HY := Lib.hid (And.intro hy (And.intro y1 y2))
      simp only at d0 d1 d2
      clear hx hb hrow BX MX hy y1 y2 xm
      go_upto_region 5 with fail
      clear d0 d1 d2
      generalize wr.alloc (.cells #[.int .i64 (xb : Int), .int .i64 (xf : Int), .int .i64 (xt : Int)] 75) = W1 at *
      generalize wr.heap.size = bx at *
      go_wp2_with fail
      refine OC.out.mono ?_
      rintro e w2 ⟨⟨a2, rfl, ha2⟩, hb2⟩
      have BW2 := Lib.hid (BW.out.trans (hb2.mono BW.out.size))
      have R2 := Lib.hid (oc_reads (HM.out.below BW2.out) HY.out.1 HY.out.2.1 HY.out.2.2 ha2)
      have RW2 := Lib.hid (row_kept RW.out hb2)
      have hsz2 := BW2.out.size
      clear ha2 hb2 X0 X1 X2
      obtain ⟨os, hos⟩ : ∃ os, octPt P.oct ⟨xb, xf, xt⟩ = os := ⟨_, rfl⟩
      obtain ⟨cs, hcs⟩ : ∃ cs, octP P.oct (l.take k) = cs := ⟨_, rfl⟩
      obtain ⟨nx, hnx⟩ : ∃ nx, Pt.n ⟨xb, xf, xt⟩ = nx := ⟨_, rfl⟩
      rw [hos, hnx] at R2
      rw [hos] at XL LT
      rw [hcs] at RW2 BD LT
      rw [hnx]
      clear hos hcs hnx
      go_wp2_with (at_builtin; go_must (refine wpList_append_reads rfl (.tmp 14) (.tmp 17) rfl w.heap.size w2 _ cs.length cs rfl RW2.out _ os rfl R2.out (by omega) hsz2 ?_))
      intro v' w4 hown' hg4
      have FIN := Lib.hid (show w4.ownsRow w.heap.size 5 1 v' (octP P.oct (l.take (k + 1))).length ((octP P.oct (l.take (k + 1))).map (Value.int .u8)) by rw [LT.out, List.length_append, List.map_append]; exact hown')
      have B4 := Lib.hid (BW2.out.grown hg4 BW2.out.size (fun q e => (RW2.out.lt q e).1))
      clear hown' hg4
      go_wp2_with fail
      go_roundw
      case measure => simp only [intOf]; omega
      case rel => exact ⟨k + 1, by omega, by go_num, FIN.out, B4.out⟩
    · obtain rfl : k = l.length := by omega
      rw [List.take_length] at hrow
      have FIN := Lib.hid (And.intro hrow hb)
      clear hrow hb HR
      go_wp2_with fail
      go_ret
      exact ⟨_, rfl, FIN.out.1, FIN.out.2⟩

end Go.Proofs.Ytbndknbjjdoanaa
