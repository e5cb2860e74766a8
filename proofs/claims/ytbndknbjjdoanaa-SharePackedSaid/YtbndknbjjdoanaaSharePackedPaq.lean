/-
  length and cut of parts: what they give. Conditions: numbers in their bounds.
-/
import Derived.Test.YtbndknbjjdoanaaSharePackedPap
import Derived.Test.YtbndknbjjdoanaaSharePackedPak
import Derived.Deep.Cut
import Derived.Deep.CutRange
import Derived.Deep.DeepCutAuto
namespace Go.Proofs.Ytbndknbjjdoanaa
open Go.RowKit
set_option linter.unusedVariables false

theorem ptCells_len (l : List Pt) : (ptCells l).length = l.length * 3 := by
  induction l with
  | nil => rfl
  | cons x l ih => simp only [ptCells, List.flatMap_cons, List.length_append, List.length_cons, List.length_nil] at *; omega
/-- A slice of parts, wherever it begins. -/
def PtIn (w : World) (v : Value) (l : List Pt) : Prop :=
  ∃ a cap, v = .slice a l.length cap ∧ l.length ≤ cap ∧ cap ≤ 9223372036854775807 ∧ ∀ k p, l[k]? = some p → ∃ b o, a = some ⟨b, o, none⟩ ∧ w.cell? ⟨b, o + k * 3, none⟩ = some (.int .i64 (p.b : Int)) ∧ w.cell? ⟨b, o + k * 3 + 1, none⟩ = some (.int .i64 (p.f : Int)) ∧ w.cell? ⟨b, o + k * 3 + 2, none⟩ = some (.int .i64 (p.t : Int))
theorem PtIn.row {w : World} {B e : Nat} {v : Value} {l : List Pt} (h : w.ownsRow B e 3 v l.length (ptCells l)) : PtIn w v l := by
  obtain ⟨a, c, rfl⟩ := wrow_sh h
  have hle : l.length ≤ c ∧ c ≤ 9223372036854775807 := by
    rcases h.2 with ⟨hv, h0⟩ | ⟨g, cap, cur, hv, _, _, hn, hm, _⟩
    · simp only [Value.slice.injEq] at hv; omega
    · simp only [Value.slice.injEq] at hv
      have : cap ≤ 9223372036854775807 := hm
      omega
  refine ⟨a, c, rfl, hle.1, hle.2, fun k p hk => ?_⟩
  obtain ⟨q1, q2, q3⟩ := ptCells_get l k p hk
  obtain ⟨g, rfl, c1, _⟩ := wrow_cell h q1
  obtain ⟨g', hg', c2, _⟩ := wrow_cell h q2
  obtain ⟨g2, hg2, c3, _⟩ := wrow_cell h q3
  simp only [Option.some.injEq, Addr.mk.injEq, and_true] at hg' hg2
  subst hg'
  subst hg2
  exact ⟨g, 0, rfl, by rw [Nat.zero_add]; exact c1, by rw [Nat.zero_add]; exact c2, by rw [Nat.zero_add]; exact c3⟩
theorem PtIn.below {w w' : World} {v : Value} {l : List Pt} (h : PtIn w v l) (hb : Below w.heap.size w w') : PtIn w' v l := by
  obtain ⟨a, c, h1, h2, h3, h4⟩ := h
  refine ⟨a, c, h1, h2, h3, fun k p hk => ?_⟩
  obtain ⟨b, o, e, c1, c2, c3⟩ := h4 k p hk
  have lt := World.block_lt_of_cell? w _ c1
  exact ⟨b, o, e, (hb.cell (p := ⟨b, o + k * 3, none⟩) lt).trans c1, (hb.cell (p := ⟨b, o + k * 3 + 1, none⟩) lt).trans c2, (hb.cell (p := ⟨b, o + k * 3 + 2, none⟩) lt).trans c3⟩

/-- Parts whose numbers are right. -/
def PtOk (l : List Pt) : Prop := l.length ≤ 1000 ∧ ∀ x ∈ l, x.f ≤ x.t ∧ x.t ≤ 4096 ∧ x.b ≤ 1000000000
theorem lenP_take {l : List Pt} {k : Nat} {x : Pt} (h : l[k]? = some x) : lenP (l.take (k + 1)) = lenP (l.take k) + x.n := by
  rw [List.take_add_one, h]
  simp [lenP]
theorem lenP_bd {l : List Pt} (h : ∀ x ∈ l, x.f ≤ x.t ∧ x.t ≤ 4096 ∧ x.b ≤ 1000000000) : lenP l ≤ l.length * 4096 := by
  induction l with
  | nil => simp [lenP]
  | cons x l ih =>
    have h1 := ih (fun y hy => h y (by simp [hy]))
    have h2 := h x (by simp)
    have e : lenP (x :: l) = x.n + lenP l := by simp [lenP]
    rw [e, List.length_cons]
    have : x.n ≤ 4096 := by unfold Pt.n; omega
    omega

set_option maxHeartbeats 1000000 in
set_option maxRecDepth 100000 in
theorem lengthP_any (v : Value) (l : List Pt) (w : World) (hv : PtIn w v l) (ho : PtOk l) :
    Calls Try.prog 43 #[v] w (fun e w' => e = .returned (.int .i64 (lenP l : Nat)) ∧ Below w.heap.size w w') := by
  obtain ⟨a, cap, rfl, hle, hcap, hc⟩ := hv
  have HC := Lib.hid hc
  have HO := Lib.hid ho
  have h1000 := ho.1
  clear hc ho
  go_enter Try.func43, Try.ntmps43
  go_wp2_with fail
  go_loopw [3, 8] (fun s3 i wr => ∃ k : Nat, k ≤ l.length ∧ i = .int .i64 (k : Int) ∧ s3 = .int .i64 (lenP (l.take k) : Nat) ∧ Below w.heap.size w wr) (fun _ i _ => l.length - (intOf i).toNat)
  case atStart => exact ⟨0, Nat.zero_le _, rfl, rfl, Below.refl _ _⟩
  case round =>
    obtain ⟨k, hk, rfl, rfl, hb⟩ := hrel
    have HB := Lib.hid hb
    by_cases hlt : k < l.length
    · obtain ⟨x, hx⟩ : ∃ x, l[k]? = some x := ⟨_, List.getElem?_eq_getElem hlt⟩
      obtain ⟨b, o, rfl, d0, d1, d2⟩ := HC.out k x hx
      have d0 := old_cell hb d0
      have d1 := old_cell hb d1
      have d2 := old_cell hb d2
      have xo := HO.out.2 x (List.mem_of_getElem? hx)
      have LT := Lib.hid (lenP_take hx)
      have BD := lenP_bd (l := l.take k) (fun y hy => HO.out.2 y (List.mem_of_mem_take hy))
      rw [List.length_take] at BD
      have BD : lenP (l.take k) ≤ 4096000 := by
        have : min k l.length * 4096 ≤ 1000 * 4096 := Nat.mul_le_mul_right _ (by omega)
        omega
      obtain ⟨xb, xf, xt⟩ := x
      simp only at d0 d1 d2 xo
      obtain ⟨x1, x2, x3⟩ := xo
      have hsub : ((xt : Int) - (xf : Int)) = ((xt - xf : Nat) : Int) := by omega
      obtain ⟨A, hA⟩ : ∃ A, lenP (l.take k) = A := ⟨_, rfl⟩
      rw [hA] at BD LT ⊢
      have BX := Lib.hid (HB.out.alloc HB.out.size (.cells #[.int .i64 (xb : Int), .int .i64 (xf : Int), .int .i64 (xt : Int)] 75))
      have HS := Lib.hid hsub
      clear hx hb hA hsub
      go_wp2_with fail
      go_roundw
      case measure => simp only [intOf]; omega
      case rel => exact ⟨k + 1, by omega, by go_num, by rw [LT.out]; unfold Pt.n; simp only; rw [show ((A + (xt - xf) : Nat) : Int) = (A : Int) + ((xt : Int) - (xf : Int)) by omega], BX.out⟩
    · obtain rfl : k = l.length := by omega
      rw [List.take_length]
      clear hb
      go_wp2_with fail
      go_ret
      exact ⟨rfl, HB.out⟩

end Go.Proofs.Ytbndknbjjdoanaa
