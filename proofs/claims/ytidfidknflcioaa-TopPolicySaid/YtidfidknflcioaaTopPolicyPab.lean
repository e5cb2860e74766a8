/-
  Opening of arguments for the rows of this seat: integers, slices of integers, policies. No conditions.
-/
import Derived.Test.YtidfidknflcioaaTopPolicyPaa
import Derived.SizedLaws
import Derived.ShutString
import Derived.Lib.SmallJoins
namespace Go.Proofs.Ytidfidknflcioaa
open Go.ChangeShapes Go.WideShapes Go.ChangeAt Go.RowKit
open Go.ChangeMaps (open_string shut_string)

def LawPost (w : World) : Ending → World → Prop := fun e w' => e = .returned (.bool true) ∧ Below w.heap.size w w'

variable {H : Type} {enc : TypeId × Value → H} {P : Program} {W : World}

theorem range_i64 {n : Int} (h : (Lit.int .i64 n).wf = true) : -9223372036854775808 ≤ n ∧ n ≤ 9223372036854775807 := by
  simpa [Lit.wf, IntKind.min, IntKind.max, IntKind.signed, IntKind.bits] using h
theorem range_u8 {n : Int} (h : (Lit.int .u8 n).wf = true) : 0 ≤ n ∧ n ≤ 255 := by
  simpa [Lit.wf, IntKind.min, IntKind.max, IntKind.signed, IntKind.bits] using h

/-- A slice of integers that came in. -/
structure RowIn (W : World) (k : IntKind) (bytes : Nat) (v : Value) (zs : List Int) : Prop where
  reads : Reads W k v zs
  wf : ∀ z ∈ zs, (Lit.int k z).wf = true
  reach : zs.length * bytes ≤ 140737488351232

theorem openRow {t e : TypeId} {k : IntKind} {base : Nat} {v : Value} {d : DataW H} {p : List MemPlace} {ts : List TypeId} {ds : List (DataW H)} {j : Nat} (ht : P.underlying t = some (.slice e)) (he : P.underlying e = some (.int k)) (hc : P.cellsOf e = 1)
    (hv : Value.okWide P W .any base t v) (h : DataW.Trod enc P W 0 (fun _ => true) true t v d p)
    (hsz : (DataW.weightsEach P ts ds).all (· ≤ reachBytes) = true) (hts : ts[j]? = some t) (hds : ds[j]? = some d) :
    ∃ zs, RowIn W k (P.bytesOf e) v zs := by
  obtain ⟨a, len, cap, rfl⟩ := okWide_slice ht hv
  obtain ⟨fuel, hf⟩ := h
  rcases open_ints ht he hc hf with ⟨hcs, hx⟩ | ⟨x, l, c, zs, hcs, _, hl, hm, hz, hx, hcell, hwz⟩
  · simp [Value.cells] at hcs
    obtain ⟨rfl, rfl, rfl⟩ := hcs
    exact ⟨[], ⟨none, 0, rfl, by simp, fun h => absurd rfl h⟩, by simp, by simp⟩
  · simp [Value.cells] at hcs
    obtain ⟨rfl, rfl, rfl⟩ := hcs
    have hz' : zs.length = cap := by simpa using hz
    have hlen : (zs.take len).length = len := by simp; omega
    have hd : d = .slice (lits k (zs.take len)) (lits k (zs.drop len)) := by
      have := congrArg Prod.fst hx
      simpa using this
    have hr := sized_slice hsz hts (hd ▸ hds) ht
    have hl1 : (lits k (zs.take len) : List (DataW H)).length = len := by simp [lits]; omega
    rw [hl1] at hr
    refine ⟨zs.take len, ⟨some x, cap, by rw [hlen], by rw [hlen]; unfold maxLen at hm; omega, fun hne => ?_⟩, fun z hz => hwz z (List.mem_of_mem_take hz), ?_⟩
    · have h0 : 0 < len := by
        rcases Nat.eq_zero_or_pos len with h0 | h0
        · subst h0; simp at hne
        · exact h0
      obtain ⟨b, off, spot⟩ := x
      have h00 := hcell 0 (by omega)
      have hspot : spot = none := by simpa [Addr.add] using World.cell?_spot h00
      subst hspot
      refine ⟨b, off, rfl, fun j hj => ?_⟩
      rw [hlen] at hj
      have := hcell j (by omega)
      have e1 : (⟨b, off, none⟩ : Addr).add j = ⟨b, off + j, none⟩ := by unfold Addr.add; split <;> simp_all
      rw [e1] at this
      rw [this]
      simp [hj]
    · rw [hlen]
      have h1 : len * P.bytesOf e ≤ (len + (lits k (zs.drop len) : List (DataW H)).length) * P.bytesOf e := Nat.mul_le_mul_right _ (by omega)
      simp only [reachBytes] at hr
      omega

end Go.Proofs.Ytidfidknflcioaa
