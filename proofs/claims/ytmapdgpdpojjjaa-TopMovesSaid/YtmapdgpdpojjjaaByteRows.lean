/-
  A slice of slices of bytes that came in. No conditions.
-/
import Derived.Test.YtmapdgpdpojjjaaFrame
import Derived.Test.YtmapdgpdpojjjaaFair
import Derived.Deep.Matrix
import Derived.SizedLaws
namespace Go.Proofs.Ytmapdgpdpojjjaa
open Go.ChangeShapes Go.WideShapes Go.ChangeAt Go.RowKit Go.Deep

variable {H : Type} {enc : TypeId × Value → H} {P : Program} {W : World}

/-- The rows, as lists. -/
def RowsIn (W : World) (v : Value) (zs : List (List Int)) : Prop :=
  ∃ a cap, v = .slice a zs.length cap ∧ zs.length ≤ cap ∧ cap ≤ maxLen ∧ (0 < zs.length → ∃ b o, a = some ⟨b, o, none⟩ ∧ ∀ k (hk : k < zs.length), ∃ rv, W.cell? ⟨b, o + k, none⟩ = some rv ∧ Reads W .u8 rv zs[k] ∧ zs[k].length ≤ 140737488351232 ∧ ∀ z ∈ zs[k], (Lit.int .u8 z).wf = true)

theorem weightsAll_mem {e : TypeId} {d : DataW H} {n : Nat} (hn : n ∈ d.weights P e) : ∀ {l : List (DataW H)}, d ∈ l → n ∈ DataW.weightsAll P e l
  | [], h => by simp at h
  | x :: l, h => by
    simp only [DataW.weightsAll, List.mem_append]
    rcases List.mem_cons.1 h with rfl | h
    · exact Or.inl hn
    · exact Or.inr (weightsAll_mem hn h)

theorem intRow_weight {e q : TypeId} (he : P.underlying e = some (.slice q)) (hb : P.bytesOf q = 1) {A : Option Addr} {L C : Nat} {Z : List Int} (hL : L ≤ C) (hC : Z.length = C) (h0 : A = none → C = 0) (h : ∀ n ∈ (intRow (H := H) .u8 A L Z).weights P e, n ≤ reachBytes) : L ≤ 140737488351232 := by
  cases A with
  | none => have := h0 rfl; omega
  | some a =>
    have := h _ (by unfold intRow; simp only [DataW.weights, he]; exact List.mem_cons_self ..)
    rw [hb] at this
    simp only [lits, List.length_map, List.length_take, List.length_drop] at this
    simp only [reachBytes] at this
    omega

theorem openByteRows {t e q : TypeId} {base : Nat} {v : Value} {d : DataW H} {p : List MemPlace} (ht : P.underlying t = some (.slice e)) (he : P.underlying e = some (.slice q)) (hq : P.underlying q = some (.int .u8)) (ce : P.cellsOf e = 1) (cq : P.cellsOf q = 1)
    (hbq : P.bytesOf q = 1) (hv : Value.okWide P W .any base t v) (h : DataW.Trod enc P W 0 (fun _ => true) true t v d p)
    {ts : List TypeId} {ds : List (DataW H)} {j : Nat} (hsz : (DataW.weightsEach P ts ds).all (· ≤ reachBytes) = true) (hts : ts[j]? = some t) (hds : ds[j]? = some d) : ∃ zs, RowsIn W v zs := by
  obtain ⟨a, len, cap, rfl⟩ := okWide_slice ht hv
  obtain ⟨fuel, hf⟩ := h
  rcases open_int_rows ht he hq ce cq hf with ⟨hcs, hx⟩ | ⟨x, l, c, A, L, C, Z, hcs, hb, hl, hm, hx, hel⟩
  · simp [Value.cells] at hcs
    obtain ⟨rfl, rfl, rfl⟩ := hcs
    exact ⟨[], none, 0, rfl, Nat.le_refl _, Nat.zero_le _, fun h => absurd h (by simp)⟩
  · simp [Value.cells] at hcs
    obtain ⟨rfl, rfl, rfl⟩ := hcs
    have e1 : ((List.range len).map fun r => (Z r).take (L r)).length = len := by simp
    have hd : d = .slice ((List.range len).map fun r => intRow .u8 (A r) (L r) (Z r)) ((List.range (cap - len)).map fun j => intRow .u8 (A (len + j)) (L (len + j)) (Z (len + j))) := by
      have := congrArg Prod.fst hx
      simpa using this
    have hw : ∀ k, k < len → ∀ n ∈ (intRow (H := H) .u8 (A k) (L k) (Z k)).weights P e, n ≤ reachBytes := by
      intro k hk n hn
      have h1 := List.all_eq_true.1 hsz n (DataW.weights_mem_each hts hds n (by
        rw [hd]
        simp only [DataW.weights, ht, List.mem_cons, List.mem_append]
        exact Or.inr (Or.inl (weightsAll_mem hn (List.mem_map.2 ⟨k, List.mem_range.2 hk, rfl⟩)))))
      simpa using h1
    refine ⟨(List.range len).map fun r => (Z r).take (L r), some x, cap, by rw [e1], by rw [e1]; exact hl, hm, fun h0 => ?_⟩
    rw [e1] at h0
    obtain ⟨b, off, spot⟩ := x
    have hspot : spot = none := by simpa [Addr.add] using World.cell?_spot (hel 0 (by omega)).1
    subst hspot
    refine ⟨b, off, rfl, fun k hk => ?_⟩
    rw [e1] at hk
    obtain ⟨h1, h2, h3, h4, h5, h6, h7⟩ := hel k (by omega)
    have ea : (⟨b, off, none⟩ : Addr).add k = ⟨b, off + k, none⟩ := by unfold Addr.add; split <;> simp_all
    rw [ea] at h1
    have ez : ((List.range len).map fun r => (Z r).take (L r))[k]'(by rw [e1]; exact hk) = (Z k).take (L k) := by simp
    rw [ez]
    have ll : ((Z k).take (L k)).length = L k := by rw [List.length_take]; omega
    refine ⟨_, h1, ⟨A k, C k, by rw [ll], by rw [ll]; unfold maxLen at h3; omega, fun hne => ?_⟩, by rw [ll]; exact intRow_weight he hbq h2 h4 h6 (hw k (by omega)), fun z hz => h5 z (List.mem_of_mem_take hz)⟩
    have hpos : 0 < L k := by
      rcases Nat.eq_zero_or_pos (L k) with y | y
      · rw [y] at hne; simp at hne
      · exact y
    cases hA : A k with
    | none => have := h6 hA; omega
    | some a' =>
      obtain ⟨b', o', sp⟩ := a'
      have hc := (h7 _ hA).2
      have hs : sp = none := by simpa [Addr.add] using World.cell?_spot (hc 0 (by omega))
      subst hs
      refine ⟨b', o', rfl, fun j hj => ?_⟩
      rw [ll] at hj
      have hcj := hc j (by omega)
      have eb : (⟨b', o', none⟩ : Addr).add j = ⟨b', o' + j, none⟩ := by unfold Addr.add; split <;> simp_all
      rw [eb] at hcj
      rw [hcj]
      simp [List.getD_eq_getElem?_getD, hj]

end Go.Proofs.Ytmapdgpdpojjjaa
