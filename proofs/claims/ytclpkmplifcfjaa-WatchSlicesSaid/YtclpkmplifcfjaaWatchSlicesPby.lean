/-
  The map of cells (a memory's number, a place): a cell more; how many there are, as Cover counts. No conditions but bounds.
-/
import Derived.Maps.OwnSet
import Derived.WideKeyPair
import Derived.Test.YtclpkmplifcfjaaWatchSlicesPbx
import Derived.Test.YtclpkmplifcfjaaWatchSlicesPbl
namespace Go.Proofs.Ytclpkmplifcfjaa
open Go.RowKit Go.Shelf
set_option linter.unusedVariables false

theorem arrCell : WideMaps.ArrKey Try.prog 49 3 2 := ⟨Try.underlying49, by kernel_rfl, by kernel_rfl, by kernel_rfl⟩
theorem cellLaw : WideMaps.KeyLaw Try.prog 49 := arrCell.law
def cellVal (m k : Nat) : Value := .agg #[.int .i64 (m : Int), .int .i64 (k : Int)]
def cellKey (m k : Nat) : Lit := .string (keyBytes [.int .i64 (m : Int), .int .i64 (k : Int)])
theorem cell_key {m k : Nat} (hm : m ≤ 1000) (hk : k ≤ 1000) : Go.keyOf Try.prog 49 (cellVal m k) = some (cellKey m k) :=
  WideMaps.keyOf_pair arrCell Try.underlying3 ⟨_, rfl⟩ (WalkArith.wf_i64 (by omega)) (WalkArith.wf_i64 (by omega))
theorem cellKey_inj {m k m' k' : Nat} (hm : m ≤ 1000) (hk : k ≤ 1000) (hm' : m' ≤ 1000) (hk' : k' ≤ 1000) (h : cellKey m k = cellKey m' k') : m = m' ∧ k = k' := by
  have e := cellLaw.inj (cell_key hm hk) (h ▸ cell_key hm' hk')
  simp only [cellVal, Value.agg.injEq, Array.mk.injEq, List.cons.injEq, Value.int.injEq, true_and, and_true] at e
  omega

structure CellsAt (W : World) (mb : Nat) (xs : List (Wn × Option Addr)) (gOf : Nat → Nat) (s : CovS) (D : DataW Unit) : Prop where
  map : W.ownsMap Try.prog 49 (plainElem Try.prog 4) mb s.2 D
  size : Maps.size D = s.2
  has : ∀ m k, m ≤ 2 → k ≤ 60 → anyHas xs (gOf m) k = true → (Maps.has D (cellKey m k) = true ↔ s.1 (gOf m) k ≠ 0)
def CellsIn (W : World) (mb : Nat) (xs : List (Wn × Option Addr)) (gOf : Nat → Nat) (s : CovS) : Prop := ∃ D, CellsAt W mb xs gOf s D
def covPut (s : CovS) (g i : Nat) : CovS := if s.1 g i = 0 then (fun g' i' => if g' = g ∧ i' = i then 1 else s.1 g' i', s.2 + 1) else s
theorem covIn_put (x : Wn) (m : Nat) (s : CovS) : covIn x (m + 1) s = covPut (covIn x m s) x.g (x.o + m) := rfl

theorem CellsIn.same {W W' : World} {mb : Nat} {xs : List (Wn × Option Addr)} {gOf : Nat → Nat} {s : CovS} (h : CellsIn W mb xs gOf s) (hm : W'.heap[mb]? = W.heap[mb]?) : CellsIn W' mb xs gOf s := by
  obtain ⟨D, h1, h2, h3⟩ := h
  exact ⟨D, ownsMap_same h1 hm, h2, h3⟩

theorem CellsIn.put {W : World} {mb : Nat} {xs : List (Wn × Option Addr)} {gOf : Nat → Nat} {s : CovS} (h : CellsIn W mb xs gOf s) (hinj : ∀ a b, a ≤ 2 → b ≤ 2 → gOf a = gOf b → a = b)
    (m k : Nat) (hm : m ≤ 2) (hk : k ≤ 60) (hs : s.2 ≤ 100000) (hh : anyHas xs (gOf m) k = true) :
    ∃ W', (Instr.mapUpdate 45 (.map (some mb)) (cellVal m k) (.bool true)).run Try.prog W = .ok () W' ∧ CellsIn W' mb xs gOf (covPut s (gOf m) k) ∧ W.grownBy W' (some mb) := by
  obtain ⟨D, h1, h2, h3⟩ := h
  have K := Maps.Keyed.of_law cellLaw
  have key := cell_key (m := m) (k := k) (by omega) (by omega)
  have hkl : WideAt.IsKeyLit (cellKey m k) := K.key key
  obtain ⟨W', hrun, hown, hgr⟩ := h1.update K Try.underlying45 (by unfold maxLen; omega) key (val := .bool true) (plainElem_bool Try.underlying4 true)
  have htidy := h1.tidy K
  have hsz := Maps.size_put (k := cellKey m k) htidy (.lit (.bool true))
  have hin := h3 m k hm hk hh
  have others : ∀ m' k', m' ≤ 2 → k' ≤ 60 → ¬ (m' = m ∧ k' = k) → Maps.has (D.put (cellKey m k) (.lit (.bool true))) (cellKey m' k') = Maps.has D (cellKey m' k') := fun m' k' a1 a2 a3 =>
    Maps.has_put_other (fun e => a3 (cellKey_inj (by omega) (by omega) (by omega) (by omega) e)) _
  refine ⟨W', hrun, ⟨D.put (cellKey m k) (.lit (.bool true)), ?_⟩, hgr⟩
  unfold covPut
  by_cases h0 : s.1 (gOf m) k = 0
  · rw [if_pos h0]
    have hno : Maps.has D (cellKey m k) = false := by
      cases hb : Maps.has D (cellKey m k) with
      | false => rfl
      | true => exact absurd h0 (hin.1 hb)
    rw [hno] at hsz
    simp only [Bool.false_eq_true, if_false] at hsz
    refine ⟨hown.mono (by simp only; omega), by rw [hsz, h2], fun m' k' a1 a2 a3 => ?_⟩
    by_cases e : m' = m ∧ k' = k
    · obtain ⟨rfl, rfl⟩ := e
      rw [Maps.has_put_same htidy.isMap hkl]
      simp
    · rw [others m' k' a1 a2 e, h3 m' k' a1 a2 a3]
      have : ¬ (gOf m' = gOf m ∧ k' = k) := fun ⟨x1, x2⟩ => e ⟨hinj m' m a1 hm x1, x2⟩
      simp only [if_neg this]
  · rw [if_neg h0]
    have hyes := hin.2 h0
    rw [hyes] at hsz
    simp only [if_true] at hsz
    have htight : W'.ownsMap Try.prog 49 (plainElem Try.prog 4) mb s.2 (D.put (cellKey m k) (.lit (.bool true))) := by
      obtain ⟨es, clock, hb, F, _, hD⟩ := hown
      refine ⟨es, clock, hb, F, ?_, hD⟩
      have e1 : Maps.size (DataW.map (List.foldr DataW.insert [] (List.map (WideElems.rg Try.prog 49 (plainElem (H := Unit) Try.prog 4)) es.toList))) = es.size := by simp [Maps.size, length_sorted]
      rw [← e1, ← hD, hsz, h2]
      exact Nat.le_refl _
    refine ⟨htight, by rw [hsz, h2], fun m' k' a1 a2 a3 => ?_⟩
    by_cases e : m' = m ∧ k' = k
    · obtain ⟨rfl, rfl⟩ := e
      rw [Maps.has_put_same htidy.isMap hkl]
      simp [h0]
    · rw [others m' k' a1 a2 e, h3 m' k' a1 a2 a3]

theorem zeroed_in {xs : List (Wn × Option Addr)} {M : Nat → Nat → Int} {g i : Nat} (h : anyHas xs g i = true) : zeroed xs M g i = 0 := by
  unfold zeroed
  rw [if_pos h]
theorem CellsIn.start (w : World) (xs : List (Wn × Option Addr)) (gOf : Nat → Nat) (M : Nat → Nat → Int) : CellsIn (w.alloc (.map #[] 0)) w.heap.size xs gOf (zeroed xs M, 0) :=
  ⟨.map [], World.ownsMap_made _ _ _ _, rfl, fun m k _ _ hh => by
    simp only [zeroed_in hh]
    simp [Maps.has]⟩

/-- A map's update whose run is known. -/
theorem wpList_update_run {P : Program} {ops : Array Oper} {rest : List Oper} {o : Oper} {a : Act} {w w' : World} {Q : Exit → Act → World → Prop} (hg : o.guard = none) (m x v : Operand) (t : TypeId) (hop : o.op = Op.mapUpdate t m x v) {mv xv vv : Value}
    (hm : a.eval m = mv) (hx : a.eval x = xv) (hv : a.eval v = vv) (hrun : (Instr.mapUpdate t mv xv vv).run P w = .ok () w') (hK : wpList P ops Q rest (a.put o.dst undef) w') : wpList P ops Q (o :: rest) a w := by
  refine wpList_plain hg fun K' hK' => ?_
  unfold Oper.wp
  simp [execOp, hop, hm, hx, hv, hrun, Result.andThen]
  exact hK' _ _ hK

end Go.Proofs.Ytclpkmplifcfjaa
