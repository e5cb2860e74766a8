/-
  The leads' map: an element more at a key. No conditions.
-/
import Derived.Maps.OwnSet
import Derived.Test.YtclpkmplifcfjaaWatchSlicesPbq
namespace Go.Proofs.Ytclpkmplifcfjaa
open Go.RowKit Go.Shelf
set_option linter.unusedVariables false

theorem litN_ne {a b : Nat} (h : a ≠ b) : (Lit.int .i64 (a : Int)) ≠ Lit.int .i64 (b : Int) := fun e => h (by simp only [Lit.int.injEq, true_and] at e; omega)

theorem Leads.put {w w2 w3 : World} {B mb N n : Nat} {S : Nat → Option (Nat × Nat × Nat)} {D : DataW Unit} {L : Nat → List Nat} (h : Leads w B mb N n S D L) {a : Nat} (ha : a < n) {x g cap : Nat}
    (hrow : w2.ownsRow B 3 1 (.slice (some ⟨g, 0, none⟩) ((L a).length + 1) cap) ((L a).length + 1) (natCells (L a) ++ [.int .i64 (x : Int)]))
    (hgr : ∀ k, k < w.heap.size → (rowOf (S a)).ownBlock ≠ some k → w2.heap[k]? = w.heap[k]?) (hpl : (rowOf (S a)).ownBlock = some g ∨ w.heap.size ≤ g)
    (hm : w3.ownsMap Try.prog 3 rowElem mb (N + 1) (D.put (.int .i64 (a : Int)) (rowD (some (g, (L a).length + 1, cap))))) (hg3 : w2.grownBy w3 (some mb)) :
    Leads w3 B mb (N + 1) n (fun j => if j = a then some (g, (L a).length + 1, cap) else S j) (D.put (.int .i64 (a : Int)) (rowD (some (g, (L a).length + 1, cap)))) (fun j => if j = a then L a ++ [x] else L j) := by
  have hmap := h.map.isMap
  have hmlt := h.map.lt
  have nmb : ∀ (j k : Nat), j < n → (rowOf (S j)).ownBlock = some k → k ≠ mb := fun j k hj hk e => by
    obtain ⟨cur, hb⟩ := row_block (h.row j hj) hk
    obtain ⟨es, clock, hb2, _⟩ := h.map
    rw [e, hb2] at hb
    cases hb
  have hgm : g ≠ mb := by
    rcases hpl with e | e
    · exact nmb a g ha e
    · omega
  have h2lt : ∀ (j k : Nat), j < n → (rowOf (S j)).ownBlock = some k → k < w.heap.size := fun j k hj hk => ((h.row j hj).lt k hk).2
  refine ⟨hm, fun j hj => ?_, fun j hj => ?_, fun j j' k hj hj' hk hk' => ?_⟩
  · by_cases e : j = a
    · subst e
      rw [Maps.atKey_put_same hmap (by simp [WideAt.IsKeyLit]), if_pos rfl]
    · rw [Maps.atKey_put_other (litN_ne e), h.look j hj, if_neg e]
  · by_cases e : j = a
    · subst e
      simp only [if_true]
      have e2 : (L j ++ [x]).length = (L j).length + 1 := by simp
      rw [e2]
      have e3 : natCells (L j ++ [x]) = natCells (L j) ++ [.int .i64 (x : Int)] := by simp [natCells]
      rw [e3]
      refine ownsRow_same hrow (fun k hk => ?_)
      have hk' : g = k := Option.some.inj hk
      subst hk'
      exact hg3.block _ (hrow.lt _ rfl).2 (fun e => hgm (Option.some.inj e))
    · simp only [if_neg e]
      refine ownsRow_same (h.row j hj) (fun k hk => ?_)
      have hkl := h2lt j k hj hk
      have h1 : w2.heap[k]? = w.heap[k]? := hgr k hkl (fun hka => e (h.inj j a k hj ha hk hka))
      have hk2 : k < w2.heap.size := by
        obtain ⟨cur, hb⟩ := row_block (h.row j hj) hk
        rw [← h1] at hb
        exact (Array.getElem?_eq_some_iff.1 hb).1
      exact (hg3.block k hk2 (fun e => nmb j k hj hk (Option.some.inj e))).trans h1
  · by_cases e : j = a
    · subst e
      by_cases e' : j' = j
      · exact e'.symm
      · simp only [if_true] at hk
        simp only [if_neg e'] at hk'
        have hk2 : g = k := Option.some.inj hk
        subst hk2
        rcases hpl with e2 | e2
        · exact h.inj j j' g ha hj' e2 hk'
        · have := h2lt j' g hj' hk'; omega
    · simp only [if_neg e] at hk
      by_cases e' : j' = a
      · subst e'
        simp only [if_true] at hk'
        have hk2 : g = k := Option.some.inj hk'
        subst hk2
        rcases hpl with e2 | e2
        · exact h.inj j j' g hj ha hk e2
        · have := h2lt j g hj hk; omega
      · simp only [if_neg e'] at hk'
        exact h.inj j j' k hj hj' hk hk'

theorem Leads.congr {w : World} {B mb N n : Nat} {S : Nat → Option (Nat × Nat × Nat)} {D : DataW Unit} {L L' : Nat → List Nat} (h : Leads w B mb N n S D L) (he : ∀ j, j < n → L j = L' j) : Leads w B mb N n S D L' :=
  ⟨h.map, h.look, fun j hj => by have := h.row j hj; rwa [he j hj] at this, h.inj⟩

/-- The leads after a pair more. -/
theorem ldOf_snoc (ps : List (Nat × Nat)) (p : Nat × Nat) (a : Nat) : ldOf (ps ++ [p]) a = ldOf ps a ++ ((if p.1 = a then [p.2] else []) ++ (if p.2 = a then [p.1] else [])) := by
  unfold ldOf; rw [List.flatMap_append]; simp
theorem ldOf_len (ps : List (Nat × Nat)) (a : Nat) : (ldOf ps a).length ≤ 2 * ps.length := by
  induction ps with
  | nil => simp [ldOf]
  | cons p ps ih =>
    have : ldOf (p :: ps) a = ((if p.1 = a then [p.2] else []) ++ (if p.2 = a then [p.1] else [])) ++ ldOf ps a := by simp [ldOf]
    rw [this]
    simp only [List.length_append, List.length_cons]
    split <;> split <;> simp <;> omega

/-- An empty map. -/
theorem Leads.start {w : World} {B mb n : Nat} (h : w.ownsMap Try.prog 3 rowElem mb 0 (.map [])) : Leads w B mb 0 n (fun _ => none) (.map []) (ldOf []) :=
  ⟨h, fun a ha => rfl, fun a ha => ⟨rfl, Or.inl ⟨rfl, rfl⟩⟩, fun a a' k _ _ hk => by simp [rowOf, Value.ownBlock] at hk⟩

/-- Where the places of a map and of a row are read. -/
def LeadS (Bl pb mb : Nat) (A C : Nat) (k : Nat) (v : Value) (w : World) : Prop :=
  w.cell? ⟨Bl, 0, none⟩ = some (.map (some mb)) ∧ w.cell? ⟨pb, 0, none⟩ = some (.int .i64 (A : Int)) ∧ w.cell? ⟨pb, 1, none⟩ = some (.int .i64 (C : Int)) ∧ (Instr.lookup 64 (.map (some mb)) (.int .i64 (k : Int)) false).run Try.prog w = .ok v w

end Go.Proofs.Ytclpkmplifcfjaa
