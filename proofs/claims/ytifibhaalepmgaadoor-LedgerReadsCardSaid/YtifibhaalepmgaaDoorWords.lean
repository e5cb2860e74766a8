/-
  A list of words in memory. No conditions.
-/
import Derived.Test.YtifibhaalepmgaaDoorLaidOf
import Derived.Test.YtifibhaalepmgaaDoorReadPol
namespace Go.Proofs.YtifibhaalepmgaaDoor
open Go Go.RowKit Go.ChangeShapes Go.WideShapes Go.ChangeAt
set_option linter.unusedVariables false

/-- A variable holds a list of words. -/
def WordsAt (g : Nat) (xs : List ByteArray) (w : World) : Prop := ∃ gb go gc, w.cell? ⟨g, 0, none⟩ = some (.slice (some ⟨gb, go, none⟩) xs.length gc) ∧ ∀ (k : Nat) x, xs[k]? = some x → w.cell? ⟨gb, go + k, none⟩ = some (.string x)

theorem WordsAt.below {g : Nat} {xs : List ByteArray} {w w' : World} (h : WordsAt g xs w) (hb : Below w.heap.size w w') : WordsAt g xs w' := by
  obtain ⟨gb, go, gc, h1, h2⟩ := h
  refine ⟨gb, go, gc, ?_, fun k x hk => ?_⟩
  · exact (hb.cell (p := ⟨_, 0, none⟩) (World.block_lt_of_cell? w _ h1)).trans h1
  · exact (hb.cell (p := ⟨gb, go + k, none⟩) (World.block_lt_of_cell? w _ (h2 k x hk))).trans (h2 k x hk)

theorem strs_inj : ∀ {a b : List ByteArray}, (strs a : List (DataW Unit)) = strs b → a = b
  | [], [], _ => rfl
  | [], _ :: _, h => by simp [strs] at h
  | _ :: _, [], h => by simp [strs] at h
  | x :: a, y :: b, h => by
    simp only [strs, List.map_cons, List.cons.injEq, DataW.lit.injEq, Lit.string.injEq] at h
    obtain rfl := bytes_ext h.1
    rw [strs_inj (a := a) (b := b) (by simp only [strs]; exact h.2)]

theorem words_of {W : World} {n : String} {D : DataW Unit} {r : List (String × DataW Unit)} {g : Nat} {xs : List ByteArray} (hD : D = .slice (strs xs) []) (hne : 0 < xs.length)
    (hg : Tryd.prog.globalNamed n = some g) (ht : (Tryd.prog.globals[g]?).map (·.type) = some 47) (h : laidMet Tryd.prog ((n, D) :: r) W) : WordsAt g xs W := by
  obtain ⟨ps, ⟨g', t', cs, fuel, p, q, hg', ht', hvar, hd, _, _⟩, _⟩ := h
  obtain rfl := Option.some.inj (hg.symm.trans hg')
  obtain rfl := Option.some.inj (ht.symm.trans ht')
  have c9 : Tryd.prog.cellsOf 9 = 1 := by kernel_rfl
  rcases open_strings Tryd.underlying47 Tryd.underlying9 c9 hd with ⟨_, hx⟩ | ⟨a, len, cap, ss, hcs, _, hl, hm, hz, hx, hcell, _⟩
  · exact absurd hx (by simp [hD])
  · simp only [hD, Prod.mk.injEq, DataW.slice.injEq] at hx
    obtain ⟨⟨e1, e2⟩, _⟩ := hx
    have hdrop : ss.drop len = [] := by
      have := congrArg List.length e2
      simp [strs] at this
      exact List.drop_eq_nil_of_le (by omega)
    have hle : ss.length ≤ len := by simpa using hdrop
    rw [List.take_of_length_le hle] at e1
    obtain rfl := strs_inj e1
    obtain ⟨b, o, sp⟩ := a
    obtain ⟨cl⟩ := cs
    simp only at hcs
    subst hcs
    have hlen : len = xs.length := by
      split at hz <;> omega
    have hsp : sp = none := by
      have := hcell 0 (by omega)
      simpa [Addr.add] using World.cell?_spot this
    subst hsp
    refine ⟨b, o, cap, ?_, fun k x hk => ?_⟩
    · have := World.var?_cell hg hvar 0
      rw [← hlen]
      simpa using this
    · have hk' : k < xs.length := by
        rcases Nat.lt_or_ge k xs.length with y | y
        · exact y
        · rw [List.getElem?_eq_none y] at hk; cases hk
      have hc := hcell k hk'
      have ea : (⟨b, o, none⟩ : Addr).add k = ⟨b, o + k, none⟩ := by unfold Addr.add; split <;> simp_all
      rw [ea] at hc
      rw [hc, List.getD_eq_getElem?_getD, hk]
      rfl

end Go.Proofs.YtifibhaalepmgaaDoor
