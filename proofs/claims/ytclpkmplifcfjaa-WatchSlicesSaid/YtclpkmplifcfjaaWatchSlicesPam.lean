/-
  Same, Mod: what they give. No conditions.
  appends: what it gives. No conditions.
-/
import Derived.Test.YtclpkmplifcfjaaWatchSlicesPal
import Derived.Deep.QuietTactic
import Derived.BigQuiet
import Derived.ArgAppend

namespace Go.Proofs.Ytclpkmplifcfjaa
section
open Go.RowKit

def SamePost (w : World) : Ending → World → Prop := fun e w' => e = .returned (.bool true) ∧ ∃ q, w' = w.drewN q

theorem quiet_at {P : Program} {f : FuncId} {args : Array Value} {w : World} {q n : Nat} {v : Value}
    (h : Calls P f args (w.drewN (q + n)) fun e w' => e = .returned v ∧ ∃ m, w' = (w.drewN (q + n)).drewN m) : Calls P f args (w.drewN (q + n)) fun e w'' => e = .returned v ∧ ∃ m, w'' = w.drewN (q + m) :=
  h.mono fun _ _ ⟨he, m, hm⟩ => ⟨he, n + m, by rw [hm, World.drewN_drewN, Nat.add_assoc]⟩

end
end Go.Proofs.Ytclpkmplifcfjaa

namespace Go.Proofs.Ytclpkmplifcfjaa
section
open Go.RowKit

def KeepPost (w : World) : Ending → World → Prop := fun e w' => e = .returned (.bool true) ∧ Below w.heap.size w w'

theorem byteInfo0 : (Try.prog.info? 5).map (fun i => (i.zero, i.size, i.bytes)) = some (some (.int .u8 0), 1, 1) := by kernel_rfl

/-- The cells of a slice, as the law on append wants them. -/
theorem Reads.cells {w : World} {p : Option Addr} {n m : Nat} {zs : List Int} (h : Reads w .u8 (.slice p n m) zs) (hn : zs.length = n) : ∀ b, p = some b → ∀ j u, (zs.map (Value.int .u8))[j]? = some u → w.cell? (b.add j) = some u := by
  intro b hb j u hj
  subst hb
  obtain ⟨a, cap, e, hl, hc⟩ := h
  simp only [Value.slice.injEq] at e
  obtain ⟨rfl, _, _⟩ := e
  rw [List.getElem?_map] at hj
  obtain ⟨z, hz, rfl⟩ := Option.map_eq_some_iff.1 hj
  have hlt : j < zs.length := (List.getElem?_eq_some_iff.1 hz).1
  obtain ⟨b', o, e, hcell⟩ := hc (by intro e; subst e; simp at hlt)
  cases e
  have e1 : (⟨b', o, none⟩ : Addr).add j = ⟨b', o + j, none⟩ := by unfold Addr.add; split <;> simp_all
  rw [e1, hcell j hlt]
  rw [List.getD_eq_getElem?_getD, hz]
  rfl

theorem new_cells (w : World) (us : List Value) (t : TypeId) : ∀ j u, us[j]? = some u → (w.alloc (.cells us.toArray t)).cell? ((⟨w.heap.size, 0, none⟩ : Addr).add j) = some u := by
  intro j u hj
  have e1 : (⟨w.heap.size, 0, none⟩ : Addr).add j = ⟨w.heap.size, j, none⟩ := by unfold Addr.add; split <;> simp_all
  rw [e1, cell_of_row _ _ _ _ _ _ (heap_alloc_new w _)]
  simpa using hj

end
end Go.Proofs.Ytclpkmplifcfjaa
