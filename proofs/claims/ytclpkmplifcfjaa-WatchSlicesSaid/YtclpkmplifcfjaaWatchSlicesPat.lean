/-
  Slices of octets that lie in common rows: what a row holds, read, set, cleared, copied onto. Conditions: numbers in their bounds.
-/
import Derived.Test.YtclpkmplifcfjaaWatchSlicesPas
namespace Go.Proofs.Ytclpkmplifcfjaa
open Go Go.RowKit
set_option linter.unusedVariables false

/-- A row as a function. -/
def RowF (w : World) (g n : Nat) (f : Nat → Int) : Prop := byteRow w g ((List.range n).map f)
theorem RowF.cell {w : World} {g n : Nat} {f : Nat → Int} (h : RowF w g n f) (j : Nat) (hj : j < n) : w.cell? ⟨g, j, none⟩ = some (.int .u8 (f j)) := by
  have := byteRow.cell h j (by simpa using hj)
  rw [this]
  simp [List.getD_eq_getElem?_getD, hj]
theorem range_set (n j : Nat) (f : Nat → Int) (z : Int) : ((List.range n).map f).set j z = (List.range n).map (fun i => if i = j then z else f i) := by
  apply List.ext_getElem?
  intro i
  rw [List.getElem?_set]
  by_cases h : i < n
  · by_cases e : j = i
    · subst e; simp [h]
    · simp [h, e, Ne.symm e]
  · simp [h]
    intro e
    omega
theorem RowF.set {w : World} {g n : Nat} {f : Nat → Int} (h : RowF w g n f) (j : Nat) (z : Int) : RowF (w.setCell ⟨g, j, none⟩ (.int .u8 z)) g n (fun i => if i = j then z else f i) := by
  unfold RowF
  rw [← range_set]
  exact byteRow.set h j z
theorem RowF.other {w : World} {g g' n : Nat} {f : Nat → Int} (h : RowF w g n f) (hne : g ≠ g') (j : Nat) (u : Value) : RowF (w.setCell ⟨g', j, none⟩ u) g n f := byteRow.other h hne j u
theorem RowF.congr {w : World} {g n : Nat} {f f' : Nat → Int} (h : RowF w g n f) (he : ∀ i, i < n → f i = f' i) : RowF w g n f' := by
  unfold RowF at *
  rwa [← List.map_congr_left (fun i hi => he i (List.mem_range.1 hi))]
theorem RowF.keep {w w' : World} {g n : Nat} {f : Nat → Int} (h : RowF w g n f) (hk : w'.heap[g]? = w.heap[g]?) : RowF w' g n f := hk.trans h
theorem range_splice (n o : Nat) (f : Nat → Int) (zs : List Int) (ho : o + zs.length ≤ n) : splice ((List.range n).map f) o zs = (List.range n).map (fun i => if o ≤ i ∧ i < o + zs.length then zs.getD (i - o) 0 else f i) := by
  apply List.ext_getElem?
  intro i
  unfold splice
  have e1 : (((List.range n).map f).take o).length = o := by simp; omega
  by_cases h1 : i < o
  · rw [List.getElem?_append_left (by rw [e1]; exact h1), List.getElem?_take, if_pos h1]
    have hn : i < n := by omega
    simp [hn]
    intro h; omega
  · by_cases h2 : i < o + zs.length
    · rw [List.getElem?_append_right (by omega), e1, List.getElem?_append_left (by omega)]
      have hn : i < n := by omega
      have h3 : i - o < zs.length := by omega
      have h4 : o ≤ i := by omega
      simp [hn, List.getD_eq_getElem?_getD, h3, h4, h2]
    · rw [List.getElem?_append_right (by omega), e1, List.getElem?_append_right (by omega), List.getElem?_drop]
      by_cases hn : i < n
      · have e2 : o + zs.length + (i - o - zs.length) = i := by omega
        rw [e2]
        simp [hn]
        intro h; omega
      · rw [List.getElem?_eq_none (by simp; omega), List.getElem?_eq_none (by simp; omega)]

/-- A window: block, begin, length, room. -/
structure Wn where
  g : Nat
  o : Nat
  n : Nat
  c : Nat
def Wn.val (x : Wn) (a : Option Addr) : Value := .slice a x.n x.c
/-- It lies in a row of this length. -/
def WnOk (len : Nat → Nat) (D : Nat → Prop) (x : Wn) (a : Option Addr) : Prop := x.n ≤ x.c ∧ x.c ≤ maxLen ∧ (0 < x.n → a = some ⟨x.g, x.o, none⟩ ∧ D x.g ∧ x.o + x.n ≤ len x.g)
/-- MemF in memory. -/
def MemF (w : World) (M : Nat → Nat → Int) (len : Nat → Nat) (D : Nat → Prop) : Prop := ∀ g, D g → RowF w g (len g) (M g)
def Wn.has (x : Wn) (g i : Nat) : Prop := g = x.g ∧ x.o ≤ i ∧ i < x.o + x.n
instance (x : Wn) (g i : Nat) : Decidable (x.has g i) := by unfold Wn.has; infer_instance
def Wn.row (x : Wn) (M : Nat → Nat → Int) : List Int := (List.range x.n).map (fun j => M x.g (x.o + j))

theorem MemF.lt {w : World} {M : Nat → Nat → Int} {len : Nat → Nat} {D : Nat → Prop} (h : MemF w M len D) {g : Nat} (hg : D g) : g < w.heap.size := lt_of (h g hg)
theorem MemF.same {w w' : World} {M : Nat → Nat → Int} {len : Nat → Nat} {D : Nat → Prop} (h : MemF w M len D) (hs : ∀ g, D g → w'.heap[g]? = w.heap[g]?) : MemF w' M len D := fun g hg => (h g hg).keep (hs g hg)
theorem MemF.below {w w' : World} {M : Nat → Nat → Int} {len : Nat → Nat} {D : Nat → Prop} (h : MemF w M len D) (hb : Below w.heap.size w w') : MemF w' M len D := h.same (fun g hg => hb.block g (h.lt hg))
theorem MemF.congr {w : World} {M M' : Nat → Nat → Int} {len : Nat → Nat} {D : Nat → Prop} (h : MemF w M len D) (he : ∀ g, D g → ∀ i, i < len g → M g i = M' g i) : MemF w M' len D := fun g hg => (h g hg).congr (he g hg)
theorem MemF.reads {w : World} {M : Nat → Nat → Int} {len : Nat → Nat} {D : Nat → Prop} (h : MemF w M len D) {x : Wn} {a : Option Addr} (hx : WnOk len D x a) : Reads w .u8 (x.val a) (x.row M) := by
  obtain ⟨h1, h2, h3⟩ := hx
  have hl : (x.row M).length = x.n := by simp [Wn.row]
  refine ⟨a, x.c, by unfold Wn.val; rw [hl], by rw [hl]; unfold maxLen at h2; omega, fun hne => ?_⟩
  have hpos : 0 < x.n := by rw [← hl]; cases hr : x.row M with | nil => exact absurd hr hne | cons => simp
  obtain ⟨ha, hd, hle⟩ := h3 hpos
  refine ⟨x.g, x.o, ha, fun j hj => ?_⟩
  rw [hl] at hj
  rw [(h x.g hd).cell (x.o + j) (by omega)]
  simp [Wn.row, List.getD_eq_getElem?_getD, hj]
theorem MemF.set {w : World} {M : Nat → Nat → Int} {len : Nat → Nat} {D : Nat → Prop} (h : MemF w M len D) (g0 i0 : Nat) (z : Int) : MemF (w.setCell ⟨g0, i0, none⟩ (.int .u8 z)) (fun g i => if g = g0 ∧ i = i0 then z else M g i) len D := by
  intro g hg
  by_cases e : g = g0
  · subst e
    exact ((h g hg).set i0 z).congr (fun i hi => by simp)
  · exact ((h g hg).other e i0 _).congr (fun i hi => by simp [e])
theorem MemF.splice {w w' : World} {M : Nat → Nat → Int} {len : Nat → Nat} {D : Nat → Prop} (h : MemF w M len D) {x : Wn} {zs : List Int} (hl : zs.length = x.n) (hle : D x.g → x.o + x.n ≤ len x.g) (hrow : D x.g → byteRow w' x.g (splice ((List.range (len x.g)).map (M x.g)) x.o zs)) (ht : Touch (fun k => k = x.g) w w') :
    MemF w' (fun g i => if x.has g i then zs.getD (i - x.o) 0 else M g i) len D := by
  intro g hg
  by_cases e : g = x.g
  · subst e
    have h1 := hrow hg
    rw [range_splice _ _ _ _ (by rw [hl]; exact hle hg)] at h1
    refine (show RowF w' x.g (len x.g) _ from h1).congr (fun i hi => ?_)
    simp [Wn.has, hl]
  · exact ((h g hg).keep (ht.block g (h.lt hg) e)).congr (fun i hi => by simp [Wn.has, e])

end Go.Proofs.Ytclpkmplifcfjaa
