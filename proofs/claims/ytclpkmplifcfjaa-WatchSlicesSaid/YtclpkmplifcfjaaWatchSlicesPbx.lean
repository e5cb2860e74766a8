/-
  The cuts as windows: what two share; the rows as lists of windows. No conditions but the cuts' bounds.
-/
import Derived.Test.YtclpkmplifcfjaaWatchSlicesPbw
import Derived.Test.YtclpkmplifcfjaaWatchSlicesPbh
namespace Go.Proofs.Ytclpkmplifcfjaa
open Go.RowKit
set_option linter.unusedVariables false

def Cu.wn (g0 g1 g2 : Nat) (c : Cu) : Wn := ⟨c.g g0 g1 g2, c.f, c.t - c.f, c.room - c.f⟩
def Cu.w2 (g0 g1 g2 : Nat) (c : Cu) : Wn × Option Addr := (c.wn g0 g1 g2, some (c.ad g0 g1 g2))
def Cu.ok (c : Cu) : Prop := c.m ≤ 2 ∧ c.f ≤ c.t ∧ c.t ≤ 60
theorem Cu.sl_val (g0 g1 g2 : Nat) (c : Cu) : c.sl g0 g1 g2 = (c.w2 g0 g1 g2).1.val (c.w2 g0 g1 g2).2 := rfl
theorem Cu.room_le {c : Cu} (h : c.ok) : c.t ≤ c.room ∧ c.room ≤ 60 := by
  unfold Cu.room; obtain ⟨h1, h2, h3⟩ := h; split <;> omega
theorem Cu.g_iff {g0 g1 g2 : Nat} (ne : g0 ≠ g1 ∧ g0 ≠ g2 ∧ g1 ≠ g2) {x y : Cu} (hx : x.ok) (hy : y.ok) : x.g g0 g1 g2 = y.g g0 g1 g2 ↔ x.m = y.m := by
  obtain ⟨n1, n2, n3⟩ := ne
  have h1 := hx.1
  have h2 := hy.1
  unfold Cu.g
  constructor
  · intro h
    split at h <;> split at h <;> (try split at h) <;> (try split at h) <;> omega
  · intro h
    rw [h]
theorem ov_sh {g0 g1 g2 : Nat} (ne : g0 ≠ g1 ∧ g0 ≠ g2 ∧ g1 ≠ g2) {x y : Cu} (hx : x.ok) (hy : y.ok) : ov (x.wn g0 g1 g2) (y.wn g0 g1 g2) = shP x y := by
  have hg := Cu.g_iff ne hx hy
  have hg' := Cu.g_iff ne hy hx
  obtain ⟨x1, x2, x3⟩ := hx
  obtain ⟨y1, y2, y3⟩ := hy
  unfold ov app Wn.has shP Cu.wn
  simp only
  by_cases hm : x.m = y.m
  · have e1 := hg.2 hm
    rw [e1]
    simp only [true_and, hm]
    repeat' split
    all_goals first
      | (exfalso; omega)
      | (simp only [Prod.mk.injEq] <;> omega)
  · have e1 : ¬ x.g g0 g1 g2 = y.g g0 g1 g2 := fun e => hm (hg.1 e)
    have e2 : ¬ y.g g0 g1 g2 = x.g g0 g1 g2 := fun e => hm (hg.1 e.symm)
    simp [e1, e2, hm]

theorem same_sh {g0 g1 g2 : Nat} (ne : g0 ≠ g1 ∧ g0 ≠ g2 ∧ g1 ≠ g2) {x y : Cu} (hx : x.ok) (hy : y.ok) : sameB (x.wn g0 g1 g2) (y.wn g0 g1 g2) = (decide ((x.t : Int) - x.f = (y.t : Int) - y.f) && decide ((shP x y).2.2 = (x.t : Int) - x.f)) := by
  unfold sameB
  rw [ov_sh ne hx hy]
  obtain ⟨x1, x2, x3⟩ := hx
  obtain ⟨y1, y2, y3⟩ := hy
  rw [Bool.eq_iff_iff]
  simp only [Bool.and_eq_true, decide_eq_true_eq]
  show (x.t - x.f = y.t - y.f ∧ (shP x y).1 = 0 ∧ (shP x y).2.1 = 0 ∧ (shP x y).2.2 = ((x.t - x.f : Nat) : Int)) ↔ _
  unfold shP
  split
  · next h =>
    simp only
    constructor
    · rintro ⟨a1, a2, a3, a4⟩
      constructor <;> omega
    · rintro ⟨a1, a2⟩
      refine ⟨by omega, by omega, by omega, by omega⟩
  · simp only
    constructor
    · rintro ⟨a1, a2, a3, a4⟩
      constructor <;> omega
    · rintro ⟨a1, a2⟩
      refine ⟨by omega, by simp, by simp, by omega⟩
theorem meet_sh {g0 g1 g2 : Nat} (ne : g0 ≠ g1 ∧ g0 ≠ g2 ∧ g1 ≠ g2) {cs : List Cu} (hc : ∀ c ∈ cs, c.ok) {i k : Nat} {x y : Cu} (hi : cs[i]? = some x) (hk : cs[k]? = some y) : meetB (cs.map (Cu.w2 g0 g1 g2)) i k = decide (0 < (shP x y).2.2) := by
  have g : ∀ (j : Nat) (z : Cu), cs[j]? = some z → (cs.map (Cu.w2 g0 g1 g2)).getD j W0 = z.w2 g0 g1 g2 := fun j z h => by
    rw [List.getD_eq_getElem?_getD, List.getElem?_map, h]; rfl
  unfold meetB
  rw [g i x hi, g k y hk]
  show decide (0 < (ov (x.wn g0 g1 g2) (y.wn g0 g1 g2)).2.2) = _
  rw [ov_sh ne (hc x (List.mem_of_getElem? hi)) (hc y (List.mem_of_getElem? hk))]

theorem CL.lsIn {w wr : World} {b g0 g1 g2 k : Nat} {ov av : Value} {cs : List Cu} (h : CL w wr b g0 g1 g2 k ov av cs) (hk : cs.length ≤ 12) : LsIn wr ov (cs.map (Cu.w2 g0 g1 g2)) := by
  have hr := h.o
  rw [← h.len] at hr
  obtain ⟨a, c, hv⟩ := wrow_sh hr
  subst hv
  refine ⟨a, c, by rw [List.length_map], by rw [List.length_map]; omega, ?_, ?_, fun j hj => ?_⟩
  · rw [List.length_map]
    rcases hr.2 with ⟨hh, h0⟩ | ⟨g, cap, cur, hh, _, _, h2, h3, _⟩
    · simp only [Value.slice.injEq] at hh; omega
    · simp only [Value.slice.injEq] at hh; omega
  · rcases hr.2 with ⟨hh, h0⟩ | ⟨g, cap, cur, hh, _, _, h2, h3, _⟩
    · simp only [Value.slice.injEq] at hh; unfold maxLen; omega
    · simp only [Value.slice.injEq] at hh; omega
  · rw [List.length_map] at hj
    have hx : (cs.map (Cu.sl g0 g1 g2))[j]? = some ((cs[j]).sl g0 g1 g2) := by rw [List.getElem?_map, List.getElem?_eq_getElem hj]; rfl
    obtain ⟨g, rfl, hc, _⟩ := wrow_cell hr hx
    refine ⟨g, 0, rfl, ?_⟩
    rw [Nat.zero_add, hc]
    have : (cs.map (Cu.w2 g0 g1 g2)).getD j W0 = (cs[j]).w2 g0 g1 g2 := by
      rw [List.getD_eq_getElem?_getD, List.getElem?_map, List.getElem?_eq_getElem hj]; rfl
    rw [this]; rfl

/-- The three memories as one. -/
def D3 (g0 g1 g2 g : Nat) : Prop := g = g0 ∨ g = g1 ∨ g = g2
theorem Mem3.memF {w wr : World} {g0 g1 g2 : Nat} {M : Nat → Nat → Int} (h : Mem3 w wr g0 g1 g2 M) : MemF wr M (fun _ => 60) (D3 g0 g1 g2) := by
  intro g hg
  rcases hg with rfl | rfl | rfl
  · exact h.r0
  · exact h.r1
  · exact h.r2
theorem Cu.wnOk {g0 g1 g2 : Nat} {c : Cu} (h : c.ok) : WnOk (fun _ => 60) (D3 g0 g1 g2) (c.w2 g0 g1 g2).1 (c.w2 g0 g1 g2).2 := by
  have hr := Cu.room_le h
  obtain ⟨h1, h2, h3⟩ := h
  refine ⟨by show c.t - c.f ≤ c.room - c.f; omega, by show c.room - c.f ≤ maxLen; unfold maxLen; omega, fun hn => ?_⟩
  have hn' : 0 < c.t - c.f := hn
  refine ⟨?_, ?_, by show c.f + (c.t - c.f) ≤ 60; omega⟩
  · show some (c.ad g0 g1 g2) = _
    unfold Cu.ad
    rw [if_neg (by omega)]; rfl
  · show D3 g0 g1 g2 (c.g g0 g1 g2)
    unfold Cu.g D3
    split
    · exact Or.inl rfl
    · split
      · exact Or.inr (Or.inl rfl)
      · exact Or.inr (Or.inr rfl)

end Go.Proofs.Ytclpkmplifcfjaa
