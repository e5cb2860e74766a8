/-
  shared: what it gives. Conditions: numbers in their bounds.
-/
import Derived.Test.YtclpkmplifcfjaaWatchSlicesPbu
namespace Go.Proofs.Ytclpkmplifcfjaa
open Go.RowKit
set_option linter.unusedVariables false

/-- A cut: memory, from, to. -/
structure Cu where
  m : Nat
  f : Nat
  t : Nat
def Cu.cells (c : Cu) : List Value := [.int .i64 (c.m : Int), .int .i64 (c.f : Int), .int .i64 (c.t : Int)]
def Cu.agg (c : Cu) : Value := .agg #[.int .i64 (c.m : Int), .int .i64 (c.f : Int), .int .i64 (c.t : Int)]
def shP (x y : Cu) : Int × Int × Int :=
  if x.m = y.m ∧ max x.f y.f < min x.t y.t then (((max x.f y.f : Nat) : Int) - x.f, ((max x.f y.f : Nat) : Int) - y.f, ((min x.t y.t : Nat) : Int) - (max x.f y.f : Nat)) else (0, 0, 0)
def SharedPost (x y : Cu) (w : World) : Ending → World → Prop := fun e w' => e = .returned (.tuple #[.int .i64 (shP x y).1, .int .i64 (shP x y).2.1, .int .i64 (shP x y).2.2]) ∧ Below w.heap.size w w'

set_option maxHeartbeats 2000000 in
set_option maxRecDepth 100000 in
theorem shared_any (x y : Cu) (w : World) (hx : x.m ≤ 2 ∧ x.f ≤ 60 ∧ x.t ≤ 60) (hy : y.m ≤ 2 ∧ y.f ≤ 60 ∧ y.t ≤ 60) :
    Calls Try.prog 15 #[x.agg, y.agg] w (SharedPost x y w) := by
  obtain ⟨m1, f1, t1⟩ := x
  obtain ⟨m2, f2, t2⟩ := y
  obtain ⟨x1, x2, x3⟩ := hx
  obtain ⟨y1, y2, y3⟩ := hy
  simp only at x1 x2 x3 y1 y2 y3
  unfold Cu.agg
  have HP := Lib.hid (show shP ⟨m1, f1, t1⟩ ⟨m2, f2, t2⟩ = if m1 = m2 ∧ max f1 f2 < min t1 t2 then (((max f1 f2 : Nat) : Int) - f1, ((max f1 f2 : Nat) : Int) - f2, ((min t1 t2 : Nat) : Int) - (max f1 f2 : Nat)) else (0, 0, 0) from rfl)
  have hb1 := heap_alloc_new w (.cells #[.int .i64 (m1 : Int), .int .i64 (f1 : Int), .int .i64 (t1 : Int)] 47)
  obtain ⟨W1, hW1⟩ : ∃ W, w.alloc (.cells #[.int .i64 (m1 : Int), .int .i64 (f1 : Int), .int .i64 (t1 : Int)] 47) = W := ⟨_, rfl⟩
  have hsz : W1.heap.size = w.heap.size + 1 := by rw [← hW1]; simp
  obtain ⟨W2, hW2⟩ : ∃ W, W1.alloc (.cells #[.int .i64 (m2 : Int), .int .i64 (f2 : Int), .int .i64 (t2 : Int)] 47) = W := ⟨_, rfl⟩
  have B2 : Below w.heap.size w W2 := by rw [← hW2, ← hW1]; exact ((Below.refl _ w).alloc (Nat.le_refl _) _).alloc (by simp) _
  have g1 : W2.heap[w.heap.size]? = some (.cells #[.int .i64 (m1 : Int), .int .i64 (f1 : Int), .int .i64 (t1 : Int)] 47 (0, 0)) := by
    rw [← hW2, heap_alloc_old W1 _ (by omega), ← hW1]; exact heap_alloc_new w _
  have g2 : W2.heap[w.heap.size + 1]? = some (.cells #[.int .i64 (m2 : Int), .int .i64 (f2 : Int), .int .i64 (t2 : Int)] 47 (0, 0)) := by
    rw [← hW2, ← hsz]; exact heap_alloc_new W1 _
  have HG := Lib.hid (And.intro g1 g2)
  have HB := Lib.hid B2
  clear hb1 B2 g1 g2
  go_enter Try.func15, Try.ntmps15
  go_upto_region 1 with fail
  clear hW1 hW2 hsz
  have a0 : W2.cell? ⟨w.heap.size, 0, none⟩ = some (.int .i64 (m1 : Int)) := by rw [cell_of HG.out.1]; rfl
  have a1 : W2.cell? ⟨w.heap.size, 1, none⟩ = some (.int .i64 (f1 : Int)) := by rw [cell_of HG.out.1]; rfl
  have a2 : W2.cell? ⟨w.heap.size, 2, none⟩ = some (.int .i64 (t1 : Int)) := by rw [cell_of HG.out.1]; rfl
  have b0 : W2.cell? ⟨w.heap.size + 1, 0, none⟩ = some (.int .i64 (m2 : Int)) := by rw [cell_of HG.out.2]; rfl
  have b1 : W2.cell? ⟨w.heap.size + 1, 1, none⟩ = some (.int .i64 (f2 : Int)) := by rw [cell_of HG.out.2]; rfl
  have b2 : W2.cell? ⟨w.heap.size + 1, 2, none⟩ = some (.int .i64 (t2 : Int)) := by rw [cell_of HG.out.2]; rfl
  go_cut [7, 8] from 9 to 18 (fun s t wx => s = .int .i64 ((max f1 f2 : Nat) : Int) ∧ t = .int .i64 ((min t1 t2 : Nat) : Int) ∧ ∃ q, wx = W2.drewN q)
  case first =>
    go_quiet (fail)
    try go_wp2_with fail
    all_goals
      go_meet
      exact ⟨congrArg _ (by omega), congrArg _ (by omega), _, rfl⟩
  case rest =>
    obtain ⟨rfl, rfl, q, rfl⟩ := hcut
    obtain ⟨lo, hlo⟩ : ∃ n, max f1 f2 = n := ⟨_, rfl⟩
    obtain ⟨hi, hhi⟩ : ∃ n, min t1 t2 = n := ⟨_, rfl⟩
    have l1 : lo ≤ 60 := by omega
    have l2 : hi ≤ 60 := by omega
    rw [hlo, hhi] at HP ⊢
    clear hlo hhi
    by_cases hm : m1 = m2
    · subst hm
      by_cases hlt : lo < hi
      · have HE := Lib.hid (HP.out.trans (if_pos ⟨rfl, hlt⟩))
        go_wp2_with fail
        go_quiet (fail)
        go_wp2_with fail
        go_ret3
        exact ⟨by rw [HE.out]; rfl, bdrewN (bdrewN HB.out _) _⟩
      · have HE := Lib.hid (HP.out.trans (if_neg (fun h => hlt h.2)))
        go_wp2_with fail
        go_ret3
        exact ⟨by rw [HE.out]; rfl, bdrewN HB.out _⟩
    · have HE := Lib.hid (HP.out.trans (if_neg (fun h => hm h.1)))
      have hm' : ¬ (m1 : Int) = (m2 : Int) := by omega
      go_wp2_with fail
      go_ret3
      exact ⟨by rw [HE.out]; rfl, bdrewN HB.out _⟩

end Go.Proofs.Ytclpkmplifcfjaa
