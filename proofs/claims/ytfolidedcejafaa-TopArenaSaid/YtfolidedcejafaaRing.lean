/-
  A ring in memory; cell and cells: what they give. Conditions: numbers in their bounds.
-/
import Derived.Test.YtfolidedcejafaaChange
import Derived.Test.YtfolidedcejafaaReplace
namespace Go.Proofs.Ytfolidedcejafaa
open Go.RowKit

def ringCells (bp : Nat) (o k s m : Int) (mv : Value) (st len : Int) : Array Value :=
  #[.pointer (some ⟨bp, 0, none⟩), .int .i64 o, .int .i64 k, .int .i64 s, .int .i64 m, .bool false, mv, .int .i64 st, .int .i64 len]
def ringAt (w : World) (r bp : Nat) (o k s m : Int) (mv : Value) (st len : Int) : Prop := w.heap[r]? = some (.cells (ringCells bp o k s m mv st len) 109 (0, 0))

/-- The ring's memory: nil, or a block. -/
def memOf (g : Option Nat) (R : Nat) : Value := match g with | none => .slice none R R | some b => .slice (some ⟨b, 0, none⟩) R R
theorem memOf_sh (g : Option Nat) (R : Nat) : ∃ a, memOf g R = .slice a R R ∧ (∀ b, g = some b → a = some ⟨b, 0, none⟩) ∧ (g = none → a = none) := by
  cases g with
  | none => exact ⟨none, rfl, fun b h => (by cases h), fun _ => rfl⟩
  | some b => exact ⟨_, rfl, fun c h => (by cases h; rfl), fun h => (by cases h)⟩

set_option maxHeartbeats 1000000 in
set_option maxRecDepth 100000 in
theorem cell_any (r bp : Nat) (o k s m : Int) (g : Option Nat) (R : Nat) (st len : Int) (n : Int) (w : World) (h : ringAt w r bp o k s m (memOf g R) st len) (hR : R ≤ 1000000) (h1 : 0 ≤ st ∧ st ≤ 1000000) (h2 : 0 ≤ n ∧ n ≤ 1000000) :
    Calls Try.prog 56 #[.pointer (some ⟨r, 0, none⟩), .int .i64 n] w (fun e w' => e = .returned (.int .i64 (if R = 0 then 0 else (st + n) % R)) ∧ ∃ q, w' = w.drewN q) := by
  obtain ⟨a, ha, _, _⟩ := memOf_sh g R
  have c6 : w.cell? ⟨r, 6, none⟩ = some (.slice a R R) := by rw [cell_of h]; rw [← ha]; rfl
  have c7 : w.cell? ⟨r, 7, none⟩ = some (.int .i64 st) := by rw [cell_of h]; rfl
  obtain ⟨h1a, h1b⟩ := h1
  obtain ⟨h2a, h2b⟩ := h2
  clear h ha
  by_cases h0 : R = 0
  · subst h0
    go_enter Try.func56, Try.ntmps56
    go_wp2_with fail
    go_ret
    exact ⟨rfl, 0, rfl⟩
  · have e0 : 0 < R := by omega
    have m1 : 0 ≤ (st + n) % (R : Int) := Int.emod_nonneg _ (by omega)
    have m2 : (st + n) % (R : Int) < R := Int.emod_lt_of_pos _ (by omega)
    have E := Lib.hid (if_neg h0 : (if R = 0 then (0 : Int) else (st + n) % R) = (st + n) % R)
    rw [E.out]
    go_enter Try.func56, Try.ntmps56
    go_wp2_with fail
    go_quiet (fail)
    go_wp2_with fail
    go_ret
    exact ⟨rfl, _, rfl⟩


def CellsPost (g : Option Nat) (at' n R : Nat) (w : World) : Ending → World → Prop := fun e w' =>
  ∃ f1 f2, e = .returned (.tuple #[.slice f1 (min (at' + n) R - at') (min (at' + n) R - at'), .slice f2 (n - (min (at' + n) R - at')) (n - (min (at' + n) R - at'))]) ∧
    (∀ b, g = some b → (at' < min (at' + n) R → f1 = some ⟨b, at', none⟩) ∧ (0 < n - (min (at' + n) R - at') → f2 = some ⟨b, 0, none⟩)) ∧ ∃ q, w' = w.drewN q

theorem cells_mk {b at' n R q A B : Nat} {w : World} {f1 f2 : Option Addr} (hA : A = min (at' + n) R - at') (hB : B = n - A) (h1 : at' < min (at' + n) R → f1 = some ⟨b, at', none⟩) (h2 : 0 < B → f2 = some ⟨b, 0, none⟩) :
    CellsPost (some b) at' n R w (.returned (.tuple #[.slice f1 A A, .slice f2 B B])) (w.drewN q) := by
  subst hA hB
  refine ⟨f1, f2, rfl, fun b' hb' => ?_, q, rfl⟩
  obtain rfl : b = b' := by simpa using hb'
  exact ⟨h1, h2⟩

set_option maxHeartbeats 1000000 in
set_option maxRecDepth 100000 in
theorem cells_any (r bp : Nat) (o k s m : Int) (g : Option Nat) (R : Nat) (st len : Int) (at' n : Nat) (w : World) (h : ringAt w r bp o k s m (memOf g R) st len) (hR : R ≤ 1000000) (hg : g = none → R = 0) (h1 : at' ≤ R) (h2 : n ≤ R) :
    Calls Try.prog 65 #[.pointer (some ⟨r, 0, none⟩), .int .i64 at', .int .i64 n] w (CellsPost g at' n R w) := by
  obtain ⟨a, ha, ha1, ha2⟩ := memOf_sh g R
  have c6 : w.cell? ⟨r, 6, none⟩ = some (.slice a R R) := by rw [cell_of h]; rw [← ha]; rfl
  clear h ha
  cases g with
  | none =>
    obtain rfl := ha2 rfl
    obtain rfl := hg rfl
    obtain rfl : at' = 0 := by omega
    obtain rfl : n = 0 := by omega
    clear ha1 ha2 hg
    go_enter Try.func65, Try.ntmps65
    go_wp2_with fail
    go_quiet (fail)
    go_wp2_with fail
    go_ret2
    exact ⟨none, none, rfl, fun b hb => (by cases hb), _, rfl⟩
  | some b =>
    obtain rfl := ha1 b rfl
    clear ha1 ha2 hg
    by_cases hh : at' + n ≤ R
    · have hh' : (at' : Int) + n ≤ R := by omega
      go_enter Try.func65, Try.ntmps65
      go_wp2_with fail
      go_quiet (fail)
      go_wp2_with fail
      all_goals
        go_ret2
        refine cells_mk ?_ ?_ ?_ ?_
        · omega
        · omega
        · intro h'; first | rfl | omega
        · intro h'; first | rfl | omega
    · have hh' : (R : Int) < at' + n := by omega
      go_enter Try.func65, Try.ntmps65
      go_wp2_with fail
      go_quiet (fail)
      go_wp2_with fail
      all_goals
        go_ret2
        refine cells_mk ?_ ?_ ?_ ?_
        · omega
        · omega
        · intro h'; first | rfl | omega
        · intro h'; first | rfl | omega

end Go.Proofs.Ytfolidedcejafaa
