/-
  A ring in memory; cell and cells: what they give. Conditions: numbers in their bounds.
  Replace: what it gives for a policy that is right and a slice of the call's own. No conditions beyond the theorems' own.
-/
import Derived.Test.YtfolidedcejafaaTopRingPam
import Derived.Test.YtfolidedcejafaaTopRingPas

namespace Go.Proofs.Ytfolidedcejafaa
section
open Go.RowKit

def ringCells (bp : Nat) (o k s m : Int) (mv : Value) (st len : Int) : Array Value :=
  #[.pointer (some ⟨bp, 0, none⟩), .int .i64 o, .int .i64 k, .int .i64 s, .int .i64 m, .bool false, mv, .int .i64 st, .int .i64 len]
def ringAt (w : World) (r bp : Nat) (o k s m : Int) (mv : Value) (st len : Int) : Prop := w.heap[r]? = some (.cells (ringCells bp o k s m mv st len) 109 (0, 0))

/-- The ring's memory: nil, or a block. -/
def memOf (g : Option Nat) (R : Nat) : Value := match g with | none => .slice none R R | some b => .slice (some ⟨b, 0, none⟩) R R
theorem memOf_sh (g : Option Nat) (R : Nat) : ∃ a, memOf g R = .slice a R R ∧ (∀ b, g = some b → a = some ⟨b, 0, none⟩) ∧ (g = none → a = none) := by
  cases g with
  | none => exact ⟨none, rfl, fun b h => (by cases h), fun _ => rfl⟩
  | some b => exact ⟨_, rfl, fun c h => (by cases h; rfl), fun h => (by cases h)⟩

set_option maxHeartbeats 1000000 in
set_option maxRecDepth 100000 in
theorem cell_any (r bp : Nat) (o k s m : Int) (g : Option Nat) (R : Nat) (st len : Int) (n : Int) (w : World) (h : ringAt w r bp o k s m (memOf g R) st len) (hR : R ≤ 1000000) (h1 : 0 ≤ st ∧ st ≤ 1000000) (h2 : 0 ≤ n ∧ n ≤ 1000000) :
    Calls Try.prog 56 #[.pointer (some ⟨r, 0, none⟩), .int .i64 n] w (fun e w' => e = .returned (.int .i64 (if R = 0 then 0 else (st + n) % R)) ∧ ∃ q, w' = w.drewN q) := by
  obtain ⟨a, ha, _, _⟩ := memOf_sh g R
  have c6 : w.cell? ⟨r, 6, none⟩ = some (.slice a R R) := by rw [cell_of h]; rw [← ha]; rfl
  have c7 : w.cell? ⟨r, 7, none⟩ = some (.int .i64 st) := by rw [cell_of h]; rfl
  obtain ⟨h1a, h1b⟩ := h1
  obtain ⟨h2a, h2b⟩ := h2
  clear h ha
  by_cases h0 : R = 0
  · subst h0
    go_enter Try.func56, Try.ntmps56
    go_wp2_with fail
    go_ret
    exact ⟨rfl, 0, rfl⟩
  · have e0 : 0 < R := by omega
    have m1 : 0 ≤ (st + n) % (R : Int) := Int.emod_nonneg _ (by omega)
    have m2 : (st + n) % (R : Int) < R := Int.emod_lt_of_pos _ (by omega)
    have E := Lib.hid (if_neg h0 : (if R = 0 then (0 : Int) else (st + n) % R) = (st + n) % R)
    rw [E.out]
    go_enter Try.func56, Try.ntmps56
    go_wp2_with fail
    go_quiet (fail)
    go_wp2_with fail
    go_ret
    exact ⟨rfl, _, rfl⟩


def CellsPost (g : Option Nat) (at' n R : Nat) (w : World) : Ending → World → Prop := fun e w' =>
  ∃ f1 f2, e = .returned (.tuple #[.slice f1 (min (at' + n) R - at') (min (at' + n) R - at'), .slice f2 (n - (min (at' + n) R - at')) (n - (min (at' + n) R - at'))]) ∧
    (∀ b, g = some b → (at' < min (at' + n) R → f1 = some ⟨b, at', none⟩) ∧ (0 < n - (min (at' + n) R - at') → f2 = some ⟨b, 0, none⟩)) ∧ ∃ q, w' = w.drewN q

theorem cells_mk {b at' n R q A B : Nat} {w : World} {f1 f2 : Option Addr} (hA : A = min (at' + n) R - at') (hB : B = n - A) (h1 : at' < min (at' + n) R → f1 = some ⟨b, at', none⟩) (h2 : 0 < B → f2 = some ⟨b, 0, none⟩) :
    CellsPost (some b) at' n R w (.returned (.tuple #[.slice f1 A A, .slice f2 B B])) (w.drewN q) := by
  subst hA hB
  refine ⟨f1, f2, rfl, fun b' hb' => ?_, q, rfl⟩
  obtain rfl : b = b' := by simpa using hb'
  exact ⟨h1, h2⟩

set_option maxHeartbeats 1000000 in
set_option maxRecDepth 100000 in
theorem cells_any (r bp : Nat) (o k s m : Int) (g : Option Nat) (R : Nat) (st len : Int) (at' n : Nat) (w : World) (h : ringAt w r bp o k s m (memOf g R) st len) (hR : R ≤ 1000000) (hg : g = none → R = 0) (h1 : at' ≤ R) (h2 : n ≤ R) :
    Calls Try.prog 65 #[.pointer (some ⟨r, 0, none⟩), .int .i64 at', .int .i64 n] w (CellsPost g at' n R w) := by
  obtain ⟨a, ha, ha1, ha2⟩ := memOf_sh g R
  have c6 : w.cell? ⟨r, 6, none⟩ = some (.slice a R R) := by rw [cell_of h]; rw [← ha]; rfl
  clear h ha
  cases g with
  | none =>
    obtain rfl := ha2 rfl
    obtain rfl := hg rfl
    obtain rfl : at' = 0 := by omega
    obtain rfl : n = 0 := by omega
    clear ha1 ha2 hg
    go_enter Try.func65, Try.ntmps65
    go_wp2_with fail
    go_quiet (fail)
    go_wp2_with fail
    go_ret2
    exact ⟨none, none, rfl, fun b hb => (by cases hb), _, rfl⟩
  | some b =>
    obtain rfl := ha1 b rfl
    clear ha1 ha2 hg
    by_cases hh : at' + n ≤ R
    · have hh' : (at' : Int) + n ≤ R := by omega
      go_enter Try.func65, Try.ntmps65
      go_wp2_with fail
      go_quiet (fail)
      go_wp2_with fail
      all_goals
        go_ret2
        refine cells_mk ?_ ?_ ?_ ?_
        · omega
        · omega
        · intro h'; first | rfl | omega
        · intro h'; first | rfl | omega
    · have hh' : (R : Int) < at' + n := by omega
      go_enter Try.func65, Try.ntmps65
      go_wp2_with fail
      go_quiet (fail)
      go_wp2_with fail
      all_goals
        go_ret2
        refine cells_mk ?_ ?_ ?_ ?_
        · omega
        · omega
        · intro h'; first | rfl | omega
        · intro h'; first | rfl | omega

end
end Go.Proofs.Ytfolidedcejafaa

namespace Go.Proofs.Ytfolidedcejafaa
section
open Go.RowKit

theorem Reads.touch {F : Nat → Prop} {w w' : World} {k : IntKind} {v : Value} {zs : List Int} (h : Reads w k v zs) (ht : Touch F w w') (hF : ∀ b o n c, v = .slice (some ⟨b, o, none⟩) n c → ¬ F b) : Reads w' k v zs := by
  obtain ⟨a, cap, rfl, hl, hc⟩ := h
  refine ⟨a, cap, rfl, hl, fun hne => ?_⟩
  obtain ⟨b, o, rfl, h1⟩ := hc hne
  refine ⟨b, o, rfl, fun j hj => ?_⟩
  have h2 := h1 j hj
  have hb : b < w.heap.size := World.block_lt_of_cell? w ⟨b, o + j, none⟩ h2
  have h3 := ht.block b hb (hF b o _ _ rfl)
  unfold World.cell? at h2 ⊢
  rw [h3]
  exact h2

theorem Reads.take {w : World} {k : IntKind} {a : Option Addr} {n c : Nat} {zs : List Int} (h : Reads w k (.slice a n c) zs) (m : Nat) (hm : m ≤ zs.length) : Reads w k (.slice a m c) (zs.take m) := by
  obtain ⟨a', cap, e, hl, hc⟩ := h
  simp only [Value.slice.injEq] at e
  obtain ⟨rfl, rfl, rfl⟩ := e
  have hlm : (zs.take m).length = m := by rw [List.length_take]; omega
  refine ⟨a, c, by rw [hlm], by omega, fun hne => ?_⟩
  have h0 : 0 < m := by
    rcases Nat.eq_zero_or_pos m with h0 | h0
    · subst h0; simp at hne
    · exact h0
  obtain ⟨b, o, rfl, h1⟩ := hc (by intro e; subst e; simp at hm; omega)
  refine ⟨b, o, rfl, fun j hj => ?_⟩
  rw [hlm] at hj
  rw [h1 j (by omega)]
  simp [List.getD_eq_getElem?_getD, hj]

theorem Reads.dropZ {w : World} {k : IntKind} {b o n c : Nat} {zs : List Int} (h : Reads w k (.slice (some ⟨b, o, none⟩) n c) zs) (t : Nat) (ht : t ≤ zs.length) (z : Option Addr) (hz : t < zs.length → z = some ⟨b, o + t, none⟩) (m : Nat) : Reads w k (.slice z (n - t) m) (zs.drop t) := by
  obtain ⟨a', cap, e, hl, hc⟩ := h
  simp only [Value.slice.injEq] at e
  obtain ⟨rfl, rfl, rfl⟩ := e
  have hlm : (zs.drop t).length = zs.length - t := by rw [List.length_drop]
  refine ⟨z, m, by rw [hlm], by omega, fun hne => ?_⟩
  have h0 : t < zs.length := by
    rcases Nat.lt_or_ge t zs.length with h0 | h0
    · exact h0
    · exact absurd (List.drop_eq_nil_of_le h0) hne
  obtain ⟨b', o', e1, h1⟩ := hc (by intro e; subst e; simp at h0)
  simp only [Option.some.injEq, Addr.mk.injEq, and_true] at e1
  obtain ⟨rfl, rfl⟩ := e1
  refine ⟨b, o + t, hz h0, fun j hj => ?_⟩
  rw [hlm] at hj
  rw [Nat.add_assoc, h1 (t + j) (by omega)]
  simp [List.getD_eq_getElem?_getD]

theorem splice_mapF (cs zs : List Int) (F : Nat) : (splice cs F zs).map (Value.int .u8) = splice (cs.map (Value.int .u8)) F (zs.map (Value.int .u8)) := by simp [splice]

theorem bytes_spliceF {cs zs : List Int} {F : Nat} (h : bytes cs) (hz : bytes zs) : bytes (splice cs F zs) := by
  intro z hm
  simp only [splice, List.mem_append] at hm
  rcases hm with hm | hm | hm
  · exact h z (List.mem_of_mem_take hm)
  · exact hz z hm
  · exact h z (List.mem_of_mem_drop hm)

def ReplPost (k s m : Int) (g : Nat) (cs : List Int) (n cap f t : Nat) (zs : List Int) (N : Nat) (w : World) : Ending → World → Prop := fun e w' =>
  ∃ g' ds, e = .returned (.tuple #[.slice (some ⟨g', 0, none⟩) N (growV k s m cap N).toNat, .bool (decide (cap < N)), .int .i64 0]) ∧ byteRow w' g' ds ∧ ds.length = (growV k s m cap N).toNat ∧ bytes ds ∧
    ds.take N = cs.take f ++ zs ++ (cs.take n).drop t ∧ (g' = g ∨ w.heap.size ≤ g') ∧ Touch (fun k => k = g) w w'

end
end Go.Proofs.Ytfolidedcejafaa
