/-
  The beginning of a row over a pool and its book: awakeRoom, book, held, a new pool. No conditions.
  A ring in memory; cell and cells: what they give. Conditions: numbers in their bounds.
-/
import Derived.Test.YtbndknbjjdoanaaSharePackedPbx
import Derived.Test.YtbndknbjjdoanaaSharePackedPai
import Derived.Test.YtbndknbjjdoanaaSharePackedPaj
import Derived.Test.YtbndknbjjdoanaaSharePackedPay
import Derived.Test.YtbndknbjjdoanaaSharePackedPbc

namespace Go.Proofs.Ytbndknbjjdoanaa
section
open Go.RowKit Go.ChangeMaps Go.MapKept
set_option linter.unusedVariables false

/-- The book of the statements: one account, number 1, with the greatest budget. -/
def bigStB : BookSt := openSt (newSt 10000000) 1 10000000
def BigPostB (w : World) : Ending → World → Prop := fun e w' =>
  ∃ p, e = .returned (.pointer (some ⟨p, 0, none⟩)) ∧ BookAt w' (fun k => w.heap.size ≤ k) p bigStB 1 ∧ Below w.heap.size w w'

set_option maxHeartbeats 1000000 in
set_option maxRecDepth 100000 in
theorem bigBookB_any (w : World) : Calls Try.prog 6 #[] w (BigPostB w) := by
  go_enter Try.func6, Try.ntmps6
  go_wp2_with fail
  refine (newBook_ok _ _ (by omega) (by omega)).mono ?_
  rintro e w1 ⟨p, rfl, hb, hbel⟩
  have O := Lib.hid (open_new p 1 10000000 w1 _ _ 0 hb (by simp [newSt]) (by unfold maxLen; omega) (by omega) ⟨by omega, by omega⟩ rfl)
  have hsz := hbel.size
  clear hb
  go_wp2_with fail
  refine O.out.mono ?_
  rintro e w2 ⟨rfl, hb2, ht2⟩
  go_wp2_with fail
  go_ret
  refine ⟨p, rfl, hb2.wider (fun k hk => by rcases hk with hk | hk <;> omega), ?_⟩
  exact hbel.trans (ht2.below hsz (fun k hk => hk))

set_option maxHeartbeats 1000000 in
set_option maxRecDepth 100000 in
theorem awakeRoomB_any (w : World) : Calls Try.prog 5 #[] w (LawPost w) := by
  go_enter Try.func5, Try.ntmps5
  go_wp2_with fail
  refine (classOf_bad _ _ (by omega)).mono ?_
  rintro e w1 ⟨rfl, hb⟩
  go_wp2_with fail
  go_ret
  exact ⟨rfl, hb⟩

theorem heldB_any (p : Nat) (w : World) (F : Nat → Prop) (st : BookSt) (N : Nat) (hb : BookAt w F p st N) : Calls Try.prog 17 #[.pointer (some ⟨p, 0, none⟩)] w (fun e w' => e = .returned (.int .i64 (heldV st 1)) ∧ w' = w) := by
  have HH := Lib.hid (held_any p 1 w F st N hb)
  clear hb
  go_enter Try.func17, Try.ntmps17
  go_wp2_with fail
  refine HH.out.mono ?_
  rintro e w1 ⟨rfl, rfl⟩
  go_wp2_with fail
  go_ret
  exact ⟨rfl, rfl⟩
theorem SP.held {w : World} {Z : Nat → Prop} {h bp : Nat} {P : PoolSt} {n : Nat} (s : SP w Z h bp P n) : Calls Try.prog 17 #[.pointer (some ⟨bp, 0, none⟩)] w (fun e w' => e = .returned (.int .i64 ((P.size * n : Nat) : Int)) ∧ w' = w) := by
  obtain ⟨mb, ms, D1, D2, F, G, b, p, hz⟩ := s
  have h1 := heldB_any bp w G b 1 p.bk
  have e : heldV b 1 = ((P.size * n : Nat) : Int) := by
    unfold heldV
    rw [if_pos (by omega), p.acc]
  rw [e] at h1
  exact h1

/-- A pool without strings. -/
def newP (size : Nat) : PoolSt := ⟨size, 0, 0, [], []⟩
theorem map_empty {P : Program} {k : TypeId} {R : Value → Option (DataW Unit × List MemPlace)} {w : World} {b c : Nat} (h : w.heap[b]? = some (.map #[] c)) : w.ownsMap P k R b 0 (.map []) := ⟨#[], c, h, ⟨by simp, stamped_empty c, by simp⟩, Nat.le_refl _, rfl⟩
def NpPost (G : Nat → Prop) (p : Nat) (size : Int) (w : World) : Ending → World → Prop := fun e w' =>
  Below w.heap.size w w' ∧ ((¬ (1 ≤ size ∧ size ≤ 4096) ∧ e = .returned (.tuple #[.pointer none, .int .i64 2])) ∨ ((1 ≤ size ∧ size ≤ 4096) ∧ ∃ h, e = .returned (.tuple #[.pointer (some ⟨h, 0, none⟩), .int .i64 0]) ∧ ∃ Z, SP w' Z h p (newP size.toNat) 0 ∧ ∀ k, Z k → G k ∨ w.heap.size ≤ k))
theorem newSP (w : World) (G : Nat → Prop) (p : Nat) (hb : BookAt w G p bigStB 1) (sz : Nat) (hs : 1 ≤ sz ∧ sz ≤ 4096) (w' : World) (hw : w' = ((w.alloc (.map #[] 0)).alloc (.map #[] 0)).alloc (.cells (poolCells p 1 (sz : Int) w.heap.size (w.heap.size + 1)) 63)) :
    ∃ Z, SP w' Z (w.heap.size + 2) p (newP sz) 0 ∧ ∀ k, Z k → G k ∨ w.heap.size ≤ k := by
  have h1 := heap_alloc_new w (.map #[] 0)
  have h2 := heap_alloc_new (w.alloc (.map #[] 0)) (.map #[] 0)
  have h3 := heap_alloc_new ((w.alloc (.map #[] 0)).alloc (.map #[] 0)) (.cells (poolCells p 1 (sz : Int) w.heap.size (w.heap.size + 1)) 63)
  simp only [World.size_alloc] at h2 h3
  have h2 := (heap_alloc_old ((w.alloc (.map #[] 0)).alloc (.map #[] 0)) (.cells (poolCells p 1 (sz : Int) w.heap.size (w.heap.size + 1)) 63) (by simp)).trans h2
  have h1 := (heap_alloc_old ((w.alloc (.map #[] 0)).alloc (.map #[] 0)) (.cells (poolCells p 1 (sz : Int) w.heap.size (w.heap.size + 1)) 63) (by simp; omega)).trans ((heap_alloc_old (w.alloc (.map #[] 0)) (.map #[] 0) (by simp)).trans h1)
  have hB : Below w.heap.size w (((w.alloc (.map #[] 0)).alloc (.map #[] 0)).alloc (.cells (poolCells p 1 (sz : Int) w.heap.size (w.heap.size + 1)) 63)) := (((Below.refl _ w).alloc (Nat.le_refl _) _).alloc (by simp) _).alloc (by simp; omega) _
  have hsz : (((w.alloc (.map #[] 0)).alloc (.map #[] 0)).alloc (.cells (poolCells p 1 (sz : Int) w.heap.size (w.heap.size + 1)) 63)).heap.size = w.heap.size + 3 := by simp
  have hbk := hb.narrow''.same (Below.same_on hB)
  subst hw
  have pm : PoolMem (((w.alloc (.map #[] 0)).alloc (.map #[] 0)).alloc (.cells (poolCells p 1 (sz : Int) w.heap.size (w.heap.size + 1)) 63)) (fun k => k = w.heap.size ∨ k = w.heap.size + 1 ∨ k = w.heap.size + 2) (w.heap.size + 2) p (newP sz) w.heap.size (w.heap.size + 1) 0 0 (.map []) (.map []) :=
    ⟨h3, Or.inr (Or.inr rfl), map_empty h1, Or.inl rfl, map_empty h2, Or.inr (Or.inl rfl), fun k z => rfl, rfl, fun k z => rfl, rfl, fun p hp => by simp [newP] at hp, by simp [newP], by simp [newP], by simp [newP], fun p hp => by simp [newP] at hp, by simp [newP], fun p hp => by simp [newP] at hp, fun p hp => by simp [newP] at hp, fun p hp => by simp [newP] at hp, hs, by omega, by simp [newP]⟩
  have pb : PB (((w.alloc (.map #[] 0)).alloc (.map #[] 0)).alloc (.cells (poolCells p 1 (sz : Int) w.heap.size (w.heap.size + 1)) 63)) (w.heap.size + 2) p (newP sz) w.heap.size (w.heap.size + 1) 0 0 (.map []) (.map []) (fun k => k = w.heap.size ∨ k = w.heap.size + 1 ∨ k = w.heap.size + 2) (fun k => G k ∧ k < w.heap.size) bigStB 0 :=
    ⟨pm, hbk, fun k hk hg => by have := hg.2; omega, fun k hk => by rw [hsz]; omega, fun k hk => by rw [hsz]; have := hk.2; omega, by rw [Nat.mul_zero]; rfl, rfl, by rw [Nat.mul_zero]; rfl, by decide, by omega⟩
  refine ⟨_, SP.of pb, fun k hk => ?_⟩
  rcases hk with hk | hk
  · right; omega
  · exact Or.inl hk.1

set_option maxHeartbeats 2000000 in
set_option maxRecDepth 100000 in
theorem newPoolB_any (p : Nat) (size : Int) (w : World) (G : Nat → Prop) (hb : BookAt w G p bigStB 1) :
    Calls Try.prog 7 #[.pointer (some ⟨p, 0, none⟩), .int .i64 1, .int .i64 size] w (NpPost G p size w) := by
  have hmm := @run_makeMap Try.prog
  have HE := Lib.hid (held_any p 1 w G bigStB 1 hb)
  have h0 : heldE bigStB 1 = 0 := by decide
  rw [h0] at HE
  by_cases hs : 1 ≤ size ∧ size ≤ 4096
  · have HS := Lib.hid hs
    obtain ⟨sz, rfl⟩ : ∃ sz : Nat, size = sz := ⟨size.toNat, by omega⟩
    have NS := Lib.hid (newSP w G p hb sz (by omega) _ rfl)
    obtain ⟨s1, s2⟩ := hs
    generalize heldV bigStB 1 = hv at *
    clear hb
    go_enter Try.func7, Try.ntmps7
    go_wp2_with fail
    refine (within_share_yes _ _ _ _ s1 s2).mono ?_
    rintro e w' ⟨rfl, rfl⟩
    go_wp2_with fail
    refine HE.out.mono ?_
    rintro e w' ⟨rfl, rfl⟩
    go_wp2_with fail
    go_ret2
    exact ⟨by go_grown, Or.inr ⟨HS.out, _, rfl, NS.out⟩⟩
  · have HS := Lib.hid hs
    clear hs hb
    go_enter Try.func7, Try.ntmps7
    go_wp2_with fail
    refine (within_share_no _ _ _ _ HS.out).mono ?_
    rintro e w' ⟨rfl, rfl⟩
    go_wp2_with fail
    go_ret2
    exact ⟨Below.refl _ _, Or.inl ⟨HS.out, rfl⟩⟩

end
end Go.Proofs.Ytbndknbjjdoanaa

namespace Go.Proofs.Ytbndknbjjdoanaa
section
open Go.RowKit

def ringCells (bp : Nat) (o k s m : Int) (mv : Value) (st len : Int) : Array Value :=
  #[.pointer (some ⟨bp, 0, none⟩), .int .i64 o, .int .i64 k, .int .i64 s, .int .i64 m, .bool false, mv, .int .i64 st, .int .i64 len]
/-- The ring's memory: nil, or a block. -/
def memOf (g : Option Nat) (R : Nat) : Value := match g with | none => .slice none R R | some b => .slice (some ⟨b, 0, none⟩) R R
theorem memOf_sh (g : Option Nat) (R : Nat) : ∃ a, memOf g R = .slice a R R ∧ (∀ b, g = some b → a = some ⟨b, 0, none⟩) ∧ (g = none → a = none) := by
  cases g with
  | none => exact ⟨none, rfl, fun b h => (by cases h), fun _ => rfl⟩
  | some b => exact ⟨_, rfl, fun c h => (by cases h; rfl), fun h => (by cases h)⟩

def CellsPost (g : Option Nat) (at' n R : Nat) (w : World) : Ending → World → Prop := fun e w' =>
  ∃ f1 f2, e = .returned (.tuple #[.slice f1 (min (at' + n) R - at') (min (at' + n) R - at'), .slice f2 (n - (min (at' + n) R - at')) (n - (min (at' + n) R - at'))]) ∧
    (∀ b, g = some b → (at' < min (at' + n) R → f1 = some ⟨b, at', none⟩) ∧ (0 < n - (min (at' + n) R - at') → f2 = some ⟨b, 0, none⟩)) ∧ ∃ q, w' = w.drewN q

theorem cells_mk {b at' n R q A B : Nat} {w : World} {f1 f2 : Option Addr} (hA : A = min (at' + n) R - at') (hB : B = n - A) (h1 : at' < min (at' + n) R → f1 = some ⟨b, at', none⟩) (h2 : 0 < B → f2 = some ⟨b, 0, none⟩) :
    CellsPost (some b) at' n R w (.returned (.tuple #[.slice f1 A A, .slice f2 B B])) (w.drewN q) := by
  subst hA hB
  refine ⟨f1, f2, rfl, fun b' hb' => ?_, q, rfl⟩
  obtain rfl : b = b' := by simpa using hb'
  exact ⟨h1, h2⟩

end
end Go.Proofs.Ytbndknbjjdoanaa
