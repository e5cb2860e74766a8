/-
  appears: where a slice's first octet lies in another one. Conditions: both hold zeros.
-/
import Derived.Test.YtclpkmplifcfjaaWatchSlicesPat
namespace Go.Proofs.Ytclpkmplifcfjaa
open Go.RowKit
set_option linter.unusedVariables false

def IdxPost (zs : List Int) (x : Int) (w : World) : Ending → World → Prop := fun e w' => w = w' ∧
  ((∃ k, k < zs.length ∧ zs.getD k 0 = x ∧ (∀ j, j < k → zs.getD j 0 ≠ x) ∧ e = .returned (.int .i64 (k : Nat))) ∨ ((∀ j, j < zs.length → zs.getD j 0 ≠ x) ∧ e = .returned (.int .i64 (-1))))

set_option maxHeartbeats 1000000 in
set_option maxRecDepth 100000 in
theorem indexB_any (v : Value) (zs : List Int) (x : Int) (w : World) (hr : Reads w .u8 v zs) :
    Calls Try.prog 33 #[v, .int .u8 x] w (IdxPost zs x w) := by
  obtain ⟨a, cap, rfl, hl, hc⟩ := hr
  have HC := Lib.hid hc
  clear hc
  go_enter Try.func33, Try.ntmps33
  go_wp2_with fail
  go_loop [5, 8] (fun _ i => ∃ k : Nat, k ≤ zs.length ∧ i = .int .i64 k ∧ Hid (∀ j, j < k → zs.getD j 0 ≠ x)) (fun _ i => zs.length - (intOf i).toNat)
  case atStart => exact ⟨0, Nat.zero_le _, rfl, Lib.hid (fun j hj => by omega)⟩
  case round =>
    obtain ⟨k, hk, rfl, hno⟩ := hrel
    by_cases hlt : k < zs.length
    · obtain ⟨b, o, rfl, g⟩ := HC.out (by intro e; rw [e] at hlt; simp at hlt)
      have g1 := g k hlt
      clear g
      have HZ : Hid (∀ z, zs.getD k 0 = z → z ≠ x → ∀ j, j < k + 1 → zs.getD j 0 ≠ x) := Lib.hid (fun z hz hne j hj => by
        by_cases e : j = k
        · subst e; rw [hz]; exact hne
        · exact hno.out j (by omega))
      obtain ⟨z, hz⟩ : ∃ z, zs.getD k 0 = z := ⟨_, rfl⟩
      have HZE := Lib.hid hz
      rw [hz] at g1
      clear hz
      by_cases hxz : x = z
      · subst hxz
        go_wp2_with fail
        go_ret
        exact ⟨rfl, Or.inl ⟨k, hlt, HZE.out, hno.out, rfl⟩⟩
      · have HNE := Lib.hid (Ne.symm hxz)
        go_wp2_with fail
        go_round
        case rel => exact ⟨k + 1, by omega, by go_num, Lib.hid (HZ.out z HZE.out HNE.out)⟩
        case measure => simp [intOf]; omega
    · obtain rfl : k = zs.length := by omega
      clear hlt hk
      go_wp2_with fail
      go_ret
      exact ⟨rfl, Or.inr ⟨hno.out, rfl⟩⟩

/-- Where the first octet of x lies in y; -1: nowhere. -/
def app (x y : Wn) : Int := if 0 < x.n ∧ y.has x.g x.o then (x.o : Int) - y.o else -1
def AppPost (x y : Wn) (M : Nat → Nat → Int) (len : Nat → Nat) (D : Nat → Prop) (w : World) : Ending → World → Prop := fun e w' =>
  e = .returned (.int .i64 (app x y)) ∧ MemF w' M len D ∧ Touch D w w'

set_option maxHeartbeats 1000000 in
set_option maxRecDepth 100000 in
theorem appears_any (x y : Wn) (a b : Option Addr) (M : Nat → Nat → Int) (len : Nat → Nat) (D : Nat → Prop) (w : World) (h : MemF w M len D) (hx : WnOk len D x a) (hy : WnOk len D y b) (zx : ∀ g i, x.has g i → M g i = 0) (zy : ∀ g i, y.has g i → M g i = 0) :
    Calls Try.prog 30 #[x.val a, y.val b] w (AppPost x y M len D w) := by
  unfold Wn.val
  by_cases h0 : x.n = 0
  · have e : app x y = -1 := if_neg (by omega)
    have FIN := Lib.hid (show AppPost x y M len D w (.returned (.int .i64 (-1))) w from ⟨by rw [e], h, Touch.refl _ _⟩)
    rw [h0]
    clear hx hy zx zy h e
    go_enter Try.func30, Try.ntmps30
    go_wp2_with fail
    go_ret
    exact FIN.out
  · have hpos : 0 < x.n := by omega
    obtain ⟨hxc, hxm, hxx⟩ := hx
    obtain ⟨rfl, hD, hle⟩ := hxx hpos
    have c0 := (h x.g hD).cell x.o (by omega)
    have f0 : w.frozen? ⟨x.g, x.o, none⟩ = false := free_of (h x.g hD) _
    have M1 := h.set x.g x.o 1
    have R1 := M1.reads hy
    unfold Wn.val at R1
    have IX := Lib.hid (indexB_any _ _ 1 _ R1)
    have hb1 : (w.setCell ⟨x.g, x.o, none⟩ (.int .u8 1)).heap[x.g]? = _ := M1 x.g hD
    have c1 := (M1 x.g hD).cell x.o (by omega)
    have f1 : (w.setCell ⟨x.g, x.o, none⟩ (.int .u8 1)).frozen? ⟨x.g, x.o, none⟩ = false := free_of hb1 _
    have M2 : MemF ((w.setCell ⟨x.g, x.o, none⟩ (.int .u8 1)).setCell ⟨x.g, x.o, none⟩ (.int .u8 0)) M len D := (M1.set x.g x.o 0).congr (fun g hg i hi => by
      by_cases e : g = x.g ∧ i = x.o
      · obtain ⟨rfl, rfl⟩ := e
        simp [zx x.g x.o ⟨rfl, Nat.le_refl _, by omega⟩]
      · simp only [if_neg e])
    have T2 : Touch D w ((w.setCell ⟨x.g, x.o, none⟩ (.int .u8 1)).setCell ⟨x.g, x.o, none⟩ (.int .u8 0)) := ((Touch.refl D w).setCell (p := ⟨x.g, x.o, none⟩) (Or.inl hD) _).setCell (p := ⟨x.g, x.o, none⟩) (Or.inl hD) _
    have HF := Lib.hid (And.intro M2 T2)
    have hlen : (y.row (fun g i => if g = x.g ∧ i = x.o then 1 else M g i)).length = y.n := by simp [Wn.row]
    have hget : ∀ j, j < y.n → (y.row (fun g i => if g = x.g ∧ i = x.o then 1 else M g i)).getD j 0 = if y.g = x.g ∧ y.o + j = x.o then 1 else 0 := fun j hj => by
      simp only [Wn.row, List.getD_eq_getElem?_getD, List.getElem?_map, List.getElem?_range hj, Option.map_some, Option.getD_some]
      split
      · rfl
      · exact zy y.g (y.o + j) ⟨rfl, by omega, by omega⟩
    have HV : Hid (∀ e w', IdxPost (y.row (fun g i => if g = x.g ∧ i = x.o then 1 else M g i)) 1 (w.setCell ⟨x.g, x.o, none⟩ (.int .u8 1)) e w' → e = .returned (.int .i64 (app x y)) ∧ w' = w.setCell ⟨x.g, x.o, none⟩ (.int .u8 1)) := Lib.hid (by
      rintro e w' ⟨rfl, hp⟩
      refine ⟨?_, rfl⟩
      rw [hlen] at hp
      rcases hp with ⟨k, hk, h1, _, rfl⟩ | ⟨hno, rfl⟩
      · rw [hget k hk] at h1
        have h2 : y.g = x.g ∧ y.o + k = x.o := by
          by_cases e : y.g = x.g ∧ y.o + k = x.o
          · exact e
          · rw [if_neg e] at h1; cases h1
        have e : app x y = (k : Int) := by
          unfold app
          rw [if_pos ⟨hpos, h2.1.symm, by omega, by omega⟩]
          omega
        rw [e]
      · have e : app x y = -1 := by
          unfold app
          refine if_neg (fun ⟨_, e1, e2, e3⟩ => ?_)
          have := hno (x.o - y.o) (by omega)
          rw [hget _ (by omega), if_pos ⟨e1.symm, by omega⟩] at this
          exact this rfl
        rw [e])
    clear h M1 R1 hb1 M2 T2 hlen hget zx zy hxx hy hle
    obtain ⟨xg, xo, xn, xc⟩ := x
    obtain ⟨yg, yo, yn, yc⟩ := y
    dsimp only at *
    simp only [and_self, if_true] at c1
    go_enter Try.func30, Try.ntmps30
    go_wp2_with fail
    refine IX.out.mono ?_
    intro e w' hp
    obtain ⟨rfl, rfl⟩ := HV.out e w' hp
    clear hp
    generalize hap : app _ _ = ap at *
    have HAP := Lib.hid hap
    clear hap
    go_wp2_with fail
    go_ret
    exact ⟨by rw [HAP.out]; rfl, HF.out.1, HF.out.2⟩

end Go.Proofs.Ytclpkmplifcfjaa
