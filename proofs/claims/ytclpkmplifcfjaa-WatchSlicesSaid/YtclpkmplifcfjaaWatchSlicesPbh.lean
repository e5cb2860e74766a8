/-
  check, Overlap, Same, meets. Conditions: the slices lie in rows.
-/
import Derived.Test.YtclpkmplifcfjaaWatchSlicesPbg
namespace Go.Proofs.Ytclpkmplifcfjaa
open Go.RowKit
set_option linter.unusedVariables false

def bigB (xs : List (Wn × Option Addr)) : Bool := xs.any fun x => decide (2000 < x.1.n)
def chkL (xs : List (Wn × Option Addr)) : Int := if 100 < xs.length then 4 else if bigB xs then 4 else 0
def ChkWPost (xs : List (Wn × Option Addr)) (w : World) : Ending → World → Prop := fun e w' => e = .returned (.int .i64 (chkL xs)) ∧ w = w'

set_option maxHeartbeats 1000000 in
set_option maxRecDepth 100000 in
theorem checkW_any (v : Value) (xs : List (Wn × Option Addr)) (w : World) (hl : LsIn w v xs) : Calls Try.prog 21 #[v] w (ChkWPost xs w) := by
  obtain ⟨a, c, rfl, h1, h2, h3, hc⟩ := hl
  have HC := Lib.hid hc
  clear hc
  by_cases hlong : 100 < xs.length
  · have FIN : Hid (ChkWPost xs w (.returned (.int .i64 4)) w) := Lib.hid ⟨by unfold chkL; rw [if_pos hlong], rfl⟩
    go_enter Try.func21, Try.ntmps21
    go_wp2_with fail
    go_ret
    exact FIN.out
  · have FB : Hid (∀ k, k < xs.length → 2000 < (xs.getD k W0).1.n → ChkWPost xs w (.returned (.int .i64 4)) w) := Lib.hid (fun k hk hb => ⟨by
      unfold chkL
      have hbb : bigB xs = true := List.any_eq_true.2 ⟨_, w0_in hk, by simpa using hb⟩
      rw [if_neg hlong, if_pos hbb], rfl⟩)
    have FG : Hid ((∀ j, j < xs.length → (xs.getD j W0).1.n ≤ 2000) → ChkWPost xs w (.returned (.int .i64 0)) w) := Lib.hid (fun hall => ⟨by
      unfold chkL
      rw [if_neg hlong, if_neg]
      intro hb
      obtain ⟨x, hx, hn⟩ := List.any_eq_true.1 hb
      obtain ⟨j, hj, rfl⟩ := List.mem_iff_getElem.1 hx
      have := hall j hj
      rw [List.getD_eq_getElem?_getD, List.getElem?_eq_getElem hj] at this
      simp only [decide_eq_true_eq] at hn
      have h2 : (xs[j]).1.n ≤ 2000 := this
      omega, rfl⟩)
    go_enter Try.func21, Try.ntmps21
    go_wp2_with fail
    go_loop [10] (fun i => ∃ k : Nat, k ≤ xs.length ∧ i = .int .i64 k ∧ Hid (∀ j, j < k → (xs.getD j W0).1.n ≤ 2000)) (fun i => xs.length - (intOf i).toNat)
    case atStart => exact ⟨0, Nat.zero_le _, rfl, Lib.hid (fun j hj => by omega)⟩
    case round =>
      obtain ⟨k, hk, rfl, hall⟩ := hrel
      by_cases hlt : k < xs.length
      · obtain ⟨b, o, rfl, d⟩ := HC.out k hlt
        have fb := FB.out k hlt
        obtain ⟨⟨xg, xo, xn, xc⟩, xa, hxk⟩ : ∃ (x : Wn) (a : Option Addr), xs.getD k W0 = (x, a) := ⟨_, _, rfl⟩
        have NX : Hid (xn ≤ 2000 → ∀ j, j < k + 1 → (xs.getD j W0).1.n ≤ 2000) := Lib.hid (fun h j hj => by
          by_cases e : j = k
          · subst e; rw [hxk]; exact h
          · exact hall.out j (by omega))
        rw [hxk] at d fb
        unfold Wn.val at d
        dsimp only at d fb
        have HFB := Lib.hid fb
        clear hxk fb
        by_cases hbig : 2000 < xn
        · go_wp2_with fail
          go_ret
          exact HFB.out (by assumption)
        · have HS := Lib.hid (show xn ≤ 2000 by omega)
          go_wp2_with fail
          go_round
          case rel => exact ⟨k + 1, by omega, by go_num, Lib.hid (NX.out HS.out)⟩
          case measure => simp [intOf]; omega
      · obtain rfl : k = xs.length := by omega
        clear hlt hk
        go_wp2_with fail
        go_ret
        exact FG.out hall.out

theorem two_in {w : World} (x y : Wn × Option Addr) {b : Nat} (h : w.heap[b]? = some (.cells #[x.1.val x.2, y.1.val y.2] 22 (0, 0))) : LsIn w (.slice (some ⟨b, 0, none⟩) 2 2) [x, y] :=
  ⟨_, _, rfl, by simp, by simp, by unfold maxLen; omega, fun k hk => by
    have hk2 : k = 0 ∨ k = 1 := by have : k < 2 := hk; omega
    rcases hk2 with rfl | rfl
    · exact ⟨_, _, rfl, by rw [cell_of h]; rfl⟩
    · exact ⟨_, _, rfl, by rw [cell_of h]; rfl⟩⟩

def errXY (x y : Wn) : Int := if 2000 < x.n ∨ 2000 < y.n then 4 else 0
theorem chk_two (x y : Wn) (a b : Option Addr) : chkL [(x, a), (y, b)] = errXY x y := by
  unfold chkL errXY bigB
  simp

def OvBigPost (x y : Wn) (w : World) : Ending → World → Prop := fun e w' => Below w.heap.size w w' ∧
  ((errXY x y = 4 ∧ e = .returned (.tuple #[.int .i64 0, .int .i64 0, .int .i64 0, .int .i64 4])) ∨
   (errXY x y = 0 ∧ e = .returned (.tuple #[.int .i64 (ov x y).1, .int .i64 (ov x y).2.1, .int .i64 (ov x y).2.2, .int .i64 0])))

set_option maxHeartbeats 1000000 in
set_option maxRecDepth 100000 in
theorem overlapX_any (x y : Wn) (a b : Option Addr) (M : Nat → Nat → Int) (len : Nat → Nat) (D : Nat → Prop) (w : World) (h : MemF w M len D) (hx : WnOk len D x a) (hy : WnOk len D y b) (hnx : x.n ≤ 100000) (hny : y.n ≤ 100000) :
    Calls Try.prog 5 #[x.val a, y.val b] w (OvBigPost x y w) := by
  have W1 : Below w.heap.size w (w.alloc (.cells #[x.val a, y.val b] 22)) := (Below.refl _ _).alloc (Nat.le_refl _) _
  have CH := Lib.hid (checkW_any _ _ _ (two_in (x, a) (y, b) (heap_alloc_new w (.cells #[x.val a, y.val b] 22))))
  have OV := Lib.hid (overlap_any x y a b M len D _ (h.below W1) hx hy hnx hny)
  have HW1 := Lib.hid W1
  clear h hx hy W1
  unfold Wn.val at *
  go_enter Try.func5, Try.ntmps5
  go_wp2_with fail
  refine CH.out.mono ?_
  rintro e w2 ⟨rfl, rfl⟩
  rw [chk_two]
  by_cases he : errXY x y = 0
  · have HE := Lib.hid he
    rw [he]
    clear he
    go_wp2_with fail
    refine OV.out.mono ?_
    rintro e w3 ⟨rfl, hb3⟩
    have HB3 := Lib.hid (HW1.out.trans (hb3.mono HW1.out.size))
    clear hb3
    go_wp2_with fail
    refine bodyPost_ret (v := .tuple #[.int .i64 (ov x y).1, .int .i64 (ov x y).2.1, .int .i64 (ov x y).2.2, .int .i64 0]) (by simp [results, Try.results5, go_sem]) rfl ⟨HB3.out, Or.inr ⟨HE.out, rfl⟩⟩
  · have he4 : errXY x y = 4 := by unfold errXY at *; split at he <;> simp_all
    have HE := Lib.hid he4
    rw [he4]
    clear he he4
    go_wp2_with fail
    refine bodyPost_ret (v := .tuple #[.int .i64 0, .int .i64 0, .int .i64 0, .int .i64 4]) (by simp [results, Try.results5, go_sem]) rfl ⟨HW1.out, Or.inl ⟨HE.out, rfl⟩⟩

def sameB (x y : Wn) : Bool := decide (x.n = y.n) && (decide ((ov x y).1 = 0) && (decide ((ov x y).2.1 = 0) && decide ((ov x y).2.2 = x.n)))
def BoolBelow (c : Bool) (w : World) : Ending → World → Prop := fun e w' => e = .returned (.bool c) ∧ Below w.heap.size w w'

set_option maxHeartbeats 1000000 in
set_option maxRecDepth 100000 in
theorem sameW_any (x y : Wn) (a b : Option Addr) (M : Nat → Nat → Int) (len : Nat → Nat) (D : Nat → Prop) (w : World) (h : MemF w M len D) (hx : WnOk len D x a) (hy : WnOk len D y b) (hnx : x.n ≤ 100000) (hny : y.n ≤ 100000) :
    Calls Try.prog 23 #[x.val a, y.val b] w (BoolBelow (sameB x y) w) := by
  have OV := Lib.hid (overlap_any x y a b M len D w h hx hy hnx hny)
  have FIN := Lib.hid (show ∀ c w', c = sameB x y → Below w.heap.size w w' → BoolBelow (sameB x y) w (.returned (.bool c)) w' from fun c w' h1 h2 => ⟨by rw [h1], h2⟩)
  have SB := Lib.hid (show sameB x y = (decide (x.n = y.n) && (decide ((ov x y).1 = 0) && (decide ((ov x y).2.1 = 0) && decide ((ov x y).2.2 = x.n)))) from rfl)
  clear h hx hy
  unfold Wn.val at *
  go_enter Try.func23, Try.ntmps23
  go_wp2_with fail
  refine OV.out.mono ?_
  rintro e w3 ⟨rfl, hb3⟩
  have HB3 := Lib.hid hb3
  clear hb3
  generalize (ov x y).1 = r1 at *
  generalize (ov x y).2.1 = r2 at *
  generalize (ov x y).2.2 = r3 at *
  have g : ∀ (p q r s : Prop) [Decidable p] [Decidable q] [Decidable r] [Decidable s], (p → q → r → s → (decide p && (decide q && (decide r && decide s))) = true) ∧ (¬ (p ∧ q ∧ r ∧ s) → (decide p && (decide q && (decide r && decide s))) = false) := fun p q r s _ _ _ _ => ⟨fun a b c d => by simp [a, b, c, d], fun h => by
    cases hx : (decide p && (decide q && (decide r && decide s))) with
    | false => rfl
    | true => simp at hx; exact absurd ⟨hx.1, hx.2.1, hx.2.2.1, hx.2.2.2⟩ h⟩
  by_cases e0 : x.n = y.n
  · by_cases e1 : r1 = 0
    · by_cases e2 : r2 = 0
      · by_cases e3 : r3 = x.n
        · have hs := SB.out.trans ((g _ _ _ _).1 e0 e1 e2 e3)
          have HS := Lib.hid hs
          subst e1 e2
          have E0 := Lib.hid e0
          rw [e3, e0]
          clear hs e0 e3 g
          go_wp2_with fail
          go_ret
          exact FIN.out _ _ HS.out.symm HB3.out
        · have HS := Lib.hid (SB.out.trans ((g _ _ _ _).2 (fun h => e3 h.2.2.2)))
          subst e1 e2
          rw [e0] at e3 ⊢
          clear e0 g
          go_wp2_with fail
          go_ret
          exact FIN.out _ _ (by rw [HS.out]; simpa using e3) HB3.out
      · have HS := Lib.hid (SB.out.trans ((g _ _ _ _).2 (fun h => e2 h.2.2.1)))
        subst e1
        rw [e0]
        clear e0 g
        go_wp2_with fail
        go_ret
        exact FIN.out _ _ HS.out.symm HB3.out
    · have HS := Lib.hid (SB.out.trans ((g _ _ _ _).2 (fun h => e1 h.2.1)))
      rw [e0]
      clear e0 g
      go_wp2_with fail
      go_ret
      exact FIN.out _ _ HS.out.symm HB3.out
  · have HS := Lib.hid (SB.out.trans ((g _ _ _ _).2 (fun h => e0 h.1)))
    clear g
    go_wp2_with fail
    go_ret
    exact FIN.out _ _ HS.out.symm HB3.out

set_option maxHeartbeats 1000000 in
set_option maxRecDepth 100000 in
theorem meetsW_any (x y : Wn) (a b : Option Addr) (M : Nat → Nat → Int) (len : Nat → Nat) (D : Nat → Prop) (w : World) (h : MemF w M len D) (hx : WnOk len D x a) (hy : WnOk len D y b) (hnx : x.n ≤ 100000) (hny : y.n ≤ 100000) :
    Calls Try.prog 24 #[x.val a, y.val b] w (BoolBelow (decide (0 < (ov x y).2.2)) w) := by
  have OV := Lib.hid (overlap_any x y a b M len D w h hx hy hnx hny)
  clear h hx hy
  unfold Wn.val at *
  go_enter Try.func24, Try.ntmps24
  go_wp2_with fail
  refine OV.out.mono ?_
  rintro e w3 ⟨rfl, hb3⟩
  have HB3 := Lib.hid hb3
  clear hb3
  go_wp2_with fail
  go_ret
  exact ⟨rfl, HB3.out⟩

def SameBigPost (x y : Wn) (w : World) : Ending → World → Prop := fun e w' => Below w.heap.size w w' ∧
  ((errXY x y = 4 ∧ e = .returned (.tuple #[.bool false, .int .i64 4])) ∨ (errXY x y = 0 ∧ e = .returned (.tuple #[.bool (sameB x y), .int .i64 0])))
set_option maxHeartbeats 1000000 in
set_option maxRecDepth 100000 in
theorem sameX_any (x y : Wn) (a b : Option Addr) (M : Nat → Nat → Int) (len : Nat → Nat) (D : Nat → Prop) (w : World) (h : MemF w M len D) (hx : WnOk len D x a) (hy : WnOk len D y b) (hnx : x.n ≤ 100000) (hny : y.n ≤ 100000) :
    Calls Try.prog 6 #[x.val a, y.val b] w (SameBigPost x y w) := by
  have W1 : Below w.heap.size w (w.alloc (.cells #[x.val a, y.val b] 22)) := (Below.refl _ _).alloc (Nat.le_refl _) _
  have CH := Lib.hid (checkW_any _ _ _ (two_in (x, a) (y, b) (heap_alloc_new w (.cells #[x.val a, y.val b] 22))))
  have OV := Lib.hid (sameW_any x y a b M len D _ (h.below W1) hx hy hnx hny)
  have HW1 := Lib.hid W1
  clear h hx hy W1
  unfold Wn.val at *
  go_enter Try.func6, Try.ntmps6
  go_wp2_with fail
  refine CH.out.mono ?_
  rintro e w2 ⟨rfl, rfl⟩
  rw [chk_two]
  by_cases he : errXY x y = 0
  · have HE := Lib.hid he
    rw [he]
    clear he
    go_wp2_with fail
    refine OV.out.mono ?_
    rintro e w3 ⟨rfl, hb3⟩
    have HB3 := Lib.hid (HW1.out.trans (hb3.mono HW1.out.size))
    clear hb3
    go_wp2_with fail
    go_ret2
    exact ⟨HB3.out, Or.inr ⟨HE.out, rfl⟩⟩
  · have he4 : errXY x y = 4 := by unfold errXY at *; split at he <;> simp_all
    have HE := Lib.hid he4
    rw [he4]
    clear he he4
    go_wp2_with fail
    go_ret2
    exact ⟨HW1.out, Or.inl ⟨HE.out, rfl⟩⟩

end Go.Proofs.Ytclpkmplifcfjaa
