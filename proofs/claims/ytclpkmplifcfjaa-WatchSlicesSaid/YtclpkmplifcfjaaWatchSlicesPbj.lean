/-
  Spare, Fenced, Meets. Conditions: the slices lie in rows.
-/
import Derived.StillTailTactics
import Derived.Test.YtclpkmplifcfjaaWatchSlicesPbi
namespace Go.Proofs.Ytclpkmplifcfjaa
open Go.RowKit
set_option linter.unusedVariables false

theorem spareW_any (a : Option Addr) (n c : Nat) (w : World) (h1 : n ≤ c) (h2 : c ≤ maxLen) : Calls Try.prog 14 #[.slice a n c] w (fun e w' => e = .returned (.int .i64 ((c : Int) - n)) ∧ w = w') := by
  unfold maxLen at h2
  have hb : (c : Int) - n ≤ 9223372036854775807 ∧ 0 ≤ (c : Int) - n := by omega
  go_enter Try.func14, Try.ntmps14
  go_wp2_with fail
  go_ret
  exact ⟨rfl, rfl⟩

theorem LsIn.below {w w' : World} {v : Value} {xs : List (Wn × Option Addr)} (h : LsIn w v xs) (hb : Below w.heap.size w w') : LsIn w' v xs := by
  obtain ⟨a, c, h1, h2, h3, h4, h5⟩ := h
  exact ⟨a, c, h1, h2, h3, h4, fun k hk => by
    obtain ⟨b, o, e, d⟩ := h5 k hk
    exact ⟨b, o, e, old_cell hb d⟩⟩

def fenceL (xs : List (Wn × Option Addr)) (n : Nat) : List Nat := (List.range n).filter fun i => decide ((xs.getD i W0).1.c = (xs.getD i W0).1.n)
theorem fenceL_succ (xs : List (Wn × Option Addr)) (n : Nat) : fenceL xs (n + 1) = fenceL xs n ++ if (xs.getD n W0).1.c = (xs.getD n W0).1.n then [n] else [] := by
  unfold fenceL
  rw [List.range_succ, List.filter_append]
  congr 1
  by_cases h : (xs.getD n W0).1.c = (xs.getD n W0).1.n
  · rw [if_pos h]; simp only [List.filter_cons, List.filter_nil, decide_eq_true h, if_true]
  · rw [if_neg h]; simp only [List.filter_cons, List.filter_nil, decide_eq_false h]; rfl
theorem fenceL_len (xs : List (Wn × Option Addr)) (n : Nat) : (fenceL xs n).length ≤ n := by
  unfold fenceL
  exact Nat.le_trans (List.length_filter_le _ _) (by simp)
def natCells (l : List Nat) : List Value := l.map fun (i : Nat) => Value.int .i64 (i : Int)
def FencedPost (xs : List (Wn × Option Addr)) (w : World) : Ending → World → Prop := fun e w' => Below w.heap.size w w' ∧
  ((chkL xs = 4 ∧ e = .returned (.tuple #[.slice none 0 0, .int .i64 4])) ∨
   (chkL xs = 0 ∧ ∃ v, e = .returned (.tuple #[v, .int .i64 0]) ∧ w'.ownsRow w.heap.size 3 1 v (fenceL xs xs.length).length (natCells (fenceL xs xs.length))))
theorem chkL_ways (xs : List (Wn × Option Addr)) : chkL xs = 0 ∨ chkL xs = 4 := by unfold chkL; split <;> (try split) <;> simp
theorem chkL_ok {xs : List (Wn × Option Addr)} (h : chkL xs = 0) : xs.length ≤ 100 ∧ ∀ x ∈ xs, x.1.n ≤ 2000 := by
  unfold chkL at h
  split at h
  · omega
  · split at h
    · omega
    · rename_i h1 h2
      refine ⟨by omega, fun x hx => ?_⟩
      by_cases hb : 2000 < x.1.n
      · exact absurd (List.any_eq_true.2 ⟨x, hx, by simpa using hb⟩) h2
      · omega

set_option maxHeartbeats 2000000 in
set_option maxRecDepth 100000 in
theorem fencedX_any (v : Value) (xs : List (Wn × Option Addr)) (w : World) (hl : LsIn w v xs) (hx : ∀ x ∈ xs, x.1.n ≤ x.1.c ∧ x.1.c ≤ maxLen) : Calls Try.prog 11 #[v] w (FencedPost xs w) := by
  obtain ⟨i0, hi0, hz0, hz1, hz2⟩ := info_parts (show (Try.prog.info? 3).map (fun i => (i.zero, i.size, i.bytes)) = some (some (.int .i64 0), 1, 8) by kernel_rfl)
  have CH := Lib.hid (checkW_any _ _ _ hl)
  obtain ⟨la, lc, rfl, hlen, hlc, hlm, hcell⟩ := hl
  have HC := Lib.hid hcell
  have HX := Lib.hid hx
  clear hcell hx
  unfold maxLen at hlm
  obtain ⟨cv, hcv⟩ : ∃ z, chkL xs = z := ⟨_, rfl⟩
  have HCV := Lib.hid hcv
  have hw := chkL_ways xs
  go_enter Try.func11, Try.ntmps11
  go_wp2_with fail
  refine CH.out.mono ?_
  rintro e w2 ⟨rfl, rfl⟩
  rcases hw with he | he
  · have HE := Lib.hid he
    rw [he]
    clear he hcv
    go_wp2_with fail
    go_loopw [5, 15] (fun ov i wr => ∃ k : Nat, k ≤ xs.length ∧ i = .int .i64 k ∧ wr.ownsRow w.heap.size 3 1 ov (fenceL xs k).length (natCells (fenceL xs k)) ∧ Below w.heap.size w wr) (fun _ i _ => xs.length - (intOf i).toNat)
    case atStart => exact ⟨0, Nat.zero_le _, rfl, World.ownsRow_nil _ _ _ _, Below.refl _ _⟩
    case round =>
      obtain ⟨k, hk, rfl, hrow, hb⟩ := hrel
      have BL := Lib.hid hb
      have hsz := hb.size
      by_cases hlt : k < xs.length
      · obtain ⟨b, o, rfl, d⟩ := HC.out k hlt
        have hwx := HX.out _ (w0_in hlt)
        have hfs := fenceL_succ xs k
        obtain ⟨⟨xg, xo, xn, xc⟩, xa, hxk⟩ : ∃ (x : Wn) (a : Option Addr), xs.getD k W0 = (x, a) := ⟨_, _, rfl⟩
        rw [hxk] at d hwx hfs
        dsimp only at hwx hfs
        have d' := old_cell hb d
        unfold Wn.val at d'
        dsimp only at d'
        have hfl := fenceL_len xs k
        have HROW := Lib.hid hrow
        have SP := Lib.hid (spareW_any xa xn xc wr hwx.1 hwx.2)
        obtain ⟨hwx1, hwx2⟩ := hwx
        unfold maxLen at hwx2
        by_cases hc : xc = xn
        · rw [if_pos hc] at hfs
          have HF := Lib.hid hfs
          have FIN : Hid (∀ (v' : Value) (w' : World), w'.ownsRow w.heap.size 3 1 v' ((fenceL xs k).length + 1) (natCells (fenceL xs k) ++ [.int .i64 k]) → w'.ownsRow w.heap.size 3 1 v' (fenceL xs (k + 1)).length (natCells (fenceL xs (k + 1)))) := Lib.hid (fun v' w' h => by
            rw [HF.out, List.length_append]
            unfold natCells at *
            rw [List.map_append]
            exact h)
          generalize hfe : fenceL xs k = fe at *
          subst hc
          have hd : (xc : Int) - xc = 0 := by omega
          clear hfs hrow hb d hxk hfe
          go_wp2_with fail
          refine SP.out.mono ?_
          rintro e w3 ⟨rfl, rfl⟩
          rw [hd]
          go_wp2_with (at_builtin; go_must (refine wpList_append_new rfl (.tmp 23) (.tmp 25) 35 rfl w.heap.size 3 i0 (.int .i64 0) 8 Try.underlying35 hi0 hz0 hz1 hz2 rfl _ _ _ wr _ (.int .i64 k) rfl (by exact HROW.out) rfl rfl (by unfold maxLen; omega) (by omega) hsz ?_))
          intro v' w3 hown _ hb3
          have ROW3 := Lib.hid (FIN.out _ _ hown)
          have B3 := Lib.hid (BL.out.trans hb3)
          clear hown hb3
          go_wp2_with fail
          go_round
          case rel => exact ⟨k + 1, by omega, by go_num, ROW3.out, B3.out⟩
          case measure => simp [intOf]; omega
        · rw [if_neg hc, List.append_nil] at hfs
          have ROW3 := Lib.hid (show wr.ownsRow w.heap.size 3 1 u5 (fenceL xs (k + 1)).length (natCells (fenceL xs (k + 1))) by rw [hfs]; exact hrow)
          have hd : ((xc : Int) - xn == 0) = false := beq_eq_false_iff_ne.2 (by omega)
          clear hfs hrow hb d hxk
          go_wp2_with fail
          refine SP.out.mono ?_
          rintro e w3 ⟨rfl, rfl⟩
          go_wp2_with fail
          go_round
          case rel => exact ⟨k + 1, by omega, by go_num, ROW3.out, BL.out⟩
          case measure => simp [intOf]; omega
      · obtain rfl : k = xs.length := by omega
        have HROW := Lib.hid hrow
        clear hlt hk hrow hb
        go_wp2_with fail
        go_ret2
        exact ⟨BL.out, Or.inr ⟨HE.out, _, rfl, HROW.out⟩⟩
  · have HE := Lib.hid he
    rw [he]
    clear he hcv
    go_wp2_with fail
    go_ret2
    exact ⟨Below.refl _ _, Or.inl ⟨HE.out, rfl⟩⟩

end Go.Proofs.Ytclpkmplifcfjaa
