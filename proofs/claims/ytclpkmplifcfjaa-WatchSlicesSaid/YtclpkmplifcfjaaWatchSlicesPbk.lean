/-
  Meets. Conditions: the slices lie in rows.
-/
import Derived.Test.YtclpkmplifcfjaaWatchSlicesPbj
namespace Go.Proofs.Ytclpkmplifcfjaa
open Go.RowKit
set_option linter.unusedVariables false

def pairsI (f : Nat → Nat → Bool) (i m : Nat) : List (Nat × Nat) := ((List.range m).filter fun k => decide (i < k) && f i k).map fun k => (i, k)
def pairsL (f : Nat → Nat → Bool) (n i : Nat) : List (Nat × Nat) := (List.range i).flatMap fun i => pairsI f i n
theorem pairsI_start (f : Nat → Nat → Bool) (i : Nat) : pairsI f i (i + 1) = [] := by
  unfold pairsI
  rw [List.map_eq_nil_iff, List.filter_eq_nil_iff]
  intro k hk
  have := List.mem_range.1 hk
  simp
  omega
theorem pairsI_succ (f : Nat → Nat → Bool) {i k : Nat} (h : i < k) : pairsI f i (k + 1) = pairsI f i k ++ if f i k then [(i, k)] else [] := by
  unfold pairsI
  rw [List.range_succ, List.filter_append, List.map_append]
  congr 1
  cases hf : f i k <;> simp [hf, h]
theorem pairsL_succ (f : Nat → Nat → Bool) (n i : Nat) : pairsL f n (i + 1) = pairsL f n i ++ pairsI f i n := by
  unfold pairsL
  rw [List.range_succ, List.flatMap_append]
  simp
theorem pairsI_len (f : Nat → Nat → Bool) (i m : Nat) : (pairsI f i m).length ≤ m := by
  unfold pairsI
  rw [List.length_map]
  exact Nat.le_trans (List.length_filter_le _ _) (by simp)
theorem pairsL_len (f : Nat → Nat → Bool) (n : Nat) : ∀ i, (pairsL f n i).length ≤ i * n
  | 0 => by simp [pairsL]
  | i + 1 => by rw [pairsL_succ, List.length_append, Nat.succ_mul]; have := pairsL_len f n i; have := pairsI_len f i n; omega
def meetB (xs : List (Wn × Option Addr)) (i k : Nat) : Bool := decide (0 < (ov (xs.getD i W0).1 (xs.getD k W0).1).2.2)
def MeetsPost (xs : List (Wn × Option Addr)) (w : World) : Ending → World → Prop := fun e w' => Below w.heap.size w w' ∧
  ((chkL xs = 4 ∧ e = .returned (.tuple #[.slice none 0 0, .int .i64 4])) ∨
   (chkL xs = 0 ∧ ∃ v, e = .returned (.tuple #[v, .int .i64 0]) ∧ w'.ownsRow w.heap.size 57 2 v (pairsL (meetB xs) xs.length xs.length).length (spCells (pairsL (meetB xs) xs.length xs.length))))
theorem infoPair : (Try.prog.info? 57).map (fun i => (i.zero, i.size, i.bytes)) = some (some (.agg #[.int .i64 0, .int .i64 0]), 2, 16) := by kernel_rfl

set_option maxHeartbeats 2000000 in
set_option maxRecDepth 100000 in
theorem meetsX_any (v : Value) (xs : List (Wn × Option Addr)) (M : Nat → Nat → Int) (len : Nat → Nat) (D : Nat → Prop) (w : World) (hl : LsIn w v xs) (hM : MemF w M len D) (hx : ∀ x ∈ xs, WnOk len D x.1 x.2) :
    Calls Try.prog 8 #[v] w (MeetsPost xs w) := by
  obtain ⟨i0, hi0, hz0, hz1, hz2⟩ := info_parts infoPair
  have CH := Lib.hid (checkW_any _ _ _ hl)
  obtain ⟨la, lc, rfl, hlen, hlc, hlm, hcell⟩ := hl
  have HC := Lib.hid hcell
  have HX := Lib.hid hx
  have HM := Lib.hid hM
  clear hcell hx hM
  unfold maxLen at hlm
  obtain ⟨cv, hcv⟩ : ∃ z, chkL xs = z := ⟨_, rfl⟩
  have hw := chkL_ways xs
  go_enter Try.func8, Try.ntmps8
  go_wp2_with fail
  refine CH.out.mono ?_
  rintro e w2 ⟨rfl, rfl⟩
  rcases hw with he | he
  · have HE := Lib.hid he
    have hle := chkL_ok he
    have hn100 := hle.1
    have HB := Lib.hid hle.2
    rw [he]
    clear he hcv hle
    go_wp2_with fail
    go_loopw [5, 15] (fun ov i wr => ∃ k : Nat, k ≤ xs.length ∧ i = .int .i64 k ∧ wr.ownsRow w.heap.size 57 2 ov (pairsL (meetB xs) xs.length k).length (spCells (pairsL (meetB xs) xs.length k)) ∧ Below w.heap.size w wr) (fun _ i _ => xs.length - (intOf i).toNat)
    case atStart => exact ⟨0, Nat.zero_le _, rfl, World.ownsRow_nil _ _ _ _, Below.refl _ _⟩
    case round =>
      obtain ⟨i, hk, rfl, hrow, hb⟩ := hrel
      have BL := Lib.hid hb
      have ROW := Lib.hid hrow
      have hll := pairsL_len (meetB xs) xs.length i
      have PS := Lib.hid (pairsL_succ (meetB xs) xs.length i)
      clear hrow
      by_cases hlt : i < xs.length
      · have hin : i * xs.length ≤ 100 * 100 := Nat.mul_le_mul (by omega) hn100
        generalize i * xs.length = inn at *
        generalize hL : pairsL (meetB xs) xs.length i = L at *
        have HL := Lib.hid hL
        clear hL
        go_wp2_with fail
        go_loopw [5, 7] (fun ov i' wr => ∃ k : Nat, i < k ∧ k ≤ xs.length ∧ i' = .int .i64 k ∧ wr.ownsRow w.heap.size 57 2 ov (L ++ pairsI (meetB xs) i k).length (spCells (L ++ pairsI (meetB xs) i k)) ∧ Below w.heap.size w wr) (fun _ i' _ => xs.length - (intOf i').toNat)
        case atStart => exact ⟨i + 1, by omega, by omega, by go_num, by rw [pairsI_start, List.append_nil]; exact ROW.out, BL.out⟩
        case round =>
          obtain ⟨k, hik, hkn, rfl, hrow2, hb2⟩ := hrel
          have B2 := Lib.hid hb2
          have ROW2 := Lib.hid hrow2
          have hs2 := hb2.size
          have hil := pairsI_len (meetB xs) i k
          have PI := Lib.hid (pairsI_succ (meetB xs) hik)
          clear hrow2
          by_cases hlt2 : k < xs.length
          · obtain ⟨b, o, rfl, di⟩ := HC.out i hlt
            obtain ⟨b', o', e', dk⟩ := HC.out k hlt2
            obtain ⟨rfl, rfl⟩ : b = b' ∧ o = o' := by simpa using e'
            have wi := HX.out _ (w0_in hlt)
            have wk := HX.out _ (w0_in hlt2)
            have ni := HB.out _ (w0_in hlt)
            have nk := HB.out _ (w0_in hlt2)
            have MB := Lib.hid (show meetB xs i k = decide (0 < (ov (xs.getD i W0).1 (xs.getD k W0).1).2.2) from rfl)
            have di' := old_cell hb2 di
            have dk' := old_cell hb2 dk
            have MW := meetsW_any _ _ _ _ M len D wr.drew ((HM.out.below hb2).same (fun g hg => rfl)) wi wk (by omega) (by omega)
            rw [← MB.out] at MW
            generalize meetB xs i k = mb at *
            obtain ⟨⟨xg, xo, xn, xc⟩, xa, hxi⟩ : ∃ (x : Wn) (a : Option Addr), xs.getD i W0 = (x, a) := ⟨_, _, rfl⟩
            obtain ⟨⟨yg, yo, yn, yc⟩, ya, hyk⟩ : ∃ (x : Wn) (a : Option Addr), xs.getD k W0 = (x, a) := ⟨_, _, rfl⟩
            rw [hxi] at di' MW
            rw [hyk] at dk' MW
            unfold Wn.val at di' dk' MW
            dsimp only at di' dk' MW
            have HMW := Lib.hid MW
            have hs' : w.heap.size ≤ wr.drew.heap.size := hs2
            have ROWd := Lib.hid (show wr.drew.ownsRow w.heap.size 57 2 u5 (L ++ pairsI (meetB xs) i k).length (spCells (L ++ pairsI (meetB xs) i k)) from ROW2.out)
            have Bd := Lib.hid (show Below w.heap.size w wr.drew from bdrewN B2.out 1)
            generalize hpi : pairsI (meetB xs) i k = pi at *
            generalize hpi2 : pairsI (meetB xs) i (k + 1) = pi2 at *
            have HPI2 := Lib.hid hpi2
            clear MW wi wk ni nk di dk e' hxi hyk hb2 hpi hpi2
            go_wp2_with fail
            go_still_tail 8, (by kernel_rfl)
            change wpList _ _ _ _ _ wr.drew
            clear di' dk'
            generalize wr.drew = W2 at *
            go_wp2_with fail
            refine HMW.out.mono ?_
            rintro e w3 ⟨rfl, hb3⟩
            have B3 := Lib.hid (Bd.out.trans (hb3.mono hs'))
            have ROW3 := Lib.hid (ownsRow_same ROWd.out (fun j hj => hb3.block j (ROWd.out.lt j hj).2))
            have hs3 : w.heap.size ≤ w3.heap.size := by have := hb3.size; omega
            have hll2 : (L ++ pi).length + 1 ≤ 20000 := by rw [List.length_append]; omega
            generalize hlp : (L ++ pi).length = lp at *
            have HLP := Lib.hid hlp
            clear hb3 hlp
            cases mb with
            | true =>
              have FIN : Hid (∀ (v' : Value) (w' : World), w'.ownsRow w.heap.size 57 2 v' (lp + 1) (spCells (L ++ pi) ++ [.int .i64 i, .int .i64 k]) → w'.ownsRow w.heap.size 57 2 v' (L ++ pi2).length (spCells (L ++ pi2))) := Lib.hid (fun v' w' h => by
                have e := PI.out
                simp only [if_true] at e
                rw [e, ← List.append_assoc, spCells_app, List.length_append, HLP.out]
                exact h)
              go_wp2_with (at_builtin; go_must (refine wpList_append_w rfl (.tmp 35) (.tmp 39) 32 rfl w.heap.size 57 i0 (.agg #[.int .i64 0, .int .i64 0]) 2 16 Try.underlying32 hi0 hz0 hz1 hz2 rfl (by decide) _ _ _ w3 _ [.int .i64 i, .int .i64 k] rfl (by exact ROW3.out) (by rfl) rfl (by intro u hu; simp at hu; rcases hu with rfl | rfl <;> rfl) (by unfold maxLen; omega) (by omega) hs3 ?_))
              intro v' w4 hown' _ hb4
              have FIN2 := Lib.hid (FIN.out v' w4 hown')
              have B4 := Lib.hid (B3.out.trans hb4)
              clear hown' hb4
              go_wp2_with fail
              go_round
              case rel => exact ⟨k + 1, by omega, by omega, by go_num, by rw [HPI2.out]; exact FIN2.out, B4.out⟩
              case measure => simp [intOf]; omega
            | false =>
              have ROW4 := Lib.hid (show w3.ownsRow w.heap.size 57 2 u5 (L ++ pi2).length (spCells (L ++ pi2)) by
                have e := PI.out
                simp only [Bool.false_eq_true, if_false, List.append_nil] at e
                rw [e, HLP.out]
                exact ROW3.out)
              go_wp2_with fail
              go_round
              case rel => exact ⟨k + 1, by omega, by omega, by go_num, by rw [HPI2.out]; exact ROW4.out, B3.out⟩
              case measure => simp [intOf]; omega
          · obtain rfl : k = xs.length := by omega
            have FIN := Lib.hid (show wr.ownsRow w.heap.size 57 2 u5 (pairsL (meetB xs) xs.length (i + 1)).length (spCells (pairsL (meetB xs) xs.length (i + 1))) by rw [PS.out]; exact ROW2.out)
            clear hlt2 hkn hb2
            go_wp2_with fail
            go_round
            case rel => exact ⟨i + 1, by omega, by go_num, FIN.out, B2.out⟩
            case measure => simp [intOf]; omega
      · obtain rfl : i = xs.length := by omega
        clear hlt hk hb hll
        go_wp2_with fail
        go_ret2
        exact ⟨BL.out, Or.inr ⟨HE.out, _, rfl, ROW.out⟩⟩
  · have HE := Lib.hid he
    rw [he]
    clear he hcv
    go_wp2_with fail
    go_ret2
    exact ⟨Below.refl _ _, Or.inl ⟨HE.out, rfl⟩⟩

end Go.Proofs.Ytclpkmplifcfjaa
