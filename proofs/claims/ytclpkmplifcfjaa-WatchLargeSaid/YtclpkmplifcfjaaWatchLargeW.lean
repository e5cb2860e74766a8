/-
  WatchLarge: the walk. Conditions: numbers in int's range.
-/
import Derived.Test.YtclpkmplifcfjaaWinQ
import Derived.Test.YtclpkmplifcfjaaMakes
import Derived.Test.YtclpkmplifcfjaaWinL
namespace Go.Proofs.Ytclpkmplifcfjaa
open Go.RowKit Go.Shelf
set_option linter.unusedVariables false

theorem made_ls (n : Nat) : madeCells #[Value.slice none 0 0] n = (List.replicate n (Value.slice none 0 0)).toArray := by
  apply Array.ext
  · simp [madeCells]
  · intro i h1 h2
    simp [madeCells, Nat.mod_one]
theorem run_makeLs (w : World) (n : Nat) (hn : n ≤ 1000) :
    (Instr.makeSlice 31 (.int .i64 (n : Int)) (.int .i64 (n : Int))).run Try.prog w = .ok (.slice (some ⟨w.heap.size, 0, none⟩) n n) (w.alloc (.cells (List.replicate n (.slice none 0 0)).toArray 22)) := by
  obtain ⟨i0, hi, hz0, hz1, hz2⟩ := info_parts infoSlB
  have h := run_make (P := Try.prog) w 31 22 i0 (.slice none 0 0) Try.underlying31 hi hz0 .i64 .i64 (n : Int) (n : Int) (by omega) (by omega) (by rw [hz2]; omega) (by omega)
  rw [h]
  simp only [Value.cells, hz1, Nat.mul_one, Int.toNat_natCast]
  rw [made_ls]
theorem ov_err {x y : Wn} {w w' : World} {e : Ending} (h : OvBigPost x y w e w') {E : Int} (hE : errXY x y = E) : Below w.heap.size w w' ∧ ∃ p q r, e = .returned (.tuple #[.int .i64 p, .int .i64 q, .int .i64 r, .int .i64 E]) := by
  subst hE
  obtain ⟨hb, h⟩ := h
  refine ⟨hb, ?_⟩
  rcases h with ⟨h1, h2⟩ | ⟨h1, h2⟩ <;> rw [h1] <;> exact ⟨_, _, _, h2⟩
theorem same_err {x y : Wn} {w w' : World} {e : Ending} (h : SameBigPost x y w e w') {E : Int} (hE : errXY x y = E) : Below w.heap.size w w' ∧ ∃ c, e = .returned (.tuple #[.bool c, .int .i64 E]) := by
  subst hE
  obtain ⟨hb, h⟩ := h
  refine ⟨hb, ?_⟩
  rcases h with ⟨h1, h2⟩ | ⟨h1, h2⟩ <;> rw [h1] <;> exact ⟨_, h2⟩
theorem diff_err {x y : Wn} {M : Nat → Nat → Int} {w w' : World} {e : Ending} (h : DiffPost x y M w e w') {E : Int} (hE : errXY x y = E) : Below w.heap.size w w' ∧ ∃ v, e = .returned (.tuple #[v, .int .i64 E]) := by
  subst hE
  obtain ⟨hb, h⟩ := h
  refine ⟨hb, ?_⟩
  rcases h with ⟨h1, h2⟩ | ⟨h1, v, h2, _⟩ <;> rw [h1] <;> exact ⟨_, h2⟩
theorem meets_err {xs : List (Wn × Option Addr)} {w w' : World} {e : Ending} (h : MeetsPost xs w e w') {E : Int} (hE : chkL xs = E) : Below w.heap.size w w' ∧ ∃ v, e = .returned (.tuple #[v, .int .i64 E]) := by
  subst hE
  obtain ⟨hb, h⟩ := h
  refine ⟨hb, ?_⟩
  rcases h with ⟨h1, h2⟩ | ⟨h1, v, h2, _⟩ <;> rw [h1] <;> exact ⟨_, h2⟩
theorem groups_err {xs : List (Wn × Option Addr)} {w w' : World} {e : Ending} (h : GroupsPost xs w e w') {E : Int} (hE : chkL xs = E) : Below w.heap.size w w' ∧ ∃ v, e = .returned (.tuple #[v, .int .i64 E]) := by
  subst hE
  obtain ⟨hb, h⟩ := h
  refine ⟨hb, ?_⟩
  rcases h with ⟨h1, h2⟩ | ⟨h1, v, h2⟩ <;> rw [h1] <;> exact ⟨_, h2⟩
theorem cover_err {xs : List (Wn × Option Addr)} {M : Nat → Nat → Int} {w w' : World} {e : Ending} (h : CoverPost xs M w e w') {E : Int} (hE : chkL xs = E) : Below w.heap.size w w' ∧ ∃ c, e = .returned (.tuple #[.int .i64 c, .int .i64 E]) := by
  subst hE
  obtain ⟨hb, h⟩ := h
  refine ⟨hb, ?_⟩
  rcases h with ⟨h1, h2⟩ | ⟨h1, h2⟩ <;> rw [h1] <;> exact ⟨_, h2⟩
theorem fenced_err {xs : List (Wn × Option Addr)} {w w' : World} {e : Ending} (h : FencedPost xs w e w') {E : Int} (hE : chkL xs = E) : Below w.heap.size w w' ∧ ∃ v, e = .returned (.tuple #[v, .int .i64 E]) := by
  subst hE
  obtain ⟨hb, h⟩ := h
  refine ⟨hb, ?_⟩
  rcases h with ⟨h1, h2⟩ | ⟨h1, v, h2, _⟩ <;> rw [h1] <;> exact ⟨_, h2⟩

set_option maxHeartbeats 2000000 in
set_option maxRecDepth 100000 in
theorem watchLargeN (a0 a1 : Int) (n m : Nat) (hn : (n : Int) = min (max a0 0) 3000) (hm : (m : Int) = min (max a1 0) 200) (w : World) :
    Calls Try.prog 3 #[.int .i64 a0, .int .i64 a1] w (fun e w' => e = .returned (.bool true) ∧ Below w.heap.size w w') := by
  have hn3 : n ≤ 3000 := by omega
  have hm2 : m ≤ 200 := by omega
  have HNM := Lib.hid (And.intro hn hm)
  clear hn hm
  go_enter Try.func3, Try.ntmps3
  go_upto_region 1 with fail
  go_cut [0, 1] from 26 to 31 (fun s t wx => s = .int .i64 (n : Nat) ∧ t = .int .i64 (m : Nat) ∧ wx = w)
  case first =>
    have h := HNM.out
    go_wp2_with fail
    all_goals
      go_meet
      exact ⟨congrArg _ (by omega), congrArg _ (by omega), rfl⟩
  case rest =>
    obtain ⟨rfl, rfl, rfl⟩ := hcut
    obtain ⟨ga, hga⟩ : ∃ ga, wc.heap.size = ga := ⟨_, rfl⟩
    have mk := run_makeBytes wc n n (by omega) (by omega) (by omega)
    simp only [Int.toNat_natCast] at mk
    obtain ⟨W1, hW1⟩ : ∃ W, wc.alloc (.cells ((zeros n).map (Value.int .u8)).toArray 5) = W := ⟨_, rfl⟩
    have n1 : W1.heap[ga]? = some (.cells ((zeros n).map (Value.int .u8)).toArray 5 (0, 0)) := by rw [← hW1, ← hga]; exact heap_alloc_new wc _
    have s1 : W1.heap.size = ga + 1 := by rw [← hW1]; simp; omega
    have b1 : Below wc.heap.size wc W1 := by rw [← hW1]; exact (Below.refl _ _).alloc (Nat.le_refl _) _
    rw [hW1, hga] at mk
    obtain ⟨W2, hW2⟩ : ∃ W, W1.alloc (.cells #[.int .u8 1] 5) = W := ⟨_, rfl⟩
    have n2 : W2.heap[ga]? = some (.cells ((zeros n).map (Value.int .u8)).toArray 5 (0, 0)) := by rw [← hW2]; exact (heap_alloc_old W1 _ (by omega)).trans n1
    have n3 : W2.heap[ga + 1]? = some (.cells #[.int .u8 1] 5 (0, 0)) := by rw [← hW2, ← s1]; exact heap_alloc_new W1 _
    have s2 : W2.heap.size = ga + 2 := by rw [← hW2]; simp; omega
    have b2 : Below wc.heap.size wc W2 := by rw [← hW2]; exact b1.alloc (by omega) _
    have MM : MemF W2 (fun g i => if g = ga then 0 else 1) (fun g => if g = ga then n else 1) (fun g => g = ga ∨ g = ga + 1) := fun g hg => by
      rcases hg with rfl | rfl
      · have e : (List.range n).map (fun i => if g = g then (0 : Int) else 1) = zeros n := by
          apply List.ext_getElem?
          intro i
          by_cases h : i < n <;> simp [zeros, h]
        show byteRow W2 g ((List.range (if g = g then n else 1)).map (fun i => if g = g then (0 : Int) else 1))
        rw [show (if g = g then n else 1) = n from if_pos rfl, e]
        exact n2
      · unfold RowF byteRow
        rw [n3]
        simp
    have WX : WnOk (fun g => if g = ga then n else 1) (fun g => g = ga ∨ g = ga + 1) ⟨ga, 0, n, n⟩ (some ⟨ga, 0, none⟩) := ⟨Nat.le_refl _, by unfold maxLen; show n ≤ _; omega, fun _ => ⟨rfl, Or.inl rfl, by simp⟩⟩
    have WY : WnOk (fun g => if g = ga then n else 1) (fun g => g = ga ∨ g = ga + 1) ⟨ga + 1, 0, 1, 1⟩ (some ⟨ga + 1, 0, none⟩) := ⟨Nat.le_refl _, by unfold maxLen; show 1 ≤ _; omega, fun _ => ⟨rfl, Or.inr rfl, by simp⟩⟩
    have HMM := Lib.hid MM
    have HWX := Lib.hid WX
    have HWY := Lib.hid WY
    have HB2 := Lib.hid b2
    obtain ⟨E1, hE1⟩ : ∃ E, (if 2000 < n then (4 : Int) else 0) = E := ⟨_, rfl⟩
    have HE1 := Lib.hid hE1
    have EYX : errXY ⟨ga + 1, 0, 1, 1⟩ ⟨ga, 0, n, n⟩ = E1 := by rw [← hE1]; unfold errXY; simp
    have EXY : errXY ⟨ga, 0, n, n⟩ ⟨ga + 1, 0, 1, 1⟩ = E1 := by rw [← hE1]; unfold errXY; simp
    have EE := Lib.hid (And.intro EYX EXY)
    have OV := overlapX_any _ _ _ _ _ _ _ W2 MM WY WX (by show 1 ≤ 100000; omega) (by show n ≤ 100000; omega)
    have SA := Lib.hid (fun W (hW : MemF W (fun g i => if g = ga then 0 else 1) (fun g => if g = ga then n else 1) (fun g => g = ga ∨ g = ga + 1)) => sameX_any _ _ _ _ _ _ _ W hW WX WY (by show n ≤ 100000; omega) (by show 1 ≤ 100000; omega))
    have DI := Lib.hid (fun W (hW : MemF W (fun g i => if g = ga then 0 else 1) (fun g => if g = ga then n else 1) (fun g => g = ga ∨ g = ga + 1)) => diffX_any _ _ _ _ _ _ _ W hW WX WY)
    unfold Wn.val at OV SA DI
    dsimp only at OV SA DI
    have HOV := Lib.hid OV
    clear n1 b1 n2 n3 b2 MM WX WY hE1 EYX EXY OV
    go_wp2_with fail
    refine HOV.out.mono ?_
    intro e w3 hp
    obtain ⟨b3, p1, p2, p3, rfl⟩ := ov_err hp EE.out.1
    have M3 := Lib.hid (HMM.out.below b3)
    have B3 := Lib.hid (HB2.out.trans (b3.mono HB2.out.size))
    clear hp b3
    go_wp2_with fail
    refine (SA.out w3 M3.out).mono ?_
    intro e w4 hp
    obtain ⟨b4, c4, rfl⟩ := same_err hp EE.out.2
    have M4 := Lib.hid (M3.out.below b4)
    have B4 := Lib.hid (B3.out.trans (b4.mono B3.out.size))
    clear hp b4
    go_wp2_with fail
    refine (DI.out w4 M4.out).mono ?_
    intro e w5 hp
    obtain ⟨b5, v5, rfl⟩ := diff_err hp EE.out.2
    have M5 := Lib.hid (M4.out.below b5)
    have B5 := Lib.hid (B4.out.trans (b5.mono B4.out.size))
    clear hp b5
    obtain ⟨gl, hgl⟩ : ∃ gl, w5.heap.size = gl := ⟨_, rfl⟩
    have hgab : ga + 2 ≤ gl := by have := M5.out.lt (g := ga + 1) (Or.inr rfl); omega
    have mk := run_makeLs w5 m (by omega)
    obtain ⟨W6, hW6⟩ : ∃ W, w5.alloc (.cells (List.replicate m (.slice none 0 0)).toArray 22) = W := ⟨_, rfl⟩
    have n6 : W6.heap[gl]? = some (.cells (List.replicate m (.slice none 0 0)).toArray 22 (0, 0)) := by rw [← hW6, ← hgl]; exact heap_alloc_new w5 _
    have b6 : Below w5.heap.size w5 W6 := by rw [← hW6]; exact (Below.refl _ _).alloc (Nat.le_refl _) _
    rw [hW6, hgl] at mk
    have N6 := Lib.hid n6
    have M6 := Lib.hid (M5.out.below b6)
    have B6 := Lib.hid (B5.out.trans (b6.mono B5.out.size))
    have hwl : wc.heap.size ≤ gl := by have := B5.out.size; omega
    clear n6 b6 hW6
    go_upto_if 58 with fail
    go_cut [59] from 59 to 63 (fun _ wx => Below wc.heap.size wc wx ∧ MemF wx (fun g i => if g = ga then 0 else 1) (fun g => if g = ga then n else 1) (fun g => g = ga ∨ g = ga + 1) ∧ LsIn wx (.slice (some ⟨gl, 0, none⟩) m m) (lawXs ga n (some ⟨ga, 0, none⟩) m))
    case first =>
      by_cases hm0 : 0 < m
      · have cl : W6.cell? ⟨gl, m - 1, none⟩ = some (.slice none 0 0) := by rw [cell_of N6.out]; simp [show m - 1 < m by omega]
        have fl : W6.frozen? ⟨gl, m - 1, none⟩ = false := free_of N6.out _
        have e1 : ((m : Int) - 1).toNat = m - 1 := by omega
        go_wp2_with fail
        go_meet
        refine ⟨B6.out.setCell (p := ⟨gl, m - 1, none⟩) hwl _, M6.out.same (fun g hg => Below.heap_setCell _ _ _ _ (fun e => by have e : g = gl := e; rcases hg with e2 | e2 <;> omega)), ?_⟩
        refine ⟨_, _, by rw [lawXs_len], by rw [lawXs_len]; omega, by rw [lawXs_len]; exact Nat.le_refl _, by unfold maxLen; omega, fun k hk => ⟨gl, 0, rfl, ?_⟩⟩
        rw [lawXs_len] at hk
        rw [Nat.zero_add, cell_of (block_setCell N6.out _ _), lawXs_get hk]
        by_cases hl : k + 1 = m
        · obtain rfl : k = m - 1 := by omega
          simp [hl, Wn.val, show m - 1 < m by omega]
        · rw [if_neg hl]
          have h2 : ¬ m - 1 = k := by omega
          simp [Wn.val, W0, hk, h2]
      · obtain rfl : m = 0 := by omega
        go_wp2_with fail
        go_meet
        exact ⟨B6.out, M6.out, ⟨_, _, by rw [lawXs_len], by simp [lawXs], by simp [lawXs], by unfold maxLen; omega, fun k hk => by simp [lawXs] at hk⟩⟩
    case rest =>
      obtain ⟨bc, mc, lc⟩ := hcut
      have WXS : ∀ x ∈ lawXs ga n (some ⟨ga, 0, none⟩) m, WnOk (fun g => if g = ga then n else 1) (fun g => g = ga ∨ g = ga + 1) x.1 x.2 := fun x hx => by
        rcases law_mem hx with rfl | ⟨_, rfl⟩
        · exact ⟨Nat.le_refl _, by unfold maxLen; decide, fun h => absurd h (by decide)⟩
        · exact HWX.out
      obtain ⟨E2, hE2⟩ : ∃ E, chkL (lawXs ga n (some ⟨ga, 0, none⟩) m) = E := ⟨_, rfl⟩
      have HE2 := Lib.hid hE2
      have ME := Lib.hid (fun W hl hM => meetsX_any (.slice (some ⟨gl, 0, none⟩) m m) _ (fun g i => if g = ga then 0 else 1) _ _ W hl hM WXS)
      have GR := Lib.hid (fun W hl hM => groupsNil_any (.slice (some ⟨gl, 0, none⟩) m m) _ (fun g i => if g = ga then 0 else 1) _ _ W hl hM WXS (law_pairs _ _ _ _))
      have CO := Lib.hid (fun W hl hM => coverX_any (.slice (some ⟨gl, 0, none⟩) m m) _ (fun g i => if g = ga then 0 else 1) _ _ W hl hM WXS (fun a n c e _ => by
        simp only [Value.slice.injEq, Option.some.injEq] at e
        rw [← e.1]
        show ¬ (gl = ga ∨ gl = ga + 1)
        omega))
      have FE := Lib.hid (fun W hl => fencedX_any (.slice (some ⟨gl, 0, none⟩) m m) _ W hl (fun x hx => ⟨(WXS x hx).1, (WXS x hx).2.1⟩))
      have LC := Lib.hid lc
      have MC := Lib.hid mc
      have BC := Lib.hid bc
      clear bc mc lc WXS hE2
      go_wp2_with fail
      refine (ME.out wc LC.out MC.out).mono ?_
      intro e w8 hp
      obtain ⟨b8, v8, rfl⟩ := meets_err hp HE2.out
      have M8 := Lib.hid (MC.out.below b8)
      have L8 := Lib.hid (LC.out.below b8)
      have B8 := Lib.hid (BC.out.trans (b8.mono BC.out.size))
      clear hp b8
      go_wp2_with fail
      refine (GR.out w8 L8.out M8.out).mono ?_
      intro e w9 hp
      obtain ⟨b9, v9, rfl⟩ := groups_err hp HE2.out
      have M9 := Lib.hid (M8.out.below b9)
      have L9 := Lib.hid (L8.out.below b9)
      have B9 := Lib.hid (B8.out.trans (b9.mono B8.out.size))
      clear hp b9
      go_wp2_with fail
      refine (CO.out w9 L9.out M9.out).mono ?_
      intro e w10 hp
      obtain ⟨b10, c10, rfl⟩ := cover_err hp HE2.out
      have L10 := Lib.hid (L9.out.below b10)
      have B10 := Lib.hid (B9.out.trans (b10.mono B9.out.size))
      clear hp b10
      go_wp2_with fail
      refine (FE.out w10 L10.out).mono ?_
      intro e w11 hp
      obtain ⟨b11, v11, rfl⟩ := fenced_err hp HE2.out
      have B11 := Lib.hid (B10.out.trans (b11.mono B10.out.size))
      clear hp b11
      rw [law_chk] at HE2
      clear hga
      by_cases hc : 2000 < n
      · obtain rfl : E1 = 4 := by rw [← HE1.out, if_pos hc]
        by_cases hm1 : 100 < m
        · obtain rfl : E2 = 4 := by rw [← HE2.out, if_pos (Or.inl hm1)]
          go_wp2_with fail
          go_ret
          exact ⟨rfl, B11.out⟩
        · by_cases hm0 : 0 < m
          · obtain rfl : E2 = 4 := by rw [← HE2.out, if_pos (Or.inr ⟨hm0, hc⟩)]
            go_wp2_with fail
            go_ret
            exact ⟨rfl, B11.out⟩
          · obtain rfl : E2 = 0 := by rw [← HE2.out, if_neg (by omega)]
            go_wp2_with fail
            go_ret
            exact ⟨rfl, B11.out⟩
      · obtain rfl : E1 = 0 := by rw [← HE1.out, if_neg hc]
        by_cases hm1 : 100 < m
        · obtain rfl : E2 = 4 := by rw [← HE2.out, if_pos (Or.inl hm1)]
          go_wp2_with fail
          go_ret
          exact ⟨rfl, B11.out⟩
        · obtain rfl : E2 = 0 := by rw [← HE2.out, if_neg (by omega)]
          by_cases hm0 : 0 < m
          · go_wp2_with fail
            go_ret
            exact ⟨rfl, B11.out⟩
          · go_wp2_with fail
            go_ret
            exact ⟨rfl, B11.out⟩

theorem watchLarge (a0 a1 : Int) (w : World) (_ : -9223372036854775808 ≤ a0 ∧ a0 ≤ 9223372036854775807) (_ : -9223372036854775808 ≤ a1 ∧ a1 ≤ 9223372036854775807) :
    Calls Try.prog 3 #[.int .i64 a0, .int .i64 a1] w (fun e w' => e = .returned (.bool true) ∧ Below w.heap.size w w') :=
  watchLargeN a0 a1 (min (max a0 0) 3000).toNat (min (max a1 0) 200).toNat (by omega) (by omega) w

end Go.Proofs.Ytclpkmplifcfjaa
