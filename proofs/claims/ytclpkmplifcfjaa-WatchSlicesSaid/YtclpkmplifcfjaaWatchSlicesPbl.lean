/-
  Cover. Conditions: the slices lie in rows.
-/
import Derived.Test.YtclpkmplifcfjaaWatchSlicesPbk
namespace Go.Proofs.Ytclpkmplifcfjaa
open Go.RowKit Go.Shelf
set_option linter.unusedVariables false

abbrev CovS := (Nat → Nat → Int) × Nat
def covIn (x : Wn) : Nat → CovS → CovS
  | 0, s => s
  | m + 1, s => if (covIn x m s).1 x.g (x.o + m) = 0 then (fun g i => if g = x.g ∧ i = x.o + m then 1 else (covIn x m s).1 g i, (covIn x m s).2 + 1) else covIn x m s
def covAll (xs : List (Wn × Option Addr)) : Nat → CovS → CovS
  | 0, s => s
  | k + 1, s => covIn (xs.getD k W0).1 (xs.getD k W0).1.n (covAll xs k s)
theorem covIn_le (x : Wn) (s : CovS) : ∀ m, (covIn x m s).2 ≤ s.2 + m
  | 0 => Nat.le_refl _
  | m + 1 => by have := covIn_le x s m; unfold covIn; split <;> (try simp only) <;> omega
theorem covAll_le (xs : List (Wn × Option Addr)) (hn : ∀ x ∈ xs, x.1.n ≤ 2000) (s : CovS) : ∀ k, k ≤ xs.length → (covAll xs k s).2 ≤ s.2 + k * 2000
  | 0, _ => by simp [covAll]
  | k + 1, h => by
    have h1 := covAll_le xs hn s k (by omega)
    have h2 := covIn_le (xs.getD k W0).1 (covAll xs k s) (xs.getD k W0).1.n
    have h3 := hn _ (w0_in (show k < xs.length by omega))
    unfold covAll
    omega
theorem covIn_out (x : Wn) (s : CovS) (g i : Nat) : ∀ m, m ≤ x.n → ¬ x.has g i → (covIn x m s).1 g i = s.1 g i
  | 0, _, _ => rfl
  | m + 1, hm, hh => by
    have h1 := covIn_out x s g i m (by omega) hh
    unfold covIn
    split
    · simp only
      rw [if_neg (fun ⟨e1, e2⟩ => hh ⟨e1, by omega, by omega⟩)]
      exact h1
    · exact h1
theorem covAll_out (xs : List (Wn × Option Addr)) (s : CovS) (g i : Nat) (hh : anyHas xs g i = false) : ∀ k, k ≤ xs.length → (covAll xs k s).1 g i = s.1 g i
  | 0, _ => rfl
  | k + 1, h => by
    unfold covAll
    rw [covIn_out _ _ _ _ _ (Nat.le_refl _)]
    · exact covAll_out xs s g i hh k (by omega)
    · intro hc
      have : anyHas xs g i = true := List.any_eq_true.2 ⟨_, w0_in (show k < xs.length by omega), by simpa using hc⟩
      rw [hh] at this
      cases this

theorem cell_keepT {w w' : World} {F : Nat → Prop} {b o : Nat} {u : Value} (ht : Touch F w w') (h : w.cell? ⟨b, o, none⟩ = some u) (hb : b < w.heap.size) (hf : ¬ F b) : w'.cell? ⟨b, o, none⟩ = some u := by
  rw [← h]
  unfold World.cell?
  simp only [ht.block b hb hf]

/-- Memory, and the box of the count. -/
structure CovAt (W : World) (s : CovS) (len : Nat → Nat) (D : Nat → Prop) (Bl Bn : Nat) (v : Value) : Prop where
  m : MemF W s.1 len D
  l : W.heap[Bl]? = some (.cells #[v] 31 (0, 0))
  n : W.heap[Bn]? = some (.cells #[.int .i64 (s.2 : Nat)] 3 (0, 0))
theorem CovAt.ne {W : World} {s : CovS} {len : Nat → Nat} {D : Nat → Prop} {Bl Bn : Nat} {v : Value} (h : CovAt W s len D Bl Bn v) : Bl ≠ Bn := fun e => by
  have h1 := h.l
  rw [e, h.n] at h1
  simp only [Option.some.injEq, Obj.cells.injEq] at h1
  exact absurd h1.2.1 (by decide)
theorem CovAt.put {W : World} {s : CovS} {len : Nat → Nat} {D : Nat → Prop} {Bl Bn : Nat} {v : Value} (h : CovAt W s len D Bl Bn v) (g0 i0 : Nat) (hd : D g0) (h1 : ¬ D Bl) (h2 : ¬ D Bn) :
    CovAt ((W.setCell ⟨g0, i0, none⟩ (.int .u8 1)).setCell ⟨Bn, 0, none⟩ (.int .i64 ((s.2 + 1 : Nat) : Int))) (fun g i => if g = g0 ∧ i = i0 then 1 else s.1 g i, s.2 + 1) len D Bl Bn v := by
  have e1 : Bl ≠ g0 := fun e => h1 (e ▸ hd)
  have e2 : Bn ≠ g0 := fun e => h2 (e ▸ hd)
  have n1 : (W.setCell ⟨g0, i0, none⟩ (.int .u8 1)).heap[Bn]? = some (.cells #[.int .i64 (s.2 : Nat)] 3 (0, 0)) := (Below.heap_setCell _ _ _ _ e2).trans h.n
  exact ⟨(h.m.set g0 i0 1).off h2 _, (Below.heap_setCell _ _ _ _ h.ne).trans ((Below.heap_setCell _ _ _ _ e1).trans h.l), by rw [block_setCell n1]; rfl⟩
theorem CovAt.same {W W' : World} {s : CovS} {len : Nat → Nat} {D : Nat → Prop} {Bl Bn : Nat} {v : Value} (h : CovAt W s len D Bl Bn v) (hs : ∀ k, (D k ∨ k = Bl ∨ k = Bn) → W'.heap[k]? = W.heap[k]?) : CovAt W' s len D Bl Bn v :=
  ⟨h.m.same (fun g hg => hs g (Or.inl hg)), (hs _ (Or.inr (Or.inl rfl))).trans h.l, (hs _ (Or.inr (Or.inr rfl))).trans h.n⟩

set_option maxHeartbeats 2000000 in
set_option maxRecDepth 100000 in
theorem cover1_any (v : Value) (xs : List (Wn × Option Addr)) (M : Nat → Nat → Int) (len : Nat → Nat) (D : Nat → Prop) (Bl Bn : Nat) (w : World) (hl : LsIn w v xs) (hx : ∀ x ∈ xs, WnOk len D x.1 x.2) (hn : ∀ x ∈ xs, x.1.n ≤ 2000) (h100 : xs.length ≤ 100)
    (h : CovAt w (M, 0) len D Bl Bn v) (h1 : ¬ D Bl) (h2 : ¬ D Bn) (hap : ∀ a n c, v = .slice (some a) n c → 0 < xs.length → ¬ D a.block ∧ a.block ≠ Bn) :
    Calls Try.prog 28 #[.pointer (some ⟨Bl, 0, none⟩), .pointer (some ⟨Bn, 0, none⟩)] w (fun e w' => e = .returned (.tuple #[]) ∧ CovAt w' (covAll xs xs.length (M, 0)) len D Bl Bn v ∧ Touch (fun k => D k ∨ k = Bn) w w') := by
  obtain ⟨la, lc, rfl, hlen, hlc, hlm, hcell⟩ := hl
  have cl : w.cell? ⟨Bl, 0, none⟩ = some (.slice la xs.length lc) := by rw [cell_of h.l]; rfl
  have HC := Lib.hid hcell
  have HX := Lib.hid hx
  have HN := Lib.hid hn
  have HH := Lib.hid h
  have HD := Lib.hid (And.intro h1 h2)
  have HAP := Lib.hid hap
  have LE := Lib.hid (covAll_le xs hn (M, 0))
  clear hcell hx hn h h1 h2 hap
  unfold maxLen at hlm
  go_enter Try.func28, Try.ntmps28
  go_wp2_with fail
  go_loopw [7] (fun i wr => ∃ k : Nat, k ≤ xs.length ∧ i = .int .i64 k ∧ CovAt wr (covAll xs k (M, 0)) len D Bl Bn (.slice la xs.length lc) ∧ Touch (fun k => D k ∨ k = Bn) w wr) (fun i _ => xs.length - (intOf i).toNat)
  case atStart => exact ⟨0, Nat.zero_le _, rfl, HH.out, Touch.refl _ _⟩
  case round =>
    obtain ⟨k, hk, rfl, hcov, ht⟩ := hrel
    have COV := Lib.hid hcov
    have HT := Lib.hid ht
    clear hcov
    by_cases hlt : k < xs.length
    · obtain ⟨b, o, rfl, d⟩ := HC.out k hlt
      have hbl : b < w.heap.size := World.block_lt_of_cell? w ⟨b, o + k, none⟩ d
      have hap := HAP.out _ _ _ rfl (by omega)
      have d' := cell_keepT ht d hbl (fun e => e.elim hap.1 hap.2)
      have wx := HX.out _ (w0_in hlt)
      have nx := HN.out _ (w0_in hlt)
      have ST := Lib.hid (show covAll xs (k + 1) (M, 0) = covIn (xs.getD k W0).1 (xs.getD k W0).1.n (covAll xs k (M, 0)) from rfl)
      have le := LE.out k (by omega)
      obtain ⟨⟨xg, xo, xn, xc⟩, xa, hxk⟩ : ∃ (x : Wn) (a : Option Addr), xs.getD k W0 = (x, a) := ⟨_, _, rfl⟩
      rw [hxk] at d' wx nx ST
      unfold Wn.val at d'
      dsimp only at d' nx ST
      generalize covAll xs k (M, 0) = s0 at *
      have WX := Lib.hid wx
      have hle0 : s0.2 ≤ 200000 := by omega
      have LI := Lib.hid (covIn_le ⟨xg, xo, xn, xc⟩ s0)
      clear d hap wx ht hxk le
      go_wp2_with fail
      go_loopw [13] (fun i wr => ∃ m : Nat, m ≤ xn ∧ i = .int .i64 m ∧ CovAt wr (covIn ⟨xg, xo, xn, xc⟩ m s0) len D Bl Bn (.slice (some ⟨b, o, none⟩) xs.length lc) ∧ Touch (fun k => D k ∨ k = Bn) w wr) (fun i _ => xn - (intOf i).toNat)
      case atStart => exact ⟨0, Nat.zero_le _, rfl, COV.out, HT.out⟩
      case round =>
        obtain ⟨m, hm, rfl, hcov2, ht2⟩ := hrel
        have COV2 := Lib.hid hcov2
        have HT2 := Lib.hid ht2
        have ST2 := Lib.hid (show covIn ⟨xg, xo, xn, xc⟩ (m + 1) s0 = if (covIn ⟨xg, xo, xn, xc⟩ m s0).1 xg (xo + m) = 0 then (fun g i => if g = xg ∧ i = xo + m then 1 else (covIn ⟨xg, xo, xn, xc⟩ m s0).1 g i, (covIn ⟨xg, xo, xn, xc⟩ m s0).2 + 1) else covIn ⟨xg, xo, xn, xc⟩ m s0 from rfl)
        have li := LI.out m
        by_cases hlt2 : m < xn
        · obtain ⟨rfl, dx, lx⟩ := WX.out.2.2 (by show 0 < xn; omega)
          dsimp only at dx lx
          generalize covIn ⟨xg, xo, xn, xc⟩ m s0 = s1 at *
          have cx := (hcov2.m xg dx).cell (xo + m) (by omega)
          have fx : wr.frozen? ⟨xg, xo + m, none⟩ = false := free_of (hcov2.m xg dx) _
          obtain ⟨z, hz⟩ : ∃ z, s1.1 xg (xo + m) = z := ⟨_, rfl⟩
          rw [hz] at cx
          have HZ := Lib.hid hz
          have hne : Bn ≠ xg := fun e => HD.out.2 (e ▸ dx)
          have n1 : (wr.setCell ⟨xg, xo + m, none⟩ (.int .u8 1)).heap[Bn]? = some (.cells #[.int .i64 (s1.2 : Nat)] 3 (0, 0)) := (Below.heap_setCell _ _ _ _ hne).trans hcov2.n
          have cn : (wr.setCell ⟨xg, xo + m, none⟩ (.int .u8 1)).cell? ⟨Bn, 0, none⟩ = some (.int .i64 (s1.2 : Nat)) := by rw [cell_of n1]; rfl
          have fn : (wr.setCell ⟨xg, xo + m, none⟩ (.int .u8 1)).frozen? ⟨Bn, 0, none⟩ = false := free_of n1 _
          have hbig : (s1.2 : Int) ≤ 400000 := by omega
          have DX := Lib.hid dx
          have hsz := HT2.out.size
          clear hcov2 ht2 hz n1 hne li dx
          by_cases h0 : z = 0
          · subst h0
            have FIN := Lib.hid (show CovAt ((wr.setCell ⟨xg, xo + m, none⟩ (.int .u8 1)).setCell ⟨Bn, 0, none⟩ (.int .i64 ((s1.2 : Int) + 1))) (covIn ⟨xg, xo, xn, xc⟩ (m + 1) s0) len D Bl Bn (.slice (some ⟨b, o, none⟩) xs.length lc) by
              rw [ST2.out, if_pos HZ.out]
              exact COV2.out.put xg (xo + m) DX.out HD.out.1 HD.out.2)
            have FT := Lib.hid (show Touch (fun k => D k ∨ k = Bn) w ((wr.setCell ⟨xg, xo + m, none⟩ (.int .u8 1)).setCell ⟨Bn, 0, none⟩ (.int .i64 ((s1.2 : Int) + 1))) from (HT2.out.setCell (p := ⟨xg, xo + m, none⟩) (Or.inl (Or.inl DX.out)) _).setCell (p := ⟨Bn, 0, none⟩) (Or.inl (Or.inr rfl)) _)
            go_wp2_with fail
            go_round
            case rel => exact ⟨m + 1, by omega, by go_num, FIN.out, FT.out⟩
            case measure => simp [intOf]; omega
          · have FIN := Lib.hid (show CovAt wr (covIn ⟨xg, xo, xn, xc⟩ (m + 1) s0) len D Bl Bn (.slice (some ⟨b, o, none⟩) xs.length lc) by
              rw [ST2.out, if_neg (by rw [HZ.out]; exact h0)]
              exact COV2.out)
            have d0 : (z == (0 : Int)) = false := beq_eq_false_iff_ne.2 h0
            go_wp2_with fail
            go_round
            case rel => exact ⟨m + 1, by omega, by go_num, FIN.out, HT2.out⟩
            case measure => simp [intOf]; omega
        · obtain rfl : m = xn := by omega
          clear hlt2 hm hcov2 ht2 li
          have FIN := Lib.hid (show CovAt wr (covAll xs (k + 1) (M, 0)) len D Bl Bn (.slice (some ⟨b, o, none⟩) xs.length lc) by rw [ST.out]; exact COV2.out)
          go_wp2_with fail
          go_round
          case rel => exact ⟨k + 1, by omega, by go_num, FIN.out, HT2.out⟩
          case measure => simp [intOf]; omega
    · obtain rfl : k = xs.length := by omega
      clear hlt hk ht
      go_wp2_with fail
      go_end0
      exact ⟨rfl, COV.out, HT.out⟩


theorem LsIn.touch {w w' : World} {v : Value} {xs : List (Wn × Option Addr)} {F : Nat → Prop} (h : LsIn w v xs) (ht : Touch F w w') (hf : ∀ a n c, v = .slice (some a) n c → 0 < xs.length → ¬ F a.block) : LsIn w' v xs := by
  obtain ⟨a, c, h1, h2, h3, h4, h5⟩ := h
  exact ⟨a, c, h1, h2, h3, h4, fun k hk => by
    obtain ⟨b, o, e, d⟩ := h5 k hk
    subst e
    exact ⟨b, o, rfl, cell_keepT ht d (World.block_lt_of_cell? w ⟨b, o + k, none⟩ d) (hf _ _ _ h1 (by omega))⟩⟩
def covN (xs : List (Wn × Option Addr)) (M : Nat → Nat → Int) : Nat := (covAll xs xs.length (zeroed xs M, 0)).2
def CoverPost (xs : List (Wn × Option Addr)) (M : Nat → Nat → Int) (w : World) : Ending → World → Prop := fun e w' => Below w.heap.size w w' ∧
  ((chkL xs = 4 ∧ e = .returned (.tuple #[.int .i64 0, .int .i64 4])) ∨ (chkL xs = 0 ∧ e = .returned (.tuple #[.int .i64 (covN xs M : Nat), .int .i64 0])))
theorem alloc2s (w : World) (v : Value) : ∀ W, W = (w.alloc (.cells #[v] 31)).alloc (.cells #[.int .i64 0] 3) → Below w.heap.size w W ∧ W.heap.size = w.heap.size + 2 ∧ W.heap[w.heap.size]? = some (.cells #[v] 31 (0, 0)) ∧ W.heap[w.heap.size + 1]? = some (.cells #[.int .i64 0] 3 (0, 0)) := by
  rintro W rfl
  have n0 : (w.alloc (.cells #[v] 31)).heap[w.heap.size]? = some (.cells #[v] 31 (0, 0)) := heap_alloc_new w _
  have n1 : ((w.alloc (.cells #[v] 31)).alloc (.cells #[.int .i64 0] 3)).heap[w.heap.size + 1]? = some (.cells #[.int .i64 0] 3 (0, 0)) := by
    have := heap_alloc_new (w.alloc (.cells #[v] 31)) (.cells #[.int .i64 0] 3 (0, 0))
    rwa [World.size_alloc] at this
  exact ⟨((Below.refl _ w).alloc (Nat.le_refl _) _).alloc (by simp) _, by simp, (heap_alloc_old _ _ (by simp)).trans n0, n1⟩

set_option maxHeartbeats 2000000 in
set_option maxRecDepth 100000 in
theorem coverX_any (v : Value) (xs : List (Wn × Option Addr)) (M : Nat → Nat → Int) (len : Nat → Nat) (D : Nat → Prop) (w : World) (hl : LsIn w v xs) (hM : MemF w M len D) (hx : ∀ x ∈ xs, WnOk len D x.1 x.2)
    (hap : ∀ a n c, v = .slice (some a) n c → 0 < xs.length → ¬ D a.block) :
    Calls Try.prog 10 #[v] w (CoverPost xs M w) := by
  have hl0 := hl
  obtain ⟨la, lc, rfl, hlen, hlc, hlm, _⟩ := hl0
  unfold maxLen at hlm
  have W1 : Below w.heap.size w (w.alloc (.cells #[.slice la xs.length lc] 31)) := (Below.refl _ _).alloc (Nat.le_refl _) _
  have CH := Lib.hid (checkW_any _ _ _ (hl.below W1))
  have HL := Lib.hid hl
  have HX := Lib.hid hx
  have HM := Lib.hid hM
  have HAP := Lib.hid hap
  have HW1 := Lib.hid W1
  have EN := Lib.hid (enters_of Try.func28 (by kernel_rfl) rfl)
  have HLT := Lib.hid (fun k (hk : D k) => hM.lt hk)
  clear hl hx hM hap W1
  obtain ⟨cv, hcv⟩ : ∃ z, chkL xs = z := ⟨_, rfl⟩
  have hw := chkL_ways xs
  go_enter Try.func10, Try.ntmps10
  go_wp2_with fail
  refine CH.out.mono ?_
  rintro e w2 ⟨rfl, rfl⟩
  rcases hw with he | he
  · have HE := Lib.hid he
    have hle := chkL_ok he
    rw [he]
    clear he hcv
    go_wp2_with fail
    generalize hW6 : World.alloc (World.alloc _ _) _ = W6
    obtain ⟨bw, hz, h0, h1⟩ := alloc2s _ _ W6 hW6.symm
    have dl : ¬ D w.heap.size := fun x => by have := HLT.out _ x; omega
    have dn : ¬ D (w.heap.size + 1) := fun x => by have := HLT.out _ x; omega
    have LB : ∀ a n c, Value.slice la xs.length lc = .slice (some a) n c → 0 < xs.length → ¬ D a.block ∧ a.block < w.heap.size := fun a n c e h => by
      refine ⟨HAP.out a n c e h, ?_⟩
      obtain ⟨a', c', e', _, _, _, hc⟩ := HL.out
      obtain ⟨b, o, e2, d⟩ := hc 0 h
      simp only [Value.slice.injEq] at e e'
      rw [← e'.1, e.1] at e2
      have := World.block_lt_of_cell? w ⟨b, o + 0, none⟩ d
      simp only [Option.some.injEq] at e2
      rw [e2]
      exact this
    have TR := tried_any (.slice la xs.length lc) xs 28 #[.pointer (some ⟨w.heap.size, 0, none⟩), .pointer (some ⟨w.heap.size + 1, 0, none⟩)] M len D
      (fun k => k = w.heap.size + 1) (fun W => W.heap[w.heap.size + 1]? = some (.cells #[.int .i64 (covN xs M : Nat)] 3 (0, 0))) W6
      (HL.out.below bw) (HM.out.below bw) HX.out
      (fun a n c e h => ⟨by have := (LB a n c e h).2; omega, (LB a n c e h).1, by have := (LB a n c e h).2; omega⟩)
      (fun k hk => ⟨by omega, by rw [hk]; exact dn⟩) (fun z hz => by have := hle.2 z hz; omega)
      EN.out
      (fun W hW hT => (cover1_any (.slice la xs.length lc) xs (zeroed xs M) len D w.heap.size (w.heap.size + 1) W ((HL.out.below bw).touch hT (fun a n c e h => (LB a n c e h).1)) HX.out hle.2 hle.1
        ⟨hW, (hT.block _ (by omega) dl).trans h0, (hT.block _ (by omega) dn).trans h1⟩ dl dn (fun a n c e h => ⟨(LB a n c e h).1, by have := (LB a n c e h).2; omega⟩)).mono (fun e W' ⟨q1, q2, q3⟩ => ⟨q1, _, q2.m, fun g i hn => by
          rw [covAll_out xs _ g i hn _ (Nat.le_refl _)]
          show zeroed xs M g i = M g i
          unfold zeroed; rw [if_neg (by rw [hn]; exact Bool.false_ne_true)], q3, q2.n⟩))
      (fun W W' hb hT => (hT.block _ (lt_of hb) dn).trans hb)
    refine TR.mono ?_
    rintro e w7 ⟨rfl, hm7, ht7, hb7⟩
    have c1 : w7.cell? ⟨w.heap.size + 1, 0, none⟩ = some (.int .i64 (covN xs M : Nat)) := by rw [cell_of hb7]; rfl
    have BW := Lib.hid (show Below w.heap.size w w7 from bw.trans ((HM.out.below bw).below_of hm7 (X := fun k => k = w.heap.size + 1) (fun k hk => by omega) ht7 (by omega)))
    have FIN := Lib.hid (show ∀ e, e = .returned (.tuple #[.int .i64 (covN xs M : Nat), .int .i64 0]) → CoverPost xs M w e w7 from fun e h => ⟨BW.out, Or.inr ⟨HE.out, h⟩⟩)
    generalize covN xs M = cn at *
    clear TR h0 h1 hm7 ht7 hb7 dl dn LB bw hz hW6 hle
    go_wp2_with fail
    go_ret2
    exact FIN.out _ rfl
  · have HE := Lib.hid he
    rw [he]
    clear he hcv
    go_wp2_with fail
    go_ret2
    exact ⟨HW1.out, Or.inl ⟨HE.out, rfl⟩⟩

end Go.Proofs.Ytclpkmplifcfjaa
