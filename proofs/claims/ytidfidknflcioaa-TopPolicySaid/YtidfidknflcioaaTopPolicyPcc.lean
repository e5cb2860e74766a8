/-
  The walk of TopPolicy. No conditions.
-/
import Derived.Test.YtidfidknflcioaaTopPolicyPbz
import Derived.Test.YtidfidknflcioaaTopPolicyPcb
import Derived.Test.YtidfidknflcioaaTopPolicyPai
import Derived.Deep.LoopGhost
import Derived.Deep.Cut
import Derived.Deep.CutRange
import Derived.Deep.DeepCutAuto
namespace Go.Proofs.Ytidfidknflcioaa
open Go.RowKit
set_option linter.unusedVariables false

/-- The box of an edit. -/
def BoxO (b : Nat) (k x y c : Int) (d : Value) (w : World) : Prop := w.heap[b]? = some (.cells #[.int .i64 k, .int .i64 x, .int .i64 y, .int .i64 c, d] 34 (0, 0))
theorem BoxO.below {b : Nat} {k x y c : Int} {d : Value} {w w' : World} (h : BoxO b k x y c d w) (hb : Below w.heap.size w w') : BoxO b k x y c d w' := (hb.block b (lt_of h)).trans h
theorem BoxO.touch {b : Nat} {k x y c : Int} {d : Value} {w w' : World} {T : Nat → Prop} (h : BoxO b k x y c d w) (ht : Touch T w w') (hT : ¬ T b) : BoxO b k x y c d w' := (ht.block b (lt_of h) hT).trans h

/-- What holds between the rounds. -/
def PolRel (B : Nat) (I J : RopI) (w : World) : Prop := ∃ x y : RS, Pair w B x y ∧ x.I = I ∧ y.I = J

theorem bytes_wf {zs : List Int} (h : ∀ z ∈ zs, (Lit.int .u8 z).wf = true) : bytes zs := by
  intro z hz
  have := h z hz
  simp [Lit.wf] at this
  have h1 : IntKind.u8.min = 0 := rfl
  have h2 : IntKind.u8.max = 255 := rfl
  omega

theorem pol_x (x y : RS) (B : Nat) (f t : Int) (a : Option Addr) (n c : Nat) (os : List Int) (W : World) (h : Pair W B x y) (hB : B ≤ W.heap.size) (hr : Reads W .u8 (.slice a n c) os) (hn : os.length = n) (hnb : n ≤ 281474976710656) (hbz : bytes os) (hlow : os ≠ [] → ∀ b, (Value.slice a n c).ownBlock = some b → b < B) :
    Calls Try.prog 8 #[.pointer (some ⟨x.I.r, 0, none⟩), .int .i64 f, .int .i64 t, .slice a n c] W (fun e w' => e = .returned (.int .i64 (repE x.I.p x.sz f t n)) ∧ (∃ x', Half w' B x x' y f t n) ∧ Touch x.T W w') := by
  refine (replace_rs x f t a n c os W h.ax hr hn hnb hbz (fun h0 b hb hg => by have h1 := hlow h0 b hb; have h2 := h.bx b (Or.inr hg); omega)).mono ?_
  rintro e w' ⟨rfl, x', hi, ha, hs, _, hT, ht⟩
  rw [hn] at *
  exact ⟨rfl, ⟨x', h.half hB hi ha hs hT ht⟩, ht⟩
theorem zeros_reads {W : World} {g n : Nat} (h : byteRow W g (zeros n)) (hn : n ≤ 281474976710656) : Reads W .u8 (.slice (some ⟨g, 0, none⟩) n n) (zeros n) := by
  refine ⟨some ⟨g, 0, none⟩, n, by simp [zeros], by simp [zeros]; omega, fun _ => ⟨g, 0, rfl, fun j hj => ?_⟩⟩
  rw [cell_of h]
  have hj' : j < n := by simpa [zeros] using hj
  simp [zeros, hj']
theorem pol_y (x x' y : RS) (B : Nat) (f t : Int) (g n : Nat) (W : World) (h : Half W B x x' y f t n) (hB : B ≤ W.heap.size) (hz : byteRow W g (zeros n)) (hg : ¬ y.T g) (hnb : n ≤ 281474976710656) :
    Calls Try.prog 8 #[.pointer (some ⟨y.I.r, 0, none⟩), .int .i64 f, .int .i64 t, .slice (some ⟨g, 0, none⟩) n n] W (fun e w' => e = .returned (.int .i64 (repE x.I.p x.sz f t n)) ∧ (∃ x2 y2, Pair w' B x2 y2 ∧ x2.I = x.I ∧ y2.I = y.I) ∧ Touch y.T W w') := by
  have hl : (zeros n).length = n := by simp [zeros]
  refine (replace_rs y f t _ n n (zeros n) W h.ay (zeros_reads hz hnb) hl hnb (fun z hz => ?_) (fun _ b hb hG => ?_)).mono ?_
  · unfold zeros at hz
    rw [List.eq_of_mem_replicate hz]
    omega
  · simp only [Value.ownBlock, Option.some.injEq] at hb
    subst hb
    exact hg (Or.inr hG)
  · rintro e w' ⟨rfl, y', hi, ha, hs, _, hT, ht⟩
    rw [hl] at *
    exact ⟨by rw [h.par, h.szx], ⟨x', y', h.full hB hi ha hs hT ht, h.id, hi⟩, ht⟩

set_option maxHeartbeats 8000000 in
set_option maxRecDepth 100000 in
theorem topPolicy (pk ps pm lf : Int) (v : Value) (L : List Cl) (w : World) (_ : -9223372036854775808 ≤ pk ∧ pk ≤ 9223372036854775807) (_ : -9223372036854775808 ≤ ps ∧ ps ≤ 9223372036854775807) (_ : -9223372036854775808 ≤ pm ∧ pm ≤ 9223372036854775807) (_ : -9223372036854775808 ≤ lf ∧ lf ≤ 9223372036854775807) (hops : ClsIn w v L ∧ (∀ e ∈ L, e.d.length ≤ 140737488351232) ∧ ∃ a c, v = .slice a L.length c ∧ L.length ≤ c ∧ c ≤ 9223372036854775807) :
    Calls Try.prog 3 #[.agg #[.int .i64 pk, .int .i64 ps, .int .i64 pm], .int .i64 lf, v] w (LawPost w) := by
  obtain ⟨⟨a, cap, rfl, hll, hcell⟩, hfit, a', cap', hac, hlc, hcm⟩ := hops
  simp only [Value.slice.injEq] at hac
  obtain ⟨rfl, _, rfl⟩ := hac
  have HLC := Lib.hid (And.intro hlc hcm)
  have HC := Lib.hid hcell
  have HF := Lib.hid hfit
  have B0 := BoxAt.new w pk ps pm 23
  have bel0 : Below w.heap.size w (w.alloc (.cells #[.int .i64 pk, .int .i64 ps, .int .i64 pm] 23)) := by go_grown
  clear hcell hfit hlc hcm
  go_enter Try.func3, Try.ntmps3
  go_wp2_with fail
  refine (awakeRoom2_any _).mono ?_
  rintro e wa ⟨rfl, hba⟩
  have hsa := hba.size
  have belA := Lib.hid (bel0.trans (hba.mono (by simp)))
  have BA := Lib.hid (B0.below hba)
  have HSA : Hid (w.heap.size < wa.heap.size) := Lib.hid (by have : (w.alloc (.cells #[.int .i64 pk, .int .i64 ps, .int .i64 pm] 23)).heap.size = w.heap.size + 1 := by simp
                                                             omega)
  clear hba hsa B0 bel0
  go_wp2_with fail
  refine (bigBook_any _).mono ?_
  rintro e w1 ⟨p1, rfl, hb1, hbel1⟩
  have HB1 := Lib.hid hb1.narrowR
  have BEL1 := Lib.hid hbel1
  clear hb1 hbel1
  go_wp2_with fail
  refine (bigBook_any _).mono ?_
  rintro e w2 ⟨p2, rfl, hb2, hbel2⟩
  have HB2 := Lib.hid hb2.narrowR
  have HB1' := Lib.hid (HB1.out.same (Below.same_on hbel2))
  have BEL2 := Lib.hid hbel2
  have s0 := HSA.out
  have s1 := BEL1.out.size
  have s2 := BEL2.out.size
  have ba2 := (BA.out.below BEL1.out).below hbel2
  obtain ⟨x0, x1, x2, x3⟩ := ba2
  have BB : BoxAt w2 w.heap.size pk ps pm := ⟨x0, x1, x2, x3⟩
  have BB2 := Lib.hid BB
  clear hb2 hbel2 BB
  have N1 := Lib.hid (newRope_any p1 1 pk ps pm lf w2 _ bigSt 1 HB1'.out)
  have EE : ropeErr bigSt pk ps pm lf 1 = ropeErr0 pk ps pm lf := by
    unfold ropeErr
    split
    · rename_i h
      rw [heldE_big, h]
    · rfl
  go_wp2_with fail
  refine N1.out.mono ?_
  rintro e w3 ⟨bel3, hn3⟩
  have BEL3 := Lib.hid bel3
  have N2 := Lib.hid (newRope_any p2 1 pk ps pm lf w3 _ bigSt 1 (HB2.out.same (Below.same_on bel3)))
  have ba3 := BB2.out.below bel3
  rw [EE] at hn3 N2
  obtain ⟨y0, y1, y2, y3⟩ := ba3
  have s3 := bel3.size
  clear N1 bel3 x0 x1 x2 x3
  rcases hn3 with ⟨hne, rfl⟩ | ⟨hz, h1, rfl, hh1, hr1⟩
  · have hne' : (ropeErr0 pk ps pm lf != 0) = true := bne_iff_ne.2 hne
    have HNE := Lib.hid hne
    clear hne EE
    generalize ropeErr0 pk ps pm lf = E at *
    go_wp2_with fail
    refine N2.out.mono ?_
    rintro e w4 ⟨bel4, hn4⟩
    rcases hn4 with ⟨_, rfl⟩ | ⟨hz, _⟩
    · have FIN := Lib.hid ((belA.out.trans (BEL1.out.mono belA.out.size)).trans ((BEL2.out.mono (by omega)).trans ((BEL3.out.mono (by omega)).trans (bel4.mono (by omega)))))
      clear bel4
      go_wp2_with fail
      go_ret
      exact ⟨rfl, FIN.out⟩
    · exact absurd hz HNE.out
  · have HZ := Lib.hid hz
    obtain ⟨q1, q2, q3, q4⟩ := ropeErr0_zero hz
    rw [hz] at N2
    obtain ⟨ln, rfl⟩ : ∃ n : Nat, lf = n := ⟨lf.toNat, by omega⟩
    have HR1 := Lib.hid hr1
    clear hr1 EE hz
    go_wp2_with fail
    refine N2.out.mono ?_
    rintro e w4 ⟨bel4, hn4⟩
    rcases hn4 with ⟨hz, _⟩ | ⟨_, h2, rfl, hh2, hr2⟩
    · exact absurd rfl hz
    have s4 := bel4.size
    have START : Hid (Below w.heap.size w w4 ∧ PolRel w.heap.size ⟨h1, p1, 1, ⟨pk, ps, pm, ln⟩⟩ ⟨h2, p2, 1, ⟨pk, ps, pm, ln⟩⟩ w4) := Lib.hid (by
      have lt1 := lt_of HR1.out
      have lt2 := lt_of hr2
      refine ⟨(belA.out.trans (BEL1.out.mono belA.out.size)).trans ((BEL2.out.mono (by omega)).trans ((BEL3.out.mono (by omega)).trans (bel4.mono (by omega)))), ⟨⟨h1, p1, 1, ⟨pk, ps, pm, ln⟩⟩, [], .slice none 0 0, bigSt, fun x => x = h1, fun k => wa.heap.size ≤ k ∧ k < w1.heap.size⟩, ⟨⟨h2, p2, 1, ⟨pk, ps, pm, ln⟩⟩, [], .slice none 0 0, bigSt, fun x => x = h2, fun k => w1.heap.size ≤ k ∧ k < w2.heap.size⟩, ⟨?_, ?_, rfl, rfl, ?_, ?_, ?_⟩, rfl, rfl⟩
      · exact RB.new ((bel4.block _ lt1).trans HR1.out) ((HB1'.out.same (Below.same_on BEL3.out)).same (Below.same_on bel4)) (fun k hk => by omega) HZ.out
      · exact RB.new hr2 ((HB2.out.same (Below.same_on BEL3.out)).same (Below.same_on bel4)) (fun k hk => by omega) HZ.out
      · intro k hk hk'
        rcases hk with hk | hk <;> rcases hk' with hk' | hk' <;> simp only at hk hk' <;> omega
      · intro k hk
        have := HSA.out
        rcases hk with hk | hk <;> simp only at hk <;> omega
      · intro k hk
        have := HSA.out
        rcases hk with hk | hk <;> simp only at hk <;> omega)
    obtain ⟨M, hM⟩ : ∃ M, min L.length 40 = M := ⟨_, rfl⟩
    have HM : Hid (M ≤ L.length ∧ M ≤ 40) := Lib.hid (by omega)
    have HMM := Lib.hid hM
    clear hM bel4 hr2 hh2 hh1 s4 s3 s2 s1 s0 y0 y1 y2 y3 N2 HB1 HB2 HB1' BEL1 BEL2 BEL3 BB2 BA belA HSA HR1
    go_upto_region 10 with fail
    go_cut [60, 61, 62] (fun s60 s61 s62 wx => ∃ c, s60 = .slice a M c ∧ s61 = .int .i64 (M : Int) ∧ s62 = .int .i64 0 ∧ wx = w4)
    case first =>
      have hlc := HLC.out
      by_cases h40 : 40 < L.length
      · obtain rfl : M = 40 := by have := HMM.out; omega
        go_wp2_with fail
        go_meet
        exact ⟨_, by first | rfl | simp, rfl, rfl, rfl⟩
      · obtain rfl : M = L.length := by have := HMM.out; omega
        go_wp2_with fail
        go_meet
        exact ⟨_, by first | rfl | simp, rfl, rfl, rfl⟩
    case rest =>
    obtain ⟨cc, rfl, rfl, rfl, rfl⟩ := hcut
    go_wp2_with fail
    go_loopw [62] (fun i wr => ∃ k : Nat, k ≤ M ∧ i = .int .i64 (k : Int) ∧ Below w.heap.size w wr ∧ PolRel w.heap.size ⟨h1, p1, 1, ⟨pk, ps, pm, ln⟩⟩ ⟨h2, p2, 1, ⟨pk, ps, pm, ln⟩⟩ wr) (fun i _ => M - (intOf i).toNat)
    case atStart => exact ⟨0, Nat.zero_le _, rfl, START.out.1, START.out.2⟩
    case round =>
      obtain ⟨k, hk, rfl, hb, x, y, hP, hI, hJ⟩ := hrel
      have HB := Lib.hid hb
      have HI := Lib.hid hI
      have HJ := Lib.hid hJ
      have hm40 := HM.out.2
      clear START hI hJ
      by_cases hlt : k < M
      · obtain ⟨b, o, ha, c5⟩ := HC.out k (by have := HM.out; omega)
        subst ha
        have hln := HF.out (L.getD k Cl.zero) (by
          have hk' : k < L.length := by have := HM.out; omega
          rw [List.getD_eq_getElem?_getD, List.getElem?_eq_getElem hk']
          exact List.getElem_mem hk')
        obtain ⟨g0, g1, g2, g3, dv, g4, hrd, hz, hfk, hfa, hfb, hfc⟩ := c5
        have g0 := old_cell hb g0
        have g1 := old_cell hb g1
        have g2 := old_cell hb g2
        have g3 := old_cell hb g3
        have g4 := old_cell hb g4
        have hrd' := hrd.below hb rfl
        have hlow : (L.getD k Cl.zero).d ≠ [] → ∀ b', dv.ownBlock = some b' → b' < w.heap.size := by
          intro h0 b' hb'
          obtain ⟨a', cp', rfl, _, hce⟩ := hrd
          obtain ⟨b2, o2, rfl, h2⟩ := hce h0
          have h3 := lt_of_cell (h2 0 (List.length_pos_iff.2 h0))
          simp only [Value.ownBlock, Option.some.injEq] at hb'
          subst hb'
          exact h3
        obtain ⟨da, dc, rfl, _, _⟩ := id hrd'
        generalize L.getD k Cl.zero = cl at *
        obtain ⟨ck, ca, cb, cc, cd⟩ := cl
        simp only at g0 g1 g2 g3 g4 hrd' hz hln hlow hfa hfb
        have HRD := Lib.hid hrd'
        have HLOW := Lib.hid hlow
        obtain ⟨dn, hdn⟩ : ∃ n, cd.length = n := ⟨_, rfl⟩
        rw [hdn] at g4 HRD HLOW hln
        have HDN := Lib.hid hdn
        have HBZ := Lib.hid (bytes_wf hz)
        have BX := (Below.refl wr.heap.size wr).alloc (Nat.le_refl _) (.cells #[.int .i64 ck, .int .i64 ca, .int .i64 cb, .int .i64 cc, .slice da dn dc] 34)
        have HX1 : Hid (BoxO wr.heap.size ck ca cb cc (.slice da dn dc) (wr.alloc (.cells #[.int .i64 ck, .int .i64 ca, .int .i64 cb, .int .i64 cc, .slice da dn dc] 34))) := Lib.hid (heap_alloc_new wr _)
        have HP1 := Lib.hid (hP.below BX)
        have B1 := Lib.hid (hb.trans (BX.mono hb.size))
        have HXT := Lib.hid (fun hk => Nat.lt_irrefl _ (hP.ax.lt (k := wr.heap.size) hk))
        have HYT := Lib.hid (fun hk => Nat.lt_irrefl _ (hP.ay.lt (k := wr.heap.size) hk))
        have HRD1 := Lib.hid (HRD.out.below BX rfl)
        clear hrd hrd' hz hfk hfa hfb hfc hlow hdn hb hP BX HRD
        go_upto_region 13 with fail
        generalize wr.alloc (.cells #[.int .i64 ck, .int .i64 ca, .int .i64 cb, .int .i64 cc, .slice da dn dc] 34) = W1 at *
        generalize wr.heap.size = bx at *
        clear g0 g1 g2 g3 g4
        have S0 : BoxO bx ck ca cb cc (.slice da dn dc) W1.drew := HX1.out
        have s1 : ∀ y : WIn (BoxO bx ck ca cb cc (.slice da dn dc)), y.w.cell? ⟨bx, 1, none⟩ = some (.int .i64 ca) := fun y => by rw [cell_of y.h]; rfl
        have s2 : ∀ y : WIn (BoxO bx ck ca cb cc (.slice da dn dc)), y.w.cell? ⟨bx, 2, none⟩ = some (.int .i64 cb) := fun y => by rw [cell_of y.h]; rfl
        have s4 : ∀ y : WIn (BoxO bx ck ca cb cc (.slice da dn dc)), y.w.cell? ⟨bx, 4, none⟩ = some (.slice da dn dc) := fun y => by rw [cell_of y.h]; rfl
        haveI ne : Nonempty (WIn (BoxO bx ck ca cb cc (.slice da dn dc))) := ⟨⟨W1.drew, S0⟩⟩
        have DR : Below W1.heap.size W1 W1.drew := (Below.refl _ W1).drew
        have HPD := Lib.hid (HP1.out.below DR)
        have BD := Lib.hid (B1.out.trans (DR.mono B1.out.size))
        have RDD := Lib.hid (HRD1.out.below DR rfl)
        have E0 : ∀ m : Nat, (m : Int).toNat = m := fun m => rfl
        clear DR
        refine wp_normal ?_
        refine wp_region_plan 17 (BoxO bx ck ca cb cc (.slice da dn dc)) rfl ?_
        generalize W1.drew = W2 at *
        obtain ⟨E, hE⟩ : ∃ E, repE x.I.p x.sz ca cb dn = E := ⟨_, rfl⟩
        refine wpN_seg [0, 1, 2, 3, 4, 5, 6, 8, 9, 10, 11, 12, 13, 14, 15] (by kernel_rfl) (by kernel_rfl) (by kernel_rfl) (by kernel_rfl) (by decide) (fun _ _ _ _ _ h => h) S0 ?_
        simp only [pick, List.map_cons, List.map_nil, List.getElem?_cons_succ, List.getElem?_cons_zero, Option.getD_some]
        repeat (go_big_quiet_step (fail))
        refine wpQuiet_nil ?_
        clear s1 s2 s4 ne
        refine wpN_two 7 16 _ _ (by kernel_rfl) rfl rfl ?_ ?_
        · have XX := Lib.hid (pol_x x y w.heap.size ca cb da dn dc cd W2 HPD.out BD.out.size RDD.out HDN.out (by omega) HBZ.out HLOW.out)
          rw [hE, HI.out] at XX
          refine NextAt.held ?_
          intro K hK
          go_simp
          refine XX.out.mono ?_
          rintro e w3 ⟨rfl, ⟨x', hh⟩, ht3⟩
          have S3 := S0.touch ht3 HXT.out
          have B3 := Lib.hid (BD.out.trans (ht3.below BD.out.size (fun k hk => HP1.out.bx k hk)))
          have AL := (Below.refl w3.heap.size w3).alloc (Nat.le_refl _) (.cells ((zeros dn).map (Value.int .u8)).toArray 5)
          have MK := run_makeBytes w3 dn dn (by omega) (by omega) (by omega)
          rw [E0] at MK
          have S4 := S3.below AL
          have BM := Lib.hid (B3.out.trans (AL.mono B3.out.size))
          have YY := Lib.hid (pol_y x x' y w.heap.size ca cb w3.heap.size dn _ (hh.below AL) BM.out.size (heap_alloc_new w3 _) (fun hk => Nat.lt_irrefl _ (hh.ay.lt hk)) (by omega))
          clear hh ht3 AL
          rw [hE, HJ.out] at YY
          go_simp
          refine hK _ _ S3 ?_
          clear hK K
          refine wpN_one 16 _ (by kernel_rfl) rfl ?_
          refine NextAt.held ?_
          intro K hK
          go_simp
          refine hK _ _ S4 ?_
          clear hK K MK
          generalize hW4 : w3.alloc (.cells ((zeros dn).map (Value.int .u8)).toArray 5) = W4 at *
          generalize w3.heap.size = bz at *
          clear hW4 S3
          refine wpN_one 17 _ (by kernel_rfl) rfl ?_
          refine NextAt.free (by kernel_rfl) ?_
          intro K hK
          go_simp
          refine YY.out.mono ?_
          rintro e w5 ⟨rfl, ⟨x2, y2, hP2, hi2, hj2⟩, ht5⟩
          have HP2 := Lib.hid hP2
          have FIN := Lib.hid (And.intro (hi2.trans HI.out) hj2)
          have B5 : Hid (Below w.heap.size w w5) := Lib.hid (BM.out.trans (ht5.below BM.out.size (fun k hk => HP1.out.by' k hk)))
          have LX := Lib.hid (leaves_rs x2 w5 hP2.ax)
          rw [FIN.out.1] at LX
          clear hP2 ht5 hi2 hj2 YY
          go_simp
          refine hK _ _ ?_
          clear hK K
          refine wpN_pure [18, 19, 20, 22] (by kernel_rfl) (by kernel_rfl) (by kernel_rfl) (fun _ _ _ _ _ h => h) (fun h => by cases h) ?_
          simp only [pick, List.map_cons, List.map_nil, List.getElem?_cons_succ, List.getElem?_cons_zero, Option.getD_some]
          repeat (go_big_quiet_step (fail))
          refine wpQuiet_nil ?_
          refine wpN_one 21 _ (by kernel_rfl) rfl ?_
          refine NextAt.free (by kernel_rfl) ?_
          intro K hK
          go_simp
          refine LX.out.mono ?_
          rintro e w6 ⟨v6, rfl, hv6, hb6⟩
          have B6 := Lib.hid hb6
          have V6 := Lib.hid hv6
          have LY := Lib.hid (leaves_rs y2 w6 (HP2.out.ay.below hb6))
          rw [FIN.out.2, ← HP2.out.sz] at LY
          have SL := Lib.hid (show x2.sz.length ≤ 1000000 by have h1 := HP2.out.ax.len; unfold RS.sz; rw [List.length_map]; omega)
          clear hv6 hb6 LX
          go_simp
          refine hK _ _ ?_
          clear hK K
          refine wpN_one 23 _ (by kernel_rfl) rfl ?_
          refine NextAt.free (by kernel_rfl) ?_
          intro K hK
          go_simp
          refine LY.out.mono ?_
          rintro e w7 ⟨v7, rfl, hv7, hb7⟩
          have B7 := Lib.hid hb7
          have EQ := Lib.hid (equal_leaves v6 v7 x2.sz w7 SL.out (V6.out.below hb7) hv7)
          clear hv7 hb7 LY
          go_simp
          refine hK _ _ ?_
          clear hK K
          refine wpN_one 24 _ (by kernel_rfl) rfl ?_
          refine NextAt.free (by kernel_rfl) ?_
          intro K hK
          go_simp
          refine EQ.out.mono ?_
          rintro e w8 ⟨rfl, q, rfl⟩
          have B8 : Hid (Below w.heap.size w (w7.drewN q) ∧ PolRel w.heap.size ⟨h1, p1, 1, ⟨pk, ps, pm, ln⟩⟩ ⟨h2, p2, 1, ⟨pk, ps, pm, ln⟩⟩ (w7.drewN q)) := Lib.hid (by
            have b1 : Below w5.heap.size w5 (w7.drewN q) := B6.out.trans ((B7.out.mono B6.out.size).trans (bdrewN (Below.refl w5.heap.size w7) q))
            exact ⟨B5.out.trans (b1.mono B5.out.size), x2, y2, HP2.out.below b1, FIN.out.1, FIN.out.2⟩)
          clear EQ
          generalize w7.drewN q = w9 at *
          go_simp
          refine hK _ _ ?_
          clear hK K
          refine wpN_pure [25] (by kernel_rfl) (by kernel_rfl) (by kernel_rfl) (fun _ _ _ _ _ h => h) (fun h => by cases h) ?_
          simp only [pick, List.map_cons, List.map_nil, List.getElem?_cons_succ, List.getElem?_cons_zero, Option.getD_some]
          repeat (go_big_quiet_step (fail))
          refine wpQuiet_nil ?_
          refine wpN_one 26 _ (by kernel_rfl) rfl ?_
          refine NextAt.free (by kernel_rfl) ?_
          intro K hK
          go_simp
          refine hK _ _ ?_
          clear hK K
          refine wpN_done (by kernel_rfl) ?_
          go_wp2_with fail
          go_roundw
          case measure => simp only [intOf]; omega
          case rel => exact ⟨k + 1, by omega, by simp, B8.out.1, B8.out.2⟩
        · have AL := (Below.refl W2.heap.size W2).alloc (Nat.le_refl _) (.cells ((zeros dn).map (Value.int .u8)).toArray 5)
          have MK := run_makeBytes W2 dn dn (by omega) (by omega) (by omega)
          rw [E0] at MK
          have S3 := S0.below AL
          have HPA := Lib.hid (HPD.out.below AL)
          have RDA := Lib.hid (RDD.out.below AL rfl)
          have BA := Lib.hid (BD.out.trans (AL.mono BD.out.size))
          have ZR : Hid (byteRow (W2.alloc (.cells ((zeros dn).map (Value.int .u8)).toArray 5)) W2.heap.size (zeros dn)) := Lib.hid (heap_alloc_new W2 _)
          have ZX := Lib.hid (fun hk => Nat.lt_irrefl _ (HPD.out.ax.lt (k := W2.heap.size) hk))
          have ZY := Lib.hid (fun hk => Nat.lt_irrefl _ (HPD.out.ay.lt (k := W2.heap.size) hk))
          clear AL
          refine NextAt.held ?_
          intro K hK
          go_simp
          refine hK _ _ S3 ?_
          clear hK K MK
          generalize W2.alloc (.cells ((zeros dn).map (Value.int .u8)).toArray 5) = W3 at *
          generalize W2.heap.size = bz at *
          have XX := Lib.hid (pol_x x y w.heap.size ca cb da dn dc cd W3 HPA.out BA.out.size RDA.out HDN.out (by omega) HBZ.out HLOW.out)
          rw [hE, HI.out] at XX
          refine wpN_one 7 _ (by kernel_rfl) rfl ?_
          refine NextAt.held ?_
          intro K hK
          go_simp
          refine XX.out.mono ?_
          rintro e w4 ⟨rfl, ⟨x', hh⟩, ht4⟩
          have S4 := S3.touch ht4 HXT.out
          have BM := Lib.hid (BA.out.trans (ht4.below BA.out.size (fun k hk => HP1.out.bx k hk)))
          have YY := Lib.hid (pol_y x x' y w.heap.size ca cb bz dn _ hh BM.out.size ((ht4.block _ (lt_of ZR.out) ZX.out).trans ZR.out) ZY.out (by omega))
          clear hh ht4
          rw [hE, HJ.out] at YY
          go_simp
          refine hK _ _ S4 ?_
          clear hK K S3
          refine wpN_one 17 _ (by kernel_rfl) rfl ?_
          refine NextAt.free (by kernel_rfl) ?_
          intro K hK
          go_simp
          refine YY.out.mono ?_
          rintro e w5 ⟨rfl, ⟨x2, y2, hP2, hi2, hj2⟩, ht5⟩
          have HP2 := Lib.hid hP2
          have FIN := Lib.hid (And.intro (hi2.trans HI.out) hj2)
          have B5 : Hid (Below w.heap.size w w5) := Lib.hid (BM.out.trans (ht5.below BM.out.size (fun k hk => HP1.out.by' k hk)))
          have LX := Lib.hid (leaves_rs x2 w5 hP2.ax)
          rw [FIN.out.1] at LX
          clear hP2 ht5 hi2 hj2 YY
          go_simp
          refine hK _ _ ?_
          clear hK K
          refine wpN_pure [18, 19, 20, 22] (by kernel_rfl) (by kernel_rfl) (by kernel_rfl) (fun _ _ _ _ _ h => h) (fun h => by cases h) ?_
          simp only [pick, List.map_cons, List.map_nil, List.getElem?_cons_succ, List.getElem?_cons_zero, Option.getD_some]
          repeat (go_big_quiet_step (fail))
          refine wpQuiet_nil ?_
          refine wpN_one 21 _ (by kernel_rfl) rfl ?_
          refine NextAt.free (by kernel_rfl) ?_
          intro K hK
          go_simp
          refine LX.out.mono ?_
          rintro e w6 ⟨v6, rfl, hv6, hb6⟩
          have B6 := Lib.hid hb6
          have V6 := Lib.hid hv6
          have LY := Lib.hid (leaves_rs y2 w6 (HP2.out.ay.below hb6))
          rw [FIN.out.2, ← HP2.out.sz] at LY
          have SL := Lib.hid (show x2.sz.length ≤ 1000000 by have h1 := HP2.out.ax.len; unfold RS.sz; rw [List.length_map]; omega)
          clear hv6 hb6 LX
          go_simp
          refine hK _ _ ?_
          clear hK K
          refine wpN_one 23 _ (by kernel_rfl) rfl ?_
          refine NextAt.free (by kernel_rfl) ?_
          intro K hK
          go_simp
          refine LY.out.mono ?_
          rintro e w7 ⟨v7, rfl, hv7, hb7⟩
          have B7 := Lib.hid hb7
          have EQ := Lib.hid (equal_leaves v6 v7 x2.sz w7 SL.out (V6.out.below hb7) hv7)
          clear hv7 hb7 LY
          go_simp
          refine hK _ _ ?_
          clear hK K
          refine wpN_one 24 _ (by kernel_rfl) rfl ?_
          refine NextAt.free (by kernel_rfl) ?_
          intro K hK
          go_simp
          refine EQ.out.mono ?_
          rintro e w8 ⟨rfl, q, rfl⟩
          have B8 : Hid (Below w.heap.size w (w7.drewN q) ∧ PolRel w.heap.size ⟨h1, p1, 1, ⟨pk, ps, pm, ln⟩⟩ ⟨h2, p2, 1, ⟨pk, ps, pm, ln⟩⟩ (w7.drewN q)) := Lib.hid (by
            have b1 : Below w5.heap.size w5 (w7.drewN q) := B6.out.trans ((B7.out.mono B6.out.size).trans (bdrewN (Below.refl w5.heap.size w7) q))
            exact ⟨B5.out.trans (b1.mono B5.out.size), x2, y2, HP2.out.below b1, FIN.out.1, FIN.out.2⟩)
          clear EQ
          generalize w7.drewN q = w9 at *
          go_simp
          refine hK _ _ ?_
          clear hK K
          refine wpN_pure [25] (by kernel_rfl) (by kernel_rfl) (by kernel_rfl) (fun _ _ _ _ _ h => h) (fun h => by cases h) ?_
          simp only [pick, List.map_cons, List.map_nil, List.getElem?_cons_succ, List.getElem?_cons_zero, Option.getD_some]
          repeat (go_big_quiet_step (fail))
          refine wpQuiet_nil ?_
          refine wpN_one 26 _ (by kernel_rfl) rfl ?_
          refine NextAt.free (by kernel_rfl) ?_
          intro K hK
          go_simp
          refine hK _ _ ?_
          clear hK K
          refine wpN_done (by kernel_rfl) ?_
          go_wp2_with fail
          go_roundw
          case measure => simp only [intOf]; omega
          case rel => exact ⟨k + 1, by omega, by simp, B8.out.1, B8.out.2⟩
      · obtain rfl : k = M := by omega
        go_wp2_with fail
        go_ret
        exact ⟨rfl, HB.out⟩

end Go.Proofs.Ytidfidknflcioaa
