/-
  packed: what it gives. Conditions: numbers in their bounds.
-/
import Derived.Test.YtbndknbjjdoanaaTopSharedPbb
import Derived.Test.YtbndknbjjdoanaaTopSharedPaj
import Derived.DeepKeys4
import Derived.WideKeyPair
namespace Go.Proofs.Ytbndknbjjdoanaa
open Go.RowKit
set_option linter.unusedVariables false

theorem placeLaw : WideMaps.KeyLaw Try.prog 88 := deep_law_laid (show laidOutB Try.prog = true by kernel_rfl) (m := 2) (by omega) (of_decide_eq_true (by kernel_rfl)) (by kernel_rfl) (by rw [Try.underlying88])
theorem place_key (s i : Int) (hs : -9223372036854775808 ≤ s ∧ s ≤ 9223372036854775807) (hi : -9223372036854775808 ≤ i ∧ i ≤ 9223372036854775807) : keyOf Try.prog 88 (.agg #[.int .i64 s, .int .i64 i]) = some (.string (keyBytes [.int .i64 s, .int .i64 i])) := by
  have hkt : Try.prog.keyType 88 = true := by kernel_rfl
  have hc : Try.prog.cellsOf 88 = 2 := by kernel_rfl
  have ci : Try.prog.cellsOf 3 = 1 := by kernel_rfl
  obtain ⟨m, hm⟩ : ∃ m, Try.prog.types.size = m + 1 := ⟨_, rfl⟩
  have w1 : (Lit.int .i64 s).wf = true := WalkArith.wf_i64 hs
  have w2 : (Lit.int .i64 i).wf = true := WalkArith.wf_i64 hi
  unfold keyOf
  simp only [Try.underlying88]
  rw [if_pos (by simp [hkt, Value.formed, Try.underlying88, hc]), hm]
  unfold Program.keyLits
  simp only [Try.underlying88, Value.cells]
  rw [if_pos (by rw [hc]; exact ⟨rfl, by simp⟩)]
  simp [ci, Program.keyLits, Try.underlying3, w1, w2]
theorem place_nil (W : World) (s i : Int) (hs : -9223372036854775808 ≤ s ∧ s ≤ 9223372036854775807) (hi : -9223372036854775808 ≤ i ∧ i ≤ 9223372036854775807) : (Instr.lookup 86 (.map none) (.agg #[.int .i64 s, .int .i64 i]) false).run Try.prog W = .ok (.bool false) W := by
  have hz : (zeroValue 4).run Try.prog W = .ok (.bool false) W := by kernel_rfl
  exact Maps.look_nil (w := W) false (Maps.Keyed.of_law placeLaw) Try.underlying86 hz (place_key s i hs hi)

/-- A string as Make would make it, in blocks that nobody else has. -/
def PkAt (P : PoolSt) (s : Nat) (n k : Nat) (x : Pt) : Prop := x.f = 0 ∧ x.t = min P.size (n - k * P.size) ∧ pinAt P x = false ∧ ¬ HitS P ⟨x.b, 0, P.size⟩ s k (fun _ _ => false)
def PkS (P : PoolSt) (s : Nat) (l : List Pt) : Prop := l.length = manyP P.size (lenP l) ∧ ∀ k x, l[k]? = some x → PkAt P s (lenP l) k x
def PkPost (P : PoolSt) (s : Nat) (l : List Pt) (w : World) : Ending → World → Prop := fun e w' => Below w.heap.size w w' ∧ ∃ d : Bool, e = .returned (.bool d) ∧ (d = true ↔ PkS P s l)

set_option maxHeartbeats 4000000 in
set_option maxRecDepth 100000 in
theorem packed_any {w : World} {F : Nat → Prop} {h bp : Nat} {P : PoolSt} {mb ms N1 N2 : Nat} {D1 D2 : DataW Unit} (m : PoolMem w F h bp P mb ms N1 N2 D1 D2) (s : Nat) (v : Value) (l : List Pt) (hv : PtIn w v l) (ho : PtsOf P l) (hl : l.length ≤ 500) (hn : lenP l ≤ 100000) (hs : s ≤ 1000000000) :
    Calls Try.prog 42 #[.pointer (some ⟨h, 0, none⟩), .int .i64 (s : Int), v] w (PkPost P s l w) := by
  have hok := ho.ok m (by omega)
  have LE := Lib.hid (lengthP_any v l w hv hok)
  obtain ⟨va, vc, rfl, hle, hcap, hcells⟩ := hv
  have HCL := Lib.hid hcells
  have HO := Lib.hid ho
  have HM := Lib.hid m
  have HOK := Lib.hid hok
  have s2 := m.sz
  have mle := manyP_le (n := lenP l) s2.1
  have MY := Lib.hid (fun W (hW : Below w.heap.size w W) => manyP_any (m.below hW) (lenP l) (by omega))
  obtain ⟨N, hN⟩ : ∃ N, lenP l = N := ⟨_, rfl⟩
  obtain ⟨M, hM⟩ : ∃ M, manyP P.size N = M := ⟨_, rfl⟩
  have HN := Lib.hid (And.intro hN hM)
  rw [hN] at LE MY mle hn
  rw [hM] at MY mle
  clear hcells ho m hok hN hM
  go_enter Try.func42, Try.ntmps42
  go_wp2_with fail
  refine LE.out.mono ?_
  rintro e w2 ⟨rfl, hb2⟩
  have B2 := Lib.hid hb2
  clear hb2
  go_wp2_with fail
  refine (MY.out _ B2.out).mono ?_
  rintro e w3 ⟨rfl, q, hq3⟩
  have B3 := Lib.hid (show Below w.heap.size w w3 by rw [hq3]; exact bdrewN B2.out q)
  clear hq3 MY LE
  by_cases hlen : l.length = M
  · have HL := Lib.hid hlen
    have hlen' : ((l.length : Int) != (M : Int)) = false := by simp; omega
    clear hlen
    go_wp2_with fail
    go_loopw [7, 22] (fun s7 i wr => ∃ k : Nat, k ≤ l.length ∧ i = .int .i64 (k : Int) ∧ s7 = .int .i64 ((N - k * P.size : Nat) : Int) ∧ (∀ j y, j < k → l[j]? = some y → PkAt P s N j y) ∧ Below w.heap.size w wr) (fun _ i _ => l.length - (intOf i).toNat)
    case atStart => exact ⟨0, Nat.zero_le _, rfl, by simp, fun j y hj => by omega, B3.out⟩
    case round =>
      obtain ⟨k, hk, rfl, rfl, hpk, hb⟩ := hrel
      have HB := Lib.hid hb
      have HPK := Lib.hid hpk
      by_cases hlt : k < l.length
      · obtain ⟨x, hx⟩ : ∃ x, l[k]? = some x := ⟨_, List.getElem?_eq_getElem hlt⟩
        obtain ⟨bb, oo, rfl, d0, d1, d2⟩ := HCL.out k x hx
        have d0 := old_cell hb d0
        have d1 := old_cell hb d1
        have d2 := old_cell hb d2
        obtain ⟨y, hy, y1, y2⟩ := HO.out x (List.mem_of_getElem? hx)
        have hpa := Lib.hid (pinAt_of hy)
        have hxo := HOK.out.2 x (List.mem_of_getElem? hx)
        have HX := Lib.hid hx
        have HY := Lib.hid (And.intro hy (And.intro y1 y2))
        obtain ⟨xb, xf, xt⟩ := x
        simp only at d0 d1 d2 hxo
        have AL : Below wr.heap.size wr (wr.alloc (.cells #[.int .i64 (xb : Int), .int .i64 (xf : Int), .int .i64 (xt : Int)] 75)) := (Below.refl _ wr).alloc (Nat.le_refl _) _
        have HAL := Lib.hid (HB.out.trans (AL.mono HB.out.size))
        have BX := Lib.hid (heap_alloc_new wr (.cells #[.int .i64 (xb : Int), .int .i64 (xf : Int), .int .i64 (xt : Int)] 75))
        have c2 : (wr.alloc (.cells #[.int .i64 (xb : Int), .int .i64 (xf : Int), .int .i64 (xt : Int)] 75)).cell? ⟨h, 2, none⟩ = some (.int .i64 (P.size : Int)) := (HM.out.below HAL.out).cells.2.2.1
        obtain ⟨nk, hnk⟩ : ∃ nk, N - k * P.size = nk := ⟨_, rfl⟩
        have HNK := Lib.hid hnk
        have hnk2 : nk ≤ 100000 := by omega
        rw [hnk]
        clear hb hpk hx hy y1 y2 hnk AL
        go_upto_region 7 with fail
        clear d0 d1 d2
        generalize wr.alloc (.cells #[.int .i64 (xb : Int), .int .i64 (xf : Int), .int .i64 (xt : Int)] 75) = W3 at *
        generalize hbx : wr.heap.size = bx at *
        obtain ⟨sz, hsz⟩ : ∃ sz, min P.size nk = sz := ⟨_, rfl⟩
        have HSZ := Lib.hid hsz
        go_cut [10] (fun s10 wx => wx = W3 ∧ s10 = .int .i64 (sz : Int))
        case first =>
          by_cases c1 : P.size ≤ nk
          · have e1 : (P.size : Int) ≤ (nk : Int) := by omega
            go_wp2_with fail
            all_goals (go_meet; exact ⟨rfl, by congr 1; omega⟩)
          · have e1 : ¬ (P.size : Int) ≤ (nk : Int) := by omega
            go_wp2_with fail
            all_goals (go_meet; exact ⟨rfl, by congr 1; omega⟩)
        case rest =>
        obtain ⟨hwc, rfl⟩ := hcut
        obtain rfl := hwc.symm
        clear hwc
        have szb : sz ≤ nk := by omega
        clear hsz
        go_upto_region 9 with fail
        have BW5 : Below W3.heap.size W3 ((W3.alloc (.cells #[.int .i64 (xb : Int), .int .i64 0, .int .i64 (P.size : Int)] 75)).drew) := ((Below.refl _ W3).alloc (Nat.le_refl _) _).drew
        have WB5 := heap_alloc_new W3 (.cells #[.int .i64 (xb : Int), .int .i64 0, .int .i64 (P.size : Int)] 75)
        have WB5 : ((W3.alloc (.cells #[.int .i64 (xb : Int), .int .i64 0, .int .i64 (P.size : Int)] 75)).drew).heap[W3.heap.size]? = some (.cells #[.int .i64 (xb : Int), .int .i64 0, .int .i64 (P.size : Int)] 75 (0, 0)) := WB5
        go_cut [11] (fun s11 wx => ∃ (W5 : World) (aw : Nat), wx = W5 ∧ s11 = .pointer (some ⟨aw, 0, none⟩) ∧ W5.heap[aw]? = some (.cells #[.int .i64 (xb : Int), .int .i64 0, .int .i64 (P.size : Int)] 75 (0, 0)) ∧ Below W3.heap.size W3 W5)
        case first =>
          have hcell := fun W (hW : Below W3.heap.size W3 W) => (HM.out.below (HAL.out.trans (hW.mono HAL.out.size))).cells.2.2.1
          have r2 : ∀ y : WIn (BelW W3), y.w.cell? ⟨h, 2, none⟩ = some (.int .i64 (P.size : Int)) := fun y => hcell y.w y.h
          have r0 : ∀ y : WIn (BelW W3), y.w.cell? ⟨bx, 0, none⟩ = some (.int .i64 (xb : Int)) := fun y => by rw [cell_of ((y.h.block _ (lt_of BX.out)).trans BX.out)]; rfl
          have S0 : BelW W3 W3.drew := (Below.refl _ W3).drew
          haveI ne : Nonempty (WIn (BelW W3)) := ⟨⟨W3.drew, S0⟩⟩
          clear c2 hcell
          refine wp_normal ?_
          refine wp_region_plan 8 (BelW W3) rfl ?_
          refine wpN_seg [0, 1, 2, 3, 4, 5] (by kernel_rfl) (by kernel_rfl) (by kernel_rfl) (by kernel_rfl) (by decide) (fun _ _ _ _ _ h => h) S0 ?_
          simp only [pick, List.map_cons, List.map_nil, List.getElem?_cons_succ, List.getElem?_cons_zero, Option.getD_some]
          repeat (go_big_quiet_step (fail))
          refine wpQuiet_nil ?_
          clear r2 r0 ne
          refine wpN_two 6 7 _ _ (by kernel_rfl) rfl rfl ?_ ?_
          ·
            refine NextAt.held ?_
            intro K hK
            go_simp
            refine hK _ _ S0 ?_
            clear hK K
            refine wpN_one 7 _ (by kernel_rfl) rfl ?_
            refine NextAt.held ?_
            intro K hK
            go_simp
            refine hK _ _ (by first | exact S0 | exact S0.alloc S0.size _) ?_
            clear hK K
            refine wpN_one 8 _ (by kernel_rfl) rfl ?_
            refine NextAt.free (by kernel_rfl) ?_
            intro K hK
            go_simp
            refine hK _ _ ?_
            clear hK K
            refine wpN_done (by kernel_rfl) ?_
            go_wp2_with fail
            go_meet
            exact ⟨_, _, rfl, rfl, WB5, BW5⟩
          ·
            refine NextAt.held ?_
            intro K hK
            go_simp
            refine hK _ _ (by first | exact S0 | exact S0.alloc S0.size _) ?_
            clear hK K
            refine wpN_one 6 _ (by kernel_rfl) rfl ?_
            refine NextAt.held ?_
            intro K hK
            go_simp
            refine hK _ _ (by first | exact S0 | exact S0.alloc S0.size _) ?_
            clear hK K
            refine wpN_one 8 _ (by kernel_rfl) rfl ?_
            refine NextAt.free (by kernel_rfl) ?_
            intro K hK
            go_simp
            refine hK _ _ ?_
            clear hK K
            refine wpN_done (by kernel_rfl) ?_
            go_wp2_with fail
            go_meet
            exact ⟨_, _, rfl, rfl, WB5, BW5⟩
        case rest =>
        obtain ⟨W5, aw, hwc, rfl, WB, BW⟩ := hcut
        obtain rfl := hwc.symm
        clear hwc
        have B5 := Lib.hid (HAL.out.trans (BW.mono HAL.out.size))
        have X5 := (BW.block _ (lt_of BX.out)).trans BX.out
        have HWB := Lib.hid WB
        clear BW5 WB5 BW c2 WB
        obtain ⟨nsz, hnsz⟩ : ∃ nsz, nk - sz = nsz := ⟨_, rfl⟩
        have HNSZ := Lib.hid hnsz
        have hsub : (nk : Int) - (sz : Int) = (nsz : Int) := by omega
        rw [hsub]
        clear hnsz hsub
        go_upto_region 10 with fail
        have m5 := HM.out.below B5.out
        have x0 : W5.cell? ⟨bx, 0, none⟩ = some (.int .i64 (xb : Int)) := by rw [cell_of X5]; rfl
        have x1 : W5.cell? ⟨bx, 1, none⟩ = some (.int .i64 (xf : Int)) := by rw [cell_of X5]; rfl
        have x2 : W5.cell? ⟨bx, 2, none⟩ = some (.int .i64 (xt : Int)) := by rw [cell_of X5]; rfl
        have g0 : W5.cell? ⟨aw, 0, none⟩ = some (.int .i64 (xb : Int)) := by rw [cell_of HWB.out]; rfl
        have g1 : W5.cell? ⟨aw, 1, none⟩ = some (.int .i64 0) := by rw [cell_of HWB.out]; rfl
        have g2 : W5.cell? ⟨aw, 2, none⟩ = some (.int .i64 (P.size : Int)) := by rw [cell_of HWB.out]; rfl
        have c6 := m5.cells.2.2.2.2.2.2.1
        have e2 : W5.cell? ⟨y.a, 2, none⟩ = some (.bool y.pin) := by rw [cell_of (m5.blkOf HY.out.1).1]; rfl
        have LK := fun q => (m5.below (bdrewN (Below.refl _ W5) q)).block HY.out.1 (by show xb ≤ 1000000000; omega)
        simp only at LK
        have FINB : Hid (∀ W, Below w.heap.size w W → ¬ PkAt P s N k ⟨xb, xf, xt⟩ → PkPost P s l w (.returned (.bool false)) W) := Lib.hid (fun W hW hno => ⟨hW, false, rfl, by
          constructor
          · intro e; cases e
          · rintro ⟨_, h1⟩
            rw [HN.out.1] at h1
            exact (hno (h1 k _ HX.out)).elim⟩)
        clear m5 X5
        by_cases hf : xf = 0
        · subst hf
          by_cases htz : xt = sz
          · have htz' : ((xt : Int) != (sz : Int)) = false := by simp; omega
            cases hpin : y.pin with
            | true =>
              have NO := Lib.hid (fun q => FINB.out (W5.drewN q) (bdrewN B5.out q) (fun h1 => by have := h1.2.2.1; rw [hpa.out, hpin] at this; cases this))
              rw [hpin] at e2
              clear hpin htz
              go_quiet (fail)
              go_wp2_with fail
              go_ret
              exact NO.out _
            | false =>
              have ST := Lib.hid (fun n' => stands_any (HM.out.below (bdrewN B5.out n')) ⟨xb, 0, P.size⟩ (s : Int) (k : Int) (.map none) (fun _ _ => false) (fun W _ s i hs hi => place_nil W s i (by omega) (by omega)))
              have HPN := Lib.hid (show pinAt P ⟨xb, 0, xt⟩ = false by rw [hpa.out, hpin])
              have HTZ := Lib.hid htz
              rw [hpin] at e2
              clear hpin htz
              refine wp_region_mid 27 _ (by kernel_rfl) (by kernel_rfl) rfl ?_
              simp only [List.take_succ_cons, List.take_zero, List.drop_succ_cons, List.drop_zero]
              repeat (go_big_quiet_step (fail))
              refine wpQuiet_nil ?_
              intro _ hw'
              obtain ⟨nq, rfl⟩ := hw'
              intro K hK
              go_simp
              refine (ST.out nq).mono ?_
              rintro e w8 ⟨hb8, d, rfl, hd⟩
              have B8 := Lib.hid ((bdrewN B5.out nq).trans (hb8.mono (bdrewN B5.out nq).size))
              clear hb8 ST
              go_simp
              refine hK _ _ ?_
              clear hK K
              repeat (go_big_quiet_step (fail))
              refine wpQuiet_nil ?_
              intro _ hw'
              obtain ⟨nq8, rfl⟩ := hw'
              cases d with
              | true =>
                have NO := Lib.hid (fun q => FINB.out (w8.drewN q) (bdrewN B8.out q) (fun h1 => h1.2.2.2 (hd.1 rfl)))
                clear hd
                go_wp2_with fail
                go_ret
                exact NO.out _
              | false =>
                have YES := Lib.hid (show ∀ j y, j < k + 1 → l[j]? = some y → PkAt P s N j y from fun j y hj hy => by
                  by_cases e : j = k
                  · subst e
                    rw [HX.out] at hy
                    cases hy
                    exact ⟨rfl, by show xt = _; rw [HTZ.out, HNK.out, HSZ.out], HPN.out, fun hh => by have := hd.2 hh; cases this⟩
                  · exact HPK.out j y (by omega) hy)
                have HNN := Lib.hid (show nsz = N - (k + 1) * P.size by
                  have h1 := HNK.out
                  have h2 := HSZ.out
                  have h3 := HNSZ.out
                  rw [Nat.succ_mul]
                  omega)
                clear hd
                go_wp2_with fail
                go_roundw
                case measure => simp only [intOf]; omega
                case rel => exact ⟨k + 1, by omega, by go_num, by rw [HNN.out], YES.out, bdrewN B8.out _⟩
          · have NO := Lib.hid (fun q => FINB.out (W5.drewN q) (bdrewN B5.out q) (fun h1 => htz (by have := h1.2.1; simp only at this; rw [this, HNK.out, HSZ.out])))
            have htz' : ((xt : Int) != (sz : Int)) = true := by simp; omega
            clear htz
            go_quiet (fail)
            go_wp2_with fail
            go_ret
            exact NO.out _
        · have NO := Lib.hid (fun q => FINB.out (W5.drewN q) (bdrewN B5.out q) (fun h1 => hf h1.1))
          have hf' : ((xf : Int) != 0) = true := by simp; omega
          clear hf
          go_quiet (fail)
          go_wp2_with fail
          go_ret
          exact NO.out _
      · obtain rfl : k = l.length := by omega
        have FIN : Hid (PkPost P s l w (.returned (.bool true)) wr) := Lib.hid ⟨hb, true, rfl, by
          refine ⟨fun _ => ⟨by rw [HN.out.1, HN.out.2]; exact HL.out, fun j y hy => ?_⟩, fun _ => rfl⟩
          rw [HN.out.1]
          exact hpk j y (List.getElem?_eq_some_iff.1 hy).1 hy⟩
        clear hb hpk HB HPK
        go_wp2_with fail
        go_ret
        exact FIN.out
  · have FIN : Hid (PkPost P s l w (.returned (.bool false)) w3) := Lib.hid ⟨B3.out, false, rfl, by
      constructor
      · intro e; cases e
      · rintro ⟨h1, _⟩
        rw [HN.out.1, HN.out.2] at h1
        exact absurd h1 hlen⟩
    have hlen' : ((l.length : Int) != (M : Int)) = true := by simp; omega
    clear hlen
    go_wp2_with fail
    go_ret
    exact FIN.out

end Go.Proofs.Ytbndknbjjdoanaa
