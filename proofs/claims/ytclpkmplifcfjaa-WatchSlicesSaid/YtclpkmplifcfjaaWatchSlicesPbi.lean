/-
  Diff: the stretches at which two slices differ. Conditions: the slices lie in rows.
-/
import Derived.Test.YtclpkmplifcfjaaWatchSlicesPbh
namespace Go.Proofs.Ytclpkmplifcfjaa
open Go.RowKit
set_option linter.unusedVariables false

def spCells (sp : List (Nat × Nat)) : List Value := sp.flatMap fun p => [.int .i64 p.1, .int .i64 p.2]
theorem spCells_app (a b : List (Nat × Nat)) : spCells (a ++ b) = spCells a ++ spCells b := by simp [spCells]
theorem spCells_len (a : List (Nat × Nat)) : (spCells a).length = a.length * 2 := by
  induction a with
  | nil => rfl
  | cons x l ih => simp only [spCells, List.flatMap_cons, List.length_append, List.length_cons, List.length_nil] at *; omega
def diffStep (f : Nat → Bool) (sp : List (Nat × Nat)) (i : Nat) : List (Nat × Nat) :=
  if f i then sp else match sp.getLast? with
    | some p => if p.2 = i then sp.dropLast ++ [(p.1, i + 1)] else sp ++ [(i, i + 1)]
    | none => sp ++ [(i, i + 1)]
def diffL (f : Nat → Bool) (n : Nat) : List (Nat × Nat) := (List.range n).foldl (diffStep f) []
theorem diffL_succ (f : Nat → Bool) (n : Nat) : diffL f (n + 1) = diffStep f (diffL f n) n := by unfold diffL; rw [List.range_succ, List.foldl_append]; rfl
theorem diffStep_len (f : Nat → Bool) (sp : List (Nat × Nat)) (i : Nat) : (diffStep f sp i).length ≤ sp.length + 1 := by
  unfold diffStep
  split
  · omega
  · split
    · split <;> simp
    · simp
theorem diffL_len (f : Nat → Bool) : ∀ n, (diffL f n).length ≤ n
  | 0 => by simp [diffL]
  | n + 1 => by rw [diffL_succ]; have := diffStep_len f (diffL f n) n; have := diffL_len f n; omega
theorem infoSpan : (Try.prog.info? 54).map (fun i => (i.zero, i.size, i.bytes)) = some (some (.agg #[.int .i64 0, .int .i64 0]), 2, 16) := by kernel_rfl
theorem wrow_set {w : World} {B e size n g cap : Nat} {xs : List Value} (h : w.ownsRow B e size (.slice (some ⟨g, 0, none⟩) n cap) n xs) (j : Nat) (u : Value) : (w.setCell ⟨g, j, none⟩ u).ownsRow B e size (.slice (some ⟨g, 0, none⟩) n cap) n (xs.set j u) := by
  refine ⟨by rw [List.length_set]; exact h.1, ?_⟩
  rcases h.2 with ⟨h1, h2⟩ | ⟨g', cap', cur, h1, hb, hg, hn, hm, hs, ht⟩
  · cases h1
  · simp only [Value.slice.injEq, Option.some.injEq, Addr.mk.injEq, and_true] at h1
    obtain ⟨rfl, _, rfl⟩ := h1
    refine Or.inr ⟨g, cap, cur.setIfInBounds j u, rfl, hb, block_setCell hg j u, hn, hm, by simpa using hs, ?_⟩
    rw [Array.toList_setIfInBounds, List.take_set, ht]
theorem wrow_cell {w : World} {B e size n c : Nat} {a : Option Addr} {xs : List Value} (h : w.ownsRow B e size (.slice a n c) n xs) {j : Nat} {u : Value} (hu : xs[j]? = some u) : ∃ g, a = some ⟨g, 0, none⟩ ∧ w.cell? ⟨g, j, none⟩ = some u ∧ w.frozen? ⟨g, j, none⟩ = false := by
  rcases h.2 with ⟨hv, h0⟩ | ⟨g, cap, cur, hv, _, hg, _⟩
  · have := h.1
    have hj := (List.getElem?_eq_some_iff.1 hu).1
    rw [h0, Nat.zero_mul] at this
    omega
  · simp only [Value.slice.injEq] at hv
    obtain ⟨rfl, _, rfl⟩ := hv
    have := h.cells (g := g) rfl j _ hu
    have e1 : (⟨g, 0, none⟩ : Addr).add j = ⟨g, j, none⟩ := by unfold Addr.add; split <;> simp_all
    rw [e1] at this
    exact ⟨g, rfl, this, free_of hg j⟩

theorem wrow_sh {w : World} {B e size n : Nat} {v : Value} {xs : List Value} (h : w.ownsRow B e size v n xs) : ∃ a c, v = .slice a n c := by
  rcases h.2 with ⟨rfl, rfl⟩ | ⟨g, cap, cur, rfl, _⟩
  · exact ⟨_, _, rfl⟩
  · exact ⟨_, _, rfl⟩
/-- 'append(s, e)', where e's cells lie in the block just made. -/
theorem wpList_append_w {P : Program} {ops : Array Oper} {rest : List Oper} {o : Oper} {a : Act} {Q : Exit → Act → World → Prop} (hgd : o.guard = none) (s x : Operand) (t : TypeId)
    (ho : o.op = .call { callee := .builtin .append, args := #[s, x], argTypes := #[t, t] })
    (base : Nat) (e : TypeId) (i : TypeInfo) (z : Value) (size bytes : Nat) (ht : P.underlying t = some (.slice e)) (hi : P.info? e = some i) (hz : i.zero = some z)
    (hsize : i.size = size) (hby : i.bytes = bytes) (hzs : z.cells.size = size) (hsz : 0 < size)
    (v : Value) (n : Nat) (xs : List Value) (wr : World) (e' : TypeId) (us : List Value) (hs : a.eval s = v) (hown : wr.ownsRow base e size v n xs)
    (hx : a.eval x = .slice (some ⟨wr.heap.size, 0, none⟩) 1 1) (hl : us.length = size) (h1 : ∀ u ∈ us, u.oneCell' = true)
    (h63 : n + 1 ≤ maxLen) (hbytes : (n + 1) * bytes ≤ 140737488355328) (hbase : base ≤ wr.heap.size)
    (h : ∀ v' w', w'.ownsRow base e size v' (n + 1) (xs ++ us) → wr.grownBy w' v.ownBlock → Below base wr w' → wpList P ops Q rest (a.put o.dst v') w') :
    wpList P ops Q (o :: rest) a (wr.alloc (.cells us.toArray e')) := by
  refine wpList_append_own _ hgd s x t ho base e i z size bytes ht hi hz hsize hby hzs hsz v n xs hs (hown.alloc _) ⟨wr.heap.size, 0, none⟩ 1 1 us hx (by omega) ?_ h1 h63 hbytes (by simp; omega) ?_
  · intro j u hj
    have e1 : (⟨wr.heap.size, 0, none⟩ : Addr).add j = ⟨wr.heap.size, j, none⟩ := by unfold Addr.add; split <;> simp_all
    rw [e1, cell_of (heap_alloc_new wr _)]
    simpa using hj
  · intro v' w' hown' hg _
    refine h v' w' hown' ?_ ?_
    · exact ⟨hg.os, hg.tape, hg.output, Nat.le_trans (by simp) hg.size, fun k hk hne => (hg.block k (by simp; omega) hne).trans (heap_alloc_old wr _ hk)⟩
    · exact ((Below.refl base wr).alloc hbase _).grown hg (by simp; omega) (fun q hq => (hown.lt q hq).1)

/-- Are the octets at a position there in both, and the same? -/
def eqAt (x y : Wn) (M : Nat → Nat → Int) (i : Nat) : Bool := decide (i < x.n) && (decide (i < y.n) && decide (M x.g (x.o + i) = M y.g (y.o + i)))
def DiffPost (x y : Wn) (M : Nat → Nat → Int) (w : World) : Ending → World → Prop := fun e w' => Below w.heap.size w w' ∧
  ((errXY x y = 4 ∧ e = .returned (.tuple #[.slice none 0 0, .int .i64 4])) ∨
   (errXY x y = 0 ∧ ∃ v, e = .returned (.tuple #[v, .int .i64 0]) ∧ w'.ownsRow w.heap.size 54 2 v (diffL (eqAt x y M) (max x.n y.n)).length (spCells (diffL (eqAt x y M) (max x.n y.n)))))

set_option maxHeartbeats 2000000 in
set_option maxRecDepth 100000 in
theorem diffX_any (x y : Wn) (a b : Option Addr) (M : Nat → Nat → Int) (len : Nat → Nat) (D : Nat → Prop) (w : World) (h : MemF w M len D) (hx : WnOk len D x a) (hy : WnOk len D y b) :
    Calls Try.prog 7 #[x.val a, y.val b] w (DiffPost x y M w) := by
  obtain ⟨i0, hi0, hz0, hz1, hz2⟩ := info_parts infoSpan
  have W1 : Below w.heap.size w (w.alloc (.cells #[x.val a, y.val b] 22)) := (Below.refl _ _).alloc (Nat.le_refl _) _
  have CH := Lib.hid (checkW_any _ _ _ (two_in (x, a) (y, b) (heap_alloc_new w (.cells #[x.val a, y.val b] 22))))
  have HM := Lib.hid h
  have HX := Lib.hid hx
  have HY := Lib.hid hy
  have HW1 := Lib.hid W1
  clear h hx hy W1
  unfold Wn.val at *
  go_enter Try.func7, Try.ntmps7
  go_wp2_with fail
  refine CH.out.mono ?_
  rintro e w2 ⟨rfl, rfl⟩
  rw [chk_two]
  by_cases he : errXY x y = 0
  · have HE := Lib.hid he
    have hbx : x.n ≤ 2000 ∧ y.n ≤ 2000 := by unfold errXY at he; split at he <;> omega
    rw [he]
    obtain ⟨hbx1, hbx2⟩ := hbx
    clear he
    go_upto_region 5 with fail
    generalize hWA : w.alloc (.cells #[.slice a x.n x.c, .slice b y.n y.c] 22) = wa at *
    go_cut [21, 22] (fun s t wx => s = .int .i64 ((max x.n y.n : Nat) : Int) ∧ t = .int .i64 0 ∧ wx = wa)
    case first =>
      go_wp2_with fail
      all_goals
        go_meet
        exact ⟨congrArg _ (by omega), rfl, rfl⟩
    case rest =>
      obtain ⟨rfl, rfl, hwc⟩ := hcut
      obtain ⟨N, hN⟩ : ∃ N, max x.n y.n = N := ⟨_, rfl⟩
      have HN := Lib.hid hN
      have hN2 : N ≤ 2000 := by omega
      have hN3 : x.n ≤ N ∧ y.n ≤ N := by omega
      rw [hN]
      rw [hwc]
      clear hN hwc hWA
      go_wp2_with fail
      go_loopw [7, 22] (fun ov i wr => ∃ k : Nat, k ≤ N ∧ i = .int .i64 k ∧ wr.ownsRow w.heap.size 54 2 ov (diffL (eqAt x y M) k).length (spCells (diffL (eqAt x y M) k)) ∧ Below w.heap.size w wr) (fun _ i _ => N - (intOf i).toNat)
      case atStart => exact ⟨0, Nat.zero_le _, rfl, World.ownsRow_nil _ _ _ _, HW1.out⟩
      case round =>
        obtain ⟨k, hk, rfl, hrow, hb⟩ := hrel
        have HROW := Lib.hid hrow
        have BL := Lib.hid hb
        have hsz := hb.size
        have DS := Lib.hid (diffL_succ (eqAt x y M) k)
        have hdl := diffL_len (eqAt x y M) k
        generalize hsp : diffL (eqAt x y M) k = sp at *
        have HSP := Lib.hid hsp
        clear hsp
        by_cases hlt : k < N
        · go_upto_region 8 with fail
          go_cut [45] from 25 to 45 (fun t wx => t = .bool (eqAt x y M k) ∧ ∃ q, wx = wr.drewN q)
          case first =>
            have MW : MemF wr M len D := HM.out.below (BL.out.mono (Nat.le_refl _))
            have E0 := Lib.hid (show eqAt x y M k = (decide (k < x.n) && (decide (k < y.n) && decide (M x.g (x.o + k) = M y.g (y.o + k)))) from rfl)
            by_cases h1 : k < x.n
            · obtain ⟨rfl, dx, lx⟩ := HX.out.2.2 (by omega)
              have cx := (MW x.g dx).cell (x.o + k) (by omega)
              have d1 : decide ((k : Int) < (x.n : Int)) = true := by simpa using h1
              by_cases h2 : k < y.n
              · obtain ⟨rfl, dy, ly⟩ := HY.out.2.2 (by omega)
                have cy := (MW y.g dy).cell (y.o + k) (by omega)
                have d2 : decide ((k : Int) < (y.n : Int)) = true := by simpa using h2
                obtain ⟨mx, hmx⟩ : ∃ m, M x.g (x.o + k) = m := ⟨_, rfl⟩
                obtain ⟨my, hmy⟩ : ∃ m, M y.g (y.o + k) = m := ⟨_, rfl⟩
                rw [hmx] at cx
                rw [hmy] at cy
                have HMX := Lib.hid hmx
                have HMY := Lib.hid hmy
                have hk63 : (k : Int) < 9223372036854775807 := by omega
                clear hmx hmy hrow hb
                by_cases h3 : mx = my
                · subst h3
                  go_quiet (fail)
                  try go_wp2_with fail
                  go_meet
                  exact ⟨by rw [E0.out, HMX.out, HMY.out]; simp [h1, h2], _, rfl⟩
                · have d3 : decide (mx = my) = false := by simpa using h3
                  go_quiet (fail)
                  try go_wp2_with fail
                  go_meet
                  exact ⟨by rw [E0.out, HMX.out, HMY.out]; simp [h1, h2, h3], _, rfl⟩
              · have d2 : decide ((k : Int) < (y.n : Int)) = false := by simpa using h2
                go_quiet (fail)
                try go_wp2_with fail
                go_meet
                exact ⟨by rw [E0.out]; simp [h1, h2], _, rfl⟩
            · have d1 : decide ((k : Int) < (x.n : Int)) = false := by simpa using h1
              go_quiet (fail)
              try go_wp2_with fail
              go_meet
              exact ⟨by rw [E0.out]; simp [h1], _, rfl⟩
          case rest =>
            obtain ⟨hc1, q, hc2⟩ := hcut
            have BQ := Lib.hid (bdrewN BL.out q)
            have RQ := Lib.hid (show (wr.drewN q).ownsRow w.heap.size 54 2 u7 sp.length (spCells sp) from HROW.out)
            have DS2 := Lib.hid (show diffL (eqAt x y M) (k + 1) = diffStep (eqAt x y M) sp k from DS.out)
            obtain ⟨E, hE⟩ : ∃ E, eqAt x y M k = E := ⟨_, rfl⟩
            have HE2 := Lib.hid hE
            rw [hE] at hc1
            generalize wr.drewN q = wq at *
            subst hc1 hc2
            clear hE hrow hb
            have hk63 : (k : Int) < 9223372036854775807 := by omega
            cases E with
            | true =>
              have FIN := Lib.hid (show wc.ownsRow w.heap.size 54 2 u7 (diffL (eqAt x y M) (k + 1)).length (spCells (diffL (eqAt x y M) (k + 1))) by
                rw [DS2.out]
                unfold diffStep
                rw [if_pos HE2.out]
                exact RQ.out)
              go_wp2_with fail
              go_round
              case rel => exact ⟨k + 1, by omega, by go_num, FIN.out, BQ.out⟩
              case measure => simp [intOf]; omega
            | false =>
              rcases List.eq_nil_or_concat sp with h0 | ⟨sp', ⟨p, t⟩, h0⟩
              · subst h0
                obtain ⟨ra, rc, hu⟩ := wrow_sh RQ.out
                subst hu
                have hbs := BQ.out.size
                have FIN : Hid (∀ (v' : Value) (w' : World), w'.ownsRow w.heap.size 54 2 v' (0 + 1) (spCells [] ++ [.int .i64 k, .int .i64 ((k : Int) + 1)]) → w'.ownsRow w.heap.size 54 2 v' (diffL (eqAt x y M) (k + 1)).length (spCells (diffL (eqAt x y M) (k + 1)))) := Lib.hid (fun v' w' h => by
                  rw [DS2.out]
                  unfold diffStep
                  rw [if_neg (by rw [HE2.out]; decide)]
                  exact h)
                go_wp2_with (at_builtin; go_must (refine wpList_append_w rfl (.tmp 69) (.tmp 74) 28 rfl w.heap.size 54 i0 (.agg #[.int .i64 0, .int .i64 0]) 2 16 Try.underlying28 hi0 hz0 hz1 hz2 rfl (by decide) _ _ _ wc _ [.int .i64 k, .int .i64 ((k : Int) + 1)] rfl (by exact RQ.out) (by rfl) rfl (by intro u hu; simp at hu; rcases hu with rfl | rfl <;> rfl) (by unfold maxLen; simp) (by simp) (by omega) ?_))
                intro v' w' hown' _ hb'
                have FIN2 := Lib.hid (FIN.out v' w' hown')
                have B2 := Lib.hid (BQ.out.trans hb')
                clear hown' hb'
                go_wp2_with fail
                go_round
                case rel => exact ⟨k + 1, by omega, by go_num, FIN2.out, B2.out⟩
                case measure => simp [intOf]; omega
              · rw [List.concat_eq_append] at h0
                subst h0
                obtain ⟨m, hm⟩ : ∃ m, sp'.length = m := ⟨_, rfl⟩
                have hlen : (sp' ++ [(p, t)]).length = m + 1 := by simp [hm]
                rw [hlen] at hdl
                have R1 : wc.ownsRow w.heap.size 54 2 u7 (m + 1) (spCells (sp' ++ [(p, t)])) := hlen ▸ RQ.out
                obtain ⟨ra, rc, hu⟩ := wrow_sh R1
                subst hu
                have hcl : (spCells sp').length = m * 2 := by rw [spCells_len, hm]
                have hget : (spCells (sp' ++ [(p, t)]))[m * 2 + 1]? = some (.int .i64 t) := by
                  rw [spCells_app, List.getElem?_append_right (by omega), hcl, show m * 2 + 1 - m * 2 = 1 by omega]
                  rfl
                obtain ⟨g, hg, ct, ft⟩ := wrow_cell R1 hget
                subst hg
                have R2 := Lib.hid R1
                have HM2 := Lib.hid (And.intro hlen hcl)
                have hbs := BQ.out.size
                have e1 : ((m : Int) + 1 - 1).toNat = m := by omega
                have e2 : ((m + 1 : Nat) : Int) = (m : Int) + 1 := by omega
                have hm63 : (m : Int) + 1 < 9223372036854775807 := by omega
                clear RQ R1 hget hlen hcl hm
                by_cases ht : t = k
                · subst ht
                  have FIN := Lib.hid (show (wc.setCell ⟨g, m * 2 + 1, none⟩ (.int .i64 ((t : Int) + 1))).ownsRow w.heap.size 54 2 (.slice (some ⟨g, 0, none⟩) (m + 1) rc) (diffL (eqAt x y M) (t + 1)).length (spCells (diffL (eqAt x y M) (t + 1))) by
                    have e : diffL (eqAt x y M) (t + 1) = sp' ++ [(p, t + 1)] := by
                      rw [DS2.out]
                      unfold diffStep
                      rw [if_neg (by rw [HE2.out]; decide)]
                      simp
                    have h1 := wrow_set R2.out (m * 2 + 1) (.int .i64 ((t : Int) + 1))
                    have hl : (sp' ++ [(p, t + 1)]).length = m + 1 := by simpa using HM2.out.1
                    have h2 : (spCells (sp' ++ [(p, t)])).set (m * 2 + 1) (.int .i64 ((t : Int) + 1)) = spCells (sp' ++ [(p, t + 1)]) := by
                      rw [spCells_app, spCells_app, List.set_append_right _ _ (by have := HM2.out.2; omega), HM2.out.2, show m * 2 + 1 - m * 2 = 1 by omega]
                      rfl
                    rw [h2] at h1
                    rw [e, hl]
                    exact h1)
                  have B2 := Lib.hid (show Below w.heap.size w (wc.setCell ⟨g, m * 2 + 1, none⟩ (.int .i64 ((t : Int) + 1))) from BQ.out.setCell (p := ⟨g, m * 2 + 1, none⟩) (R2.out.lt g rfl).1 _)
                  go_wp2_with fail
                  exact ⟨⟨t + 1, by omega, by go_num, FIN.out, B2.out⟩, by simp [intOf]; omega⟩
                · have FIN : Hid (∀ (v' : Value) (w' : World), w'.ownsRow w.heap.size 54 2 v' (m + 1 + 1) (spCells (sp' ++ [(p, t)]) ++ [.int .i64 k, .int .i64 ((k : Int) + 1)]) → w'.ownsRow w.heap.size 54 2 v' (diffL (eqAt x y M) (k + 1)).length (spCells (diffL (eqAt x y M) (k + 1)))) := Lib.hid (fun v' w' h => by
                    have e : diffL (eqAt x y M) (k + 1) = (sp' ++ [(p, t)]) ++ [(k, k + 1)] := by
                      rw [DS2.out]
                      unfold diffStep
                      rw [if_neg (by rw [HE2.out]; decide)]
                      simp [ht]
                    rw [e, spCells_app, List.length_append, HM2.out.1]
                    exact h)
                  have d3 : ((t : Int) == (k : Int)) = false := beq_eq_false_iff_ne.2 (by omega)
                  clear ht
                  go_wp2_with (at_builtin; go_must (refine wpList_append_w rfl (.tmp 69) (.tmp 74) 28 rfl w.heap.size 54 i0 (.agg #[.int .i64 0, .int .i64 0]) 2 16 Try.underlying28 hi0 hz0 hz1 hz2 rfl (by decide) _ _ _ wc _ [.int .i64 k, .int .i64 ((k : Int) + 1)] rfl (by exact R2.out) (by rfl) rfl (by intro u hu; simp at hu; rcases hu with rfl | rfl <;> rfl) (by unfold maxLen; omega) (by omega) (by omega) ?_))
                  intro v' w' hown' _ hb'
                  have FIN2 := Lib.hid (FIN.out v' w' hown')
                  have B2 := Lib.hid (BQ.out.trans hb')
                  clear hown' hb'
                  go_wp2_with fail
                  go_round
                  case rel => exact ⟨k + 1, by omega, by go_num, FIN2.out, B2.out⟩
                  case measure => simp [intOf]; omega
        · obtain rfl : k = N := by omega
          clear hlt hk hrow hb
          go_wp2_with fail
          go_ret2
          refine ⟨BL.out, Or.inr ⟨HE.out, _, rfl, ?_⟩⟩
          rw [HN.out, HSP.out]
          exact HROW.out
  · have he4 : errXY x y = 4 := by unfold errXY at *; split at he <;> simp_all
    have HE := Lib.hid he4
    rw [he4]
    clear he he4
    go_wp2_with fail
    go_ret2
    exact ⟨HW1.out, Or.inl ⟨HE.out, rfl⟩⟩

end Go.Proofs.Ytclpkmplifcfjaa
