/-
  Which block an address of a generation belongs to: Trace. No conditions but bounds.
  The reference's heap: Trace. No conditions but bounds and that the program keeps the last eight generations.
-/
import Derived.Test.YtjogaohnphafgaaGreatMoveRunsPaz
import Derived.Test.YtjogaohnphafgaaGreatMoveRunsPbk

namespace Go.Proofs.YtjogaohnphafgaaGreat
section
open Go.RowKit
set_option linter.unusedVariables false

def hitB (at' : Int) (x : Blk) : Bool := decide ((x.at' : Int) ≤ at') && decide (at' < (x.at' : Int) + (x.len : Int))
def hitW (n : Int) (x : Blk) : Bool := decide ((x.at' : Int) ≤ n) && decide (n < IntKind.i64.wrap ((x.at' : Int) + (x.len : Int)))
def trL (S : HpSt) (g : Int) : List Blk := if g < (S.count : Int) then S.hist.getD (S.hist.length - ((S.count : Int) - g).toNat) [] else S.bl
def trR (S : HpSt) (g at' : Int) : Int × Int × Int :=
  if S.closed then (0, 0, 11) else if ¬ (0 ≤ g ∧ g ≤ (S.count : Int)) ∨ ¬ (0 ≤ at' ∧ at' ≤ 99999) then (0, 0, 2) else if 8 < (S.count : Int) - g then (0, 0, 14)
  else match (trL S g).find? (hitB at') with
    | none => (0, 0, 7)
    | some x => if fndE S (x.h : Int) ≠ 0 then (0, 0, fndE S (x.h : Int)) else ((x.h : Int), at' - (x.at' : Int), 0)
def TrPost (S : HpSt) (g at' : Int) (w : World) : Ending → World → Prop := fun e w' => e = .returned (.tuple #[.int .i64 (trR S g at').1, .int .i64 (trR S g at').2.1, .int .i64 (trR S g at').2.2]) ∧ Below w.heap.size w w'

set_option maxHeartbeats 1000000 in
set_option maxRecDepth 100000 in
theorem trace1 (x : Blk) (bx : Nat) (n : Int) (W : World) (h : W.cell? ⟨bx, 0, none⟩ = some (.int .i64 n)) : Calls Tryz.prog 97 #[.agg #[.int .i64 (x.h : Int), .int .i64 (x.at' : Int), .int .i64 (x.len : Int)], .pointer (some ⟨bx, 0, none⟩)] W fun e w' => e = .returned (.bool (hitW n x)) ∧ Below W.heap.size W w' := by
  obtain ⟨a0, a1, a2⟩ := x
  have h' : (W.alloc (.cells #[.int .i64 (a0 : Int), .int .i64 (a1 : Int), .int .i64 (a2 : Int)] 78)).cell? ⟨bx, 0, none⟩ = some (.int .i64 n) := Lib.cell?_alloc_some _ h
  have hlt : bx < W.heap.size := World.block_lt_of_cell? W ⟨bx, 0, none⟩ h
  have FIN := Lib.hid ((Below.refl _ W).alloc (Nat.le_refl _) (.cells #[.int .i64 (a0 : Int), .int .i64 (a1 : Int), .int .i64 (a2 : Int)] 78))
  clear h
  unfold hitW
  show Calls _ _ _ _ fun e w' => e = .returned (.bool (decide ((a1 : Int) ≤ n) && decide (n < IntKind.i64.wrap ((a1 : Int) + (a2 : Int))))) ∧ _
  generalize hq : IntKind.i64.wrap ((a1 : Int) + (a2 : Int)) = q
  by_cases e : (a1 : Int) ≤ n
  · rw [show decide ((a1 : Int) ≤ n) = true from by simp [e], Bool.true_and]
    go_enter Tryz.func97, Tryz.ntmps97
    go_wp2_with fail
    go_ret
    exact ⟨by first | rfl | simp, FIN.out⟩
  · rw [show decide ((a1 : Int) ≤ n) = false from by simp [e], Bool.false_and]
    go_enter Tryz.func97, Tryz.ntmps97
    go_wp2_with fail
    go_ret
    exact ⟨by first | rfl | simp, FIN.out⟩

/-- IndexFunc over blocks, as a search. -/
theorem bindex_none (a : Option Addr) (cap : Nat) (fv : Value) (W : World) : Calls Tryz.prog 89 #[.slice a 0 cap, fv] W fun e w' => e = .returned (.int .i64 (-1)) ∧ w' = W := by
  go_enter Tryz.func89, Tryz.ntmps89
  go_wp2_with fail
  refine wp_loop_rounds 1 ?_
  rw [rounds_succ]
  go_wp2_with fail
  go_ret
  exact ⟨rfl, rfl⟩
def IxPost (ls : List Blk) (p : Blk → Bool) (w : World) : Ending → World → Prop := fun e w' => Below w.heap.size w w' ∧ ((ls.find? p = none ∧ e = .returned (.int .i64 (-1))) ∨ ∃ (k : Nat) (x : Blk), ls[k]? = some x ∧ ls.find? p = some x ∧ e = .returned (.int .i64 (k : Int)))
theorem find_first {p : Blk → Bool} : ∀ {l : List Blk} {k : Nat} {x : Blk}, l[k]? = some x → p x = true → (∀ y ∈ l.take k, p y = false) → l.find? p = some x
  | [], k, x, h, _, _ => by simp at h
  | y :: l, 0, x, h, hp, _ => by
    simp at h
    subst h
    rw [List.find?_cons, hp]
  | y :: l, k + 1, x, h, hp, hb => by
    rw [List.find?_cons, hb y (by simp)]
    exact find_first (by simpa using h) hp (fun z hz => hb z (by simp [hz]))
theorem bsearch {w : World} {v : Value} (ls : List Blk) (fn : FuncId) (fv : Array Value) (p : Blk → Bool) (hr : w.ownsRow 0 78 3 v ls.length (ls.flatMap Blk.cells)) (hbig : ls.length ≤ 1000000) (eg : ∀ args w, (callFunc fn args).run Tryz.prog w = .ok (.enter fn args) w)
    (hp : ∀ (W : World) (x : Blk), Below w.heap.size w W → Calls Tryz.prog fn (#[.agg #[.int .i64 (x.h : Int), .int .i64 (x.at' : Int), .int .i64 (x.len : Int)]] ++ fv) W fun e w' => e = .returned (.bool (p x)) ∧ Below W.heap.size W w') :
    Calls Tryz.prog 89 #[v, .func (.func fn) #[] fv] w (IxPost ls p w) := by
  rcases Nat.eq_zero_or_pos ls.length with h0 | h0
  · have hz : ls = [] := List.length_eq_zero_iff.1 h0
    subst hz
    obtain ⟨a, cap, rfl⟩ := wrow_sh hr
    refine (bindex_none a cap _ w).mono ?_
    rintro e w' ⟨rfl, hw⟩
    obtain rfl := hw.symm
    exact ⟨Below.refl _ _, Or.inl ⟨rfl, rfl⟩⟩
  · obtain ⟨g, cap, cur, rfl, hge, hg, _, _, _, _, hc⟩ := brow_open hr h0
    refine (bindex_row g cap ls fn fv p w eg (lt_of hg) (by omega) hc (fun W x hb => (hp W x hb).mono fun e w' ⟨a, b⟩ => ⟨a, hb.trans (b.mono hb.size)⟩)).mono ?_
    rintro e w' ⟨rfl, hb⟩
    refine ⟨hb, ?_⟩
    rcases bidxFirst (p := p) default ls 0 with ⟨h1, h2⟩ | ⟨k, h1, h2, ⟨y, h3, h4⟩, h5⟩
    · exact Or.inl ⟨List.find?_eq_none.2 (fun y hy => by rw [h2 y hy]; simp), by rw [h1]⟩
    · exact Or.inr ⟨k, y, h3, find_first h3 h4 h5, by rw [h2, Nat.zero_add]⟩
theorem hit_same (n : Int) {x : Blk} (h : x.at' + x.len ≤ 1000000) : hitW n x = hitB n x := by
  unfold hitW hitB
  have e : IntKind.i64.wrap ((x.at' : Int) + (x.len : Int)) = (x.at' : Int) + (x.len : Int) := by rw [IntKind.wrap_i64]; omega
  rw [e]
theorem find_same (n : Int) : ∀ {l : List Blk}, (∀ x ∈ l, x.at' + x.len ≤ 1000000) → l.find? (hitW n) = l.find? (hitB n)
  | [], _ => rfl
  | x :: l, h => by
    rw [List.find?_cons, List.find?_cons, hit_same n (h x List.mem_cons_self), find_same n (fun y hy => h y (List.mem_cons_of_mem _ hy))]

/-- What is kept of the history. -/
def HisOk (S : HpSt) : Prop := S.hist.length = min S.count 8 ∧ ∀ l ∈ S.hist, l.length ≤ 500 ∧ ∀ x ∈ l, x.at' + x.len ≤ 100000

set_option maxHeartbeats 4000000 in
set_option maxRecDepth 100000 in
theorem traceM_any {w : World} {F : Nat → Prop} {hp bp : Nat} {S : HpSt} {vm vb vh : Value} {vhs : List Value} (m : HpMem w F hp bp S vm vb vh vhs) (ho : HisOk S) (gn at' : Int) :
    Calls Tryz.prog 74 #[.pointer (some ⟨hp, 0, none⟩), .int .i64 gn, .int .i64 at'] w (TrPost S gn at' w) := by
  have B0 : Below w.heap.size w (w.alloc (.cells #[.int .i64 at'] 3)) := (Below.refl _ w).alloc (Nat.le_refl _) _
  have N0 := heap_alloc_new w (.cells #[.int .i64 at'] 3)
  have BB := Lib.hid B0
  have HN := Lib.hid N0
  have m0 := m.below B0
  have M0 := Lib.hid m0
  have OK := Lib.hid ho
  have p0 : (w.alloc (.cells #[.int .i64 at'] 3)).cell? ⟨w.heap.size, 0, none⟩ = some (.int .i64 at') := (cell_of N0 0).trans rfl
  obtain ⟨c0, c1, c2, c3, c4, c5, c6, c7, c8, c9, c10⟩ := m0.cells
  obtain ⟨va, vc, hvb⟩ := wrow_sh m.row.1
  obtain ⟨ha, hcp, hvh⟩ := wrow_sh m.hrow.1
  have HVB := Lib.hid hvb
  have HVH := Lib.hid hvh
  have hcb := m.big.2.2.2.1
  obtain ⟨BL, hBL⟩ : ∃ BL, S.bl.length = BL := ⟨_, rfl⟩
  obtain ⟨HL, hHL⟩ : ∃ HL, S.hist.length = HL := ⟨_, rfl⟩
  have HBL := Lib.hid hBL
  have HHL := Lib.hid hHL
  rw [hvb, hBL] at c7
  rw [hvh, hHL] at c10
  have KEY : Hid (∀ w' a b e, Below w.heap.size w w' → trR S gn at' = (a, b, e) → TrPost S gn at' w (.returned (.tuple #[.int .i64 a, .int .i64 b, .int .i64 e])) w') := Lib.hid (fun w' a b e hb he => ⟨by rw [he], hb⟩)
  cases hc : S.closed with
  | true =>
    rw [hc] at c5
    have FIN := Lib.hid (KEY.out _ 0 0 11 B0 (by unfold trR; rw [hc]; rfl))
    clear m m0 B0 N0 ho hc hvb hvh hBL hHL c0 c1 c2 c3 c4 c6 c7 c8 c9 c10 KEY p0
    go_enter Tryz.func74, Tryz.ntmps74
    go_wp2_with fail
    go_ret3
    exact FIN.out
  | false =>
    rw [hc] at c5
    have HC := Lib.hid hc
    have E1 : Hid (trR S gn at' = if ¬ (0 ≤ gn ∧ gn ≤ (S.count : Int)) ∨ ¬ (0 ≤ at' ∧ at' ≤ 99999) then (0, 0, 2) else if 8 < (S.count : Int) - gn then (0, 0, 14) else match (trL S gn).find? (hitB at') with
      | none => (0, 0, 7)
      | some x => if fndE S (x.h : Int) ≠ 0 then (0, 0, fndE S (x.h : Int)) else ((x.h : Int), at' - (x.at' : Int), 0)) := Lib.hid (by unfold trR; rw [hc]; rfl)
    clear m m0 B0 N0 ho hc hvb hvh hBL hHL c0 c1 c2 c3 c4 c6 c8
    by_cases h1 : 0 ≤ gn ∧ gn ≤ (S.count : Int)
    case neg =>
      have W1 := Lib.hid (fun W => within_move_no gn 0 (S.count : Int) W h1)
      have FIN := Lib.hid (KEY.out _ 0 0 2 BB.out (by rw [E1.out, if_pos (Or.inl h1)]))
      clear h1 KEY c7 c10
      go_enter Tryz.func74, Tryz.ntmps74
      go_wp2_with fail
      refine (W1.out _).mono ?_
      rintro e w2 ⟨rfl, hw2⟩
      obtain rfl := hw2
      go_wp2_with fail
      go_ret3
      exact FIN.out
    case pos =>
      have W1 := Lib.hid (fun W => within_move_yes gn 0 (S.count : Int) W h1.1 h1.2)
      by_cases h2 : 0 ≤ at' ∧ at' ≤ 99999
      case neg =>
        have W2 := Lib.hid (fun W => within_move_no at' 0 99999 W h2)
        have FIN := Lib.hid (KEY.out _ 0 0 2 BB.out (by rw [E1.out, if_pos (Or.inr h2)]))
        clear h1 h2 KEY c7 c10
        go_enter Tryz.func74, Tryz.ntmps74
        go_wp2_with fail
        refine (W1.out _).mono ?_
        rintro e w2 ⟨rfl, hw2⟩
        obtain rfl := hw2
        go_wp2_with fail
        refine (W2.out _).mono ?_
        rintro e w2 ⟨rfl, hw2⟩
        obtain rfl := hw2
        go_wp2_with fail
        go_ret3
        exact FIN.out
      case pos =>
        have W2 := Lib.hid (fun W => within_move_yes at' 0 99999 W h2.1 h2.2)
        have E2 := E1.out
        rw [if_neg (by rintro (h | h); exact h h1; exact h h2)] at E2
        obtain ⟨gg, rfl⟩ : ∃ gg : Nat, gn = (gg : Int) := ⟨gn.toNat, by omega⟩
        have hgg : gg ≤ S.count := by omega
        by_cases h3 : 8 < (S.count : Int) - (gg : Int)
        · have FIN := Lib.hid (KEY.out _ 0 0 14 BB.out (by rw [E2, if_pos h3]))
          have h3' : gg + 8 < S.count := by omega
          clear h1 h2 KEY c7 c10 E1 E2 h3
          go_enter Tryz.func74, Tryz.ntmps74
          go_wp2_with fail
          refine (W1.out _).mono ?_
          rintro e w2 ⟨rfl, hw2⟩
          obtain rfl := hw2
          go_wp2_with fail
          refine (W2.out _).mono ?_
          rintro e w2 ⟨rfl, hw2⟩
          obtain rfl := hw2
          go_wp2_with fail
          go_ret3
          exact FIN.out
        · rw [if_neg h3] at E2
          have E3 := Lib.hid E2
          have h3' : S.count ≤ gg + 8 := by omega
          have H2 := Lib.hid h2
          clear h1 h2 E1 E2 h3
          go_enter Tryz.func74, Tryz.ntmps74
          go_wp2_with fail
          refine (W1.out _).mono ?_
          rintro e w2 ⟨rfl, hw2⟩
          obtain rfl := hw2
          go_wp2_with fail
          refine (W2.out _).mono ?_
          rintro e w2 ⟨rfl, hw2⟩
          obtain rfl := hw2
          clear W1 W2
          go_upto_if 48 with fail
          generalize w.alloc (.cells #[.int .i64 at'] 3) = W0 at *
          go_cut [9] (fun v9 wx => Below w.heap.size w wx ∧ HpMem wx F hp bp S vm vb vh vhs ∧ wx.heap[w.heap.size]? = some (.cells #[.int .i64 at'] 3 (0, 0)) ∧ wx.ownsRow 0 78 3 v9 (trL S gg).length ((trL S gg).flatMap Blk.cells))
          case first =>
            by_cases hlt : gg < S.count
            · have hidx : HL - (S.count - gg) < HL ∧ S.count - gg ≤ HL ∧ HL ≤ 8 := by
                have := OK.out.1
                rw [HHL.out] at this
                omega
              obtain ⟨j, hj⟩ : ∃ j, HL - (S.count - gg) = j := ⟨_, rfl⟩
              have hjl : j < S.hist.length := by rw [HHL.out]; omega
              obtain ⟨v, hv⟩ : ∃ v, vhs[j]? = some v := ⟨_, List.getElem?_eq_getElem (by rw [M0.out.hs.1]; exact hjl)⟩
              have hlj : S.hist[j]? = some S.hist[j] := List.getElem?_eq_getElem hjl
              have hrv := (M0.out.hs.2 j v _ hv hlj).1
              have hrow := M0.out.hrow.1
              rw [HVH.out] at hrow
              obtain ⟨gh, hga, hcell, _⟩ := wrow_cell hrow (j := j) (u := v) hv
              subst hga
              have eI : (HL : Int) - ((S.count : Int) - (gg : Int)) = (j : Int) := by omega
              have e6 : wrap64 (j : Int) = (j : Int) := by unfold wrap64; omega
              have FIN : Hid (∀ q, Below w.heap.size w (W0.drewN q) ∧ HpMem (W0.drewN q) F hp bp S vm vb vh vhs ∧ (W0.drewN q).heap[w.heap.size]? = some (.cells #[.int .i64 at'] 3 (0, 0)) ∧ (W0.drewN q).ownsRow 0 78 3 v (trL S gg).length ((trL S gg).flatMap Blk.cells)) := Lib.hid (fun q => by
                refine ⟨bdrewN BB.out q, M0.out.same (fun k _ _ => rfl), HN.out, ?_⟩
                have e : trL S gg = S.hist[j] := by
                  unfold trL
                  rw [if_pos (by omega), HHL.out]
                  have e2 : HL - ((S.count : Int) - (gg : Int)).toNat = j := by omega
                  rw [e2, List.getD_eq_getElem?_getD, hlj]
                  rfl
                rw [e]
                exact ownsRow_same hrv (fun k _ => rfl))
              obtain ⟨ra, rc, rfl⟩ := wrow_sh hrv
              generalize S.hist[j].length = rl at *
              have hjl2 : j < HL := by omega
              have hlt' : (gg : Int) < (S.count : Int) := by omega
              clear hv hlj hrv hrow hj hjl hidx
              go_upto_region 9 with fail
              go_quiet (fail)
              go_wp2_with fail
              go_meet
              exact FIN.out _
            · have FIN : Hid (W0.ownsRow 0 78 3 (.slice va BL vc) (trL S gg).length ((trL S gg).flatMap Blk.cells)) := Lib.hid (by
                unfold trL
                rw [if_neg (by omega)]
                have := M0.out.row.1
                rw [HVB.out] at this
                rw [← HBL.out]
                exact this)
              have hlt' : ¬ (gg : Int) < (S.count : Int) := by omega
              clear hlt
              go_wp2_with fail
              go_meet
              exact ⟨BB.out, M0.out, HN.out, FIN.out⟩
          case rest =>
            obtain ⟨hb, m, hbx, hr⟩ := hcut
            rename_i wc _
            have hT : (trL S gg).length ≤ 500 ∧ ∀ x ∈ trL S gg, x.at' + x.len ≤ 100000 := by
              unfold trL
              split
              · next h =>
                have hidx : HL - (S.count - gg) < HL := by
                  have := OK.out.1
                  rw [HHL.out] at this
                  omega
                have e2 : S.hist.length - ((S.count : Int) - (gg : Int)).toNat = HL - (S.count - gg) := by rw [HHL.out]; omega
                rw [e2, List.getD_eq_getElem?_getD, List.getElem?_eq_getElem (by rw [HHL.out]; exact hidx)]
                exact OK.out.2 _ (List.getElem_mem _)
              · exact ⟨m.big.2.1, fun x hx => by have := (m.hb x hx).2.2; have := m.big.1; omega⟩
            have egD : ∀ args w, (callFunc 97 args).run Tryz.prog w = .ok (.enter 97 args) w := enters_of Tryz.func97 (by kernel_rfl) rfl
            have C := bsearch (trL S gg) 97 #[.pointer (some ⟨w.heap.size, 0, none⟩)] (hitW at') hr (by omega) egD (fun W x hW => trace1 x w.heap.size at' W ((cell_of ((hW.block _ (lt_of hbx)).trans hbx) 0).trans rfl))
            unfold IxPost at C
            rw [find_same at' (fun x hx => by have := hT.2 x hx; omega)] at C
            have HCC := Lib.hid C
            have HT := Lib.hid hT
            have HM := Lib.hid m
            have HB := Lib.hid hb
            have HBX := Lib.hid hbx
            have HR := Lib.hid hr
            generalize hTL : trL S gg = TL at *
            obtain ⟨ra, rc, hv⟩ := wrow_sh hr
            obtain ⟨TN, hTN⟩ : ∃ TN, TL.length = TN := ⟨_, rfl⟩
            have HTN := Lib.hid hTN
            rw [hTN] at hv
            subst hv
            clear hT C m hb hbx hr egD p0 c7 c9 c10 hTN
            go_wp2_with fail
            refine HCC.out.mono ?_
            rintro e w2 ⟨hb2, hx⟩
            have HB2 := Lib.hid (HB.out.trans (hb2.mono HB.out.size))
            have M2 := Lib.hid (HM.out.below hb2)
            have hr2 := row_kept HR.out hb2
            have hbx2 := (hb2.block _ (lt_of HBX.out)).trans HBX.out
            rcases hx with ⟨hf, rfl⟩ | ⟨k, x, hk, hf, rfl⟩
            · have FIN := Lib.hid (KEY.out w2 0 0 7 HB2.out (by rw [E3.out, hf]))
              clear hf hb2 hr2 hbx2 KEY
              go_wp2_with fail
              go_ret3
              exact FIN.out
            · obtain ⟨g, cap, hv, d0, d1, d2, _⟩ := blk_cells hr2 hk
              rw [HTN.out] at hv
              simp only [Value.slice.injEq, true_and] at hv
              obtain ⟨rfl, rfl⟩ := hv
              have hkl : k < TN := by rw [← HTN.out]; exact (List.getElem?_eq_some_iff.1 hk).1
              have FD := Lib.hid (findM_any M2.out (x.h : Int))
              have p0 : w2.cell? ⟨w.heap.size, 0, none⟩ = some (.int .i64 at') := (cell_of hbx2 0).trans rfl
              have hat := H2.out
              have hxin := HT.out.2 x (List.mem_of_getElem? hk)
              have EF : trR S gg at' = if fndE S (x.h : Int) ≠ 0 then (0, 0, fndE S (x.h : Int)) else ((x.h : Int), at' - (x.at' : Int), 0) := by rw [E3.out, hf]
              have HEF := Lib.hid EF
              have HTN5 := Lib.hid HT.out.1
              have hTN5 : TN ≤ 500 := by rw [← HTN.out]; exact HT.out.1
              clear hf hb2 hr2 hbx2 hk EF
              go_wp2_with fail
              refine FD.out.mono ?_
              rintro e w3 ⟨hw3, hpost⟩
              obtain rfl := hw3.symm
              clear hw3
              rcases hpost with ⟨he, rfl⟩ | ⟨he, i', x', g', cap2, hf', hv', rfl⟩
              · have he' : (fndE S (x.h : Int) != 0) = true := by simpa using he
                have FIN := Lib.hid (KEY.out w2 0 0 (fndE S (x.h : Int)) HB2.out (by rw [HEF.out, if_pos he]))
                clear he FD KEY
                generalize fndE S (x.h : Int) = er at *
                go_wp2_with fail
                go_ret3
                exact FIN.out
              · have FIN := Lib.hid (fun q => KEY.out (w2.drewN q) (x.h : Int) (at' - (x.at' : Int)) 0 (bdrewN HB2.out q) (by rw [HEF.out, if_neg (by simp [he])]))
                clear he hf' hv' FD KEY
                go_upto_region 16 with fail
                go_quiet (fail)
                go_wp2_with fail
                go_ret3
                exact FIN.out _

end
end Go.Proofs.YtjogaohnphafgaaGreat

namespace Go.Proofs.YtjogaohnphafgaaGreat
section
open Go.RowKit
set_option linter.unusedVariables false

theorem trL_kept {S : HpSt} {kept : List (List Blk)} (hk : S.hist = keep8 kept ∧ S.count = kept.length) {g : Nat} (h1 : g < kept.length) (h2 : kept.length - g ≤ 8) : trL S (g : Int) = kept.getD g [] := by
  unfold trL
  rw [if_pos (by rw [hk.2]; omega), hk.1, hk.2]
  unfold keep8
  rw [List.getD_eq_getElem?_getD, List.getD_eq_getElem?_getD, List.getElem?_drop, List.length_drop]
  congr 2
  omega
def TcCut (w : World) (S : HpSt) (gn : Int) (v : Value) (wr : World) : Prop := wr = w ∧ ∃ a c, v = .slice a (trL S gn).length c ∧ OffRow w 78 3 v (trL S gn).length ((trL S gn).flatMap Blk.cells) ∧ (trL S gn).length ≤ 500 ∧ ∀ x ∈ trL S gn, x.at' + x.len ≤ 100000
theorem find_hit {p : Blk → Bool} : ∀ {l : List Blk} {k : Nat} {x : Blk}, l[k]? = some x → p x = true → (l.take k).find? p = none → l.find? p = some x
  | [], k, x, h, _, _ => by simp at h
  | y :: l, 0, x, h, hp, _ => by simp at h; subst h; rw [List.find?_cons, hp]
  | y :: l, k + 1, x, h, hp, hn => by
    rw [List.take_succ_cons, List.find?_cons] at hn
    rw [List.find?_cons]
    split at hn
    · cases hn
    · exact find_hit (by simpa using h) hp hn
theorem find_miss {p : Blk → Bool} : ∀ {l : List Blk} {k : Nat} {x : Blk}, l[k]? = some x → p x = false → (l.take k).find? p = none → (l.take (k + 1)).find? p = none := by
  intro l k x h hp hn
  rw [List.take_add_one, h, List.find?_append, hn]
  simp [hp]

set_option maxHeartbeats 4000000 in
set_option maxRecDepth 100000 in
theorem traceR_any {w : World} {F : Nat → Prop} {rp pp M : Nat} {S : HpSt} {kept : List (List Blk)} {vm vb vk : Value} {vks : List Value} (m : RfMem w F rp pp M S kept vm vb vk vks) (hkp : S.closed = false → S.hist = keep8 kept ∧ S.count = kept.length) (hgone : S.closed = false → ∀ l ∈ kept, ∀ x ∈ l, 1 ≤ x.h ∧ x.h ≤ S.last) (gn at' : Int) (hg1 : -9223372036854775808 ≤ gn ∧ gn ≤ 9223372036854775807) :
    Calls Tryz.prog 75 #[.pointer (some ⟨rp, 0, none⟩), .int .i64 gn, .int .i64 at'] w (TrPost S gn at' w) := by
  obtain ⟨c0, c1, c2, c3, c4, c5, c6, c7, c8, c9⟩ := m.cells
  have HM := Lib.hid m
  have hcnt := m.big.2.2.2.1
  cases hc : S.closed with
  | true =>
    rw [hc] at c4
    have FIN : Hid (TrPost S gn at' w (.returned (.tuple #[.int .i64 0, .int .i64 0, .int .i64 11])) w) := Lib.hid ⟨by unfold trR; rw [hc]; rfl, Below.refl _ _⟩
    clear m hc hkp hgone c0 c1 c2 c3 c5 c6 c7 c8 c9
    go_enter Tryz.func75, Tryz.ntmps75
    go_wp2_with fail
    go_ret3
    exact FIN.out
  | false =>
    rw [hc] at c4
    have HK := Lib.hid (hkp hc)
    have HG := Lib.hid (hgone hc)
    have E0 : trR S gn at' = if ¬ (0 ≤ gn ∧ gn ≤ (S.count : Int)) ∨ ¬ (0 ≤ at' ∧ at' ≤ 99999) then (0, 0, 2) else if 8 < (S.count : Int) - gn then (0, 0, 14)
      else match (trL S gn).find? (hitB at') with
        | none => (0, 0, 7)
        | some x => if fndE S (x.h : Int) ≠ 0 then (0, 0, fndE S (x.h : Int)) else ((x.h : Int), at' - (x.at' : Int), 0) := by unfold trR; rw [hc]; rfl
    have HC := Lib.hid hc
    obtain ⟨g1, g2⟩ := hg1
    clear m hc hkp hgone c0 c1 c2 c3 c6 c8
    by_cases hbad : ¬ (0 ≤ gn ∧ gn ≤ (S.count : Int)) ∨ ¬ (0 ≤ at' ∧ at' ≤ 99999)
    · have FIN : Hid (TrPost S gn at' w (.returned (.tuple #[.int .i64 0, .int .i64 0, .int .i64 2])) w) := Lib.hid ⟨by rw [E0, if_pos hbad], Below.refl _ _⟩
      clear E0
      rcases (show gn < 0 ∨ (¬ gn < 0 ∧ (S.count : Int) < gn) ∨ (¬ gn < 0 ∧ ¬ (S.count : Int) < gn ∧ at' < 0) ∨ (¬ gn < 0 ∧ ¬ (S.count : Int) < gn ∧ ¬ at' < 0 ∧ 100000 ≤ at') from by omega) with h1 | ⟨h1, h2⟩ | ⟨h1, h2, h3⟩ | ⟨h1, h2, h3, h4⟩
      all_goals
        clear hbad
        go_enter Tryz.func75, Tryz.ntmps75
        go_wp2_with fail
        go_ret3
        exact FIN.out
    · rw [if_neg hbad] at E0
      have h1 : ¬ gn < 0 := by omega
      have h2 : ¬ (S.count : Int) < gn := by omega
      have h3 : ¬ at' < 0 := by omega
      have h4 : ¬ 100000 ≤ at' := by omega
      by_cases hst : 8 < (S.count : Int) - gn
      · have FIN : Hid (TrPost S gn at' w (.returned (.tuple #[.int .i64 0, .int .i64 0, .int .i64 14])) w) := Lib.hid ⟨by rw [E0, if_pos hst], Below.refl _ _⟩
        clear E0 hbad
        go_enter Tryz.func75, Tryz.ntmps75
        go_wp2_with fail
        go_ret3
        exact FIN.out
      · rw [if_neg hst] at E0
        have HE0 := Lib.hid E0
        clear E0 hbad
        obtain ⟨gN, rfl⟩ : ∃ gN : Nat, gn = (gN : Int) := ⟨gn.toNat, by omega⟩
        have hgN : gN ≤ S.count := by omega
        go_enter Tryz.func75, Tryz.ntmps75
        go_upto_if 55 with fail
        go_cut [9] (fun v9 wr => TcCut w S (gN : Int) v9 wr)
        case first =>
          by_cases hlt : gN < S.count
          · have hkl : gN < kept.length := by have := HK.out.2; omega
            obtain ⟨l, hl⟩ : ∃ l, kept[gN]? = some l := ⟨_, List.getElem?_eq_getElem hkl⟩
            obtain ⟨v, hv⟩ : ∃ v, vks[gN]? = some v := ⟨_, List.getElem?_eq_getElem (by rw [HM.out.ks.1]; exact hkl)⟩
            obtain ⟨ka, kc, hvk⟩ := wrow_sh HM.out.krow.1
            have hkr := HM.out.krow.1
            rw [hvk] at hkr
            obtain ⟨gk, hgk, hcell, _⟩ := wrow_cell hkr hv
            subst hgk
            obtain ⟨r1, r2⟩ := HM.out.ks.2 gN v l hv hl
            obtain ⟨a, c, hvl⟩ := wrow_sh r1
            have hkb := HM.out.kb l (List.mem_of_getElem? hl)
            have htr : trL S (gN : Int) = l := by
              rw [trL_kept HK.out hkl (by have := HK.out.2; omega), List.getD_eq_getElem?_getD, hl]
              rfl
            have FIN : Hid (TcCut w S (gN : Int) v w) := Lib.hid ⟨rfl, a, c, by rw [htr]; exact hvl, by rw [htr]; exact OffRow.of_own r1, by rw [htr]; exact hkb.1, by rw [htr]; exact hkb.2⟩
            rw [hvl] at hcell FIN
            rw [hvk] at c9
            obtain ⟨KN, hKN⟩ : ∃ KN, kept.length = KN := ⟨_, rfl⟩
            rw [hKN] at c9 hkl
            have hidx : (gN : Int) < (KN : Int) := by omega
            have hlt2 : (gN : Int) < (S.count : Int) := by omega
            have c7' := c7
            obtain ⟨ba, bc, hvb, _⟩ := HM.out.row.1.sh
            rw [hvb] at c7
            clear hl hv hvk hkr r1 r2 hvl hkb htr hKN c7' hvb
            go_wp2_with fail
            go_meet
            exact FIN.out
          · have hlt2 : ¬ (gN : Int) < (S.count : Int) := by omega
            have htr : trL S (gN : Int) = S.bl := by unfold trL; rw [if_neg hlt2]
            obtain ⟨ba, bc, hvb, _⟩ := HM.out.row.1.sh
            have FIN : Hid (TcCut w S (gN : Int) vb w) := Lib.hid ⟨rfl, ba, bc, by rw [htr]; exact hvb, by rw [htr]; exact HM.out.row.1, by rw [htr]; exact HM.out.big.2.1, by rw [htr]; exact fun x hx => by have := (HM.out.hb x hx).2.2; have := HM.out.big.1; omega⟩
            clear htr hvb hlt
            go_wp2_with fail
            go_meet
            exact FIN.out
        case rest =>
          obtain ⟨hwc, a, c, rfl, hrow, hfew, hbd⟩ := hcut
          obtain rfl := hwc.symm
          clear hwc
          have hh : ∀ x ∈ trL S (gN : Int), 1 ≤ x.h ∧ x.h ≤ S.last := fun x hx => by
            by_cases hlt : gN < S.count
            · have hkl : gN < kept.length := by have := HK.out.2; omega
              rw [trL_kept HK.out hkl (by have := HK.out.2; omega), List.getD_eq_getElem?_getD, List.getElem?_eq_getElem hkl] at hx
              exact HG.out _ (List.getElem_mem hkl) x hx
            · rw [show trL S (gN : Int) = S.bl from by unfold trL; rw [if_neg (by omega)]] at hx
              have := HM.out.hb x hx
              exact ⟨this.1, this.2.1⟩
          have E1 := HE0.out
          have FINS : Hid (∀ r w', trR S (gN : Int) at' = r → Below w.heap.size w w' → TrPost S (gN : Int) at' w (.returned (.tuple #[.int .i64 r.1, .int .i64 r.2.1, .int .i64 r.2.2])) w') := Lib.hid (fun r w' h hb => ⟨by rw [h], hb⟩)
          rw [E1] at FINS
          generalize trL S (gN : Int) = l at *
          obtain ⟨n, hn⟩ : ∃ n, l.length = n := ⟨_, rfl⟩
          have HN := Lib.hid hn
          have HROW := Lib.hid hrow
          have HBD := Lib.hid hbd
          have HH := Lib.hid hh
          rw [hn] at hfew ⊢
          clear hrow hbd hh hn E1 HE0 c4 c5 c7 c9
          go_wp2_with fail
          go_loopw [65] (fun i wr => ∃ k : Nat, k ≤ n ∧ i = .int .i64 (k : Int) ∧ (l.take k).find? (hitB at') = none ∧ Below w.heap.size w wr) (fun i _ => n - (intOf i).toNat)
          case atStart => exact ⟨0, Nat.zero_le _, rfl, rfl, Below.refl _ _⟩
          case round =>
            obtain ⟨k, hk, rfl, hnone, hb⟩ := hrel
            by_cases hlt : k < n
            · obtain ⟨x, hx⟩ : ∃ x, l[k]? = some x := ⟨_, List.getElem?_eq_getElem (by have := HN.out; omega)⟩
              obtain ⟨g, off, cap2, hv2, d0, d1, d2, _⟩ := oblk_cells HROW.out hx
              rw [HN.out] at hv2
              simp only [Value.slice.injEq, true_and] at hv2
              obtain ⟨rfl, rfl⟩ := hv2
              have d0 := old_cell hb d0
              have d1 := old_cell hb d1
              have d2 := old_cell hb d2
              have hxb := HBD.out x (List.mem_of_getElem? hx)
              have hxh := HH.out x (List.mem_of_getElem? hx)
              have B2 := hb.alloc hb.size (.cells #[.int .i64 (x.h : Int), .int .i64 (x.at' : Int), .int .i64 (x.len : Int)] 78)
              have HB2 := Lib.hid B2
              by_cases hhit : (x.at' : Int) ≤ at' ∧ at' < (x.at' : Int) + (x.len : Int)
              · have hhb : hitB at' x = true := by unfold hitB; simp [hhit.1, hhit.2]
                have hfd := find_hit hx hhb hnone
                have AT := Lib.hid (atR_any (HM.out.below B2) (x.h : Int))
                have RS := heap_alloc_new wr (.cells #[.int .i64 (x.h : Int), .int .i64 (x.at' : Int), .int .i64 (x.len : Int)] 78)
                have HRS := Lib.hid RS
                clear RS
                unfold AtPost at AT
                have F1 := FINS.out
                rw [hfd] at F1
                simp only at F1
                have F1 := Lib.hid F1
                obtain ⟨hh1, hh2⟩ := hhit
                clear hx hb B2 hnone hfd hhb FINS
                by_cases hE : fndE S (x.h : Int) = 0
                · rw [hE] at AT
                  have F2 := F1.out
                  rw [hE, if_neg (by decide)] at F2
                  have F2 := Lib.hid (fun w' => F2 _ w' rfl)
                  simp only at F2
                  generalize atI S (x.h : Int) = I at *
                  clear hE F1
                  go_wp2_with fail
                  refine AT.out.mono ?_
                  rintro e w3 ⟨rfl, hb3⟩
                  have R3 := (hb3.block _ (lt_of HRS.out)).trans HRS.out
                  obtain ⟨q0, q1, q2⟩ := cells3h R3
                  have HB3 := Lib.hid (HB2.out.trans (hb3.mono HB2.out.size))
                  clear R3 hb3 AT HRS
                  go_upto_region 17 with fail
                  go_quiet (fail)
                  go_wp2_with fail
                  go_ret3
                  exact F2.out _ (bdrewN HB3.out _)
                · have e13 : fndE S (x.h : Int) = 13 := by
                    unfold fndE at hE ⊢
                    rw [HC.out] at hE ⊢
                    simp only [Bool.false_eq_true, if_false] at hE ⊢
                    rw [if_neg (by omega)] at hE ⊢
                    cases hf : findB S.bl (x.h : Int) with
                    | none => rfl
                    | some p => rw [hf] at hE; exact absurd rfl hE
                  rw [e13] at AT
                  have F2 := F1.out
                  rw [e13, if_pos (by decide)] at F2
                  have F2 := Lib.hid (fun w' => F2 _ w' rfl)
                  simp only at F2
                  generalize atI S (x.h : Int) = I at *
                  clear hE F1 e13
                  go_wp2_with fail
                  refine AT.out.mono ?_
                  rintro e w3 ⟨rfl, hb3⟩
                  have HB3 := Lib.hid (HB2.out.trans (hb3.mono HB2.out.size))
                  clear hb3 AT HRS
                  go_wp2_with fail
                  go_ret3
                  exact F2.out _ HB3.out
              · have hhb : hitB at' x = false := by
                  unfold hitB
                  by_cases h5 : (x.at' : Int) ≤ at'
                  · have : ¬ at' < (x.at' : Int) + (x.len : Int) := fun h => hhit ⟨h5, h⟩
                    simp [this]
                  · simp [h5]
                have NX := Lib.hid (find_miss hx hhb hnone)
                clear hx hb B2 hnone hhb
                rcases (show ¬ (x.at' : Int) ≤ at' ∨ ((x.at' : Int) ≤ at' ∧ ¬ at' < (x.at' : Int) + (x.len : Int)) from by omega) with h5 | ⟨h5, h6⟩
                all_goals
                  clear hhit
                  go_wp2_with fail
                  go_roundw
                  case measure => simp only [intOf]; omega
                  case rel => exact ⟨k + 1, by omega, by go_num, NX.out, HB2.out⟩
            · obtain rfl : k = n := by omega
              have ek : l.take k = l := List.take_of_length_le (by have := HN.out; omega)
              rw [ek] at hnone
              have F1 := FINS.out
              rw [hnone] at F1
              have F2 := Lib.hid (F1 _ wr rfl hb)
              simp only at F2
              clear hnone hb F1 FINS ek
              go_wp2_with fail
              go_ret3
              exact F2.out

end
end Go.Proofs.YtjogaohnphafgaaGreat
