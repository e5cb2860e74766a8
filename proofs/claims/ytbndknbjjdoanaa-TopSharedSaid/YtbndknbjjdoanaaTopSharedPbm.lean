/-
  Set of a pool: the walk. Conditions: numbers in their bounds; the octets lie apart from the pool.
-/
import Derived.Test.YtbndknbjjdoanaaTopSharedPbl
namespace Go.Proofs.Ytbndknbjjdoanaa
open Go.RowKit
set_option linter.unusedVariables false

theorem wr_part {l : List Pt} {A n : Nat} (ho : PtOk l) {k : Nat} {x : Wr} (hx : (writtenP l (A : Int) ((A : Int) + (n : Int)))[k]? = some x) : ∃ z, l[k]? = some z ∧ x.b = z.b ∧ z.f ≤ z.t ∧ x.f = (z.f : Int) + max ((A : Int) - (lenP (l.take k) : Nat)) 0 ∧ x.t = (z.f : Int) + min ((A : Int) + (n : Int) - (lenP (l.take k) : Nat)) ((z.n : Nat) : Int) := by
  have hk : k < l.length := by
    have := (List.getElem?_eq_some_iff.1 hx).1
    rw [writtenP_len] at this
    exact this
  obtain ⟨z, hz⟩ : ∃ z, l[k]? = some z := ⟨_, List.getElem?_eq_getElem hk⟩
  have h := writtenP_get l k z (A : Int) ((A : Int) + n) (fun y hy => (ho.2 y hy).1) hz
  rw [h] at hx
  cases hx
  have hzo := (ho.2 z (List.mem_of_getElem? hz)).1
  refine ⟨z, hz, rfl, hzo, rfl, ?_⟩
  unfold Pt.n offP
  simp only
  rw [show ((z.t - z.f : Nat) : Int) = (z.t : Int) - z.f by omega]

def SetPost (h bp : Nat) (P : PoolSt) (x A : Int) (os : List Int) (Z : Nat → Prop) (w : World) : Ending → World → Prop := fun e w' => match lookN P.st x with
  | none => e = .returned (.int .i64 13) ∧ Stays h bp P Z P.bl.length w w'
  | some q => if 0 ≤ A ∧ A ≤ (lenP q.2 : Nat) ∧ (os.length : Int) ≤ (lenP q.2 : Nat) - A then
      (if tkE P P.bl.length (ownS P x.toNat (writtenP q.2 A (A + (os.length : Nat))) q.2.length).length ≠ 0 then e = .returned (.int .i64 (tkE P P.bl.length (ownS P x.toNat (writtenP q.2 A (A + (os.length : Nat))) q.2.length).length)) ∧ ∃ Z', SP w' Z' h bp P P.bl.length ∧ Nxt Z Z' w w'
      else e = .returned (.int .i64 0) ∧ ∃ Q m o' Z', SetI P x.toNat q.2 (ownS P x.toNat (writtenP q.2 A (A + (os.length : Nat))) q.2.length) (splice (octP P.oct q.2) A.toNat os) q.2.length Q m ∧ SP w' Z' h bp (Q.setS x.toNat o' m).swept (Q.setS x.toNat o' m).swept.bl.length ∧ Nxt Z Z' w w')
    else e = .returned (.int .i64 2) ∧ Stays h bp P Z P.bl.length w w'

theorem ownS_nodup (P : PoolSt) (s : Nat) (wr : List Wr) : ∀ k : Nat, (ownS P s wr k).Nodup
  | 0 => by unfold ownS; exact List.nodup_nil
  | k + 1 => by
    have ih := ownS_nodup P s wr k
    unfold ownS
    split
    · rw [List.append_nil]; exact ih
    · split
      · rw [List.nodup_append]
        refine ⟨ih, by simp, fun a ha b hb => ?_⟩
        have := ownS_lt P s wr k a ha
        simp at hb
        omega
      · rw [List.append_nil]; exact ih
theorem lenP_num : ∀ (l m : List Pt), m.length = l.length → (∀ (i : Nat) (x x' : Pt), l[i]? = some x → m[i]? = some x' → x'.n = x.n) → lenP m = lenP l
  | [], [], _, _ => rfl
  | [], _ :: _, h, _ => by simp at h
  | _ :: _, [], h, _ => by simp at h
  | x :: l, y :: m, h, hn => by
    have e0 := hn 0 x y rfl rfl
    have ih := lenP_num l m (by simpa using h) (fun i u u' hu hu' => hn (i + 1) u u' (by simpa using hu) (by simpa using hu'))
    have c : ∀ (z : Pt) (zs : List Pt), lenP (z :: zs) = z.n + lenP zs := fun z zs => by simp [lenP]
    rw [c, c, e0, ih]
def SetPut (wE : World) (v8 : Value) (os : List Int) (n : Nat) (A off : Int) (a : Option Addr) (p c : Nat) : Prop := p ≤ c ∧ c ≤ 9223372036854775807 ∧ p ≤ n ∧ (p : Int) = (n : Int) - min (max (off - A) 0) (n : Int) ∧ ∀ W : World, (∀ j, v8.ownBlock = some j → W.heap[j]? = wE.heap[j]?) → Reads W .u8 (.slice a p c) (os.drop (n - p))

set_option maxHeartbeats 4000000 in
set_option maxRecDepth 100000 in
theorem setP_any {w : World} {Z : Nat → Prop} {h bp : Nat} {P : PoolSt} (s : SP w Z h bp P P.bl.length) (x A' : Int) (hx : -9223372036854775808 ≤ x ∧ x ≤ 9223372036854775807) (hA' : -9223372036854775808 ≤ A' ∧ A' ≤ 9223372036854775807) (a : Option Addr) (n c : Nat) (os : List Int) (hr : ∀ W, Touch Z w W → Reads W .u8 (.slice a n c) os) (hn : os.length = n) (hc1 : n ≤ c) (hc2 : c ≤ 9223372036854775807) (hbz : bytes os) (hB : P.lastB + 2000 ≤ 1000000000 ∧ P.lastS + 1 ≤ 1000000000) :
    Calls Try.prog 21 #[.pointer (some ⟨h, 0, none⟩), .int .i64 x, .int .i64 A', .slice a n c] w (SetPost h bp P x A' os Z w) := by
  obtain ⟨i0, hi0, hz0, hz1, hz2⟩ := info_parts info_part
  have HSP := Lib.hid s
  obtain ⟨mb, ms, D1, D2, F, G, b, p, hZ⟩ := s
  have HP := Lib.hid p
  have FI := Lib.hid (findP_any p.pm x hx)
  have HZ := Lib.hid hZ
  have HBB := Lib.hid hB
  have HR := Lib.hid hr
  have HN := Lib.hid hn
  have HC := Lib.hid (And.intro hc1 hc2)
  have HBZ := Lib.hid hbz
  clear p hZ hB hr hn hbz
  cases hl : lookN P.st x with
  | none =>
    have HL := Lib.hid hl
    clear hl
    go_enter Try.func21, Try.ntmps21
    go_wp2_with fail
    refine FI.out.mono ?_
    rintro e w2 ⟨rfl, he⟩
    rw [HL.out] at he
    subst he
    have FIN : Hid (SetPost h bp P x A' os Z w2 (.returned (.int .i64 13)) w2) := Lib.hid (by
      unfold SetPost
      rw [HL.out]
      exact ⟨rfl, HSP.out, Below.refl _ _⟩)
    go_wp2_with fail
    go_ret
    exact FIN.out
  | some q =>
    obtain ⟨o, l⟩ := q
    have HL := Lib.hid hl
    obtain ⟨sn, rfl, hmem⟩ := lookN_mem hl
    have hnb : sn ≤ 1000000000 := by
      have h1 := (HP.out.pm.ns _ hmem).2
      have h2 := HP.out.pm.few.2.2.2.2
      simp only at h1
      omega
    have HMEM := Lib.hid hmem
    have STR := Lib.hid (HP.out.pm.str hl)
    obtain ⟨ra, rc, hrow, r1, r2, r3⟩ := STR.out.2.2.2.2.2.1
    have HROW := Lib.hid hrow
    have LE := Lib.hid (fun W (hW : Below w.heap.size w W) => lengthP_any (rowOf o) l W (STR.out.2.2.2.2.2.1.below hW) STR.out.2.2.2.2.2.2)
    rw [hrow] at LE
    have hn0 : ((sn : Int)).toNat = sn := by omega
    have hl500 := STR.out.2.2.2.1
    have hlp := STR.out.2.2.2.2.1
    obtain ⟨N, hN⟩ : ∃ N, lenP l = N := ⟨_, rfl⟩
    have HNL := Lib.hid hN
    rw [hN] at LE hlp
    clear hl hrow hmem r3 hN
    by_cases g1 : 0 ≤ A' ∧ A' ≤ (N : Int)
    · by_cases g2 : (n : Int) ≤ (N : Int) - A'
      · obtain ⟨A, rfl⟩ := Int.eq_ofNat_of_zero_le g1.1
        have hAn : A + n ≤ N := by omega
        have GG := Lib.hid (And.intro g1 g2)
        have g2' : ¬ ((n : Int) > (N : Int) - (A : Int)) := by omega
        clear g2
        obtain ⟨WL, hWL⟩ : ∃ WL, writtenP l (A : Int) ((A : Int) + (n : Int)) = WL := ⟨_, rfl⟩
        have HWL := Lib.hid hWL
        have hwlen : WL.length = l.length := by rw [← hWL, writtenP_len]
        have HWLEN := Lib.hid hwlen
        have WR1 := Lib.hid (fun W (hW : Below w.heap.size w W) => written_any (rowOf o) l (A : Int) ((A : Int) + (n : Int)) W (STR.out.2.2.2.2.2.1.below hW) STR.out.2.2.2.2.2.2 (by omega) (by omega))
        rw [HROW.out] at WR1
        have WI := Lib.hid (within_share_yes (A : Int) 0 (N : Int))
        have hmm := @run_makeMap Try.prog
        clear hWL hwlen
        go_enter Try.func21, Try.ntmps21
        go_wp2_with fail
        refine FI.out.mono ?_
        rintro e w2 ⟨hw2, he⟩
        obtain rfl := hw2.symm
        rw [HL.out] at he
        simp only [HROW.out] at he
        subst he
        go_wp2_with fail
        refine (LE.out _ (Below.refl _ _)).mono ?_
        rintro e w3 ⟨rfl, hb3⟩
        have B3 := Lib.hid hb3
        clear hb3
        go_wp2_with fail
        refine (WI.out _ GG.out.1.1 GG.out.1.2).mono ?_
        rintro e w' ⟨rfl, rfl⟩
        go_wp2_with fail
        refine (LE.out _ B3.out).mono ?_
        rintro e w4 ⟨rfl, hb4⟩
        have B4 := Lib.hid (B3.out.trans (hb4.mono B3.out.size))
        clear hb4 g1 WI
        go_wp2_with fail
        have K1 := OwnM.new w4 sn
        have B5 := Lib.hid (B4.out.alloc B4.out.size (.map #[] 0))
        have S5 : (w4.alloc (.map #[] 0)).heap.size = w4.heap.size + 1 := by simp
        generalize hmo : w4.heap.size = mo at *
        obtain ⟨w5, hw5⟩ : ∃ w5, w4.alloc (.map #[] 0) = w5 := ⟨_, rfl⟩
        rw [hw5] at K1 B5 S5 ⊢
        have HK1 := Lib.hid K1
        have HS5 := Lib.hid S5
        have HMO := Lib.hid hmo
        clear K1 S5 hw5 hmo hmm
        refine (WR1.out _ B5.out).mono ?_
        rintro e w6 ⟨v6, rfl, hr6, hb6⟩
        rw [HWL.out] at hr6
        have B6 := Lib.hid (B5.out.trans (hb6.mono B5.out.size))
        have R6 := Lib.hid hr6
        have K6 := Lib.hid (HK1.out.same (hb6.block _ HK1.out.lt))
        obtain ⟨aw, cw, rfl⟩ := wrow_sh hr6
        clear hr6 hb6 HK1
        go_wp2_with fail
        have HW6 : Hid (mo < w5.heap.size) := Lib.hid (by have := HS5.out; omega)
        go_loopw [54] (fun i wx => ∃ k : Nat, k ≤ l.length ∧ i = .int .i64 (k : Int) ∧ OwnM wx mo sn (ownS P sn WL k) ∧ wx.ownsRow w5.heap.size 75 3 (.slice aw l.length cw) l.length (wrCells WL) ∧ Below w.heap.size w wx) (fun i _ => l.length - (intOf i).toNat)
        case atStart => exact ⟨0, Nat.zero_le _, rfl, K6.out, R6.out, B6.out⟩
        case round =>
          obtain ⟨k, hk, rfl, hKm, hRw, hBw⟩ := hrel
          have KM := Lib.hid hKm
          have RW := Lib.hid hRw
          have BW := Lib.hid hBw
          clear hKm hRw hBw
          by_cases hlt : k < l.length
          · --[[
            obtain ⟨x, hx1⟩ : ∃ x, WL[k]? = some x := ⟨_, List.getElem?_eq_getElem (by rw [HWLEN.out]; exact hlt)⟩
            have OST := Lib.hid (ownS_step P sn WL hx1)
            obtain ⟨z, hz, zb, zo, zf, zt⟩ := wr_part STR.out.2.2.2.2.2.2 (by rw [HWL.out]; exact hx1)
            have zok := STR.out.2.2.2.2.2.2.2 z (List.mem_of_getElem? hz)
            obtain ⟨xb, xf, xt⟩ := x
            simp only at zb zf zt
            have hzn : z.n = z.t - z.f := rfl
            have hlk := lenP_part hz
            rw [HNL.out] at hlk
            have hb1 : 0 ≤ xf ∧ xf ≤ 2000000000 := by omega
            have hb2 : -1000000000 ≤ xt ∧ xt ≤ 1000000000 := by omega
            have hb3 : xb ≤ 1000000000 := by omega
            clear zb zf zt zo zok hz hzn hlk
            obtain ⟨fN, rfl⟩ := Int.eq_ofNat_of_zero_le hb1.1
            rw [← HWLEN.out] at RW
            obtain ⟨a', c', hv, _, _, hcell⟩ := WrIn.row RW.out
            rw [HWLEN.out] at RW hv
            simp only [Value.slice.injEq, true_and] at hv
            obtain ⟨rfl, rfl⟩ := hv
            obtain ⟨gb, go, rfl, d0, d1, d2⟩ := hcell k _ hx1
            simp only at d0 d1 d2
            have BA1 := BW.out.alloc BW.out.size (.cells #[.int .i64 (xb : Int), .int .i64 (fN : Int), .int .i64 xt] 75)
            have BA := Lib.hid (BA1.alloc BA1.size (.cells #[.int .i64 (sn : Int), .int .i64 (k : Int)] 88))
            have BR := Lib.hid (((Below.refl _ wr).alloc (Nat.le_refl _) (.cells #[.int .i64 (xb : Int), .int .i64 (fN : Int), .int .i64 xt] 75)).alloc (by simp) (.cells #[.int .i64 (sn : Int), .int .i64 (k : Int)] 88))
            have X1 := (heap_alloc_old (wr.alloc (.cells #[.int .i64 (xb : Int), .int .i64 (fN : Int), .int .i64 xt] 75)) (.cells #[.int .i64 (sn : Int), .int .i64 (k : Int)] 88) (r := wr.heap.size) (by simp)).trans (heap_alloc_new wr _)
            have O1 := heap_alloc_new (wr.alloc (.cells #[.int .i64 (xb : Int), .int .i64 (fN : Int), .int .i64 xt] 75)) (.cells #[.int .i64 (sn : Int), .int .i64 (k : Int)] 88)
            simp only [World.size_alloc] at O1
            have HX1 := Lib.hid X1
            have HO1 := Lib.hid O1
            clear X1 O1 BA1 hx1
            go_upto_region 11 with fail
            clear d0 d1 d2
            generalize hW2 : (wr.alloc (.cells #[.int .i64 (xb : Int), .int .i64 (fN : Int), .int .i64 xt] 75)).alloc (.cells #[.int .i64 (sn : Int), .int .i64 (k : Int)] 88) = W2 at *
            generalize hbx : wr.heap.size = bx at *
            have X0 : W2.cell? ⟨bx, 0, none⟩ = some (.int .i64 (xb : Int)) := by rw [cell_of HX1.out]; rfl
            have X1 : W2.cell? ⟨bx, 1, none⟩ = some (.int .i64 (fN : Int)) := by rw [cell_of HX1.out]; rfl
            have X2 : W2.cell? ⟨bx, 2, none⟩ = some (.int .i64 xt) := by rw [cell_of HX1.out]; rfl
            have KW := Lib.hid (KM.out.same (BR.out.block _ (by have := KM.out.lt; omega)))
            have HBX := Lib.hid hbx
            have RW2 := Lib.hid (ownsRow_same RW.out (w' := W2) (fun j hj => BR.out.block j (by have := (RW.out.lt j hj).2; omega)))
            clear hbx hW2
            by_cases hft : (fN : Int) < xt
            · obtain ⟨tN, rfl⟩ := Int.eq_ofNat_of_zero_le (show 0 ≤ xt by omega)
              have O0 : W2.cell? ⟨bx + 1, 0, none⟩ = some (.int .i64 (sn : Int)) := by rw [cell_of HO1.out]; rfl
              have O1 : W2.cell? ⟨bx + 1, 1, none⟩ = some (.int .i64 (k : Int)) := by rw [cell_of HO1.out]; rfl
              have ST := Lib.hid (fun W (hW : Below W2.heap.size W2 W) => stands_any (HP.out.pm.below (BA.out.trans (hW.mono BA.out.size))) ⟨xb, fN, tN⟩ (sn : Int) (k : Int) (.map (some mo)) (fun s' j => decide (s' = sn ∧ j ∈ ownS P sn WL k)) (fun W' hW' s' i hs hi => ((KW.out.same (hW.block _ KW.out.lt)).same (hW'.block _ (Nat.lt_of_lt_of_le KW.out.lt hW.size))).look s' i hs hi))
              simp only at ST
              go_wp2_with fail
              refine (ST.out _ (Below.refl _ _)).mono ?_
              rintro e w7 ⟨hb7, d, rfl, hd⟩
              have B7 := Lib.hid (BA.out.trans (hb7.mono BA.out.size))
              have K7 := Lib.hid (KW.out.same (hb7.block _ KW.out.lt))
              have R7 := Lib.hid (row_kept RW2.out hb7)
              have O0 := old_cell hb7 O0
              have O1 := old_cell hb7 O1
              clear hb7 ST X0 X1 X2
              cases d with
              | true =>
                have OS : Hid (ownS P sn WL (k + 1) = ownS P sn WL k ++ [k]) := Lib.hid (by
                  rcases OST.out with ⟨h1, _⟩ | ⟨_, h1⟩
                  · exact h1
                  · exact (h1 ⟨hft, hd.1 rfl⟩).elim)
                have hlen := ownS_len P sn WL k
                obtain ⟨w8, hrun, hK8, hg8⟩ := K7.out.put hnb k (by omega) (fun e => by have := ownS_lt P sn WL k k e; omega) (by omega)
                have FIN : Hid (OwnM w8 mo sn (ownS P sn WL (k + 1)) ∧ w8.ownsRow w5.heap.size 75 3 (.slice (some ⟨gb, go, none⟩) l.length cw) l.length (wrCells WL) ∧ Below w.heap.size w w8) := Lib.hid (by
                  refine ⟨by rw [OS.out]; exact hK8, ownsRow_same R7.out (fun j hj => hg8.block j (R7.out.lt j hj).2 (fun e => ?_)), B7.out.grown hg8 B7.out.size (fun j e => ?_)⟩
                  · have h1 := (R7.out.lt j hj).1
                    have h2 := HW6.out
                    have h3 := Option.some.inj e
                    omega
                  · have h1 := B4.out.size
                    have h2 := HMO.out
                    have h3 := Option.some.inj e
                    omega)
                clear hd hK8 hg8 hlen
                go_wp2_with (at_mapUpdate; go_must (refine wpList_update_runP rfl _ _ _ _ rfl (by rfl) (by rfl) (by rfl) hrun ?_))
                clear hrun O0 O1
                go_wp2_with fail
                go_roundw
                case measure => simp only [intOf]; omega
                case rel => exact ⟨k + 1, by omega, by go_num, FIN.out.1, FIN.out.2.1, FIN.out.2.2⟩
              | false =>
                have OS : Hid (ownS P sn WL (k + 1) = ownS P sn WL k) := Lib.hid (by
                  rcases OST.out with ⟨_, _, h1⟩ | ⟨h1, _⟩
                  · have := hd.2 h1
                    cases this
                  · exact h1)
                clear hd
                go_wp2_with fail
                go_roundw
                case measure => simp only [intOf]; omega
                case rel => exact ⟨k + 1, by omega, by go_num, by rw [OS.out]; exact K7.out, R7.out, B7.out⟩
            · have OS : Hid (ownS P sn WL (k + 1) = ownS P sn WL k) := Lib.hid (by
                rcases OST.out with ⟨_, h1, _⟩ | ⟨h1, _⟩
                · exact (hft h1).elim
                · exact h1)
              go_wp2_with fail
              go_roundw
              case measure => simp only [intOf]; omega
              case rel => exact ⟨k + 1, by omega, by go_num, by rw [OS.out]; exact KW.out, RW2.out, BA.out⟩
            --]]
          · obtain rfl : k = l.length := by omega
            obtain ⟨w8, rfl⟩ : ∃ x, x = wr := ⟨_, rfl⟩
            have hSl := ownS_len P sn WL l.length
            obtain ⟨S, hS⟩ : ∃ S, ownS P sn WL l.length = S := ⟨_, rfl⟩
            have HS := Lib.hid hS
            rw [hS] at KM hSl
            obtain ⟨DO, hown, hsz⟩ := KM.out.len
            have LN := hown.len Try.underlying86 3
            rw [hsz] at LN
            have TK := Lib.hid (takeP_any (HP.out.same BW.out) S.length (by omega))
            have HMO8 : Hid (w.heap.size ≤ mo ∧ mo < w8.heap.size) := Lib.hid ⟨by have := B4.out.size; have := HMO.out; omega, KM.out.lt⟩
            clear hS hown hsz K6 R6 B6 RW
            go_wp2_with fail
            refine TK.out.mono ?_
            rintro e w9 ⟨rfl, G', b', hp9, hG9, ht9⟩
            have NX9 : Hid (Nxt Z (fun k => F k ∨ G' k) w w9) := Lib.hid (by
              refine ⟨fun k hk => ?_, (Touch.of_below BW.out).then (ht9.mono (fun k hk => (HZ.out k).1 (Or.inr hk)))⟩
              rcases hk with hk | hk
              · exact Or.inl ((HZ.out k).1 (Or.inl hk))
              · rcases hG9 k hk with hk | hk
                · exact Or.inl ((HZ.out k).1 (Or.inr hk))
                · have := BW.out.size
                  right; omega)
            by_cases ht0 : tkE P P.bl.length S.length = 0
            · rw [if_pos ht0] at hp9
              have htk := tkE_le ht0
              have HT0 := Lib.hid ht0
              rw [ht0]
              have HP9 := Lib.hid hp9
              have K9 := Lib.hid (KM.out.same (ht9.block mo HMO8.out.2 (fun hg => by have := HP.out.gl mo hg; have := HMO8.out.1; omega)))
              have GM := Lib.hid (show ¬ G' mo from fun hg => by
                rcases hG9 mo hg with h1 | h1
                · have := HP.out.gl mo h1; have := HMO8.out.1; omega
                · have := HMO8.out.2; omega)
              have RD9 := HR.out w9 NX9.out.2
              have ST9 := hp9.pm.str HL.out
              have SG9 := Seg.of_row ST9.1 (ptCells_one l)
              rw [HROW.out] at SG9
              have CB := Lib.hid (clone_byte _ os w9 RD9 (by rw [HN.out]; omega))
              have CPA := Lib.hid (fun W (hW : Below w9.heap.size w9 W) => clone_part _ _ _ W (SG9.below hW) (by omega))
              clear hp9 hG9 ht9 ht0 TK RD9 ST9 SG9
              go_wp2_with fail
              refine CB.out.mono ?_
              rintro e w10 ⟨v10, rfl, hr10, hb10⟩
              have B10 := Lib.hid hb10
              have R10 := Lib.hid hr10
              rw [HN.out] at R10
              obtain ⟨a10, c10, rfl⟩ := wrow_sh R10.out
              have hcap10 : n ≤ c10 ∧ c10 ≤ 9223372036854775807 := by
                obtain ⟨_, _, a', c', he', h1, h2, _⟩ := Seg.of_row R10.out (fun u hu => by obtain ⟨z, _, rfl⟩ := List.mem_map.1 hu; rfl)
                simp only [Value.slice.injEq] at he'
                omega
              clear hr10 hb10 CB
              go_wp2_with fail
              refine (CPA.out _ B10.out).mono ?_
              rintro e w11 ⟨v11, rfl, hr11, hb11⟩
              have B11 := Lib.hid (B10.out.trans (hb11.mono B10.out.size))
              have R11 := Lib.hid hr11
              have R10' := Lib.hid (row_kept R10.out hb11)
              have WR2 := Lib.hid (written_any v11 l (A : Int) ((A : Int) + (n : Int)) w11 (PtIn.row hr11) STR.out.2.2.2.2.2.2 (by omega) (by omega))
              have S1011 := Lib.hid (show w10.heap.size ≤ w11.heap.size from hb11.size)
              obtain ⟨a11, c11, rfl⟩ := wrow_sh hr11
              clear hr11 hb11 CPA
              go_wp2_with fail
              refine WR2.out.mono ?_
              rintro e w12 ⟨v12, rfl, hr12, hb12⟩
              rw [HWL.out] at hr12
              have B12 := Lib.hid (B11.out.trans (hb12.mono B11.out.size))
              have R12 := Lib.hid hr12
              have R11' := Lib.hid (row_kept R11.out hb12)
              have R10'' := Lib.hid (row_kept R10'.out hb12)
              have S1112 := Lib.hid (show w11.heap.size ≤ w12.heap.size from hb12.size)
              obtain ⟨a12, c12, rfl⟩ := wrow_sh hr12
              have PB12 := Lib.hid (HP9.out.same B12.out)
              have K12 := Lib.hid (K9.out.same (B12.out.block _ K9.out.lt))
              clear hr12 hb12 WR2 WR1
              go_wp2_with fail
              have SEP : Hid (∀ j, ((Value.slice a10 n c10).ownBlock = some j ∨ (Value.slice a11 l.length c11).ownBlock = some j ∨ (Value.slice a12 l.length c12).ownBlock = some j ∨ j = mo) → j < w12.heap.size ∧ ¬ F j ∧ ¬ G' j) := Lib.hid (by
                have s1 := B10.out.size
                have s2 := S1011.out
                have s3 := S1112.out
                have hf := HP9.out.fl
                have hg := HP9.out.gl
                rintro j (hj | hj | hj | rfl)
                · have h1 := R10''.out.lt j hj
                  exact ⟨h1.2, fun e => by have := hf j e; omega, fun e => by have := hg j e; omega⟩
                · have h1 := R11'.out.lt j hj
                  exact ⟨h1.2, fun e => by have := hf j e; omega, fun e => by have := hg j e; omega⟩
                · have h1 := R12.out.lt j hj
                  exact ⟨h1.2, fun e => by have := hf j e; omega, fun e => by have := hg j e; omega⟩
                · exact ⟨K12.out.lt, fun e => by have := HP.out.fl j e; have := HMO8.out.1; omega, GM.out⟩)
              have DIST : Hid (∀ j, (Value.slice a11 l.length c11).ownBlock = some j → (Value.slice a10 n c10).ownBlock ≠ some j ∧ (Value.slice a12 l.length c12).ownBlock ≠ some j ∧ j ≠ mo) := Lib.hid (by
                intro j hj
                have s1 := B10.out.size
                have s2 := S1011.out
                have h1 := R11'.out.lt j hj
                have h0 := R11.out.lt j hj
                refine ⟨fun e => ?_, fun e => ?_, fun e => ?_⟩
                · have h2 := R10.out.lt j e
                  omega
                · have h2 := R12.out.lt j e
                  omega
                · have := K9.out.lt
                  omega)
              have START : Hid (SetI P sn l S (splice (octP P.oct l) A os) 0 P l ∧ SetM w12 h bp mb ms sn l.length S D2 F G' b' (P.bl.length + S.length) mo WL (.slice a10 n c10) (.slice a11 l.length c11) (.slice a12 l.length c12) w10.heap.size w11.heap.size P l D1 F w12) := Lib.hid
                ⟨SetI.start (fun p hp => (HP.out.pm.nb p hp).2) STR.out.2.2.1, PB12.out, fun j hj => Or.inl hj, fun j hj => hj, R11'.out, R12.out, fun _ _ => rfl, K12.out, Touch.refl _ _, SEP.out, DIST.out⟩
              have START2 : Hid (SetPut w12 (.slice a10 n c10) os n (A : Int) 0 a10 n c10) := Lib.hid ⟨hcap10.1, hcap10.2, Nat.le_refl _, by omega, fun W hW => by
                rw [Nat.sub_self, List.drop_zero]
                have h1 : W.ownsRow w9.heap.size 5 1 (.slice a10 n c10) n (os.map (Value.int .u8)) := ownsRow_same R10''.out hW
                exact Reads.own (by rw [HN.out]; exact h1) (by rw [HN.out]; omega)⟩
              go_loopw [16, 96] (fun s16 i wx => ∃ (k : Nat) (Q : PoolSt) (m : List Pt) (D1' : DataW Unit) (F' : Nat → Prop) (a' : Option Addr) (p' c' : Nat), k ≤ l.length ∧ i = .int .i64 (k : Int) ∧ s16 = .slice a' p' c' ∧ SetI P sn l S (splice (octP P.oct l) A os) k Q m ∧ SetM w12 h bp mb ms sn l.length S D2 F G' b' (P.bl.length + S.length) mo WL (.slice a10 n c10) (.slice a11 l.length c11) (.slice a12 l.length c12) w10.heap.size w11.heap.size Q m D1' F' wx ∧ SetPut w12 (.slice a10 n c10) os n (A : Int) (lenP (l.take k) : Nat) a' p' c') (fun _ i _ => l.length - (intOf i).toNat)
              case atStart => exact ⟨0, P, l, D1, F, a10, n, c10, Nat.zero_le _, rfl, rfl, START.out.1, START.out.2, START2.out⟩
              case round =>
                obtain ⟨k, Q, m, D1', F', a', p', c', hk, rfl, rfl, hsi, hsm, hsp⟩ := hrel
                have SI := Lib.hid hsi
                have SM := Lib.hid hsm
                have SPU := Lib.hid hsp
                obtain ⟨pc1, pc2, pn, peq, _⟩ := hsp
                clear hsi hsm
                by_cases hlt : k < l.length
                · obtain ⟨x, hx1⟩ : ∃ x, WL[k]? = some x := ⟨_, List.getElem?_eq_getElem (by rw [HWLEN.out]; exact hlt)⟩
                  have OST := Lib.hid (ownS_step P sn WL hx1)
                  obtain ⟨z, hz, zb, zo, zf, zt⟩ := wr_part STR.out.2.2.2.2.2.2 (by rw [HWL.out]; exact hx1)
                  have zok := STR.out.2.2.2.2.2.2.2 z (List.mem_of_getElem? hz)
                  have hlk := lenP_part hz
                  have hlt1 := lenP_take hz
                  rw [HNL.out] at hlk
                  obtain ⟨xb, xf, xt⟩ := x
                  simp only at zb zf zt
                  subst zb
                  have hzn : z.n = z.t - z.f := rfl
                  have hb1 : 0 ≤ xf ∧ xf ≤ 2000000000 := by omega
                  have hb2 : -1000000000 ≤ xt ∧ xt ≤ 1000000000 := by omega
                  have hb3 : z.b ≤ 1000000000 := by omega
                  obtain ⟨fN, rfl⟩ := Int.eq_ofNat_of_zero_le hb1.1
                  have KS : Hid (k ∈ S ↔ ((fN : Int) < xt ∧ HitS P (ptW ⟨z.b, (fN : Int), xt⟩) (sn : Int) (k : Int) (fun s' j => decide (s' = sn ∧ j ∈ ownS P sn WL k)))) := Lib.hid (by
                    rw [← HS.out, ownS_later P sn WL l.length (k + 1) k (by omega) (by omega)]
                    rcases OST.out with ⟨h1, h2⟩ | ⟨h1, h2⟩
                    · rw [h1]
                      exact ⟨fun _ => h2, fun _ => by simp⟩
                    · rw [h1]
                      exact ⟨fun e => by have := ownS_lt P sn WL k k e; omega, fun e => (h2 e).elim⟩)
                  have hrw := SM.out.rw
                  rw [← HWLEN.out] at hrw
                  obtain ⟨a3, c3, hv, _, _, hcell⟩ := WrIn.row hrw
                  rw [HWLEN.out] at hv
                  simp only [Value.slice.injEq, true_and] at hv
                  obtain ⟨rfl, rfl⟩ := hv
                  obtain ⟨gb, go, rfl, d0, d1, d2⟩ := hcell k _ hx1
                  simp only at d0 d1 d2
                  have BR := Lib.hid ((Below.refl _ wr).alloc (Nat.le_refl _) (.cells #[.int .i64 (z.b : Int), .int .i64 (fN : Int), .int .i64 xt] 75))
                  have HX1 := Lib.hid (heap_alloc_new wr (.cells #[.int .i64 (z.b : Int), .int .i64 (fN : Int), .int .i64 xt] 75))
                  have ZW := Lib.hid (And.intro hz (And.intro zo (And.intro zf (And.intro zt (And.intro hlk (And.intro hlt1 zok))))))
                  clear hrw hcell hz zo zf zt hlk hlt1 zok hx1
                  go_upto_region 22 with fail
                  clear d0 d1 d2
                  generalize hW2 : wr.alloc (.cells #[.int .i64 (z.b : Int), .int .i64 (fN : Int), .int .i64 xt] 75) = W2 at *
                  have SM2 := Lib.hid (SM.out.below BR.out)
                  have HBX : Hid (w12.heap.size ≤ wr.heap.size ∧ ¬ F' wr.heap.size ∧ ¬ G' wr.heap.size ∧ wr.heap.size < W2.heap.size) := Lib.hid ⟨SM.out.tch.size, fun e => by have := SM.out.pb.fl _ e; omega, fun e => by have := SM.out.pb.gl _ e; omega, lt_of HX1.out⟩
                  generalize hbx : wr.heap.size = bx at *
                  have X0 : W2.cell? ⟨bx, 0, none⟩ = some (.int .i64 (z.b : Int)) := by rw [cell_of HX1.out]; rfl
                  have X1 : W2.cell? ⟨bx, 1, none⟩ = some (.int .i64 (fN : Int)) := by rw [cell_of HX1.out]; rfl
                  have X2 : W2.cell? ⟨bx, 2, none⟩ = some (.int .i64 xt) := by rw [cell_of HX1.out]; rfl
                  clear hbx hW2 SM BR
                  by_cases hft : (fN : Int) < xt
                  · obtain ⟨tN, rfl⟩ := Int.eq_ofNat_of_zero_le (show 0 ≤ xt by omega)
                    obtain ⟨dl, hdl⟩ : ∃ dl, tN - fN = dl := ⟨_, rfl⟩
                    obtain ⟨cc, hcc⟩ : ∃ cc, n - p' = cc := ⟨_, rfl⟩
                    obtain ⟨xs, hxs⟩ : ∃ xs, (os.drop cc).take dl = xs := ⟨_, rfl⟩
                    have NUM : Hid (dl ≤ p' ∧ 0 < dl ∧ tN = fN + dl ∧ z.f ≤ fN ∧ tN ≤ z.t ∧ cc = lenP (l.take k) + (fN - z.f) - A ∧ cc + dl ≤ n ∧ ((fN - z.f : Nat) : Int) = max ((A : Int) - (lenP (l.take k) : Nat)) 0 ∧ ((tN - z.f : Nat) : Int) = min ((A : Int) + (n : Int) - (lenP (l.take k) : Nat)) ((z.n : Nat) : Int)) := Lib.hid (by
                      obtain ⟨hz, zo, zf, zt, hlk, hlt1, zok⟩ := ZW.out
                      omega)
                    have XSL : Hid (xs.length = dl ∧ bytes xs) := Lib.hid ⟨by rw [← hxs, List.length_take, List.length_drop, HN.out]; have := NUM.out; omega, fun u hu => by rw [← hxs] at hu; exact HBZ.out u (List.mem_of_mem_drop (List.mem_of_mem_take hu))⟩
                    have TGT : Hid (splice (octPt P.oct z) (fN - z.f) xs = tgt (splice (octP P.oct l) A os) l k z) := Lib.hid (by
                      obtain ⟨u1, u2, u3, u4, u5, u6, u7, u8, u9⟩ := NUM.out
                      have h1 := tgt_write (STR.out.2.2.1.okM HP.out.pm) (os := os) (at' := A) (by rw [HN.out, HNL.out]; exact hAn) ZW.out.1 (f := fN - z.f) (t := tN - z.f) u8 (by rw [HN.out]; exact u9) (by omega)
                      rw [h1, ← u6, show tN - z.f - (fN - z.f) = dl by omega, hxs])
                    have XS := Lib.hid (And.intro hcc hxs)
                    obtain ⟨d, hd⟩ : ∃ d, decide (sn = sn ∧ k ∈ S) = d := ⟨_, rfl⟩
                    have LK0 : ∀ W, OwnM W mo sn S → (Instr.lookup 86 (.map (some mo)) (.agg #[.int .i64 (sn : Int), .int .i64 (k : Int)]) false).run Try.prog W = .ok (.bool d) W := fun W hW => by rw [← hd]; exact hW.look sn k hnb (by omega)
                    have LKU := fun q => LK0 (W2.drewN q) (SM2.out.km.same rfl)
                    have LKU0 := LK0 W2 SM2.out.km
                    have HD := Lib.hid hd
                    clear hdl hcc hxs hd LK0
                    go_upto_if 110 with fail
                    go_cut [19] (fun s19 wx => ∃ (Q' : PoolSt) (m' : List Pt) (D1'' : DataW Unit) (F'' : Nat → Prop) (bq fq : Nat) (y : Bk), SetM w12 h bp mb ms sn l.length S D2 F G' b' (P.bl.length + S.length) mo WL (.slice a10 n c10) (.slice a11 l.length c11) (.slice (some ⟨gb, go, none⟩) l.length c12) w10.heap.size w11.heap.size Q' m' D1'' F'' wx ∧
                      wx.cell? ⟨bx, 0, none⟩ = some (.int .i64 (bq : Int)) ∧ wx.cell? ⟨bx, 1, none⟩ = some (.int .i64 (fq : Int)) ∧ wx.cell? ⟨bx, 2, none⟩ = some (.int .i64 ((fq + dl : Nat) : Int)) ∧ lookN Q'.bl (bq : Int) = some y ∧ fq + dl ≤ y.used ∧ SetI P sn l S (splice (octP P.oct l) A os) (k + 1) (Q'.setB bq ⟨y.a, y.g, splice y.cs fq xs, y.used, y.pin⟩) m')
                    case first =>
                      cases d with
                      | false =>
                        --[[
                        have hkS : k ∉ S := fun e => by
                          have := HD.out
                          rw [decide_eq_true ⟨rfl, e⟩] at this
                          cases this
                        obtain ⟨y, hy, hy1, hy2⟩ := SI.out.pts z (List.mem_of_getElem? ((SI.out.later k (Nat.le_refl _)).trans ZW.out.1))
                        have FIN : Hid (lookN Q.bl (z.b : Int) = some y ∧ fN + dl ≤ y.used ∧ SetI P sn l S (splice (octP P.oct l) A os) (k + 1) (Q.setB z.b ⟨y.a, y.g, splice y.cs fN xs, y.used, y.pin⟩) m ∧ tN = fN + dl) := Lib.hid (by
                          obtain ⟨u1, u2, u3, u4, u5, u6, u7, u8, u9⟩ := NUM.out
                          refine ⟨hy, by omega, ?_, u3⟩
                          obtain ⟨y0, hy0, hz1, _⟩ := STR.out.2.2.1 z (List.mem_of_getElem? ZW.out.1)
                          have hb0 := HP.out.pm.blkOf hy0
                          have hbk := SM2.out.pb.pm.blkOf hy
                          have hzn : z.n = z.t - z.f := rfl
                          have hDI := SI.out.direct HP.out.pm.ks HMEM.out ZW.out.1 hkS hy ⟨hz1, by rw [hbk.2.2.1]; omega⟩ (f := fN - z.f) (xs := xs) (by rw [XSL.out.1]; omega) (by omega) (fun hhit => hkS (KS.out.2 ⟨hft, ?_⟩)) TGT.out
                          · rw [show z.f + (fN - z.f) = fN by omega] at hDI
                            exact hDI
                          · have e1 : z.f + (fN - z.f) = fN := by omega
                            have e2 : ptW ⟨z.b, (fN : Int), (tN : Int)⟩ = ⟨z.b, fN, tN⟩ := by simp [ptW]
                            rw [e1, XSL.out.1, ← u3] at hhit
                            rw [e2]
                            have e3 : (fun s' j => decide (s' = sn ∧ j ∈ S ∧ j < k)) = (fun s' j => decide (s' = sn ∧ j ∈ ownS P sn WL k)) := by
                              funext s' j
                              have : (j ∈ S ∧ j < k) ↔ j ∈ ownS P sn WL k := by
                                constructor
                                · rintro ⟨h1, h2⟩
                                  rw [← HS.out] at h1
                                  exact (ownS_later P sn WL l.length k j hk h2).1 h1
                                · intro h1
                                  have h2 := ownS_lt P sn WL k j h1
                                  refine ⟨?_, h2⟩
                                  rw [← HS.out]
                                  exact (ownS_later P sn WL l.length k j hk h2).2 h1
                              simp only [this]
                            rw [e3] at hhit
                            exact hhit)
                        clear hy hy1 hy2 LKU LKU0
                        go_wp2_with fail
                        go_meet
                        exact ⟨Q, m, D1', F', z.b, fN, y, SM2.out, X0, X1, by rw [← FIN.out.2.2.2]; exact X2, FIN.out.1, FIN.out.2.1, FIN.out.2.2.1⟩
                        --]]
                      | true =>
                        have hkS : k ∈ S := by
                          have := of_decide_eq_true HD.out
                          exact this.2
                        have hmz := (SI.out.later k (Nat.le_refl _)).trans ZW.out.1
                        obtain ⟨y, hy, hy1, hy2⟩ := SI.out.pts z (List.mem_of_getElem? hmz)
                        have HMZ := Lib.hid hmz
                        have HKS := Lib.hid hkS
                        have HY := Lib.hid (And.intro hy (And.intro hy1 hy2))
                        obtain ⟨q1, q2, q3⟩ := ptCells_get m k z hmz
                        obtain ⟨g11, rfl, d0, f0⟩ := wrow_cell SM2.out.rl q1
                        obtain ⟨g', hg', d1, f1⟩ := wrow_cell SM2.out.rl q2
                        obtain ⟨g2, hg2, d2, f2⟩ := wrow_cell SM2.out.rl q3
                        simp only [Option.some.injEq, Addr.mk.injEq, and_true] at hg' hg2
                        subst hg'
                        subst hg2
                        have HDD := Lib.hid (And.intro d0 (And.intro d1 d2))
                        have OC := Lib.hid (fun W (hW : Below W2.heap.size W2 W) => octets_any (SM2.out.pb.pm.below hW) z y hy hy1 hy2)
                        obtain ⟨xn, hxn⟩ : ∃ xn, Pt.n z = xn := ⟨_, rfl⟩
                        have HXN := Lib.hid hxn
                        clear hkS hmz hy hy1 hy2 q1 q2 q3 f0 f1 f2 hxn LKU LKU0
                        go_wp2_with fail
                        refine (OC.out _ (Below.refl _ _)).mono ?_
                        rintro e w5 ⟨⟨a5, rfl, ha5⟩, hb5⟩
                        have SM5 := Lib.hid (SM2.out.below hb5)
                        have R5 := oc_reads SM5.out.pb.pm HY.out.1 HY.out.2.1 HY.out.2.2 ha5
                        have HBK := Lib.hid (SM5.out.pb.pm.blkOf HY.out.1)
                        have HLEN : Hid ((octPt Q.oct z).length = xn ∧ xn ≤ Q.size) := Lib.hid (by
                          have h1 := octPt_len (SI.out.pts.okM SM5.out.pb.pm z (List.mem_of_getElem? HMZ.out))
                          rw [h1, HXN.out]
                          have h2 := HBK.out.2.2.2.2.2.2.1
                          have h3 := HY.out.2.2
                          have h4 : Pt.n z = z.t - z.f := rfl
                          rw [HXN.out] at h4
                          exact ⟨rfl, by omega⟩)
                        have QB : Hid (Q.bl.length < 2000 ∧ Q.lastB < 1000000000) := Lib.hid (by
                          have h1 := SI.out.bl
                          have h2 := filter_lt_one (k := k) (by rw [← HS.out]; exact ownS_nodup P sn WL l.length) HKS.out
                          have h3 := List.length_filter_le (fun i => decide (i < k + 1)) S
                          have h4 := SI.out.lb.1
                          have h5 := HBB.out.1
                          omega)
                        rw [HXN.out] at R5
                        have FR := Lib.hid (fresh_any SM5.out.pb.pm a5 xn xn (octPt Q.oct z) R5 HLEN.out.1 HLEN.out.2 (by unfold octPt; rw [oct_of HY.out.1]; exact bytes_part HBK.out.2.2.2.1 _ _) SM5.out.pb.fl QB.out.1 QB.out.2 (by have := QB.out.1; omega))
                        rw [HXN.out]
                        have B5 := Lib.hid hb5
                        clear ha5 hb5 R5 OC
                        go_wp2_with fail
                        refine FR.out.mono ?_
                        rintro e w6 hfr
                        obtain ⟨he, a6, g6, D6, na, ng, hsm6, t6⟩ := SM5.out.grow hfr
                        subst he
                        rw [HLEN.out.1]
                        have SM6 := Lib.hid hsm6
                        obtain ⟨nb, hnb⟩ : ∃ nb, Q.lastB + 1 = nb := ⟨_, rfl⟩
                        rw [hnb]
                        have HNB := Lib.hid hnb
                        have HBX6 : Hid (w6.heap[bx]? = W2.heap[bx]? ∧ ¬ (F' bx ∨ bx = a6 ∨ bx = g6)) := Lib.hid (by
                          have h1 := HBX.out
                          have h2 := B5.out.size
                          refine ⟨(t6.block bx (by omega) (fun e => ?_)).trans (B5.out.block bx h1.2.2.2), ?_⟩
                          · rcases e with rfl | rfl
                            · exact h1.2.1 SM2.out.pb.pm.fh
                            · exact h1.2.1 SM2.out.pb.pm.f1
                          · rintro (e | rfl | rfl)
                            · exact h1.2.1 e
                            · omega
                            · omega)
                        have HAG := Lib.hid (And.intro na ng)
                        obtain ⟨q1, q2, q3⟩ := ptCells_get m k z HMZ.out
                        obtain ⟨gg, hgg, d0, f0⟩ := wrow_cell hsm6.rl q1
                        obtain ⟨gg1, hgg1, d1, f1⟩ := wrow_cell hsm6.rl q2
                        obtain ⟨gg2, hgg2, d2, f2⟩ := wrow_cell hsm6.rl q3
                        simp only [Option.some.injEq, Addr.mk.injEq, and_true] at hgg hgg1 hgg2
                        subst hgg
                        subst hgg1
                        subst hgg2
                        have SM7 : Hid (SetM w12 h bp mb ms sn l.length S D2 F G' b' (P.bl.length + S.length) mo WL (.slice a10 n c10) (.slice (some ⟨g11, 0, none⟩) l.length c11) (.slice (some ⟨gb, go, none⟩) l.length c12) w10.heap.size w11.heap.size (Q.grow (newBk Q.size a6 g6 (octPt Q.oct z))) (m.set k ⟨nb, 0, xn⟩) D6 (fun j => F' j ∨ j = a6 ∨ j = g6) (((w6.setCell ⟨g11, k * 3, none⟩ (.int .i64 (nb : Int))).setCell ⟨g11, k * 3 + 1, none⟩ (.int .i64 0)).setCell ⟨g11, k * 3 + 2, none⟩ (.int .i64 (xn : Int)))) := Lib.hid (hsm6.setRow HMZ.out (⟨nb, 0, xn⟩ : Pt))
                        have HNG : Hid (bx ≠ g11) := Lib.hid (fun e => by
                          have h1 := (SM6.out.sep g11 (Or.inr (Or.inl rfl))).1
                          have h2 := HBX.out.1
                          omega)
                        clear hfr na ng hsm6 t6 hnb q1 q2 q3 FR
                        go_upto_region 26 with fail
                        clear d0 d1 d2 f0 f1 f2
                        generalize hW9 : ((w6.setCell ⟨g11, k * 3, none⟩ (.int .i64 (nb : Int))).setCell ⟨g11, k * 3 + 1, none⟩ (.int .i64 0)).setCell ⟨g11, k * 3 + 2, none⟩ (.int .i64 (xn : Int)) = W9 at *
                        have HB9 : Hid (W9.heap[bx]? = some (.cells #[.int .i64 (z.b : Int), .int .i64 (fN : Int), .int .i64 (tN : Int)] 75 (0, 0))) := Lib.hid (by
                          rw [← hW9]
                          exact ((Below.heap_setCell _ _ _ _ HNG.out).trans ((Below.heap_setCell _ _ _ _ HNG.out).trans (Below.heap_setCell _ _ _ _ HNG.out))).trans (HBX6.out.1.trans HX1.out))
                        clear hW9
                        have hkm : (m.set k (⟨nb, 0, xn⟩ : Pt))[k]? = some ⟨nb, 0, xn⟩ := by
                          rw [List.getElem?_set, if_pos rfl, if_pos (by have := (List.getElem?_eq_some_iff.1 HMZ.out).1; exact this)]
                        obtain ⟨gg, hgg, d0, _⟩ := wrow_cell SM7.out.rl (ptCells_get _ k _ hkm).1
                        simp only [Option.some.injEq, Addr.mk.injEq, and_true] at hgg
                        subst hgg
                        simp only at d0
                        have X0 : W9.cell? ⟨bx, 0, none⟩ = some (.int .i64 (z.b : Int)) := by rw [cell_of HB9.out]; rfl
                        have X1 : W9.cell? ⟨bx, 1, none⟩ = some (.int .i64 (fN : Int)) := by rw [cell_of HB9.out]; rfl
                        have X2 : W9.cell? ⟨bx, 2, none⟩ = some (.int .i64 (tN : Int)) := by rw [cell_of HB9.out]; rfl
                        have V0 := free_of HB9.out 0
                        have V1 := free_of HB9.out 1
                        have V2 := free_of HB9.out 2
                        clear hkm
                        have S0 : BelW W9 W9.drew := (Below.refl _ W9).drew
                        have s0 : ∀ v : WIn (BelW W9), v.w.cell? ⟨g11, k * 3, none⟩ = some (.int .i64 (nb : Int)) := fun v => old_cell v.h d0
                        have s1 : ∀ v : WIn (BelW W9), v.w.cell? ⟨bx, 1, none⟩ = some (.int .i64 (fN : Int)) := fun v => old_cell v.h X1
                        have s2 : ∀ v : WIn (BelW W9), v.w.cell? ⟨bx, 2, none⟩ = some (.int .i64 (tN : Int)) := fun v => old_cell v.h X2
                        haveI ne : Nonempty (WIn (BelW W9)) := ⟨⟨W9.drew, S0⟩⟩
                        have hbf : (fN : Int) ≤ 2000000000 := hb1.2
                        have hbt : (tN : Int) ≤ 1000000000 := hb2.2
                        have hzf : (z.f : Int) ≤ (fN : Int) := by have := NUM.out; omega
                        have X0d : W9.drew.cell? ⟨bx, 0, none⟩ = some (.int .i64 (z.b : Int)) := X0
                        have X1d : W9.drew.cell? ⟨bx, 1, none⟩ = some (.int .i64 (fN : Int)) := X1
                        have X2d : W9.drew.cell? ⟨bx, 2, none⟩ = some (.int .i64 (tN : Int)) := X2
                        have HB9d : W9.drew.heap[bx]? = some (.cells #[.int .i64 (z.b : Int), .int .i64 (fN : Int), .int .i64 (tN : Int)] 75 (0, 0)) := HB9.out
                        have V0d := free_of HB9d 0
                        have V1d := free_of HB9d 1
                        have V2d := free_of HB9d 2
                        have FIN : Hid (∀ u1 u2 : Int, u1 = ((fN - z.f : Nat) : Int) → u2 = ((fN - z.f + dl : Nat) : Int) → ∀ W, ((W9.drew.setCell ⟨bx, 0, none⟩ (.int .i64 (nb : Int))).setCell ⟨bx, 1, none⟩ (.int .i64 u1)).setCell ⟨bx, 2, none⟩ (.int .i64 u2) = W →
                            SetM w12 h bp mb ms sn l.length S D2 F G' b' (P.bl.length + S.length) mo WL (.slice a10 n c10) (.slice (some ⟨g11, 0, none⟩) l.length c11) (.slice (some ⟨gb, go, none⟩) l.length c12) w10.heap.size w11.heap.size (Q.grow (newBk Q.size a6 g6 (octPt Q.oct z))) (m.set k ⟨nb, 0, xn⟩) D6 (fun j => F' j ∨ j = a6 ∨ j = g6) W ∧
                            W.cell? ⟨bx, 0, none⟩ = some (.int .i64 (nb : Int)) ∧ W.cell? ⟨bx, 1, none⟩ = some (.int .i64 ((fN - z.f : Nat) : Int)) ∧ W.cell? ⟨bx, 2, none⟩ = some (.int .i64 ((fN - z.f + dl : Nat) : Int)) ∧ lookN (Q.grow (newBk Q.size a6 g6 (octPt Q.oct z))).bl (nb : Int) = some (newBk Q.size a6 g6 (octPt Q.oct z)) ∧ fN - z.f + dl ≤ (newBk Q.size a6 g6 (octPt Q.oct z)).used ∧
                            SetI P sn l S (splice (octP P.oct l) A os) (k + 1) ((Q.grow (newBk Q.size a6 g6 (octPt Q.oct z))).setB nb ⟨(newBk Q.size a6 g6 (octPt Q.oct z)).a, (newBk Q.size a6 g6 (octPt Q.oct z)).g, splice (newBk Q.size a6 g6 (octPt Q.oct z)).cs (fN - z.f) xs, (newBk Q.size a6 g6 (octPt Q.oct z)).used, (newBk Q.size a6 g6 (octPt Q.oct z)).pin⟩) (m.set k ⟨nb, 0, xn⟩)) := Lib.hid (by
                          rintro u1 u2 rfl rfl W rfl
                          obtain ⟨n1, n2, n3, n4, n5, n6, n7, n8, n9⟩ := NUM.out
                          have hzn : Pt.n z = z.t - z.f := rfl
                          have hxn := HXN.out
                          have hbx := HBX.out
                          have gx : ¬ G' bx := hbx.2.2.1
                          have SMd := SM7.out.below ((Below.refl _ W9).drew)
                          have e3 := block_setCell (block_setCell (block_setCell HB9d 0 (.int .i64 (nb : Int))) 1 (.int .i64 ((fN - z.f : Nat) : Int))) 2 (.int .i64 ((fN - z.f + dl : Nat) : Int))
                          have hAN := SI.out.anew (by rw [← HS.out]; exact ownS_nodup P sn WL l.length) (fun q hq => HP.out.pm.pt q hq) STR.out.2.2.1 ZW.out.1 HKS.out (a := a6) (g := g6) (f := fN - z.f) (xs := xs) (by rw [XSL.out.1]; omega) (by rw [hxn]; exact HLEN.out.1) (by rw [hxn]; exact HLEN.out.2) (fun c y hy => by
                            obtain ⟨j, hj, hm⟩ := lookN_mem hy
                            have := (HP.out.pm.nb _ hm).2
                            simp only at this
                            omega) TGT.out
                          rw [hxn] at hAN
                          rw [← HNB.out]
                          refine ⟨((by rw [HNB.out]; exact ((SMd.poke hbx.1 HBX6.out.2 gx _).poke hbx.1 HBX6.out.2 gx _).poke hbx.1 HBX6.out.2 gx _)), by rw [HNB.out, cell_of e3]; rfl, by rw [HNB.out, cell_of e3]; rfl, by rw [HNB.out, cell_of e3]; rfl, grow_new SI.out.nb, ?_, ?_⟩
                          · show _ ≤ (octPt Q.oct z).length
                            rw [HLEN.out.1]
                            omega
                          · show SetI P sn l S _ (k + 1) ((Q.grow _).setB (Q.lastB + 1) ⟨a6, g6, splice (octPt Q.oct z ++ zeros (Q.size - (octPt Q.oct z).length)) (fN - z.f) xs, (octPt Q.oct z).length, false⟩) _
                            rw [HLEN.out.1]
                            exact hAN)
                        have E12 : Hid ((fN : Int) - (z.f : Int) = ((fN - z.f : Nat) : Int) ∧ (tN : Int) - (z.f : Int) = ((fN - z.f + dl : Nat) : Int)) := Lib.hid (by have := NUM.out; omega)
                        clear X0 X1 X2 V0 V1 V2 d0 HB9d
                        refine wp_normal ?_
                        refine wp_region_plan 14 (BelW W9) rfl ?_
                        refine wpN_seg [0, 1, 2, 3, 4, 5, 6, 7, 8, 9, 10, 11, 12] (by kernel_rfl) (by kernel_rfl) (by kernel_rfl) (by kernel_rfl) (by decide) (fun _ _ _ _ _ h => h) S0 ?_
                        simp only [pick, List.map_cons, List.map_nil, List.getElem?_cons_succ, List.getElem?_cons_zero, Option.getD_some]
                        repeat (go_big_quiet_step (fail))
                        refine wpQuiet_nil ?_
                        clear s0 s1 s2 ne
                        refine wpN_one 13 _ (by kernel_rfl) rfl ?_
                        refine NextAt.held ?_
                        intro K hK
                        go_simp
                        refine hK _ _ S0 ?_
                        clear hK K
                        generalize hWd : W9.drew = Wd at *
                        clear hWd
                        refine wpN_one 14 _ (by kernel_rfl) rfl ?_
                        refine NextAt.free (by kernel_rfl) ?_
                        intro K hK
                        go_simp
                        refine hK _ _ ?_
                        clear hK K
                        refine wpN_done (by kernel_rfl) ?_
                        go_wp2_with fail
                        go_meet
                        exact ⟨_, _, D6, _, nb, fN - z.f, _, FIN.out _ _ E12.out.1 E12.out.2 _ rfl⟩
                    case rest =>
                      --[[
                      obtain ⟨Q2, m2, D12, F2, bq, fq, y, hsm, e0, e1, e2, hly, hyu, hsi⟩ := hcut
                      obtain ⟨W4, rfl⟩ : ∃ x, x = wc := ⟨_, rfl⟩
                      have SM4 := Lib.hid hsm
                      have SI4 := Lib.hid hsi
                      have LY := Lib.hid (And.intro hly hyu)
                      have BK := Lib.hid (hsm.pb.pm.blkOf hly)
                      have OC := Lib.hid (fun W (hW : Below W4.heap.size W4 W) => octets_any (hsm.pb.pm.below hW) ⟨bq, fq, fq + dl⟩ y hly (by simp) hyu)
                      have hxn : Pt.n ⟨bq, fq, fq + dl⟩ = dl := by show fq + dl - fq = dl; omega
                      simp only at OC
                      clear hsm hsi hly hyu X0 X1 X2 LKU LKU0
                      go_wp2_with fail
                      refine (OC.out _ (Below.refl _ _)).mono ?_
                      rintro e w5 ⟨⟨a5, rfl, ha5⟩, hb5⟩
                      rw [hxn]
                      have SM5 := Lib.hid (SM4.out.below hb5)
                      have HA5 := Lib.hid (ha5 (by have := NUM.out; show fq < fq + dl; omega))
                      simp only at HA5
                      have GB := Lib.hid (show w5.heap[y.g]? = some (.cells ((y.cs.map (Value.int .u8)).toArray) 5 (0, 0)) from (hb5.block _ (lt_of BK.out.2.1)).trans BK.out.2.1)
                      have RD := Lib.hid (SPU.out.2.2.2.2 w5 SM5.out.ro)
                      rw [XS.out.1] at RD
                      have hxl : (xs.map (Value.int .u8)).length = dl := by rw [List.length_map, XSL.out.1]
                      obtain ⟨n1, n2, _⟩ := NUM.out
                      clear ha5 hb5 OC hxn e0 e1 e2
                      have HT : Hid ((xs.map (Value.int .u8)).length = Nat.min p' dl) := Lib.hid (by rw [hxl]; exact (Nat.min_eq_right n1).symm)
                      have HPO : Hid (0 < (xs.map (Value.int .u8)).length → a5 = some ⟨y.g, fq, none⟩ ∧ ∃ ad, a' = some ad ∧ ∀ j v, (xs.map (Value.int .u8))[j]? = some v → w5.cell? (ad.add j) = some v) := Lib.hid (fun h0 => ⟨HA5.out, by
                        have h1 := RD.out.take dl (by rw [List.length_drop, HN.out]; have := NUM.out; omega)
                        rw [XS.out.2] at h1
                        exact h1.src XSL.out.1 h0⟩)
                      have HFI : Hid (fq + (xs.map (Value.int .u8)).length ≤ (y.cs.map (Value.int .u8)).length) := Lib.hid (by rw [hxl, List.length_map, BK.out.2.2.1]; have := BK.out.2.2.2.2.2.2.1; have := LY.out.2; omega)
                      have H1 : Hid (∀ v ∈ xs.map (Value.int .u8), v.oneCell' = true) := Lib.hid (by intro u hu; obtain ⟨v, _, rfl⟩ := List.mem_map.1 hu; rfl)
                      go_wp2_with (with_reducible refine wpList_copy_at rfl (.tmp 144) (.tmp 145) 22 22 rfl 5 Try.underlying22 byteSize a5 a' dl dl p' c' rfl rfl y.g fq (y.cs.map (Value.int .u8)) 5 GB.out (xs.map (Value.int .u8)) HT.out HPO.out HFI.out H1.out ?_)
                      intro w6 hg6 ht6
                      rw [← splice_mapF] at hg6
                      have hxs' := XSL.out.1
                      have SM6 := Lib.hid (SM5.out.blk LY.out.1 (off := fq) (xs := xs) (by rw [XSL.out.1, BK.out.2.2.1]; have := BK.out.2.2.2.2.2.2.1; have := LY.out.2; omega) XSL.out.2 hg6 ht6)
                      have FIN : Hid (SetPut w12 (.slice a10 n c10) os n (A : Int) (lenP (l.take (k + 1)) : Nat) (if c' = dl then a' else Option.map (fun x => x.add dl) a') (p' - dl) (c' - dl)) := Lib.hid (by
                        obtain ⟨u1, u2, u3, u4, u5, u6, u7, u8, u9⟩ := NUM.out
                        obtain ⟨hz, zo, zf, zt, hlk, hlt1, zok⟩ := ZW.out
                        have hzn : z.n = z.t - z.f := rfl
                        refine ⟨by omega, by omega, by omega, by rw [hlt1]; omega, fun W hW => ?_⟩
                        have h3 := reads_fromP (SPU.out.2.2.2.2 W hW) u1 pc1 (c' - dl)
                        rw [List.drop_drop, XS.out.1] at h3
                        have hcc := XS.out.1
                        rw [show n - (p' - dl) = cc + dl by omega]
                        exact h3)
                      have hdc : dl ≤ c' := by omega
                      clear hg6 ht6 GB
                      go_wp2_with fail
                      go_roundw
                      case measure => simp only [intOf]; omega
                      case rel => exact ⟨k + 1, _, m2, D12, F2, _, p' - dl, c' - dl, by omega, by go_num, rfl, SI4.out, SM6.out, FIN.out⟩
                      --]]
                  · have FIN : Hid (SetI P sn l S (splice (octP P.oct l) A os) (k + 1) Q m ∧ SetPut w12 (.slice a10 n c10) os n (A : Int) (lenP (l.take (k + 1)) : Nat) a' p' c') := Lib.hid (by
                      obtain ⟨hz, zo, zf, zt, hlk, hlt1, zok⟩ := ZW.out
                      refine ⟨SI.out.skip hz (fun e => hft (KS.out.1 e).1) (tgt_skip (STR.out.2.2.1.okM HP.out.pm) (by rw [HN.out, HNL.out]; exact hAn) hz (by rw [HN.out]; omega)).symm, pc1, pc2, pn, ?_, SPU.out.2.2.2.2⟩
                      rw [hlt1]
                      omega)
                    go_wp2_with fail
                    go_roundw
                    case measure => simp only [intOf]; omega
                    case rel => exact ⟨k + 1, Q, m, D1', F', a', p', c', by omega, by go_num, rfl, FIN.out.1, SM2.out, FIN.out.2⟩
                · obtain rfl : k = l.length := by omega
                  obtain ⟨w13, rfl⟩ : ∃ x, x = wr := ⟨_, rfl⟩
                  have HQL : Hid (lookN Q.st (sn : Int) = some (o, l)) := Lib.hid (by rw [SI.out.st]; exact HL.out)
                  have hrl := SM.out.rl
                  have hrow13 : w13.ownsRow w10.heap.size 75 3 (.slice a11 l.length c11) m.length (ptCells m) := by rw [SI.out.len]; exact hrl
                  have hnm := lenP_num l m SI.out.len SI.out.num
                  have hbl : P.bl.length + S.length = Q.bl.length := by
                    rw [SI.out.bl, List.filter_eq_self.2 (fun i hi => by
                      rw [← HS.out] at hi
                      have := ownS_lt P sn WL l.length i hi
                      simpa using this)]
                  have pb := SM.out.pb
                  rw [hbl] at pb
                  have SO := SM.out.sep
                  obtain ⟨w14, o14, D214, hrun, ho14, p14, T14⟩ := pb.put HQL.out hrow13 (fun j hj hg => (SO j (Or.inr (Or.inl hj))).2.2 hg) SI.out.pts ⟨by rw [SI.out.len]; omega, by rw [hnm, HNL.out]; exact hlp⟩ hnb
                  have ebl : Q.bl.length = (Q.setS sn o14 m).bl.length := rfl
                  rw [ebl] at p14
                  have SW := Lib.hid (sweepP_any p14)
                  have F17 := Lib.hid (show F' mb from SM.out.pb.pm.f1)
                  have NX14 : Hid (Nxt Z (fun j => (F' j ∨ (Value.slice a11 l.length c11).ownBlock = some j) ∨ G' j) w w14) := Lib.hid (by
                    have s1 := B10.out.size
                    have s2 := B12.out.size
                    have T1 : Touch (fun j => F j ∨ G' j) w9 w13 := (Touch.of_below (F := fun j => F j ∨ G' j) B12.out).trans SM.out.tch (fun j hj => by
                      rcases hj with hj | hj
                      · exact Or.inl (Or.inl hj)
                      · have := (R11'.out.lt j hj).1
                        right; omega)
                    refine NX9.out.trans ⟨fun j hj => ?_, T1.trans T14 (fun j hj => ?_)⟩
                    · rcases hj with (hj | hj) | hj
                      · rcases SM.out.fe j hj with h1 | h1
                        · exact Or.inl (Or.inl h1)
                        · right; omega
                      · have := (R11'.out.lt j hj).1
                        right; omega
                      · exact Or.inl (Or.inr hj)
                    · rcases SM.out.fe j hj with h1 | h1
                      · exact Or.inl (Or.inl h1)
                      · right; omega)
                  have c7 := SM.out.pb.pm.cells.2.2.2.2.2.2.2
                  clear hrl hrow13 hnm hbl pb SO p14 T14 ebl ho14
                  go_wp2_with (at_mapUpdate; go_must (refine wpList_update_runP rfl _ _ _ _ rfl (by rfl) (by rfl) (by rfl) hrun ?_))
                  clear hrun c7
                  go_wp2_with fail
                  refine SW.out.mono ?_
                  rintro e w15 ⟨⟨v15, rfl⟩, D115, G15, b15, p15, hG15, t15⟩
                  have FIN : Hid (SetPost h bp P (sn : Int) (A : Int) os Z w (.returned (.int .i64 0)) w15) := Lib.hid (by
                    unfold SetPost
                    rw [HL.out]
                    simp only
                    rw [HN.out, HNL.out, hn0, HWL.out, HS.out, if_pos ⟨GG.out.1.1, GG.out.1.2, GG.out.2⟩, if_neg (fun hne => hne HT0.out)]
                    refine ⟨trivial, Q, m, o14, _, SI.out, SP.of p15, NX14.out.trans ⟨fun j hj => ?_, t15.mono (fun j hj => ?_)⟩⟩
                    · rcases hj with hj | hj
                      · exact Or.inl (Or.inl hj)
                      · rcases hG15 j hj with hj | hj
                        · exact Or.inl (Or.inr hj)
                        · exact Or.inr hj
                    · rcases hj with hj | rfl
                      · exact Or.inr hj
                      · exact Or.inl (Or.inl F17.out))
                  clear p15 hG15 t15 SW
                  go_wp2_with fail
                  go_ret
                  exact FIN.out
            · rw [if_neg ht0] at hp9
              have FIN : Hid (SetPost h bp P (sn : Int) (A : Int) os Z w (.returned (.int .i64 (tkE P P.bl.length S.length))) w9) := Lib.hid (by
                unfold SetPost
                rw [HL.out]
                simp only
                rw [HN.out, HNL.out, hn0, HWL.out, HS.out, if_pos ⟨GG.out.1.1, GG.out.1.2, GG.out.2⟩, if_pos ht0]
                exact ⟨rfl, _, SP.of hp9, NX9.out⟩)
              generalize tkE P P.bl.length S.length = ee at *
              have hne : (ee == 0) = false := by simp; exact ht0
              clear hp9 hG9 ht9 TK
              go_wp2_with fail
              go_ret
              exact FIN.out
      · have g2' : ((n : Int) > (N : Int) - A') := by omega
        have FIN : Hid (∀ w', Below w.heap.size w w' → SetPost h bp P (sn : Int) A' os Z w (.returned (.int .i64 2)) w') := Lib.hid (fun w' hb => by
          unfold SetPost
          rw [HL.out]
          simp only
          rw [HN.out, HNL.out, if_neg (fun e => g2 e.2.2)]
          exact ⟨trivial, HSP.out.same hb, hb⟩)
        have WI := Lib.hid (within_share_yes A' 0 (N : Int))
        clear g2
        go_enter Try.func21, Try.ntmps21
        go_wp2_with fail
        refine FI.out.mono ?_
        rintro e w2 ⟨hw2, he⟩
        obtain rfl := hw2.symm
        rw [HL.out] at he
        simp only [HROW.out] at he
        subst he
        go_wp2_with fail
        refine (LE.out _ (Below.refl _ _)).mono ?_
        rintro e w3 ⟨rfl, hb3⟩
        have B3 := Lib.hid hb3
        clear hb3
        go_wp2_with fail
        refine (WI.out _ g1.1 g1.2).mono ?_
        rintro e w' ⟨rfl, rfl⟩
        go_wp2_with fail
        refine (LE.out _ B3.out).mono ?_
        rintro e w4 ⟨rfl, hb4⟩
        have B4 := Lib.hid (B3.out.trans (hb4.mono B3.out.size))
        clear hb4 g1 WI
        go_wp2_with fail
        go_ret
        exact FIN.out _ B4.out
    · have FIN : Hid (∀ w', Below w.heap.size w w' → SetPost h bp P (sn : Int) A' os Z w (.returned (.int .i64 2)) w') := Lib.hid (fun w' hb => by
        unfold SetPost
        rw [HL.out]
        simp only
        rw [HN.out, HNL.out, if_neg (fun e => g1 ⟨e.1, e.2.1⟩)]
        exact ⟨trivial, HSP.out.same hb, hb⟩)
      have WI := Lib.hid (within_share_no A' 0 (N : Int))
      have G1 := Lib.hid g1
      clear g1
      go_enter Try.func21, Try.ntmps21
      go_wp2_with fail
      refine FI.out.mono ?_
      rintro e w2 ⟨hw2, he⟩
      obtain rfl := hw2.symm
      rw [HL.out] at he
      simp only [HROW.out] at he
      subst he
      go_wp2_with fail
      refine (LE.out _ (Below.refl _ _)).mono ?_
      rintro e w3 ⟨rfl, hb3⟩
      have B3 := Lib.hid hb3
      clear hb3
      go_wp2_with fail
      refine (WI.out _ G1.out).mono ?_
      rintro e w' ⟨rfl, rfl⟩
      go_wp2_with fail
      go_ret
      exact FIN.out _ B3.out

end Go.Proofs.Ytbndknbjjdoanaa
