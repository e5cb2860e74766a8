/-
  What is read from a rope as a whole: octets, Copy; Insert and Remove as Replace; the book's held. Conditions: numbers in their bounds.
-/
import Derived.Test.YtidfidknflcioaaTopRopePbn
import Derived.Test.YtidfidknflcioaaTopRopePan
import Derived.Test.YtidfidknflcioaaTopRopePak
namespace Go.Proofs.Ytidfidknflcioaa
open Go.RowKit
set_option linter.unusedVariables false

set_option maxHeartbeats 2000000 in
set_option maxRecDepth 100000 in
theorem concat_row1 (ad : Option Addr) (cp : Nat) (els : List (Value × List Int)) (w : World) (hc : ∀ k (hk : k < els.length), ∃ bb o, ad = some ⟨bb, o, none⟩ ∧ w.cell? ⟨bb, o + k, none⟩ = some (els[k].1) ∧ Reads w .u8 els[k].1 els[k].2)
    (hl : (els.map Prod.snd).flatten.length ≤ 100000000) (hn : els.length ≤ 100000) :
    Calls Try.prog 12 #[.slice ad els.length cp] w (OwnBytes (els.map Prod.snd).flatten w) := by
  have HC := Lib.hid hc
  have HL := Lib.hid hl
  clear hc
  go_enter Try.func12, Try.ntmps12
  go_wp2_with fail
  go_loopw [11, 3] (fun i s wr => ∃ k : Nat, k ≤ els.length ∧ i = .int .i64 k ∧ s = .int .i64 (catLen els k) ∧ wr = w) (fun i _ _ => els.length - (intOf i).toNat)
  case atStart => exact ⟨0, Nat.zero_le _, rfl, rfl, rfl⟩
  case round =>
    obtain ⟨k, hk, rfl, rfl, hw⟩ := hrel
    obtain rfl := hw.symm
    have le := catLen_le els k
    by_cases hlt : k < els.length
    · obtain ⟨bb, o, rfl, c0, r0⟩ := HC.out k hlt
      obtain ⟨a1, cap1, e1, l1, _⟩ := r0
      rw [e1] at c0
      have S := catLen_succ els k hlt
      have le2 := catLen_le els (k + 1)
      clear e1
      generalize els[k].2.length = m at *
      generalize catLen els k = s at *
      go_wp2_with fail
      go_roundw
      case rel => exact ⟨k + 1, by omega, by go_num, by rw [S]; go_num, trivial⟩
      case measure => simp [intOf]; omega
    · have hkn : k = els.length := by omega
      subst hkn
      have SZ := Lib.hid (show catLen els els.length = (els.map Prod.snd).flatten.length from by unfold catLen; rw [List.take_length])
      rw [SZ.out]
      generalize hN : (els.map Prod.snd).flatten.length = N at *
      go_wp2_with fail
      refine (grow_nil N w (by omega)).mono ?_
      rintro e w1 ⟨v1, rfl, ho1, hb1⟩
      have HO1 := Lib.hid ho1
      have HB1 := Lib.hid hb1
      clear ho1 hb1
      go_wp2_with fail
      go_loopw [27, 6] (fun i s wx => ∃ k : Nat, k ≤ els.length ∧ i = .int .i64 k ∧ wx.ownsRow w.heap.size 5 1 s (catLen els k) (((els.take k).map Prod.snd).flatten.map (Value.int .u8)) ∧ Below w.heap.size w wx) (fun i _ _ => els.length - (intOf i).toNat)
      case atStart => exact ⟨0, Nat.zero_le _, rfl, by simpa [catLen] using HO1.out, HB1.out⟩
      case round =>
        obtain ⟨k, hk, rfl, ho, hb⟩ := hrel
        have le := catLen_le els k
        by_cases hlt : k < els.length
        · obtain ⟨bb, o, rfl, c0, r0⟩ := HC.out k hlt
          have c1 := old_cell hb c0
          have r1 := r0.below hb rfl
          have le2 := catLen_le els (k + 1)
          have S := catLen_succ els k hlt
          have S2 := Lib.hid (cat_succ els k hlt)
          have R1 := Lib.hid r1
          have HO := Lib.hid ho
          have hsz := hb.size
          have HBB := Lib.hid hb
          clear c0 r0 r1 ho hb
          go_wp2_with (at_builtin; go_must (refine wpList_append_reads rfl (.tmp 31) (.tmp 32) rfl w.heap.size wr _ _ _ rfl HO.out _ _ rfl R1.out (by omega) hsz ?_))
          intro v' w2 hown hg
          have hb2 := HBB.out.grown hg hsz (fun q hq => row_base2 HO.out hq)
          have hown2 : w2.ownsRow w.heap.size 5 1 v' (catLen els (k + 1)) (((els.take (k + 1)).map Prod.snd).flatten.map (Value.int .u8)) := by rw [S, S2.out]; simpa using hown
          clear hown
          clear hg
          go_wp2_with fail
          go_roundw
          case rel => exact ⟨k + 1, by omega, by go_num, hown2, hb2⟩
          case measure => simp [intOf]; omega
        · have hkn : k = els.length := by omega
          subst hkn
          rw [SZ.out, List.take_length] at ho
          go_wp2_with fail
          go_ret
          exact ⟨_, rfl, by rw [hN]; exact ho, hb⟩


theorem insert_rs (r : RS) (f : Int) (a : Option Addr) (n c : Nat) (os : List Int) (w : World) (h : r.At w) (hr : Reads w .u8 (.slice a n c) os) (hn : os.length = n) (hnb : n ≤ 281474976710656) (hbz : bytes os) (hnG : os ≠ [] → ∀ b, (Value.slice a n c).ownBlock = some b → ¬ r.G b) :
    Calls Try.prog 11 #[.pointer (some ⟨r.I.r, 0, none⟩), .int .i64 f, .slice a n c] w (RsPost r f f os w) := by
  have RP := Lib.hid (replace_rs r f f a n c os w h hr hn hnb hbz hnG)
  clear h hr hbz hnG hn
  go_enter Try.func11, Try.ntmps11
  go_wp2_with fail
  refine RP.out.mono ?_
  rintro e w1 ⟨rfl, h1⟩
  have H1 := Lib.hid h1
  clear h1
  go_wp2_with fail
  go_ret
  exact ⟨rfl, H1.out⟩
theorem remove_rs (r : RS) (f t : Int) (w : World) (h : r.At w) :
    Calls Try.prog 13 #[.pointer (some ⟨r.I.r, 0, none⟩), .int .i64 f, .int .i64 t] w (RsPost r f t [] w) := by
  have RP := Lib.hid (replace_rs r f t none 0 0 [] w h ⟨none, 0, rfl, by simp, fun h => absurd rfl h⟩ rfl (by omega) (fun z hz => by simp at hz) (fun h => absurd rfl h))
  clear h
  go_enter Try.func13, Try.ntmps13
  go_wp2_with fail
  refine RP.out.mono ?_
  rintro e w1 ⟨rfl, h1⟩
  have H1 := Lib.hid h1
  clear h1
  go_wp2_with fail
  go_ret
  exact ⟨rfl, H1.out⟩

theorem octets_any (I : RopI) (L : List Lm) (lv : Value) (F : Nat → Prop) (w : World) (hm : RopeMem w F I L lv) (hl : L.length ≤ 60000) (ho : (octC (L.map Lm.lc)).length ≤ 100000) :
    Calls Try.prog 52 #[.pointer (some ⟨I.r, 0, none⟩)] w (OwnBytes (octC (L.map Lm.lc)) w) := by
  have c7 := hm.cells.2.2.2.2.2.2.2.1
  obtain ⟨la, lc, rfl⟩ := wrow_sh hm.row
  have hfl : ((L.map fun x => (x.val, x.cs.take x.n)).map Prod.snd).flatten = octC (L.map Lm.lc) := by
    clear hm c7 ho hl
    induction L with
    | nil => rfl
    | cons x l ih =>
      simp only [List.map_cons, List.flatten_cons, octC_cons]
      rw [ih]
      rfl
  have CO := Lib.hid (concat_row1 la lc (L.map fun x => (x.val, x.cs.take x.n)) w (fun k hk => by
    have hk' : k < L.length := by simpa using hk
    obtain ⟨g, rfl, d, _⟩ := wrow_cell hm.row (j := k) (u := (L[k]).val) (by rw [List.getElem?_map, List.getElem?_eq_getElem hk']; rfl)
    have hx := hm.mem _ (List.getElem_mem hk')
    refine ⟨g, 0, rfl, ?_, ?_⟩
    · rw [Nat.zero_add, List.getElem_map]; exact d
    · rw [List.getElem_map]; exact Lm.reads hx.1 hx.2.1) (by rw [hfl]; omega) (by rw [List.length_map]; omega))
  rw [hfl, List.length_map] at CO
  have HC := Lib.hid hfl
  clear hm hfl
  go_enter Try.func52, Try.ntmps52
  go_wp2_with fail
  refine CO.out.mono ?_
  rintro e w1 ⟨v, rfl, hv, hb⟩
  have H1 := Lib.hid (And.intro hv hb)
  clear hv hb
  go_wp2_with fail
  go_ret
  exact ⟨_, rfl, H1.out.1, H1.out.2⟩

theorem Reads.cut {w : World} {k : IntKind} {a : Option Addr} {n c : Nat} {zs : List Int} (h : Reads w k (.slice a n c) zs) {f t : Nat} (hf : f ≤ t) (ht : t ≤ zs.length) {U : Option Addr} (hU : ∀ b o, a = some ⟨b, o, none⟩ → f < t → U = some ⟨b, o + f, none⟩) (m : Nat) : Reads w k (.slice U (t - f) m) ((zs.drop f).take (t - f)) := by
  obtain ⟨a', cap, e, hl, hc⟩ := h
  simp only [Value.slice.injEq] at e
  obtain ⟨rfl, rfl, rfl⟩ := e
  have hlm : ((zs.drop f).take (t - f)).length = t - f := by rw [List.length_take, List.length_drop]; omega
  refine ⟨U, m, by rw [hlm], by omega, fun hne => ?_⟩
  have hlt : f < t := by
    have := List.length_pos_iff.2 hne
    omega
  obtain ⟨b, o, rfl, h1⟩ := hc (by intro e; rw [e] at ht; simp at ht; omega)
  refine ⟨b, o + f, hU b o rfl hlt, fun j hj => ?_⟩
  rw [hlm] at hj
  have h2 := h1 (f + j) (by omega)
  rw [show o + f + j = o + (f + j) by omega, h2]
  simp [List.getD_eq_getElem?_getD, List.getElem?_drop, hj]

def RCopyPost (N : Nat) (os : List Int) (f t : Int) (w : World) : Ending → World → Prop := fun e w' =>
  if betE N f t = 0 then ∃ v, e = .returned (.tuple #[v, .int .i64 0]) ∧ w'.ownsRow w.heap.size 5 1 v ((os.drop f.toNat).take (t.toNat - f.toNat)).length (((os.drop f.toNat).take (t.toNat - f.toNat)).map (Value.int .u8)) ∧ Below w.heap.size w w'
  else e = .returned (.tuple #[.slice none 0 0, .int .i64 2]) ∧ Below w.heap.size w w'

set_option maxHeartbeats 1000000 in
set_option maxRecDepth 100000 in
theorem copyR_any (I : RopI) (L : List Lm) (lv : Value) (F : Nat → Prop) (f t : Int) (w : World) (hm : RopeMem w F I L lv) (hl : L.length ≤ 60000) (ho : SzOk (L.map Lm.sz)) (hn : (totS (L.map Lm.sz)).1 ≤ 50000) :
    Calls Try.prog 19 #[.pointer (some ⟨I.r, 0, none⟩), .int .i64 f, .int .i64 t] w (RCopyPost (totS (L.map Lm.sz)).1 (octC (L.map Lm.lc)) f t w) := by
  have BT := Lib.hid (between_any I L lv F f t w hm hl ho (by omega))
  have OL : (octC (L.map Lm.lc)).length = (totS (L.map Lm.sz)).1 := by rw [octC_len, map_szC (fun y hy => (hm.mem y hy).2.1)]
  have OC := Lib.hid (fun W (hW : Below w.heap.size w W) => octets_any I L lv F W (hm.below hW) hl (by omega))
  generalize octC (L.map Lm.lc) = os at *
  generalize (totS (L.map Lm.sz)).1 = N at *
  have HOL := Lib.hid OL
  clear hm OL
  by_cases hb : 0 ≤ f ∧ f ≤ N ∧ f ≤ t ∧ t ≤ N
  · have hbe : betE N f t = 0 := if_pos hb
    rw [hbe] at BT
    obtain ⟨fn, rfl⟩ : ∃ m : Nat, f = m := ⟨f.toNat, by omega⟩
    obtain ⟨tn, rfl⟩ : ∃ m : Nat, t = m := ⟨t.toNat, by omega⟩
    have HBE := Lib.hid hbe
    obtain ⟨b1, b2, b3, b4⟩ := hb
    clear hbe
    go_enter Try.func19, Try.ntmps19
    go_wp2_with fail
    refine BT.out.mono ?_
    rintro e w1 ⟨rfl, hb1⟩
    have B1 := Lib.hid hb1
    clear hb1 BT
    go_wp2_with fail
    refine (OC.out _ B1.out).mono ?_
    rintro e w2 ⟨v2, rfl, hv2, hb2⟩
    have hvr := Reads.own hv2 (by rw [HOL.out]; omega)
    obtain ⟨a, c, rfl⟩ := wrow_sh hv2
    have hle : N ≤ c := by
      obtain ⟨a', c', e, h1, _⟩ := ownsRow_lt2 hv2
      simp only [Value.slice.injEq] at e
      rw [HOL.out] at h1
      omega
    have B2 := Lib.hid (B1.out.trans (hb2.mono B1.out.size))
    have HVR := Lib.hid hvr
    have HV2 := Lib.hid hv2
    have hol := HOL.out
    clear hvr hb2 OC B1 hv2
    have CL := Lib.hid (fun (U : Option Addr) (m : Nat) (hU : ∀ b o, a = some ⟨b, o, none⟩ → fn < tn → U = some ⟨b, o + fn, none⟩) => clone_byte (.slice U (tn - fn) m) _ w2 (HVR.out.cut (by omega) (by omega) hU m) (by rw [List.length_take]; omega))
    go_wp2_with fail
    all_goals
      refine (CL.out _ _ (fun b o e hlt => by first | (rw [e]; simp [Addr.add]; done) | omega)).mono ?_
      rintro e w3 ⟨v3, rfl, hv3, hb3⟩
      have FIN : Hid (RCopyPost N os (fn : Int) (tn : Int) w (.returned (.tuple #[v3, .int .i64 0])) w3) := Lib.hid (by
        unfold RCopyPost
        rw [if_pos HBE.out]
        exact ⟨v3, rfl, row_low hv3 B2.out.size, B2.out.trans (hb3.mono B2.out.size)⟩)
      clear hv3 hb3 CL
      go_wp2_with fail
      go_ret2
      exact FIN.out
  · have hbe : betE N f t = 2 := if_neg hb
    rw [hbe] at BT
    have HBE := Lib.hid hbe
    clear hbe hb
    go_enter Try.func19, Try.ntmps19
    go_wp2_with fail
    refine BT.out.mono ?_
    rintro e w1 ⟨rfl, hb1⟩
    have B1 := Lib.hid hb1
    clear hb1 BT
    go_wp2_with fail
    go_ret2
    unfold RCopyPost
    rw [if_neg (by rw [HBE.out]; omega)]
    exact ⟨rfl, B1.out⟩

theorem held2_any (p : Nat) (w : World) (F : Nat → Prop) (st : BookSt) (N : Nat) (hb : BookAt w F p st N) : Calls Try.prog 21 #[.pointer (some ⟨p, 0, none⟩)] w (fun e w' => e = .returned (.int .i64 (heldV st 1)) ∧ w' = w) := by
  have HH := Lib.hid (held_any p 1 w F st N hb)
  clear hb
  go_enter Try.func21, Try.ntmps21
  go_wp2_with fail
  refine HH.out.mono ?_
  rintro e w1 ⟨rfl, rfl⟩
  go_wp2_with fail
  go_ret
  exact ⟨rfl, rfl⟩

end Go.Proofs.Ytidfidknflcioaa
