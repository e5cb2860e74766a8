/-
  Where, Position and At of a rope. Conditions: numbers in their bounds.
-/
import Derived.Test.YtidfidknflcioaaTopRopePbo
import Derived.Deep.LoopGhost
namespace Go.Proofs.Ytidfidknflcioaa
open Go.RowKit
set_option linter.unusedVariables false

theorem tot_cons (x : Sz) (l : List Sz) : (totS (x :: l)).1 = x.1 + (totS l).1 := by simp [totS]
theorem tot_drop {l : List Sz} {k : Nat} {x : Sz} (h : l[k]? = some x) : (totS (l.drop k)).1 = x.1 + (totS (l.drop (k + 1))).1 := by
  have hk := (List.getElem?_eq_some_iff.1 h)
  obtain ⟨hk, rfl⟩ := hk
  rw [List.drop_eq_getElem_cons hk, tot_cons]
theorem tot_take {l : List Sz} {k : Nat} {x : Sz} (h : l[k]? = some x) : (totS (l.take (k + 1))).1 = (totS (l.take k)).1 + x.1 := by
  rw [List.take_add_one, h]
  simp [totS]

/-- The leaf that has a position. -/
def WhereIs (L : List Lm) (at' : Nat) (k a : Nat) : Prop := ∃ x, L[k]? = some x ∧ a < x.n ∧ (totS ((L.map Lm.sz).take k)).1 + a = at'

def WherePost (L : List Lm) (q : Int) (w : World) : Ending → World → Prop := fun e w' =>
  Below w.heap.size w w' ∧ if 0 ≤ q ∧ q < (totS (L.map Lm.sz)).1 then ∃ k a : Nat, e = .returned (.tuple #[.int .i64 k, .int .i64 a, .int .i64 0]) ∧ WhereIs L q.toNat k a
  else e = .returned (.tuple #[.int .i64 0, .int .i64 0, .int .i64 2])

set_option maxHeartbeats 1000000 in
set_option maxRecDepth 100000 in
theorem where_any (I : RopI) (L : List Lm) (lv : Value) (F : Nat → Prop) (q : Int) (w : World) (hm : RopeMem w F I L lv) (hl : L.length ≤ 60000) (ho : SzOk (L.map Lm.sz)) (hn : (totS (L.map Lm.sz)).1 ≤ 50000) :
    Calls Try.prog 23 #[.pointer (some ⟨I.r, 0, none⟩), .int .i64 q] w (WherePost L q w) := by
  have c6 := hm.cells.2.2.2.2.2.2.1
  have LEN := Lib.hid (len_any I L lv F w hm hl ho)
  have HM := Lib.hid hm
  obtain ⟨N, hN⟩ : ∃ N, (totS (L.map Lm.sz)).1 = N := ⟨_, rfl⟩
  have HNN := Lib.hid hN
  rw [hN] at LEN hn
  have HO := Lib.hid ho
  clear hm ho hN
  by_cases hb : 0 ≤ q ∧ q ≤ (N : Int) - 1
  · obtain ⟨qn, rfl⟩ : ∃ m : Nat, q = m := ⟨q.toNat, by omega⟩
    obtain ⟨b1, b2⟩ := hb
    go_enter Try.func23, Try.ntmps23
    go_wp2_with fail
    refine LEN.out.mono ?_
    rintro e w1 ⟨rfl, hb1⟩
    have B1 := Lib.hid hb1
    clear hb1 LEN c6
    go_wp2_with fail
    refine (within_rope_yes _ _ _ _ b1 b2).mono ?_
    rintro e w2 ⟨rfl, rfl⟩
    have hm2 := HM.out.below B1.out
    have c7 := hm2.cells.2.2.2.2.2.2.2.1
    obtain ⟨la, lc, rfl⟩ := wrow_sh hm2.row
    have HM2 := Lib.hid hm2
    clear hm2
    go_wp2_with fail
    go_loopw [1, 4] (fun s1 s4 wr => ∃ k a : Nat, s1 = .int .i64 (a : Int) ∧ s4 = .int .i64 (k : Int) ∧ k ≤ L.length ∧ a < (totS ((L.map Lm.sz).drop k)).1 ∧ (totS ((L.map Lm.sz).take k)).1 + a = qn ∧ wr = w1) (fun _ s4 _ => L.length - (intOf s4).toNat)
    case atStart => exact ⟨0, qn, rfl, rfl, Nat.zero_le _, by rw [List.drop_zero, HNN.out]; omega, by simp [totS], rfl⟩
    case round =>
      obtain ⟨k, a, rfl, rfl, hk, ha, hs, rfl⟩ := hrel
      have hlt : k < L.length := by
        rcases Nat.lt_or_ge k L.length with h | h
        · exact h
        · rw [List.drop_eq_nil_of_le (by simpa using h)] at ha
          simp [totS] at ha
      obtain ⟨x, hx⟩ : ∃ x, L[k]? = some x := ⟨_, List.getElem?_eq_getElem hlt⟩
      have hxs : (L.map Lm.sz)[k]? = some x.sz := by rw [List.getElem?_map, hx]; rfl
      obtain ⟨g, rfl, d, _⟩ := wrow_cell HM2.out.row (j := k) (u := x.val) (by rw [List.getElem?_map, hx]; rfl)
      have td := tot_drop hxs
      have tt := tot_take hxs
      have x1 : x.sz.1 = x.n := rfl
      have ok := (HO.out.2 x.sz (List.mem_of_getElem? hxs)).1
      have HX := Lib.hid hx
      have HS := Lib.hid (And.intro ha hs)
      have HT := Lib.hid (And.intro td tt)
      obtain ⟨xg, xcs, xn⟩ := x
      unfold Lm.val at d
      simp only at d x1
      rw [x1] at ok td tt
      have ha50 : a ≤ 50000 := by omega
      clear hx hxs
      by_cases hge : a < xn
      · have hd : decide ((a : Int) ≥ (xn : Int)) = false := by simp; omega
        have hd' : ¬ ((xn : Int) ≤ (a : Int)) := by omega
        clear td tt ha hs
        go_wp2_with fail
        go_ret3
        refine ⟨B1.out, ?_⟩
        rw [if_pos ⟨by omega, by rw [HNN.out]; omega⟩]
        exact ⟨k, a, rfl, _, HX.out, hge, HS.out.2⟩
      · have hd' : ((xn : Int) ≤ (a : Int)) := by omega
        clear td tt ha hs
        go_wp2_with fail
        go_roundw
        case measure => simp only [intOf]; omega
        case rel =>
          have h1 := HT.out.1
          have h2 := HT.out.2
          have h3 := HS.out
          rw [x1] at h1 h2
          exact ⟨k + 1, a - xn, by go_num, by go_num, by omega, by omega, by omega, trivial⟩
  · go_enter Try.func23, Try.ntmps23
    go_wp2_with fail
    refine LEN.out.mono ?_
    rintro e w1 ⟨rfl, hb1⟩
    have B1 := Lib.hid hb1
    clear hb1 LEN c6
    go_wp2_with fail
    refine (within_rope_no _ _ _ _ hb).mono ?_
    rintro e w2 ⟨rfl, rfl⟩
    go_wp2_with fail
    go_ret3
    refine ⟨B1.out, ?_⟩
    rw [if_neg (by rw [HNN.out]; omega)]
    rfl

/-- Of octets that lie in leaves: the one at a position. -/
theorem oct_at : ∀ (L : List Lm) (at' k a : Nat), (∀ x ∈ L, x.ok) → WhereIs L at' k a → ∃ x, L[k]? = some x ∧ a < x.n ∧ a < x.cs.length ∧ (octC (L.map Lm.lc))[at']? = x.cs[a]?
  | [], at', k, a, _, ⟨x, h, _⟩ => by simp at h
  | y :: L, at', 0, a, ho, ⟨x, h, ha, hs⟩ => by
    simp at h
    subst h
    have hok := ho y (by simp)
    have hlen := hok.1
    refine ⟨y, rfl, ha, by omega, ?_⟩
    have hs : a = at' := by simpa [totS] using hs
    subst hs
    rw [List.map_cons, octC_cons, List.getElem?_append_left (by rw [lc_len hok]; exact ha)]
    show (y.cs.take y.n)[a]? = _
    rw [List.getElem?_take_of_lt ha]
  | y :: L, at', k + 1, a, ho, ⟨x, h, ha, hs⟩ => by
    have hok := ho y (by simp)
    have hs : y.n + (totS ((L.map Lm.sz).take k)).1 + a = at' := by
      have h1 : (totS (((y :: L).map Lm.sz).take (k + 1))).1 = y.n + (totS ((L.map Lm.sz).take k)).1 := by
        rw [List.map_cons, List.take_succ_cons, tot_cons]; rfl
      omega
    obtain ⟨x', h1, h2, h3, h4⟩ := oct_at L (at' - y.n) k a (fun z hz => ho z (by simp [hz])) ⟨x, by simpa using h, ha, by omega⟩
    refine ⟨x', by simpa using h1, h2, h3, ?_⟩
    rw [List.map_cons, octC_cons, List.getElem?_append_right (by rw [lc_len hok]; omega), lc_len hok, h4]

def PosPost (q : Int) (w : World) : Ending → World → Prop := fun e w' => e = .returned (.tuple #[.int .i64 q, .int .i64 0]) ∧ Below w.heap.size w w'

set_option maxHeartbeats 1000000 in
set_option maxRecDepth 100000 in
theorem position_any (I : RopI) (L : List Lm) (lv : Value) (F : Nat → Prop) (at' k a : Nat) (w : World) (hm : RopeMem w F I L lv) (hl : L.length ≤ 60000) (ho : SzOk (L.map Lm.sz)) (hn : (totS (L.map Lm.sz)).1 ≤ 50000) (hw : WhereIs L at' k a) :
    Calls Try.prog 24 #[.pointer (some ⟨I.r, 0, none⟩), .int .i64 k, .int .i64 a] w (PosPost at' w) := by
  have c6 := hm.cells.2.2.2.2.2.2.1
  have c7 := hm.cells.2.2.2.2.2.2.2.1
  have SZ := Lib.hid (sizes_any I L lv F w hm hl)
  obtain ⟨x, hx, ha, hs⟩ := hw
  have hlt := (List.getElem?_eq_some_iff.1 hx).1
  obtain ⟨la, lc, rfl⟩ := wrow_sh hm.row
  obtain ⟨g, rfl, d, _⟩ := wrow_cell hm.row (j := k) (u := x.val) (by rw [List.getElem?_map, hx]; rfl)
  have ok := (ho.2 x.sz (List.mem_of_getElem? (by rw [List.getElem?_map, hx]; rfl : (L.map Lm.sz)[k]? = some x.sz))).1
  have x1 : x.sz.1 = x.n := rfl
  rw [x1] at ok
  have TT := Lib.hid (fun v W (hv : SzIn W v (L.map Lm.sz)) => fun (U : Value) (hU : SzIn W U ((L.map Lm.sz).take k)) => total_any U _ W hU ⟨by rw [List.length_take]; have := ho.1; omega, fun p hp => ho.2 p (List.mem_of_mem_take hp)⟩)
  have q1 : (0 : Int) ≤ k := by omega
  have q2 : (k : Int) ≤ (L.length : Int) - 1 := by omega
  have q3 : (0 : Int) ≤ a := by omega
  have q4 : (a : Int) ≤ (x.n : Int) - 1 := by omega
  have TL := totS_take_le (L.map Lm.sz) k
  obtain ⟨P, hP⟩ : ∃ P, (totS ((L.map Lm.sz).take k)).1 = P := ⟨_, rfl⟩
  have HP := Lib.hid hP
  rw [hP] at hs TL
  have hP50 : P ≤ 50000 := by omega
  have HS := Lib.hid hs
  obtain ⟨xg, xcs, xn⟩ := x
  unfold Lm.val at d
  simp only at d x1 ok q4 ha
  clear hm ho hx TL hP hs
  go_enter Try.func24, Try.ntmps24
  go_wp2_with fail
  refine (within_rope_yes _ _ _ _ q1 q2).mono ?_
  rintro e w1 ⟨rfl, rfl⟩
  go_wp2_with fail
  refine (within_rope_yes _ _ _ _ q3 q4).mono ?_
  rintro e w1 ⟨rfl, rfl⟩
  go_wp2_with fail
  refine SZ.out.mono ?_
  rintro e w1 ⟨v1, rfl, hrow, hb1⟩
  have B1 := Lib.hid hb1
  have V1 := Lib.hid (SzIn.row hrow)
  obtain ⟨va, vc, rfl⟩ := wrow_sh hrow
  have hle : k ≤ vc := by
    obtain ⟨a', c', e, h1, _⟩ := V1.out
    simp only [Value.slice.injEq] at e
    rw [List.length_map] at h1
    omega
  rw [List.length_map] at *
  have TK := Lib.hid (TT.out _ w1 V1.out (.slice va k vc) (SzIn.take V1.out k (by rw [List.length_map]; omega)))
  clear hrow hb1 SZ TT c6 c7 d
  go_wp2_with fail
  refine TK.out.mono ?_
  rintro e w2 ⟨rfl, hb2⟩
  rw [HP.out]
  have B2 := Lib.hid (B1.out.trans (hb2.mono B1.out.size))
  have hs := HS.out
  clear hb2
  go_wp2_with fail
  go_ret2
  refine ⟨?_, B2.out⟩
  rw [show (at' : Int) = (P : Int) + (a : Int) by omega]
  rfl

def AtPost (z : Int) (w : World) : Ending → World → Prop := fun e w' => e = .returned (.tuple #[.int .u8 z, .int .i64 0]) ∧ Below w.heap.size w w'

set_option maxHeartbeats 1000000 in
set_option maxRecDepth 100000 in
theorem at_any (I : RopI) (L : List Lm) (lv : Value) (F : Nat → Prop) (q : Nat) (w : World) (hm : RopeMem w F I L lv) (hl : L.length ≤ 60000) (ho : SzOk (L.map Lm.sz)) (hn : (totS (L.map Lm.sz)).1 ≤ 50000) (hq : q < (totS (L.map Lm.sz)).1) :
    Calls Try.prog 25 #[.pointer (some ⟨I.r, 0, none⟩), .int .i64 q] w (AtPost ((octC (L.map Lm.lc)).getD q 0) w) := by
  have WH := Lib.hid (where_any I L lv F q w hm hl ho hn)
  have HM := Lib.hid hm
  have HQ := Lib.hid hq
  clear hm ho
  go_enter Try.func25, Try.ntmps25
  go_wp2_with fail
  refine WH.out.mono ?_
  rintro e w1 ⟨hb1, hres⟩
  rw [if_pos ⟨by omega, by have := HQ.out; omega⟩] at hres
  obtain ⟨k, a, rfl, hw⟩ := hres
  have hm1 := HM.out.below hb1
  obtain ⟨x, hx, ha, hac, he⟩ := oct_at L q k a (fun y hy => (hm1.mem y hy).2.1) hw
  have c7 := hm1.cells.2.2.2.2.2.2.2.1
  have hlt := (List.getElem?_eq_some_iff.1 hx).1
  obtain ⟨la, lc, rfl⟩ := wrow_sh hm1.row
  obtain ⟨g, rfl, d, _⟩ := wrow_cell hm1.row (j := k) (u := x.val) (by rw [List.getElem?_map, hx]; rfl)
  obtain ⟨hr, hok, _⟩ := hm1.mem x (List.mem_of_getElem? hx)
  have dx : w1.cell? ⟨x.g, a, none⟩ = some (.int .u8 ((octC (L.map Lm.lc)).getD q 0)) := by
    rw [cell_of hr, List.getD_eq_getElem?_getD, he]
    simp [hac]
  have hok2 := hok.2.1
  have hle := hok.1
  have B1 := Lib.hid hb1
  obtain ⟨xg, xcs, xn⟩ := x
  unfold Lm.val at d
  simp only at d dx ha hac hok2 hle
  generalize (octC (L.map Lm.lc)).getD q 0 = z at *
  clear hm1 hb1 WH hr hok he hx hw
  go_wp2_with fail
  go_ret2
  exact ⟨rfl, B1.out⟩

end Go.Proofs.Ytidfidknflcioaa
