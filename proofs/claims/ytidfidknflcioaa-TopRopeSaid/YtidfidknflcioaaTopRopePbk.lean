/-
  between of a rope, and what holds of the sizes behind an edit. Conditions: numbers in their bounds.
  The octets of a rope behind an edit: plain. No program, no conditions but numbers in their bounds.
-/
import Derived.Test.YtidfidknflcioaaTopRopePbj
import Derived.Test.YtidfidknflcioaaTopRopePag

namespace Go.Proofs.Ytidfidknflcioaa
section
open Go.RowKit
set_option linter.unusedVariables false

def betE (n : Nat) (f t : Int) : Int := if 0 ≤ f ∧ f ≤ n ∧ f ≤ t ∧ t ≤ n then 0 else 2

set_option maxHeartbeats 1000000 in
set_option maxRecDepth 100000 in
theorem between_any (I : RopI) (L : List Lm) (lv : Value) (F : Nat → Prop) (f t : Int) (w : World) (hm : RopeMem w F I L lv) (hl : L.length ≤ 60000) (ho : SzOk (L.map Lm.sz)) (hn : (totS (L.map Lm.sz)).1 ≤ 100000) :
    Calls Try.prog 32 #[.pointer (some ⟨I.r, 0, none⟩), .int .i64 f, .int .i64 t] w (fun e w' => e = .returned (.int .i64 (betE (totS (L.map Lm.sz)).1 f t)) ∧ Below w.heap.size w w') := by
  have c6 := hm.cells.2.2.2.2.2.2.1
  have LEN := Lib.hid (fun W (hW : Below w.heap.size w W) => len_any I L lv F W (hm.below hW) hl ho)
  obtain ⟨N, hN⟩ : ∃ N, (totS (L.map Lm.sz)).1 = N := ⟨_, rfl⟩
  rw [hN] at LEN hn ⊢
  clear hm hN ho
  have RET : ∀ (e : Ending) (w' : World), (e = .returned (.int .i64 ((N : Nat) : Int)) ∧ Below w.heap.size w w') → True := fun _ _ _ => trivial
  clear RET
  by_cases h1 : 0 ≤ f ∧ f ≤ N
  · by_cases h2 : f ≤ t ∧ t ≤ N
    · have hb : betE N f t = 0 := if_pos ⟨h1.1, h1.2, h2⟩
      rw [hb]
      clear hb
      have WY := Lib.hid (fun W => within_rope_yes f 0 N W h1.1 h1.2)
      have WZ := Lib.hid (fun W => within_rope_yes t f N W h2.1 h2.2)
      clear h1 h2
      go_enter Try.func32, Try.ntmps32
      go_wp2_with fail
      refine (LEN.out _ (Below.refl _ _)).mono ?_
      rintro e w1 ⟨rfl, hb1⟩
      have B1 := Lib.hid hb1
      clear hb1
      go_wp2_with fail
      refine (WY.out _).mono ?_
      rintro e w2 ⟨rfl, rfl⟩
      go_wp2_with fail
      refine (LEN.out _ B1.out).mono ?_
      rintro e w3 ⟨rfl, hb3⟩
      have B3 := Lib.hid (B1.out.trans (hb3.mono B1.out.size))
      clear hb3
      go_wp2_with fail
      refine (WZ.out _).mono ?_
      rintro e w4 ⟨rfl, rfl⟩
      go_wp2_with fail
      go_ret
      exact ⟨rfl, B3.out⟩
    · have hb : betE N f t = 2 := if_neg (fun h => h2 h.2.2)
      rw [hb]
      clear hb
      have WY := Lib.hid (fun W => within_rope_yes f 0 N W h1.1 h1.2)
      have WZ := Lib.hid (fun W => within_rope_no t f N W h2)
      clear h1 h2
      go_enter Try.func32, Try.ntmps32
      go_wp2_with fail
      refine (LEN.out _ (Below.refl _ _)).mono ?_
      rintro e w1 ⟨rfl, hb1⟩
      have B1 := Lib.hid hb1
      clear hb1
      go_wp2_with fail
      refine (WY.out _).mono ?_
      rintro e w2 ⟨rfl, rfl⟩
      go_wp2_with fail
      refine (LEN.out _ B1.out).mono ?_
      rintro e w3 ⟨rfl, hb3⟩
      have B3 := Lib.hid (B1.out.trans (hb3.mono B1.out.size))
      clear hb3
      go_wp2_with fail
      refine (WZ.out _).mono ?_
      rintro e w4 ⟨rfl, rfl⟩
      go_wp2_with fail
      go_ret
      exact ⟨rfl, B3.out⟩
  · have hb : betE N f t = 2 := if_neg (fun h => h1 ⟨h.1, h.2.1⟩)
    rw [hb]
    clear hb
    have WY := Lib.hid (fun W => within_rope_no f 0 N W h1)
    clear h1
    go_enter Try.func32, Try.ntmps32
    go_wp2_with fail
    refine (LEN.out _ (Below.refl _ _)).mono ?_
    rintro e w1 ⟨rfl, hb1⟩
    have B1 := Lib.hid hb1
    clear hb1
    go_wp2_with fail
    refine (WY.out _).mono ?_
    rintro e w2 ⟨rfl, rfl⟩
    go_wp2_with fail
    go_ret
    exact ⟨rfl, B1.out⟩

end
end Go.Proofs.Ytidfidknflcioaa

namespace Go.Proofs.Ytidfidknflcioaa
section
open Go.RowKit
set_option linter.unusedVariables false

theorem octC_nil : octC [] = [] := rfl
theorem octC_cons (x : Lc) (l : List Lc) : octC (x :: l) = x.1 ++ octC l := rfl
theorem octC_app (a b : List Lc) : octC (a ++ b) = octC a ++ octC b := by unfold octC; rw [List.flatMap_append]
theorem octC_len (l : List Lc) : (octC l).length = (totS (l.map szC)).1 := by
  induction l with
  | nil => rfl
  | cons x l ih =>
    rw [octC_cons, List.length_append, ih]
    simp [totS, szC]
theorem octC_cut (p : RPar) : ∀ (js : List Nat) (os : List Int), js.sum = os.length → octC (cutC p js os) = os
  | [], os, h => by
    have : os = [] := List.eq_nil_of_length_eq_zero (by simpa using h.symm)
    rw [this]; rfl
  | j :: js, os, h => by
    unfold cutC
    rw [List.sum_cons] at h
    rw [octC_cons, octC_cut p js (os.drop j) (by rw [List.length_drop]; omega)]
    exact List.take_append_drop j os
theorem octC_made (p : RPar) (os : List Int) (h : 1 ≤ p.leaf) : octC (madeC p os) = os := octC_cut p _ _ (pcsN_sum _ _ h)

/-- Where the edge of a leaf parts the octets. -/
theorem ends_split : ∀ (l : List Lc) (a : Nat), a ≤ (octC l).length → l ≠ [] → ∃ x, l[(endsS (l.map szC) a).1]? = some x ∧ (endsS (l.map szC) a).2 ≤ x.1.length ∧
    (octC l).take a = octC (l.take (endsS (l.map szC) a).1) ++ x.1.take (endsS (l.map szC) a).2 ∧ (octC l).drop a = x.1.drop (endsS (l.map szC) a).2 ++ octC (l.drop ((endsS (l.map szC) a).1 + 1))
  | [], _, _, h => absurd rfl h
  | x :: l, a, ha, _ => by
    rw [octC_cons, List.length_append] at ha
    have e : (x :: l).map szC = szC x :: l.map szC := rfl
    rw [e]
    unfold endsS
    by_cases h : (szC x).1 < a
    · rw [if_pos h]
      have h : x.1.length < a := h
      have hl : l ≠ [] := fun e => by subst e; simp [octC] at ha; omega
      obtain ⟨y, h1, h2, h3, h4⟩ := ends_split l (a - x.1.length) (by omega) hl
      have e2 : (szC x).1 = x.1.length := rfl
      rw [e2]
      refine ⟨y, by simpa using h1, h2, ?_, ?_⟩
      · rw [octC_cons, List.take_append, List.take_of_length_le (by omega)]
        simp only [List.take_succ_cons, octC_cons, List.append_assoc]
        rw [h3]
      · rw [octC_cons, List.drop_append, List.drop_eq_nil_of_le (by omega), List.nil_append]
        simp only [List.drop_succ_cons]
        rw [h4]
    · rw [if_neg h]
      have h : ¬ x.1.length < a := h
      refine ⟨x, rfl, by show a ≤ x.1.length; omega, ?_, ?_⟩
      · show (octC (x :: l)).take a = octC [] ++ x.1.take a
        rw [octC_cons, List.take_append, show a - x.1.length = 0 by omega]
        simp [octC]
      · show (octC (x :: l)).drop a = x.1.drop a ++ octC l
        rw [octC_cons, List.drop_append, show a - x.1.length = 0 by omega, List.drop_zero]

theorem octC_set (l : List Lc) (i : Nat) (x y : Lc) (h : l[i]? = some x) : octC (l.set i y) = octC (l.take i) ++ y.1 ++ octC (l.drop (i + 1)) := by
  have hi := (List.getElem?_eq_some_iff.1 h).1
  rw [List.set_eq_take_append_cons_drop, if_pos hi, octC_app, octC_cons, List.append_assoc]

theorem octC_ins (p : RPar) (l : List Lc) (a : Nat) (os : List Int) (hp : 1 ≤ p.leaf) (ha : a ≤ (octC l).length) : octC (insC p l a os) = (octC l).take a ++ os ++ (octC l).drop a := by
  unfold insC
  by_cases h0 : os = []
  · rw [if_pos h0, h0, List.append_nil, List.take_append_drop]
  rw [if_neg h0]
  by_cases hl : l = []
  · rw [if_pos hl, hl, octC_made p os hp]
    simp [octC]
  rw [if_neg hl]
  obtain ⟨x, h1, h2, h3, h4⟩ := ends_split l a ha hl
  have hx : l.getD (endsS (l.map szC) a).1 ([], 0) = x := by rw [List.getD_eq_getElem?_getD, h1]; rfl
  simp only [hx]
  rw [h3, h4]
  split
  · rw [octC_set l _ x _ h1]
    simp only [List.append_assoc]
  · rw [octC_app, octC_app, octC_made p _ hp]
    simp only [List.append_assoc]

theorem delX_oct (f t : Nat) (hft : f ≤ t) (P : List Int) (x : Lc) : P.take f ++ P.drop t ++ (delX f t P.length x).1 = (P ++ x.1).take f ++ (P ++ x.1).drop t := by
  rw [List.take_append, List.drop_append]
  unfold delX
  by_cases hs : P.length ≤ f
  · rw [List.drop_eq_nil_of_le (show P.length ≤ t by omega), List.append_nil, List.nil_append, List.append_assoc]
    congr 1
    split
    · rename_i h
      show x.1.take (f - P.length) ++ x.1.drop _ = _
      congr 1
      by_cases hm : t - P.length ≤ x.1.length
      · rw [Nat.min_eq_left hm]
      · rw [Nat.min_eq_right (by omega), List.drop_length, List.drop_eq_nil_of_le (by omega)]
    · rename_i h
      by_cases hm : t - P.length ≤ x.1.length
      · rw [Nat.min_eq_left hm] at h
        rw [show f - P.length = t - P.length by omega, List.take_append_drop]
      · rw [Nat.min_eq_right (by omega)] at h
        rw [List.take_of_length_le (by omega), List.drop_eq_nil_of_le (by omega), List.append_nil]
  · rw [show f - P.length = 0 by omega, List.take_zero, List.append_nil, List.append_assoc]
    congr 2
    split
    · rename_i h
      show [] ++ x.1.drop _ = _
      rw [List.nil_append]
      by_cases hm : t - P.length ≤ x.1.length
      · rw [Nat.min_eq_left hm]
      · rw [Nat.min_eq_right (by omega), List.drop_length, List.drop_eq_nil_of_le (by omega)]
    · rename_i h
      rcases Nat.eq_zero_or_pos (t - P.length) with e | e
      · rw [e, List.drop_zero]
      · have : x.1.length = 0 := by
          rcases Nat.le_total (t - P.length) x.1.length with hm | hm
          · rw [Nat.min_eq_left hm] at h; omega
          · rw [Nat.min_eq_right hm] at h; omega
        rw [List.eq_nil_of_length_eq_zero this]
        simp

theorem delA_oct (f t : Nat) (hft : f ≤ t) (l : List Lc) : octC (delA f t l).1 = (octC l).take f ++ (octC l).drop t := by
  unfold delA
  suffices ∀ (l : List Lc) (P : List Int) (st : List Lc × Nat × Int), octC st.1 = P.take f ++ P.drop t → st.2.1 = P.length → octC (l.foldl (delF f t) st).1 = (P ++ octC l).take f ++ (P ++ octC l).drop t by
    have h := this l [] ([], 0, -1) (by simp [octC]) rfl
    simpa using h
  intro l
  induction l with
  | nil => intro P st h _; rw [List.foldl_nil, octC_nil, List.append_nil, h]
  | cons x l ih =>
    intro P st h hs
    rw [List.foldl_cons, octC_cons, ← List.append_assoc]
    have hd := delX_oct f t hft P x
    rw [← hs] at hd
    refine ih (P ++ x.1) (delF f t st x) ?_ ?_
    · rw [← hd, ← h]
      unfold delF
      simp only
      split
      · rw [octC_app, octC_cons, octC_nil, List.append_nil]
      · rename_i h0
        rw [List.eq_nil_of_length_eq_zero (by omega : (delX f t st.2.1 x).1.length = 0), List.append_nil]
    · unfold delF
      simp only
      rw [List.length_append, hs]

theorem joinC_oct (p : RPar) (l : List Lc) (a : Int) (f : Nat) : octC (joinC p l a f) = octC l := by
  unfold joinC
  split
  · rename_i h
    unfold joinsS at h
    simp only [Bool.and_eq_true, decide_eq_true_eq, List.length_map] at h
    obtain ⟨⟨h1, h2⟩, _⟩ := h
    obtain ⟨A, rfl⟩ : ∃ A : Nat, a = A := ⟨a.toNat, by omega⟩
    rw [Int.toNat_natCast]
    have hA : A + 1 < l.length := by omega
    obtain ⟨x, hx⟩ : ∃ x, l[A]? = some x := ⟨_, List.getElem?_eq_getElem (by omega)⟩
    obtain ⟨y, hy⟩ : ∃ y, l[A + 1]? = some y := ⟨_, List.getElem?_eq_getElem hA⟩
    have gx : l.getD A ([], 0) = x := by rw [List.getD_eq_getElem?_getD, hx]; rfl
    have gy : l.getD (A + 1) ([], 0) = y := by rw [List.getD_eq_getElem?_getD, hy]; rfl
    rw [gx, gy]
    have e : l = l.take A ++ x :: y :: l.drop (A + 2) := by
      conv => lhs; rw [← List.take_append_drop A l]
      rw [List.drop_eq_getElem_cons (by omega : A < l.length), List.drop_eq_getElem_cons hA]
      rw [(List.getElem?_eq_some_iff.1 hx).2, (List.getElem?_eq_some_iff.1 hy).2]
    have lA : (l.take A).length = A := by rw [List.length_take]; omega
    obtain ⟨u, hu⟩ : ∃ u, l.take A = u := ⟨_, rfl⟩
    obtain ⟨v, hv⟩ : ∃ v, l.drop (A + 2) = v := ⟨_, rfl⟩
    rw [hu] at lA
    rw [hu, hv] at e
    rw [e]
    clear e hu hv hx hy gx gy
    have es : (u ++ x :: y :: v).set A (x.1 ++ y.1, p.gr x.2 (x.1.length + y.1.length)) = u ++ (x.1 ++ y.1, p.gr x.2 (x.1.length + y.1.length)) :: y :: v := by
      rw [List.set_append_right _ _ (by omega), lA, Nat.sub_self, List.set_cons_zero]
    rw [es, List.eraseIdx_append_of_length_le (by omega), lA, show A + 1 - A = 1 by omega]
    simp only [List.eraseIdx_cons_succ, List.eraseIdx_cons_zero]
    rw [octC_app, octC_app, octC_cons, octC_cons, octC_cons, List.append_assoc]
  · rfl
theorem octC_del (p : RPar) (l : List Lc) (f t : Nat) (hft : f ≤ t) : octC (delC p l f t) = (octC l).take f ++ (octC l).drop t := by
  unfold delC
  split
  · rename_i h; rw [h, List.take_append_drop]
  · rw [joinC_oct, delA_oct f t hft]
theorem octC_repl (p : RPar) (l : List Lc) (f t : Nat) (os : List Int) (hp : 1 ≤ p.leaf) (hft : f ≤ t) (ht : t ≤ (octC l).length) : octC (replC p l f t os) = (octC l).take f ++ os ++ (octC l).drop t := by
  unfold replC
  have lf : ((octC l).take f).length = f := by rw [List.length_take]; omega
  have e := octC_del p l f t hft
  rw [octC_ins p _ f os hp (by rw [e, List.length_append]; omega), e, List.take_append, List.drop_append, lf, Nat.sub_self, List.take_zero, List.drop_zero, List.append_nil, List.take_of_length_le (by omega), List.drop_eq_nil_of_le (by omega), List.nil_append]

end
end Go.Proofs.Ytidfidknflcioaa
