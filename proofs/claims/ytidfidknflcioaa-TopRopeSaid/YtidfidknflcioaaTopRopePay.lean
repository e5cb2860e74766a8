/-
  afterInsert of a rope: what it gives. Conditions: numbers in their bounds.
-/
import Derived.Test.YtidfidknflcioaaTopRopePav
import Derived.Test.YtidfidknflcioaaTopRopePax
namespace Go.Proofs.Ytidfidknflcioaa
open Go.RowKit
set_option linter.unusedVariables false

theorem szCells_one (l : List Sz) : ∀ u ∈ szCells l, u.oneCell' = true := by
  intro u hu
  unfold szCells at hu
  obtain ⟨p, _, hu⟩ := List.mem_flatMap.1 hu
  simp at hu
  rcases hu with rfl | rfl <;> rfl
theorem szCells_of (l : List Sz) (j : Nat) (u : Value) (h : (szCells l)[j]? = some u) : ∃ k p, l[k]? = some p ∧ ((j = k * 2 ∧ u = .int .i64 (p.1 : Int)) ∨ (j = k * 2 + 1 ∧ u = .int .i64 (p.2 : Int))) := by
  have hj := (List.getElem?_eq_some_iff.1 h).1
  rw [szCells_len] at hj
  obtain ⟨p, hp⟩ : ∃ p, l[j / 2]? = some p := ⟨_, List.getElem?_eq_getElem (by omega)⟩
  obtain ⟨q1, q2⟩ := szCells_get l _ p hp
  refine ⟨j / 2, p, hp, ?_⟩
  by_cases e : j % 2 = 0
  · have e2 : j / 2 * 2 = j := by omega
    rw [e2, h] at q1
    exact Or.inl ⟨e2.symm, by simpa using q1⟩
  · have e2 : j / 2 * 2 + 1 = j := by omega
    rw [e2, h] at q2
    exact Or.inr ⟨e2.symm, by simpa using q2⟩
theorem SzIn.seg {w : World} {v : Value} {l : List Sz} (h : SzIn w v l) : Seg w 2 v l.length (szCells l) := by
  obtain ⟨a, c, h1, h2, h3, h4⟩ := h
  refine ⟨szCells_len l, szCells_one l, a, c, h1, h2, h3, fun j u hu => ?_⟩
  obtain ⟨k, p, hp, h⟩ := szCells_of l j u hu
  obtain ⟨b, o, e, c1, c2⟩ := h4 k p hp
  rcases h with ⟨rfl, rfl⟩ | ⟨rfl, rfl⟩
  · exact ⟨b, o, e, c1⟩
  · exact ⟨b, o, e, by rw [← Nat.add_assoc]; exact c2⟩
theorem szCells_set (l : List Sz) (i x y : Nat) : szCells (l.set i (x, y)) = ((szCells l).set (i * 2) (.int .i64 (x : Int))).set (i * 2 + 1) (.int .i64 (y : Int)) := by
  induction l generalizing i with
  | nil => simp [szCells]
  | cons q l ih =>
    have e : ∀ q l, szCells (q :: l) = .int .i64 (q.1 : Int) :: .int .i64 (q.2 : Int) :: szCells l := fun q l => by simp [szCells]
    cases i with
    | zero => simp [e]
    | succ i =>
      rw [List.set_cons_succ, e, e, ih i]
      have e1 : (i + 1) * 2 = i * 2 + 1 + 1 := by omega
      rw [e1]
      simp
theorem SzIn.drop {w : World} {a : Option Addr} {n cap : Nat} {l : List Sz} (h : SzIn w (.slice a n cap) l) (k : Nat) (hk : k ≤ l.length) {b o : Nat} (ha : a = some ⟨b, o, none⟩) {U : Option Addr} (hU : (if cap = k then (some ⟨b, o, none⟩ : Option Addr) else some ⟨b, o + k * 2, none⟩) = U) :
    SzIn w (.slice U (n - k) (cap - k)) (l.drop k) := by
  obtain ⟨h1, h2, h3, h4⟩ := h.cells
  have hl : (l.drop k).length = n - k := by rw [List.length_drop]; omega
  refine ⟨U, cap - k, by rw [hl], by omega, by omega, fun j p hj => ?_⟩
  rw [List.getElem?_drop] at hj
  obtain ⟨b', o', e, c1, c2⟩ := h4 (k + j) p hj
  rw [ha] at e
  cases e
  have hlt := (List.getElem?_eq_some_iff.1 hj).1
  rw [if_neg (by omega)] at hU
  refine ⟨b, o + k * 2, hU.symm, ?_, ?_⟩
  · have e : o + k * 2 + j * 2 = o + (k + j) * 2 := by omega
    rw [e]; exact c1
  · have e : o + k * 2 + j * 2 + 1 = o + (k + j) * 2 + 1 := by omega
    rw [e]; exact c2
theorem szCells_flat (els : List (List Sz)) : (els.map szCells).flatten = szCells els.flatten := by
  induction els with
  | nil => rfl
  | cons x l ih => rw [List.map_cons, List.flatten_cons, List.flatten_cons, ih, szCells_app]

def SzRet (l : List Sz) (w : World) : Ending → World → Prop := fun e w' => ∃ v, e = .returned v ∧ SzIn w' v l ∧ Below w.heap.size w w'

theorem pieces_len (p : RPar) (n : Nat) (h : 1 ≤ p.leaf) : (piecesS p n).length ≤ n := by
  unfold piecesS pcsN
  simp only [List.length_map, List.length_range]
  unfold manyN
  rcases Nat.eq_zero_or_pos n with e | e
  · subst e
    rw [Nat.zero_add, Nat.div_eq_of_lt (by omega)]
    omega
  · refine Nat.div_le_of_le_mul ?_
    have : p.leaf * 1 ≤ p.leaf * n := Nat.mul_le_mul_left _ e
    have h2 : 1 * n ≤ p.leaf * n := Nat.mul_le_mul_right _ h
    have h3 : p.leaf - 1 + n ≤ (p.leaf - 1) * n + n := by
      have : (p.leaf - 1) * 1 ≤ (p.leaf - 1) * n := Nat.mul_le_mul_left _ e
      omega
    have h4 : (p.leaf - 1) * n + n = p.leaf * n := by
      rw [← Nat.succ_mul]; congr 1; omega
    omega

theorem totS_app (a b : List Sz) : totS (a ++ b) = ((totS a).1 + (totS b).1, (totS a).2 + (totS b).2) := by simp [totS]
theorem totS_take_le (l : List Sz) (k : Nat) : (totS (l.take k)).1 ≤ (totS l).1 := by
  have h := totS_app (l.take k) (l.drop k)
  rw [List.take_append_drop] at h
  rw [h]
  exact Nat.le_add_right _ _
def BelS (w : World) (W : World) : Prop := Below w.heap.size w W

set_option maxHeartbeats 4000000 in
set_option maxRecDepth 100000 in
theorem afterInsert_any (r : Nat) (p : RPar) (v : Value) (l : List Sz) (b0 n : Nat) (w : World) (hp : ParAt w r p) (ho : POk p) (hv : SzIn w v l) (hl : SzOk l) (hb0 : b0 ≤ (totS l).1) (ht : (totS l).1 ≤ 50000) (hn : n ≤ 50000) :
    Calls Try.prog 34 #[.pointer (some ⟨r, 0, none⟩), v, .int .i64 (b0 : Int), .int .i64 (n : Int)] w (SzRet (insS p l b0 n) w) := by
  have hleaf := ho.leaf
  obtain ⟨T, hT⟩ : ∃ T, insS p l b0 n = T := ⟨_, rfl⟩
  rw [hT]
  have HT := Lib.hid hT
  clear hT
  have HV := Lib.hid hv
  have HP := Lib.hid hp
  have HO := Lib.hid ho
  have HL := Lib.hid hl
  have hlen := hl.1
  by_cases h0 : n = 0
  · subst h0
    clear hv hp ho hl
    go_enter Try.func34, Try.ntmps34
    go_wp2_with fail
    go_ret
    exact ⟨_, rfl, by rw [← HT.out, insS, if_pos rfl]; exact HV.out, Below.refl _ _⟩
  · have h0' : ¬ (n : Int) = 0 := by omega
    by_cases h1 : l = []
    · have E1 := Lib.hid (show T = piecesS p n by rw [← HT.out]; unfold insS; rw [if_neg h0, if_pos h1])
      subst h1
      obtain ⟨a, cap, rfl, h2, h3, _⟩ := hv
      have PC := Lib.hid (piecesR_any r p n w hp ho (by omega))
      clear hp ho hl
      go_enter Try.func34, Try.ntmps34
      go_wp2_with fail
      refine PC.out.mono ?_
      rintro e w1 ⟨v', rfl, hrow, hb⟩
      have FIN := Lib.hid (And.intro (SzIn.row hrow) hb)
      clear hrow hb
      go_wp2_with fail
      go_ret
      exact ⟨_, rfl, by rw [E1.out]; exact FIN.out.1, FIN.out.2⟩
    · obtain ⟨ia, ib⟩ := endsS_in l b0 hb0 h1
      have EN := Lib.hid (ends_any v l b0 w hv hl (by omega))
      obtain ⟨i, hi⟩ : ∃ i, (endsS l b0).1 = i := ⟨_, rfl⟩
      obtain ⟨b, hb⟩ : ∃ b, (endsS l b0).2 = b := ⟨_, rfl⟩
      obtain ⟨⟨x, y⟩, hx⟩ : ∃ q, l[i]? = some q := ⟨_, List.getElem?_eq_getElem (by omega)⟩
      have hgd : l.getD i (0, 0) = (x, y) := by rw [List.getD_eq_getElem?_getD, hx]; rfl
      have bx := hl.2 _ (List.mem_of_getElem? hx)
      have E1 : T = if x + n ≤ p.leaf then l.set i (x + n, p.gr y (x + n)) else l.take i ++ piecesS p (x + n) ++ l.drop (i + 1) := by
        rw [← HT.out]
        unfold insS
        rw [if_neg h0, if_neg h1, hi, hgd]
      have hx5 : x ≤ 50000 := by
        have h8 := totS_take l i _ hx
        have h9 := totS_take_le l (i + 1)
        rw [h8] at h9
        simp only at h9
        omega
      rw [hi, hb] at EN
      simp only at bx
      have E1 := Lib.hid E1
      obtain ⟨a, cap, rfl, h2, h3, hc⟩ := hv
      obtain ⟨g, o, rfl, c1, c2⟩ := hc i _ hx
      have HX := Lib.hid hx
      have ilt : i < l.length := by omega
      have hlp : 0 < l.length := by omega
      clear hc hp ho hl hx hgd hi hb ia ib h1
      by_cases hle : x + n ≤ p.leaf
      · have E2 := E1.out
        rw [if_pos hle] at E2
        have E2 := Lib.hid E2
        have CL := Lib.hid (clone_leaf _ _ _ w HV.out.seg (by omega))
        have c5 := HP.out.2.2.2
        have hle' : (x : Int) + (n : Int) ≤ (p.leaf : Int) := by omega
        go_enter Try.func34, Try.ntmps34
        go_wp2_with fail
        refine EN.out.mono ?_
        rintro e w1 ⟨rfl, hw1⟩
        obtain rfl := hw1.symm
        clear hw1
        go_wp2_with fail
        refine CL.out.mono ?_
        rintro e w2 ⟨v2, rfl, hown, hb2⟩
        obtain ⟨q1, q2⟩ := szCells_get l i _ HX.out
        obtain ⟨a2, cp2, rfl⟩ := wrow_sh hown
        obtain ⟨g2, rfl, _, _⟩ := wrow_cell hown q1
        have HB2 := Lib.hid hb2
        have HO2 := Lib.hid hown
        have d1 := old_cell hb2 c1
        have d2 := old_cell hb2 c2
        have GR := Lib.hid (grownR_any r p y (x + n) w2 (HP.out.below hb2) HO.out bx.2 hle)
        obtain ⟨G, hG⟩ : ∃ G, p.gr y (x + n) = G := ⟨_, rfl⟩
        rw [hG] at GR E2
        clear hb2 hown CL EN E1 q1 q2 hG
        rw [Int.natCast_add] at GR
        go_wp2_with fail
        refine GR.out.mono ?_
        rintro e w3 ⟨rfl, hb3⟩
        have HO3 := Lib.hid (row_kept HO2.out hb3)
        have HB3 := Lib.hid (HB2.out.trans (hb3.mono HB2.out.size))
        obtain ⟨q1, q2⟩ := szCells_get l i _ HX.out
        obtain ⟨_, e1, m1, f1⟩ := wrow_cell HO3.out q1
        cases e1
        obtain ⟨_, e1, m2, f2⟩ := wrow_cell HO3.out q2
        cases e1
        have s1 := wrow_set HO3.out (i * 2) (.int .i64 ((x + n : Nat) : Int))
        have s2 := wrow_set s1 (i * 2 + 1) (.int .i64 (G : Int))
        obtain ⟨_, e1, n2, k2⟩ := wrow_cell s1 (j := i * 2 + 1) (u := .int .i64 (y : Int)) (by rw [List.getElem?_set_ne (by omega)]; exact q2)
        cases e1
        have hge : w.heap.size ≤ g2 := (HO3.out.lt g2 rfl).1
        have FIN := Lib.hid (And.intro (SzIn.row (l := l.set i (x + n, G)) (by rw [List.length_set, szCells_set]; exact s2)) ((HB3.out.setCell (p := ⟨g2, i * 2, none⟩) hge (.int .i64 ((x + n : Nat) : Int))).setCell (p := ⟨g2, i * 2 + 1, none⟩) hge (.int .i64 (G : Int))))
        clear s1 s2 q1 q2 hb3 GR d1 d2
        go_wp2_with fail
        go_ret
        exact ⟨_, rfl, by rw [E2.out]; exact FIN.out.1, FIN.out.2⟩
      · have E2 := E1.out
        rw [if_neg hle] at E2
        have E2 := Lib.hid E2
        have c5 := HP.out.2.2.2
        have hle' : ¬ (x : Int) + (n : Int) ≤ (p.leaf : Int) := by omega
        go_enter Try.func34, Try.ntmps34
        go_wp2_with fail
        refine EN.out.mono ?_
        rintro e w1 ⟨rfl, hw1⟩
        obtain rfl := hw1.symm
        clear hw1
        obtain ⟨UA, hUA⟩ : ∃ UA, (if cap = i + 1 then (some ⟨g, o, none⟩ : Option Addr) else some ⟨g, o + (i + 1) * 2, none⟩) = UA := ⟨_, rfl⟩
        have hi1 : i + 1 ≤ l.length := by omega
        have SD := Lib.hid (fun (W : World) (hW : Below w.heap.size w W) => SzIn.drop (HV.out.below hW) (i + 1) hi1 rfl hUA)
        have ST := Lib.hid (fun (W : World) (hW : Below w.heap.size w W) => SzIn.take (HV.out.below hW) i (by omega))
        have S0 : BelS w w.drew := (Below.refl _ w).drew
        have s0 : ∀ y : WIn (BelS w), y.w.cell? ⟨g, o + i * 2, none⟩ = some (.int .i64 (x : Int)) := fun y => old_cell y.h c1
        haveI ne : Nonempty (WIn (BelS w)) := ⟨⟨w.drew, S0⟩⟩
        have PC := Lib.hid (piecesR_any r p (x + n) w.drew (HP.out.below S0) HO.out (by omega))
        rw [Int.natCast_add] at PC
        have hpl := pieces_len p (x + n) hleaf.1
        obtain ⟨ps, hps⟩ : ∃ ps, piecesS p (x + n) = ps := ⟨_, rfl⟩
        rw [hps] at PC E2 hpl
        clear hps
        go_upto_region 11 with fail
        refine wp_normal ?_
        refine wp_region_plan 16 (BelS w) rfl ?_
        refine wpN_seg [0, 1, 2, 3, 4, 5, 6, 7, 8, 9, 10, 12, 13, 14, 15] (by kernel_rfl) (by kernel_rfl) (by kernel_rfl) (by kernel_rfl) (by decide) (fun _ _ _ _ _ h => h) S0 ?_
        simp only [pick, List.map_cons, List.map_nil, List.getElem?_cons_succ, List.getElem?_cons_zero, Option.getD_some]
        repeat (go_big_quiet_step (fail))
        refine wpQuiet_nil ?_
        clear s0 ne
        refine wpN_one 11 _ (by kernel_rfl) rfl ?_
        refine NextAt.held ?_
        intro K hK
        go_simp
        refine PC.out.mono ?_
        rintro e w2 ⟨v2, rfl, hown, hb2⟩
        obtain ⟨pa, pcap, rfl⟩ := wrow_sh hown
        have B2 : Below w.heap.size w w2 := S0.trans (hb2.mono (by simp))
        have HB2 := Lib.hid B2
        have HO2 := Lib.hid hown
        clear hb2 hown PC
        go_simp
        refine hK _ _ B2 ?_
        clear hK K B2
        refine wpN_one 16 _ (by kernel_rfl) rfl ?_
        refine NextAt.free (by kernel_rfl) ?_
        intro K hK
        go_simp
        refine hK _ _ ?_
        clear hK K
        refine wpN_one 17 _ (by kernel_rfl) rfl ?_
        refine NextAt.free (by kernel_rfl) ?_
        intro K hK
        go_simp
        have B3 : Below w.heap.size w (w2.alloc (.cells #[.slice (some ⟨g, o, none⟩) i cap, .slice pa ps.length pcap, .slice UA (l.length - (i + 1)) (cap - (i + 1))] 37)) := HB2.out.alloc HB2.out.size _
        have hdl : (l.drop (i + 1)).length = l.length - (i + 1) := List.length_drop
        have htl : (l.take i).length = i := by rw [List.length_take]; omega
        have G1 := (ST.out _ B3).seg
        rw [htl] at G1
        have G3 := (SD.out _ B3).seg
        rw [hdl] at G3
        have G2 := (Seg.of_row HO2.out (szCells_one ps)).below ((Below.refl w2.heap.size w2).alloc (Nat.le_refl _) (.cells #[.slice (some ⟨g, o, none⟩) i cap, .slice pa ps.length pcap, .slice UA (l.length - (i + 1)) (cap - (i + 1))] 37))
        have hnew := heap_alloc_new w2 (.cells #[.slice (some ⟨g, o, none⟩) i cap, .slice pa ps.length pcap, .slice UA (l.length - (i + 1)) (cap - (i + 1))] 37)
        have CC := Lib.hid (concat_leaf w2.heap.size [(.slice (some ⟨g, o, none⟩) i cap, i, szCells (l.take i)), (.slice pa ps.length pcap, ps.length, szCells ps), (.slice UA (l.length - (i + 1)) (cap - (i + 1)), l.length - (i + 1), szCells (l.drop (i + 1)))] _ (fun k y hy => by
          match k, hy with
          | 0, hy => simp at hy; subst hy; exact ⟨by rw [cell_of hnew]; rfl, G1⟩
          | 1, hy => simp at hy; subst hy; exact ⟨by rw [cell_of hnew]; rfl, G2⟩
          | 2, hy => simp at hy; subst hy; exact ⟨by rw [cell_of hnew]; rfl, G3⟩
          | k + 3, hy => simp at hy) (by simp [num_leaf]; omega) (by simp))
        have e3 : num_leaf [(.slice (some ⟨g, o, none⟩) i cap, i, szCells (l.take i)), (.slice pa ps.length pcap, ps.length, szCells ps), (.slice UA (l.length - (i + 1)) (cap - (i + 1)), l.length - (i + 1), szCells (l.drop (i + 1)))] 3 = (l.take i ++ ps ++ l.drop (i + 1)).length := by
          simp [num_leaf, htl, hdl]
        have e4 : cat_leaf [(.slice (some ⟨g, o, none⟩) i cap, i, szCells (l.take i)), (.slice pa ps.length pcap, ps.length, szCells ps), (.slice UA (l.length - (i + 1)) (cap - (i + 1)), l.length - (i + 1), szCells (l.drop (i + 1)))] 3 = szCells (l.take i ++ ps ++ l.drop (i + 1)) := by
          simp [cat_leaf, szCells_app]
        have CC := CC.out
        change Calls _ _ _ _ (Own_leaf (num_leaf _ 3) (cat_leaf _ 3) _) at CC
        rw [e3, e4, ← E2.out] at CC
        refine CC.mono ?_
        rintro e w4 ⟨v4, rfl, hown4, hb4⟩
        have FIN := Lib.hid (And.intro (SzIn.row hown4) (B3.trans (hb4.mono B3.size)))
        clear B3 G1 G2 G3 hnew CC e3 e4 hown4 hb4 hdl htl
        go_simp
        refine hK _ _ ?_
        clear hK K
        refine wpN_one 18 _ (by kernel_rfl) rfl ?_
        refine NextAt.free (by kernel_rfl) ?_
        intro K hK
        go_simp
        refine hK _ _ ?_
        clear hK K
        refine wpN_done (by kernel_rfl) ?_
        go_wp2_with fail
        go_ret
        exact ⟨_, rfl, FIN.out.1, FIN.out.2⟩

end Go.Proofs.Ytidfidknflcioaa
