/-
  The walk of ReadPolicy. Conditions: Go's own variables hold what their initialisers lay.
-/
import Derived.Test.YtifibhaalepmgaaDoorReadPol
import Derived.Deep.CutRange
import Derived.IntWalk
import Derived.Deep.DeepCutAuto
namespace Go.Proofs.YtifibhaalepmgaaDoor
open Go.RowKit
set_option linter.unusedVariables false

theorem res3 {W : World} {b : Nat} {x y z a c d : Value} {t : TypeId} (h : W.heap[b]? = some (.cells #[x, y, z] t (0, 0))) :
    (W.setCell ⟨b, 0, none⟩ a).cell? ⟨b, 0, none⟩ = some a ∧ ((W.setCell ⟨b, 0, none⟩ a).setCell ⟨b, 1, none⟩ c).cell? ⟨b, 1, none⟩ = some c ∧ (((W.setCell ⟨b, 0, none⟩ a).setCell ⟨b, 1, none⟩ c).setCell ⟨b, 2, none⟩ d).cell? ⟨b, 2, none⟩ = some d :=
  ⟨(cell_of (block_setCell h 0 a) 0).trans rfl, (cell_of (block_setCell (block_setCell h 0 a) 1 c) 1).trans rfl, (cell_of (block_setCell (block_setCell (block_setCell h 0 a) 1 c) 2 d) 2).trans rfl⟩

theorem res3a {W : World} {b : Nat} {x y z a c d : Value} {t : TypeId} (h : W.heap[b]? = some (.cells #[x, y, z] t (0, 0))) :
    (∀ o, ((((W.setCell ⟨b, 0, none⟩ a).setCell ⟨b, 1, none⟩ c).setCell ⟨b, 2, none⟩ d).alloc o).cell? ⟨b, 0, none⟩ = some a) ∧ (∀ o, ((((W.setCell ⟨b, 0, none⟩ a).setCell ⟨b, 1, none⟩ c).setCell ⟨b, 2, none⟩ d).alloc o).cell? ⟨b, 1, none⟩ = some c) ∧
      (∀ o, ((((W.setCell ⟨b, 0, none⟩ a).setCell ⟨b, 1, none⟩ c).setCell ⟨b, 2, none⟩ d).alloc o).cell? ⟨b, 2, none⟩ = some d) := by
  have h3 := block_setCell (block_setCell (block_setCell h 0 a) 1 c) 2 d
  have h4 : ∀ o, ((((W.setCell ⟨b, 0, none⟩ a).setCell ⟨b, 1, none⟩ c).setCell ⟨b, 2, none⟩ d).alloc o).heap[b]? = _ := fun o => (heap_alloc_old _ o (lt_of h3)).trans h3
  exact ⟨fun o => (cell_of (h4 o) 0).trans rfl, fun o => (cell_of (h4 o) 1).trans rfl, fun o => (cell_of (h4 o) 2).trans rfl⟩

theorem fields_at (w1 W : World) (B : Nat) (a : ByteArray) (hW : W = w1.drew ∨ ∃ o, W = (w1.alloc o).drew) (hl : LibAt w1) (ca : w1.cell? ⟨B, 0, none⟩ = some (.string a)) :
    Calls Tryd.prog 26 #[.string { data := #[101, 120, 97, 99, 116, 32, 115, 116, 101, 112, 115, 32, 104, 97, 108, 102, 32, 100, 111, 117, 98, 108, 101, 32, 115, 111, 114, 116, 101, 100] }] W (fun e w2 => ∃ B2, e = .returned (.slice (some ⟨B2, 0, none⟩) wordsL.length wordsL.length) ∧ w2.heap[B2]? = some (.cells (wordsL.map Value.string).toArray 9 (0, 0)) ∧ w2.cell? ⟨B, 0, none⟩ = some (.string a) ∧ Below w1.heap.size w1 w2 ∧ ¬ w2.heap.size = B ∧ w1.heap.size ≤ w2.heap.size ∧ ∀ o, W = (w1.alloc o).drew → w2.heap[w1.heap.size]? = some o) := by
  have hb : Below w1.heap.size w1 W := by
    rcases hW with rfl | ⟨o, rfl⟩
    · exact (Below.refl _ _).drew
    · exact ((Below.refl _ _).alloc (Nat.le_refl _) _).drew
  refine (fields_new W (hl.below hb).tabs).mono ?_
  rintro e w2 ⟨B2, he, _, hk, hb2⟩
  have hb3 := hb.trans (hb2.mono hb.size)
  have hlt := World.block_lt_of_cell? w1 _ ca
  have := hb3.size
  have hlt' : B < w1.heap.size := hlt
  exact ⟨B2, he, hk, (hb3.cell (p := ⟨B, 0, none⟩) hlt).trans ca, hb3, by omega, this, fun o hW' => by
    subst hW'
    exact (hb2.block w1.heap.size (show w1.heap.size < (w1.alloc o).heap.size by simp)).trans (heap_alloc_new w1 o)⟩

set_option maxHeartbeats 8000000 in
set_option maxRecDepth 100000 in
theorem readPolicy_any (s : ByteArray) (w : World) (hl : LibAt w) :
    Calls Tryd.prog 19 #[.string s] w (ReadIs (readPol s.data.toList) w) := by
  have el : s.data.toList.length = s.size := Array.length_toList
  have LL : Hid (∀ {w' : World}, Below w.heap.size w w' → LibAt w') := Lib.hid (fun h => hl.below h)
  by_cases hs : s.size ≤ 200000
  case neg =>
    have E := Lib.hid (show readPol s.data.toList = (0, 0, 0, 4) by unfold readPol; rw [if_pos (by omega)])
    have h : 200000 < (s.size : Int) := by omega
    rw [E.out]
    clear el hl hs
    go_enter Tryd.func19, Tryd.ntmps19
    go_wp2_with fail
    exact bodyPost_ret (v := .tuple #[.agg #[.int .i64 0, .int .i64 0, .int .i64 0], .int .i64 4]) (by simp [results, Tryd.results19, go_sem]) rfl ⟨rfl, by go_grown⟩
  case pos =>
    have E := Lib.hid (show readPol s.data.toList = partsPol (parts 32 s.data.toList) by unfold readPol; rw [if_neg (by omega)])
    have h : (s.size : Int) ≤ 200000 := by omega
    have W0 : Below w.heap.size w (w.alloc (.cells #[.int .i64 0, .int .i64 0, .int .i64 0] 23)) := by go_grown
    have SP := Lib.hid (split_any s (w.alloc (.cells #[.int .i64 0, .int .i64 0, .int .i64 0] 23)) (by omega) (LL.out W0))
    have HW0 := Lib.hid W0
    have HZ := Lib.hid hs
    rw [E.out]
    clear el hl hs W0
    go_enter Tryd.func19, Tryd.ntmps19
    go_wp2_with fail
    refine SP.out.mono ?_
    rintro e w1 ⟨ps, hps, hpz, B, rfl, hB, hblk, hb1⟩
    have HPS := Lib.hid hps
    have HPZ := Lib.hid hpz
    have HBL := Lib.hid hblk
    have B1 := Lib.hid (HW0.out.trans (hb1.mono (by simp)))
    have RV := Lib.hid (box_keep (w := w) (hb1.mono (by simp)))
    have hRB : w.heap.size ≠ B := by rw [World.size_alloc] at hB; omega
    have hlt := lt_of hblk
    clear hps hpz hblk hb1
    rcases ps with _ | ⟨a, r⟩
    · exact absurd HPS.out.symm (parts_ne _ _)
    have ca : w1.cell? ⟨B, 0, none⟩ = some (.string a) := by rw [cell_of HBL.out]; rfl
    have HL0 : 0 < (a :: r).length := by simp
    have CA1 := Lib.hid ca
    have LB1 := Lib.hid (LL.out B1.out)
    have kr := kindOf_range a.data.toList
    have ke : kindOf a.data.toList - 1 + 1 = kindOf a.data.toList := by omega
    have HKE := Lib.hid ke
    have hsz1 := B1.out.size
    have hB1 : B ≠ w1.heap.size := Nat.ne_of_lt hlt
    have hcaA : ∀ o, (w1.alloc o).cell? ⟨B, 0, none⟩ = some (.string a) := fun o => by rw [World.cell?_alloc_old _ _ _ hB1]; exact ca
    have HCA := Lib.hid hcaA
    have hB1' : ¬ w1.heap.size = B := by omega
    clear ke hcaA
    obtain ⟨kr1, kr2⟩ := kr
    generalize hK : kindOf a.data.toList = K at *
    have HK := Lib.hid hK
    clear hK
    have hwk : IntKind.i64.wrap K = K := IntWalk.i64_in _ (by omega)
    go_upto_region 4 with fail
    go_cut [5] (fun s5 wx => ∃ P, s5 = .pointer (some ⟨P, 0, none⟩) ∧ w1.heap.size ≤ P ∧ wx.heap[P]? = some (.cells #[.int .i64 K, .int .i64 0, .int .i64 0] 23 (0, 0)) ∧ Below w1.heap.size w1 wx)
    case first =>
      have hcaA := HCA.out
      go_region_with (first
        | (go_at_call 26; refine (fields_at w1 _ B a (by first | exact Or.inl rfl | exact Or.inr ⟨_, rfl⟩) LB1.out CA1.out).mono ?_; rintro e w2 ⟨B2, rfl, hblk2, ca2, hb2, hB2n, hs2, hkp⟩; (try (have hkp1 := hkp _ rfl; have q0 : w2.cell? ⟨w1.heap.size, 0, none⟩ = some (.int .i64 0) := (cell_of hkp1 0).trans rfl; have q1 : w2.cell? ⟨w1.heap.size, 1, none⟩ = some (.int .i64 0) := (cell_of hkp1 1).trans rfl; have q2 : w2.cell? ⟨w1.heap.size, 2, none⟩ = some (.int .i64 0) := (cell_of hkp1 2).trans rfl; have qf : ∀ j, w2.frozen? ⟨w1.heap.size, j, none⟩ = false := fun j => free_of hkp1 j; have HKP := Lib.hid hkp1; clear hkp1)); clear hkp; have hB2m : ¬ B = w2.heap.size := fun y => hB2n y.symm; have ca2a : ∀ o, (w2.alloc o).cell? ⟨B, 0, none⟩ = some (.string a) := fun o => (World.cell?_alloc_old _ _ _ hB2m).trans ca2; have HB2 := Lib.hid hb2; have HK2 := Lib.hid hblk2; clear hblk2 hb2)
        | (go_at_call 37; refine (index_words _ a _ (by first | exact HK2.out | exact (heap_alloc_old _ _ (lt_of HK2.out)).trans HK2.out)).mono ?_; rw [HK.out]; rintro e w3 ⟨rfl, rfl⟩))
      all_goals
        go_wp2_with fail
        go_meet
        first
          | exact ⟨_, rfl, HB2.out.size, heap_alloc_new _ _, HB2.out.alloc HB2.out.size _⟩
          | exact ⟨_, rfl, Nat.le_refl _, by (rw [block_setCell (block_setCell (block_setCell HKP.out 0 _) 1 _) 2 _]; rfl), ((HB2.out.setCell (p := ⟨w1.heap.size, 0, none⟩) (Nat.le_refl _) _).setCell (p := ⟨w1.heap.size, 1, none⟩) (Nat.le_refl _) _).setCell (p := ⟨w1.heap.size, 2, none⟩) (Nat.le_refl _) _⟩
    case rest =>
      obtain ⟨P, rfl, hP, hPB, hbx⟩ := hcut
      have BX := Lib.hid (B1.out.trans (hbx.mono hsz1))
      have PB := Lib.hid hPB
      have PSB := Lib.hid ((hbx.block B hlt).trans HBL.out)
      have RVB := Lib.hid ((hbx.block w.heap.size (lt_of RV.out)).trans RV.out)
      have hszx := hbx.size
      have hPr : w.heap.size ≠ P := by have := lt_of RV.out; omega
      have p0 : wc.cell? ⟨P, 0, none⟩ = some (.int .i64 K) := (cell_of hPB 0).trans rfl
      have p1 : wc.cell? ⟨P, 1, none⟩ = some (.int .i64 0) := (cell_of hPB 1).trans rfl
      have p2 : wc.cell? ⟨P, 2, none⟩ = some (.int .i64 0) := (cell_of hPB 2).trans rfl
      have pf : ∀ j, wc.frozen? ⟨P, j, none⟩ = false := fun j => free_of hPB j
      have v0 : wc.cell? ⟨w.heap.size, 0, none⟩ = some (.int .i64 0) := (cell_of RVB.out 0).trans rfl
      have v1 : wc.cell? ⟨w.heap.size, 1, none⟩ = some (.int .i64 0) := (cell_of RVB.out 1).trans rfl
      have v2 : wc.cell? ⟨w.heap.size, 2, none⟩ = some (.int .i64 0) := (cell_of RVB.out 2).trans rfl
      have vf : ∀ j, wc.frozen? ⟨w.heap.size, j, none⟩ = false := fun j => free_of RVB.out j
      clear hbx hPB hwk
      have BEL := Lib.hid BX.out
      have hwP : w.heap.size ≤ P := by omega
      rcases r with _ | ⟨b, r⟩
      · have ER := Lib.hid (show partsPol (parts 32 s.data.toList) = synPol by rw [← HPS.out]; rfl)
        go_wp2_with fail
        all_goals
          obtain ⟨s0, s1, s2⟩ := res3 (a := .int .i64 0) (c := .int .i64 0) (d := .int .i64 0) RVB.out
          refine bodyPost_ret (v := .tuple #[.agg #[.int .i64 0, .int .i64 0, .int .i64 0], .int .i64 8]) (by simp [results, Tryd.results19, go_sem, s0, s1, s2]) rfl ⟨by rw [ER.out]; rfl, ?_⟩
          repeat (first | exact BEL.out | refine Below.setCell ?_ (p := ⟨_, _, none⟩) (by first | exact Nat.le_refl _ | exact hwP) _)
      have hbz : b.size ≤ 1000000 := by have := HPZ.out b (by simp); have := HZ.out; omega
      have cb : wc.cell? ⟨B, 1, none⟩ = some (.string b) := (cell_of PSB.out 1).trans rfl
      have NB := Lib.hid (number_any b wc hbz (LL.out BX.out))
      by_cases h2 : K = 2
      · have k2 : (K == 2) = true := by simp [h2]
        have k1 : 1 ≤ K := by omega
        rcases r with _ | ⟨c, r⟩
        · have ER := Lib.hid (show partsPol (parts 32 s.data.toList) = synPol by rw [← HPS.out]; show (if 1 ≤ kindOf a.data.toList ∧ kindOf a.data.toList ≠ 2 then _ else _) = _; rw [if_neg (by rw [HK.out]; omega)])
          clear h2
          go_wp2_with fail
          refine NB.out.mono ?_
          rintro e w5 ⟨n, rfl, hn, hb5⟩
          have PB := Lib.hid ((hb5.block P (lt_of PB.out)).trans PB.out)
          have PSB := Lib.hid ((hb5.block B (lt_of PSB.out)).trans PSB.out)
          have RVB := Lib.hid ((hb5.block w.heap.size (lt_of RVB.out)).trans RVB.out)
          have BEL := Lib.hid (BEL.out.trans (hb5.mono BEL.out.size))
          have p0 : w5.cell? ⟨P, 0, none⟩ = some (.int .i64 K) := (cell_of PB.out 0).trans rfl
          have p1 : w5.cell? ⟨P, 1, none⟩ = some (.int .i64 0) := (cell_of PB.out 1).trans rfl
          have p2 : w5.cell? ⟨P, 2, none⟩ = some (.int .i64 0) := (cell_of PB.out 2).trans rfl
          have pf : ∀ j, w5.frozen? ⟨P, j, none⟩ = false := fun j => free_of PB.out j
          have v0 : w5.cell? ⟨w.heap.size, 0, none⟩ = some (.int .i64 0) := (cell_of RVB.out 0).trans rfl
          have v1 : w5.cell? ⟨w.heap.size, 1, none⟩ = some (.int .i64 0) := (cell_of RVB.out 1).trans rfl
          have v2 : w5.cell? ⟨w.heap.size, 2, none⟩ = some (.int .i64 0) := (cell_of RVB.out 2).trans rfl
          have vf : ∀ j, w5.frozen? ⟨w.heap.size, j, none⟩ = false := fun j => free_of RVB.out j
          have RVB := Lib.hid (show (w5.setCell ⟨P, 1, none⟩ (.int .i64 n)).heap[w.heap.size]? = _ from (Below.heap_setCell _ _ _ w.heap.size hPr).trans RVB.out)
          clear hb5 hn
          go_wp2_with fail
          all_goals
            obtain ⟨s0, s1, s2⟩ := res3 (a := .int .i64 0) (c := .int .i64 0) (d := .int .i64 0) RVB.out
            refine bodyPost_ret (v := .tuple #[.agg #[.int .i64 0, .int .i64 0, .int .i64 0], .int .i64 8]) (by simp [results, Tryd.results19, go_sem, s0, s1, s2]) rfl ⟨by rw [ER.out]; rfl, ?_⟩
            repeat (first | exact BEL.out | refine Below.setCell ?_ (p := ⟨_, _, none⟩) (by first | exact Nat.le_refl _ | exact hwP) _)
        rcases r with _ | ⟨d, r⟩
        · have hcz : c.size ≤ 1000000 := by have := HPZ.out c (by simp); have := HZ.out; omega
          have ER := Lib.hid (show partsPol (parts 32 s.data.toList) = (match progNum b.data.toList, progNum c.data.toList with | some s, some m => chkPol 2 s m | _, _ => synPol) by rw [← HPS.out]; show (if kindOf a.data.toList = 2 then _ else _) = _; rw [if_pos (by rw [HK.out]; exact h2)]; rfl)
          have HK2 := Lib.hid h2
          clear h2
          go_wp2_with fail
          refine NB.out.mono ?_
          rintro e w5 ⟨n, rfl, hn, hb5⟩
          have PB := Lib.hid ((hb5.block P (lt_of PB.out)).trans PB.out)
          have PSB := Lib.hid ((hb5.block B (lt_of PSB.out)).trans PSB.out)
          have RVB := Lib.hid ((hb5.block w.heap.size (lt_of RVB.out)).trans RVB.out)
          have BEL := Lib.hid (BEL.out.trans (hb5.mono BEL.out.size))
          have p0 : w5.cell? ⟨P, 0, none⟩ = some (.int .i64 K) := (cell_of PB.out 0).trans rfl
          have p1 : w5.cell? ⟨P, 1, none⟩ = some (.int .i64 0) := (cell_of PB.out 1).trans rfl
          have p2 : w5.cell? ⟨P, 2, none⟩ = some (.int .i64 0) := (cell_of PB.out 2).trans rfl
          have pf : ∀ j, w5.frozen? ⟨P, j, none⟩ = false := fun j => free_of PB.out j
          have v0 : w5.cell? ⟨w.heap.size, 0, none⟩ = some (.int .i64 0) := (cell_of RVB.out 0).trans rfl
          have v1 : w5.cell? ⟨w.heap.size, 1, none⟩ = some (.int .i64 0) := (cell_of RVB.out 1).trans rfl
          have v2 : w5.cell? ⟨w.heap.size, 2, none⟩ = some (.int .i64 0) := (cell_of RVB.out 2).trans rfl
          have vf : ∀ j, w5.frozen? ⟨w.heap.size, j, none⟩ = false := fun j => free_of RVB.out j
          have cc : w5.cell? ⟨B, 2, none⟩ = some (.string c) := (cell_of PSB.out 2).trans rfl
          have hPB2 : P ≠ B := by omega
          have NC := Lib.hid (number_any c (w5.setCell ⟨P, 1, none⟩ (.int .i64 n)) hcz (LL.out (BEL.out.setCell (p := ⟨P, 1, none⟩) hwP _)))
          have HN := Lib.hid hn
          have P5 : Hid ((w5.setCell ⟨P, 1, none⟩ (.int .i64 n)).heap[P]? = some (.cells #[.int .i64 K, .int .i64 n, .int .i64 0] 23 (0, 0))) := Lib.hid (by rw [block_setCell PB.out]; rfl)
          have V5 : Hid ((w5.setCell ⟨P, 1, none⟩ (.int .i64 n)).heap[w.heap.size]? = some (.cells #[.int .i64 0, .int .i64 0, .int .i64 0] 23 (0, 0))) := Lib.hid ((Below.heap_setCell _ _ _ w.heap.size hPr).trans RVB.out)
          have BEL5 := Lib.hid (BEL.out.setCell (p := ⟨P, 1, none⟩) hwP (.int .i64 n))
          clear hb5 hn
          go_wp2_with fail
          refine NC.out.mono ?_
          rintro e w6 ⟨m, rfl, hm, hb6⟩
          have P6 := Lib.hid ((hb6.block P (lt_of P5.out)).trans P5.out)
          have RVB := Lib.hid ((hb6.block w.heap.size (lt_of V5.out)).trans V5.out)
          have BEL := Lib.hid (BEL5.out.trans (hb6.mono BEL5.out.size))
          have q0 : w6.cell? ⟨P, 0, none⟩ = some (.int .i64 K) := (cell_of P6.out 0).trans rfl
          have q1 : w6.cell? ⟨P, 1, none⟩ = some (.int .i64 n) := (cell_of P6.out 1).trans rfl
          have q2 : w6.cell? ⟨P, 2, none⟩ = some (.int .i64 0) := (cell_of P6.out 2).trans rfl
          have qf : ∀ j, w6.frozen? ⟨P, j, none⟩ = false := fun j => free_of P6.out j
          have u0 : w6.cell? ⟨w.heap.size, 0, none⟩ = some (.int .i64 0) := (cell_of RVB.out 0).trans rfl
          have u1 : w6.cell? ⟨w.heap.size, 1, none⟩ = some (.int .i64 0) := (cell_of RVB.out 1).trans rfl
          have u2 : w6.cell? ⟨w.heap.size, 2, none⟩ = some (.int .i64 0) := (cell_of RVB.out 2).trans rfl
          have uf : ∀ j, w6.frozen? ⟨w.heap.size, j, none⟩ = false := fun j => free_of RVB.out j
          have HM := Lib.hid hm
          clear hb6 hm
          cases hx : progNum b.data.toList with
          | none =>
            cases hy : progNum c.data.toList with
            | none =>
              have ER := Lib.hid (ER.out.trans (by rw [hx, hy]))
              go_wp2_with fail
              all_goals
                obtain ⟨s0, s1, s2⟩ := res3 (a := .int .i64 0) (c := .int .i64 0) (d := .int .i64 0) RVB.out
                refine bodyPost_ret (v := .tuple #[.agg #[.int .i64 0, .int .i64 0, .int .i64 0], .int .i64 8]) (by simp [results, Tryd.results19, go_sem, s0, s1, s2]) rfl ⟨by rw [ER.out]; rfl, ?_⟩
                repeat (first | exact BEL.out | refine Below.setCell ?_ (p := ⟨_, _, none⟩) (by first | exact Nat.le_refl _ | exact hwP) _)
            | some mm =>
              have ER := Lib.hid (ER.out.trans (by rw [hx, hy]))
              go_wp2_with fail
              all_goals
                obtain ⟨s0, s1, s2⟩ := res3 (a := .int .i64 0) (c := .int .i64 0) (d := .int .i64 0) RVB.out
                refine bodyPost_ret (v := .tuple #[.agg #[.int .i64 0, .int .i64 0, .int .i64 0], .int .i64 8]) (by simp [results, Tryd.results19, go_sem, s0, s1, s2]) rfl ⟨by rw [ER.out]; rfl, ?_⟩
                repeat (first | exact BEL.out | refine Below.setCell ?_ (p := ⟨_, _, none⟩) (by first | exact Nat.le_refl _ | exact hwP) _)
          | some ss =>
            cases hy : progNum c.data.toList with
            | none =>
              have ER := Lib.hid (ER.out.trans (by rw [hx, hy]))
              go_wp2_with fail
              all_goals
                obtain ⟨s0, s1, s2⟩ := res3 (a := .int .i64 0) (c := .int .i64 0) (d := .int .i64 0) RVB.out
                refine bodyPost_ret (v := .tuple #[.agg #[.int .i64 0, .int .i64 0, .int .i64 0], .int .i64 8]) (by simp [results, Tryd.results19, go_sem, s0, s1, s2]) rfl ⟨by rw [ER.out]; rfl, ?_⟩
                repeat (first | exact BEL.out | refine Below.setCell ?_ (p := ⟨_, _, none⟩) (by first | exact Nat.le_refl _ | exact hwP) _)
            | some mm =>
              have PBX := Lib.hid P6.out
              have C := Lib.hid (checkPolicy_any K n m (w6.setCell ⟨P, 2, none⟩ (.int .i64 m)))
              have szp := lt_of PBX.out
              have szr := lt_of RVB.out
              have nep : ¬ P = w6.heap.size := by omega
              have ner : ¬ w.heap.size = w6.heap.size := by omega
              have nep' : ¬ w6.heap.size = P := by omega
              have ner' : ¬ w6.heap.size = w.heap.size := by omega
              have RVC := Lib.hid (show (w6.setCell ⟨P, 2, none⟩ (.int .i64 m)).heap[w.heap.size]? = _ from (Below.heap_setCell _ _ _ w.heap.size hPr).trans RVB.out)
              have BELC := Lib.hid (BEL.out.setCell (p := ⟨P, 2, none⟩) hwP (.int .i64 m))
              have ERc := Lib.hid (ER.out.trans (show _ = chkPol K n m by rw [hx, hy]; show chkPol 2 ss mm = _; rw [HK2.out, HN.out ss hx, HM.out mm hy]))
              go_wp2_with fail
              refine C.out.mono ?_
              rintro e w8 ⟨rfl, rfl, _⟩
              generalize hpe : polErr K n m = pe at *
              have HPE := Lib.hid hpe
              clear hpe
              by_cases hp : pe = 0
              · have HP0 := Lib.hid hp
                have hp' : (pe == 0) = true := by simp [hp]
                clear hp
                go_wp2_with fail
                obtain ⟨s0, s1, s2⟩ := res3a (a := .int .i64 K) (c := .int .i64 n) (d := .int .i64 m) RVC.out
                refine bodyPost_ret (v := .tuple #[.agg #[.int .i64 K, .int .i64 n, .int .i64 m], .int .i64 0]) (by simp [results, Tryd.results19, go_sem, s0, s1, s2]) rfl ⟨by rw [ERc.out]; unfold chkPol; rw [if_pos (HPE.out.trans HP0.out)], ?_⟩
                repeat (first | exact BELC.out | refine Below.setCell ?_ (p := ⟨_, _, none⟩) (by first | exact Nat.le_refl _ | exact hwP) _ | refine Below.alloc ?_ (by simpa [World.setCell] using BEL.out.size) _)
              · have HP0 := Lib.hid hp
                have hp' : (pe == 0) = false := by simpa using hp
                clear hp
                go_wp2_with fail
                obtain ⟨s0, s1, s2⟩ := res3a (a := .int .i64 0) (c := .int .i64 0) (d := .int .i64 0) RVC.out
                refine bodyPost_ret (v := .tuple #[.agg #[.int .i64 0, .int .i64 0, .int .i64 0], .int .i64 pe]) (by simp [results, Tryd.results19, go_sem, s0, s1, s2]) rfl ⟨by rw [ERc.out]; unfold chkPol; rw [if_neg (by rw [HPE.out]; exact HP0.out), HPE.out], ?_⟩
                repeat (first | exact BELC.out | refine Below.setCell ?_ (p := ⟨_, _, none⟩) (by first | exact Nat.le_refl _ | exact hwP) _ | refine Below.alloc ?_ (by simpa [World.setCell] using BEL.out.size) _)
        · have ER := Lib.hid (show partsPol (parts 32 s.data.toList) = synPol by rw [← HPS.out]; rfl)
          clear h2
          go_wp2_with fail
          refine NB.out.mono ?_
          rintro e w5 ⟨n, rfl, hn, hb5⟩
          have PB := Lib.hid ((hb5.block P (lt_of PB.out)).trans PB.out)
          have PSB := Lib.hid ((hb5.block B (lt_of PSB.out)).trans PSB.out)
          have RVB := Lib.hid ((hb5.block w.heap.size (lt_of RVB.out)).trans RVB.out)
          have BEL := Lib.hid (BEL.out.trans (hb5.mono BEL.out.size))
          have p0 : w5.cell? ⟨P, 0, none⟩ = some (.int .i64 K) := (cell_of PB.out 0).trans rfl
          have p1 : w5.cell? ⟨P, 1, none⟩ = some (.int .i64 0) := (cell_of PB.out 1).trans rfl
          have p2 : w5.cell? ⟨P, 2, none⟩ = some (.int .i64 0) := (cell_of PB.out 2).trans rfl
          have pf : ∀ j, w5.frozen? ⟨P, j, none⟩ = false := fun j => free_of PB.out j
          have v0 : w5.cell? ⟨w.heap.size, 0, none⟩ = some (.int .i64 0) := (cell_of RVB.out 0).trans rfl
          have v1 : w5.cell? ⟨w.heap.size, 1, none⟩ = some (.int .i64 0) := (cell_of RVB.out 1).trans rfl
          have v2 : w5.cell? ⟨w.heap.size, 2, none⟩ = some (.int .i64 0) := (cell_of RVB.out 2).trans rfl
          have vf : ∀ j, w5.frozen? ⟨w.heap.size, j, none⟩ = false := fun j => free_of RVB.out j
          have RVB := Lib.hid (show (w5.setCell ⟨P, 1, none⟩ (.int .i64 n)).heap[w.heap.size]? = _ from (Below.heap_setCell _ _ _ w.heap.size hPr).trans RVB.out)
          clear hb5 hn
          have hl : ¬ ((r.length : Int) + 1 + 1 = 1) := by omega
          go_wp2_with fail
          all_goals
            obtain ⟨s0, s1, s2⟩ := res3 (a := .int .i64 0) (c := .int .i64 0) (d := .int .i64 0) RVB.out
            refine bodyPost_ret (v := .tuple #[.agg #[.int .i64 0, .int .i64 0, .int .i64 0], .int .i64 8]) (by simp [results, Tryd.results19, go_sem, s0, s1, s2]) rfl ⟨by rw [ER.out]; rfl, ?_⟩
            repeat (first | exact BEL.out | refine Below.setCell ?_ (p := ⟨_, _, none⟩) (by first | exact Nat.le_refl _ | exact hwP) _)
      · have k2 : (K == 2) = false := by simpa using h2
        rcases r with _ | ⟨c, r⟩
        · have ER := Lib.hid (show partsPol (parts 32 s.data.toList) = (if 1 ≤ K ∧ K ≠ 2 then (match progNum b.data.toList with | some m => chkPol K 0 m | none => synPol) else synPol) by rw [← HPS.out, ← HK.out]; rfl)
          by_cases k1 : 1 ≤ K
          · have ER := Lib.hid (ER.out.trans (if_pos ⟨k1, h2⟩))
            clear h2
            go_wp2_with fail
            refine NB.out.mono ?_
            rintro e w5 ⟨m, rfl, hm, hb5⟩
            have PB := Lib.hid ((hb5.block P (lt_of PB.out)).trans PB.out)
            have PSB := Lib.hid ((hb5.block B (lt_of PSB.out)).trans PSB.out)
            have RVB := Lib.hid ((hb5.block w.heap.size (lt_of RVB.out)).trans RVB.out)
            have BEL := Lib.hid (BEL.out.trans (hb5.mono BEL.out.size))
            have p0 : w5.cell? ⟨P, 0, none⟩ = some (.int .i64 K) := (cell_of PB.out 0).trans rfl
            have p1 : w5.cell? ⟨P, 1, none⟩ = some (.int .i64 0) := (cell_of PB.out 1).trans rfl
            have p2 : w5.cell? ⟨P, 2, none⟩ = some (.int .i64 0) := (cell_of PB.out 2).trans rfl
            have pf : ∀ j, w5.frozen? ⟨P, j, none⟩ = false := fun j => free_of PB.out j
            have v0 : w5.cell? ⟨w.heap.size, 0, none⟩ = some (.int .i64 0) := (cell_of RVB.out 0).trans rfl
            have v1 : w5.cell? ⟨w.heap.size, 1, none⟩ = some (.int .i64 0) := (cell_of RVB.out 1).trans rfl
            have v2 : w5.cell? ⟨w.heap.size, 2, none⟩ = some (.int .i64 0) := (cell_of RVB.out 2).trans rfl
            have vf : ∀ j, w5.frozen? ⟨w.heap.size, j, none⟩ = false := fun j => free_of RVB.out j
            have HM := Lib.hid hm
            clear hb5 hm
            cases hx : progNum b.data.toList with
            | none =>
              have ER := Lib.hid (ER.out.trans (by rw [hx]))
              go_wp2_with fail
              all_goals
                obtain ⟨s0, s1, s2⟩ := res3 (a := .int .i64 0) (c := .int .i64 0) (d := .int .i64 0) RVB.out
                refine bodyPost_ret (v := .tuple #[.agg #[.int .i64 0, .int .i64 0, .int .i64 0], .int .i64 8]) (by simp [results, Tryd.results19, go_sem, s0, s1, s2]) rfl ⟨by rw [ER.out]; rfl, ?_⟩
                repeat (first | exact BEL.out | refine Below.setCell ?_ (p := ⟨_, _, none⟩) (by first | exact Nat.le_refl _ | exact hwP) _)
            | some mm =>
              have PBX := Lib.hid PB.out
              have C := Lib.hid (checkPolicy_any K 0 m (w5.setCell ⟨P, 2, none⟩ (.int .i64 m)))
              have szp := lt_of PBX.out
              have szr := lt_of RVB.out
              have nep : ¬ P = w5.heap.size := by omega
              have ner : ¬ w.heap.size = w5.heap.size := by omega
              have nep' : ¬ w5.heap.size = P := by omega
              have ner' : ¬ w5.heap.size = w.heap.size := by omega
              have RVC := Lib.hid (show (w5.setCell ⟨P, 2, none⟩ (.int .i64 m)).heap[w.heap.size]? = _ from (Below.heap_setCell _ _ _ w.heap.size hPr).trans RVB.out)
              have BELC := Lib.hid (BEL.out.setCell (p := ⟨P, 2, none⟩) hwP (.int .i64 m))
              have ERc := Lib.hid (ER.out.trans (show _ = chkPol K 0 m by rw [hx]; show chkPol K 0 mm = _; rw [HM.out mm hx]))
              go_wp2_with fail
              refine C.out.mono ?_
              rintro e w8 ⟨rfl, rfl, _⟩
              generalize hpe : polErr K 0 m = pe at *
              have HPE := Lib.hid hpe
              clear hpe
              by_cases hp : pe = 0
              · have HP0 := Lib.hid hp
                have hp' : (pe == 0) = true := by simp [hp]
                clear hp
                go_wp2_with fail
                obtain ⟨s0, s1, s2⟩ := res3a (a := .int .i64 K) (c := .int .i64 0) (d := .int .i64 m) RVC.out
                refine bodyPost_ret (v := .tuple #[.agg #[.int .i64 K, .int .i64 0, .int .i64 m], .int .i64 0]) (by simp [results, Tryd.results19, go_sem, s0, s1, s2]) rfl ⟨by rw [ERc.out]; unfold chkPol; rw [if_pos (HPE.out.trans HP0.out)], ?_⟩
                repeat (first | exact BELC.out | refine Below.setCell ?_ (p := ⟨_, _, none⟩) (by first | exact Nat.le_refl _ | exact hwP) _ | refine Below.alloc ?_ (by simpa [World.setCell] using BEL.out.size) _)
              · have HP0 := Lib.hid hp
                have hp' : (pe == 0) = false := by simpa using hp
                clear hp
                go_wp2_with fail
                obtain ⟨s0, s1, s2⟩ := res3a (a := .int .i64 0) (c := .int .i64 0) (d := .int .i64 0) RVC.out
                refine bodyPost_ret (v := .tuple #[.agg #[.int .i64 0, .int .i64 0, .int .i64 0], .int .i64 pe]) (by simp [results, Tryd.results19, go_sem, s0, s1, s2]) rfl ⟨by rw [ERc.out]; unfold chkPol; rw [if_neg (by rw [HPE.out]; exact HP0.out), HPE.out], ?_⟩
                repeat (first | exact BELC.out | refine Below.setCell ?_ (p := ⟨_, _, none⟩) (by first | exact Nat.le_refl _ | exact hwP) _ | refine Below.alloc ?_ (by simpa [World.setCell] using BEL.out.size) _)
          · have ER := Lib.hid (ER.out.trans (if_neg (fun x => k1 x.1)))
            have k0 : decide (1 ≤ K) = false := decide_eq_false k1
            have k0' : K < 1 := by omega
            clear h2
            go_wp2_with fail
            refine NB.out.mono ?_
            rintro e w5 ⟨m, rfl, hm, hb5⟩
            have PB := Lib.hid ((hb5.block P (lt_of PB.out)).trans PB.out)
            have PSB := Lib.hid ((hb5.block B (lt_of PSB.out)).trans PSB.out)
            have RVB := Lib.hid ((hb5.block w.heap.size (lt_of RVB.out)).trans RVB.out)
            have BEL := Lib.hid (BEL.out.trans (hb5.mono BEL.out.size))
            have p0 : w5.cell? ⟨P, 0, none⟩ = some (.int .i64 K) := (cell_of PB.out 0).trans rfl
            have p1 : w5.cell? ⟨P, 1, none⟩ = some (.int .i64 0) := (cell_of PB.out 1).trans rfl
            have p2 : w5.cell? ⟨P, 2, none⟩ = some (.int .i64 0) := (cell_of PB.out 2).trans rfl
            have pf : ∀ j, w5.frozen? ⟨P, j, none⟩ = false := fun j => free_of PB.out j
            have v0 : w5.cell? ⟨w.heap.size, 0, none⟩ = some (.int .i64 0) := (cell_of RVB.out 0).trans rfl
            have v1 : w5.cell? ⟨w.heap.size, 1, none⟩ = some (.int .i64 0) := (cell_of RVB.out 1).trans rfl
            have v2 : w5.cell? ⟨w.heap.size, 2, none⟩ = some (.int .i64 0) := (cell_of RVB.out 2).trans rfl
            have vf : ∀ j, w5.frozen? ⟨w.heap.size, j, none⟩ = false := fun j => free_of RVB.out j
            clear hb5 hm k0'
            cases hx : progNum b.data.toList with
            | none =>
              go_wp2_with fail
              all_goals
                obtain ⟨s0, s1, s2⟩ := res3 (a := .int .i64 0) (c := .int .i64 0) (d := .int .i64 0) RVB.out
                refine bodyPost_ret (v := .tuple #[.agg #[.int .i64 0, .int .i64 0, .int .i64 0], .int .i64 8]) (by simp [results, Tryd.results19, go_sem, s0, s1, s2]) rfl ⟨by rw [ER.out]; rfl, ?_⟩
                repeat (first | exact BEL.out | refine Below.setCell ?_ (p := ⟨_, _, none⟩) (by first | exact Nat.le_refl _ | exact hwP) _)
            | some mm =>
              go_wp2_with fail
              all_goals
                obtain ⟨s0, s1, s2⟩ := res3 (a := .int .i64 0) (c := .int .i64 0) (d := .int .i64 0) RVB.out
                refine bodyPost_ret (v := .tuple #[.agg #[.int .i64 0, .int .i64 0, .int .i64 0], .int .i64 8]) (by simp [results, Tryd.results19, go_sem, s0, s1, s2]) rfl ⟨by rw [ER.out]; rfl, ?_⟩
                repeat (first | exact BEL.out | refine Below.setCell ?_ (p := ⟨_, _, none⟩) (by first | exact Nat.le_refl _ | exact hwP) _)
        rcases r with _ | ⟨d, r⟩
        · have ER := Lib.hid (show partsPol (parts 32 s.data.toList) = synPol by rw [← HPS.out]; show (if kindOf a.data.toList = 2 then _ else _) = _; rw [if_neg (by rw [HK.out]; exact h2)])
          clear h2
          go_wp2_with fail
          all_goals
            obtain ⟨s0, s1, s2⟩ := res3 (a := .int .i64 0) (c := .int .i64 0) (d := .int .i64 0) RVB.out
            refine bodyPost_ret (v := .tuple #[.agg #[.int .i64 0, .int .i64 0, .int .i64 0], .int .i64 8]) (by simp [results, Tryd.results19, go_sem, s0, s1, s2]) rfl ⟨by rw [ER.out]; rfl, ?_⟩
            repeat (first | exact BEL.out | refine Below.setCell ?_ (p := ⟨_, _, none⟩) (by first | exact Nat.le_refl _ | exact hwP) _)
        · have ER := Lib.hid (show partsPol (parts 32 s.data.toList) = synPol by rw [← HPS.out]; rfl)
          have hl : ¬ ((r.length : Int) + 1 + 1 + 1 = 1) := by omega
          clear h2
          go_wp2_with fail
          all_goals
            obtain ⟨s0, s1, s2⟩ := res3 (a := .int .i64 0) (c := .int .i64 0) (d := .int .i64 0) RVB.out
            refine bodyPost_ret (v := .tuple #[.agg #[.int .i64 0, .int .i64 0, .int .i64 0], .int .i64 8]) (by simp [results, Tryd.results19, go_sem, s0, s1, s2]) rfl ⟨by rw [ER.out]; rfl, ?_⟩
            repeat (first | exact BEL.out | refine Below.setCell ?_ (p := ⟨_, _, none⟩) (by first | exact Nat.le_refl _ | exact hwP) _)

end Go.Proofs.YtifibhaalepmgaaDoor
