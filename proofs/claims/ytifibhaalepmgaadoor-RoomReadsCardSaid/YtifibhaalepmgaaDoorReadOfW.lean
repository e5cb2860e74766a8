/-
  The walk of the reference's ReadPolicyOf. Conditions: Go's own variables, and the reference's words, hold what their initialisers lay.
-/
import Derived.Test.YtifibhaalepmgaaDoorReadOf
namespace Go.Proofs.YtifibhaalepmgaaDoor
open Go.RowKit
set_option linter.unusedVariables false

theorem res3o {W : World} {b : Nat} {x y z a c d : Value} {t : TypeId} (h : W.heap[b]? = some (.cells #[x, y, z] t (0, 0))) :
    (W.setCell ⟨b, 0, none⟩ a).cell? ⟨b, 0, none⟩ = some a ∧ ((W.setCell ⟨b, 0, none⟩ a).setCell ⟨b, 1, none⟩ c).cell? ⟨b, 1, none⟩ = some c ∧ (((W.setCell ⟨b, 0, none⟩ a).setCell ⟨b, 1, none⟩ c).setCell ⟨b, 2, none⟩ d).cell? ⟨b, 2, none⟩ = some d :=
  ⟨(cell_of (block_setCell h 0 a) 0).trans rfl, (cell_of (block_setCell (block_setCell h 0 a) 1 c) 1).trans rfl, (cell_of (block_setCell (block_setCell (block_setCell h 0 a) 1 c) 2 d) 2).trans rfl⟩

theorem tower (w : World) (o1 o2 : Obj) : ((w.alloc o1).alloc o2).heap[w.heap.size]? = some o1 ∧ ((w.alloc o1).alloc o2).heap[w.heap.size + 1]? = some o2 ∧ (∀ k, k < w.heap.size → ((w.alloc o1).alloc o2).heap[k]? = w.heap[k]?) ∧
    w.heap.size + 2 ≤ ((w.alloc o1).alloc o2).heap.size ∧ (∀ {b : Nat} {w0 : World}, Below b w0 w → b ≤ w.heap.size → Below b w0 ((w.alloc o1).alloc o2)) := by
  have h1 := heap_alloc_new w o1
  have h2 := heap_alloc_new (w.alloc o1) o2
  rw [World.size_alloc] at h2
  exact ⟨(heap_alloc_old _ _ (by simp)).trans h1, h2, fun k hk => (heap_alloc_old _ _ (by simp; omega)).trans (heap_alloc_old _ _ hk), by simp, fun hb hle => (hb.alloc hle _).alloc (by simp; omega) _⟩
theorem same_but {w : World} {P : Nat} (j : Nat) (v : Value) (k : Nat) (h : k ≠ P) : (w.setCell ⟨P, j, none⟩ v).heap[k]? = w.heap[k]? := Below.heap_setCell _ _ _ k h

theorem partsPol_zero {a : List UInt8} (h : kindOf a = 0) : ∀ r, partsPol (a :: r) = synPol
  | [] => rfl
  | [b] => by show (if 1 ≤ kindOf a ∧ kindOf a ≠ 2 then _ else _) = _; rw [if_neg (by omega)]
  | [b, c] => by show (if kindOf a = 2 then _ else _) = _; rw [if_neg (by omega)]
  | _ :: _ :: _ :: _ => rfl

set_option maxHeartbeats 8000000 in
set_option maxRecDepth 100000 in
theorem readPolicyOf_any (s : ByteArray) (w : World) (hl : LibAt w) (hw : WordsAt 0 polXs w) :
    Calls Tryd.prog 24 #[.string s] w (ReadIs (readPol s.data.toList) w) := by
  have el : s.data.toList.length = s.size := Array.length_toList
  have LL : Hid (∀ {w' : World}, Below w.heap.size w w' → LibAt w') := Lib.hid (fun h => hl.below h)
  have WW : Hid (∀ {w' : World}, Below w.heap.size w w' → WordsAt 0 polXs w') := Lib.hid (fun h => hw.below h)
  by_cases hs : s.size ≤ 200000
  case neg =>
    have E := Lib.hid (show readPol s.data.toList = (0, 0, 0, 4) by unfold readPol; rw [if_pos (by omega)])
    have h : 200000 < (s.size : Int) := by omega
    rw [E.out]
    clear el hl hs hw
    go_enter Tryd.func24, Tryd.ntmps24
    go_wp2_with fail
    exact bodyPost_ret (v := .tuple #[.agg #[.int .i64 0, .int .i64 0, .int .i64 0], .int .i64 4]) (by simp [results, Tryd.results24, go_sem]) rfl ⟨rfl, by go_grown⟩
  case pos =>
    have E := Lib.hid (show readPol s.data.toList = partsPol (parts 32 s.data.toList) by unfold readPol; rw [if_neg (by omega)])
    have h : (s.size : Int) ≤ 200000 := by omega
    have W0 : Below w.heap.size w (w.alloc (.cells #[.int .i64 0, .int .i64 0, .int .i64 0] 23)) := by go_grown
    have SP := Lib.hid (split_any s (w.alloc (.cells #[.int .i64 0, .int .i64 0, .int .i64 0] 23)) (by omega) (LL.out W0))
    have HW0 := Lib.hid W0
    have HZ := Lib.hid hs
    rw [E.out]
    clear el hl hs hw W0
    go_enter Tryd.func24, Tryd.ntmps24
    go_wp2_with fail
    refine SP.out.mono ?_
    rintro e w1 ⟨ps, hps, hpz, B, rfl, hB, hblk, hb1⟩
    have HPS := Lib.hid hps
    have HPZ := Lib.hid hpz
    have HBL := Lib.hid hblk
    have B1 := Lib.hid (HW0.out.trans (hb1.mono (by simp)))
    have RV := Lib.hid (box_keep (w := w) (hb1.mono (by simp)))
    have hRB : w.heap.size ≠ B := by rw [World.size_alloc] at hB; omega
    have hlt := lt_of hblk
    clear hps hpz hblk hb1
    rcases ps with _ | ⟨a, r⟩
    · exact absurd HPS.out.symm (parts_ne _ _)
    have ca : w1.cell? ⟨B, 0, none⟩ = some (.string a) := by rw [cell_of HBL.out]; rfl
    have HL0 : 0 < (a :: r).length := by simp
    obtain ⟨gb, go, gc, hg0, hgk⟩ := WW.out B1.out
    replace hg0 : w1.cell? ⟨0, 0, none⟩ = some (.slice (some ⟨gb, go, none⟩) 6 gc) := hg0
    have IX := Lib.hid (fun W (hW : Below w1.heap.size w1 W) => index_pol gb go gc a W (fun k y hy => (hW.cell (p := ⟨gb, go + k, none⟩) (World.block_lt_of_cell? w1 _ (hgk k y hy))).trans (hgk k y hy)))
    have hlg := World.block_lt_of_cell? w1 _ hg0
    obtain ⟨kr1, kr2, hkk⟩ := idx_pol a
    generalize hI : Lib.idxOfS polXs a = K at *
    have KK := Lib.hid hkk
    clear hkk hI hgk
    go_upto_region 4 with fail
    go_cut [5] (fun s5 wx => s5 = .int .i64 K ∧ Below w1.heap.size w1 wx)
    case first =>
      go_region_with (go_at_call 37; refine (IX.out _ (by go_grown)).mono ?_; rintro e w3 ⟨rfl, rfl⟩)
      all_goals
        go_wp2_with fail
        go_meet
        exact ⟨rfl, by go_grown⟩
    case rest =>
      obtain ⟨rfl, hbx⟩ := hcut
      have BX := Lib.hid (B1.out.trans (hbx.mono B1.out.size))
      have PSB := Lib.hid ((hbx.block B hlt).trans HBL.out)
      have RVB := Lib.hid ((hbx.block w.heap.size (lt_of RV.out)).trans RV.out)
      have v0 : wc.cell? ⟨w.heap.size, 0, none⟩ = some (.int .i64 0) := (cell_of RVB.out 0).trans rfl
      have v1 : wc.cell? ⟨w.heap.size, 1, none⟩ = some (.int .i64 0) := (cell_of RVB.out 1).trans rfl
      have v2 : wc.cell? ⟨w.heap.size, 2, none⟩ = some (.int .i64 0) := (cell_of RVB.out 2).trans rfl
      have vf : ∀ j, wc.frozen? ⟨w.heap.size, j, none⟩ = false := fun j => free_of RVB.out j
      clear hbx hg0 hlg ca
      by_cases hK1 : K < 1
      · have ER := Lib.hid (show partsPol (parts 32 s.data.toList) = synPol by
          rw [← HPS.out]
          exact partsPol_zero (a := a.data.toList) (by rcases KK.out with x | x <;> omega) _)
        have k2 : (K == 2) = false := by simp; omega
        go_wp2_with fail
        obtain ⟨s0, s1, s2⟩ := res3o (a := .int .i64 0) (c := .int .i64 0) (d := .int .i64 0) RVB.out
        refine bodyPost_ret (v := .tuple #[.agg #[.int .i64 0, .int .i64 0, .int .i64 0], .int .i64 8]) (by simp [results, Tryd.results24, go_sem, s0, s1, s2]) rfl ⟨by rw [ER.out]; rfl, ?_⟩
        repeat (first | exact BX.out | refine Below.setCell ?_ (p := ⟨_, _, none⟩) (by exact Nat.le_refl _) _)
      have hkk : kindOf a.data.toList = K := by rcases KK.out with x | x <;> omega
      have HK := Lib.hid hkk
      clear hkk
      by_cases h2 : K = 2
      · subst h2
        rcases r with _ | ⟨b, _ | ⟨c, _ | ⟨d, r⟩⟩⟩
        · have ER := Lib.hid (show partsPol (parts 32 s.data.toList) = synPol by rw [← HPS.out]; rfl)
          go_wp2_with fail
          obtain ⟨s0, s1, s2⟩ := res3o (a := .int .i64 0) (c := .int .i64 0) (d := .int .i64 0) RVB.out
          refine bodyPost_ret (v := .tuple #[.agg #[.int .i64 0, .int .i64 0, .int .i64 0], .int .i64 8]) (by simp [results, Tryd.results24, go_sem, s0, s1, s2]) rfl ⟨by rw [ER.out]; rfl, ?_⟩
          repeat (first | exact BX.out | refine Below.setCell ?_ (p := ⟨_, _, none⟩) (by exact Nat.le_refl _) _)
        · have ER := Lib.hid (show partsPol (parts 32 s.data.toList) = synPol by
            rw [← HPS.out]; show (if 1 ≤ kindOf a.data.toList ∧ kindOf a.data.toList ≠ 2 then _ else _) = _
            rw [if_neg (by rw [HK.out]; omega)])
          go_wp2_with fail
          obtain ⟨s0, s1, s2⟩ := res3o (a := .int .i64 0) (c := .int .i64 0) (d := .int .i64 0) RVB.out
          refine bodyPost_ret (v := .tuple #[.agg #[.int .i64 0, .int .i64 0, .int .i64 0], .int .i64 8]) (by simp [results, Tryd.results24, go_sem, s0, s1, s2]) rfl ⟨by rw [ER.out]; rfl, ?_⟩
          repeat (first | exact BX.out | refine Below.setCell ?_ (p := ⟨_, _, none⟩) (by exact Nat.le_refl _) _)
        · have ER := Lib.hid (show partsPol (parts 32 s.data.toList) = (match progNum b.data.toList, progNum c.data.toList with | some s, some m => chkPol 2 s m | _, _ => synPol) by
            rw [← HPS.out]; show (if kindOf a.data.toList = 2 then _ else _) = _; rw [if_pos HK.out]; rfl)
          have cb : wc.cell? ⟨B, 1, none⟩ = some (.string b) := (cell_of PSB.out 1).trans rfl
          have cc : wc.cell? ⟨B, 2, none⟩ = some (.string c) := (cell_of PSB.out 2).trans rfl
          have hbz : b.size ≤ 1000000 := by have := HPZ.out b (by simp); have := HZ.out; omega
          have hcz : c.size ≤ 1000000 := by have := HPZ.out c (by simp); have := HZ.out; omega
          go_wp2_with fail
          have hBs := lt_of PSB.out
          have hRs := lt_of RVB.out
          obtain ⟨t1, t2, t3, t4, t5⟩ := tower wc (.cells #[.int .i64 2, .int .i64 0, .int .i64 0] 23) (.cells #[.pointer (some ⟨wc.heap.size, 2, none⟩), .pointer (some ⟨wc.heap.size, 1, none⟩)] 82)
          have BX := Lib.hid (t5 BX.out BX.out.size)
          have PSB := Lib.hid ((t3 _ hBs).trans PSB.out)
          have RVB := Lib.hid ((t3 _ hRs).trans RVB.out)
          have PB := Lib.hid t1
          have AB := Lib.hid t2
          have hsz := t4
          have hw0 : w.heap.size ≤ wc.heap.size := Nat.le_of_lt hRs
          clear t1 t2 t3 t4 t5 v0 v1 v2 vf
          generalize ((wc.alloc (.cells #[.int .i64 2, .int .i64 0, .int .i64 0] 23)).alloc (.cells #[.pointer (some ⟨wc.heap.size, 2, none⟩), .pointer (some ⟨wc.heap.size, 1, none⟩)] 82)) = W1 at *
          generalize wc.heap.size = P at *
          have hBP : B ≠ P := by omega
          have hBA : B ≠ P + 1 := by omega
          have hRP : w.heap.size ≠ P := by omega
          have p0 : W1.cell? ⟨P, 0, none⟩ = some (.int .i64 2) := (cell_of PB.out 0).trans rfl
          have p1 : W1.cell? ⟨P, 1, none⟩ = some (.int .i64 0) := (cell_of PB.out 1).trans rfl
          have p2 : W1.cell? ⟨P, 2, none⟩ = some (.int .i64 0) := (cell_of PB.out 2).trans rfl
          have pf : ∀ j, W1.frozen? ⟨P, j, none⟩ = false := fun j => free_of PB.out j
          have a0 : W1.cell? ⟨P + 1, 0, none⟩ = some (.pointer (some ⟨P, 2, none⟩)) := (cell_of AB.out 0).trans rfl
          have a1 : W1.cell? ⟨P + 1, 1, none⟩ = some (.pointer (some ⟨P, 1, none⟩)) := (cell_of AB.out 1).trans rfl
          have v0 : W1.cell? ⟨w.heap.size, 0, none⟩ = some (.int .i64 0) := (cell_of RVB.out 0).trans rfl
          have v1 : W1.cell? ⟨w.heap.size, 1, none⟩ = some (.int .i64 0) := (cell_of RVB.out 1).trans rfl
          have v2 : W1.cell? ⟨w.heap.size, 2, none⟩ = some (.int .i64 0) := (cell_of RVB.out 2).trans rfl
          have vf : ∀ j, W1.frozen? ⟨w.heap.size, j, none⟩ = false := fun j => free_of RVB.out j
          clear cb cc
          have cb : W1.cell? ⟨B, 1, none⟩ = some (.string b) := (cell_of PSB.out 1).trans rfl
          have cc : W1.cell? ⟨B, 2, none⟩ = some (.string c) := (cell_of PSB.out 2).trans rfl
          refine wp_loop_rounds 3 ?_
          rw [rounds_succ]
          go_wp2_with fail
          refine (digits_any c W1 hcz (LL.out BX.out)).mono ?_
          rintro e w5 ⟨m, rfl, hm, hb5⟩
          clear cb cc
          clear p0 p1 p2 pf a0 a1 v0 v1 v2 vf
          have PB := Lib.hid ((hb5.block P (lt_of PB.out)).trans PB.out)
          have AB := Lib.hid ((hb5.block (P + 1) (lt_of AB.out)).trans AB.out)
          have PSB := Lib.hid ((hb5.block B (lt_of PSB.out)).trans PSB.out)
          have RVB := Lib.hid ((hb5.block w.heap.size (lt_of RVB.out)).trans RVB.out)
          have BX := Lib.hid (BX.out.trans (hb5.mono BX.out.size))
          have p0 : w5.cell? ⟨P, 0, none⟩ = some (.int .i64 2) := (cell_of PB.out 0).trans rfl
          have p1 : w5.cell? ⟨P, 1, none⟩ = some (.int .i64 0) := (cell_of PB.out 1).trans rfl
          have p2 : w5.cell? ⟨P, 2, none⟩ = some (.int .i64 0) := (cell_of PB.out 2).trans rfl
          have pf : ∀ j, w5.frozen? ⟨P, j, none⟩ = false := fun j => free_of PB.out j
          have a0 : w5.cell? ⟨P + 1, 0, none⟩ = some (.pointer (some ⟨P, 2, none⟩)) := (cell_of AB.out 0).trans rfl
          have a1 : w5.cell? ⟨P + 1, 1, none⟩ = some (.pointer (some ⟨P, 1, none⟩)) := (cell_of AB.out 1).trans rfl
          have v0 : w5.cell? ⟨w.heap.size, 0, none⟩ = some (.int .i64 0) := (cell_of RVB.out 0).trans rfl
          have v1 : w5.cell? ⟨w.heap.size, 1, none⟩ = some (.int .i64 0) := (cell_of RVB.out 1).trans rfl
          have v2 : w5.cell? ⟨w.heap.size, 2, none⟩ = some (.int .i64 0) := (cell_of RVB.out 2).trans rfl
          have vf : ∀ j, w5.frozen? ⟨w.heap.size, j, none⟩ = false := fun j => free_of RVB.out j
          have HM := Lib.hid hm
          clear hb5 hm
          cases hy : progNum c.data.toList with
          | none =>
            have ER := Lib.hid (ER.out.trans (show _ = synPol by rw [hy]; cases progNum b.data.toList <;> rfl))
            go_wp2_with fail
            obtain ⟨s0, s1, s2⟩ := res3o (a := .int .i64 0) (c := .int .i64 0) (d := .int .i64 0) RVB.out
            refine bodyPost_ret (v := .tuple #[.agg #[.int .i64 0, .int .i64 0, .int .i64 0], .int .i64 8]) (by simp [results, Tryd.results24, go_sem, s0, s1, s2]) rfl ⟨by rw [ER.out]; rfl, ?_⟩
            repeat (first | exact BX.out | refine Below.setCell ?_ (p := ⟨_, _, none⟩) (by exact Nat.le_refl _) _)
          | some mm =>
            have HY := Lib.hid hy
            clear hy
            go_wp2_with fail
            clear p0 p1 p2 pf a0 a1 v0 v1 v2 vf
            have BX := Lib.hid (BX.out.setCell (p := ⟨P, 2, none⟩) hw0 (.int .i64 m))
            have PB : Hid ((w5.setCell ⟨P, 2, none⟩ (.int .i64 m)).heap[P]? = some (.cells #[.int .i64 2, .int .i64 0, .int .i64 m] 23 (0, 0))) := Lib.hid (by rw [block_setCell PB.out]; rfl)
            have AB := Lib.hid ((same_but (w := w5) (P := P) 2 (.int .i64 m) (P + 1) (by omega)).trans AB.out)
            have PSB := Lib.hid ((same_but (w := w5) (P := P) 2 (.int .i64 m) B hBP).trans PSB.out)
            have RVB := Lib.hid ((same_but (w := w5) (P := P) 2 (.int .i64 m) w.heap.size hRP).trans RVB.out)
            generalize w5.setCell ⟨P, 2, none⟩ (.int .i64 m) = W2 at *
            have p0 : W2.cell? ⟨P, 0, none⟩ = some (.int .i64 2) := (cell_of PB.out 0).trans rfl
            have p1 : W2.cell? ⟨P, 1, none⟩ = some (.int .i64 0) := (cell_of PB.out 1).trans rfl
            have p2 : W2.cell? ⟨P, 2, none⟩ = some (.int .i64 m) := (cell_of PB.out 2).trans rfl
            have pf : ∀ j, W2.frozen? ⟨P, j, none⟩ = false := fun j => free_of PB.out j
            have a0 : W2.cell? ⟨P + 1, 0, none⟩ = some (.pointer (some ⟨P, 2, none⟩)) := (cell_of AB.out 0).trans rfl
            have a1 : W2.cell? ⟨P + 1, 1, none⟩ = some (.pointer (some ⟨P, 1, none⟩)) := (cell_of AB.out 1).trans rfl
            have v0 : W2.cell? ⟨w.heap.size, 0, none⟩ = some (.int .i64 0) := (cell_of RVB.out 0).trans rfl
            have v1 : W2.cell? ⟨w.heap.size, 1, none⟩ = some (.int .i64 0) := (cell_of RVB.out 1).trans rfl
            have v2 : W2.cell? ⟨w.heap.size, 2, none⟩ = some (.int .i64 0) := (cell_of RVB.out 2).trans rfl
            have vf : ∀ j, W2.frozen? ⟨w.heap.size, j, none⟩ = false := fun j => free_of RVB.out j
            have cb : W2.cell? ⟨B, 1, none⟩ = some (.string b) := (cell_of PSB.out 1).trans rfl
            rw [rounds_succ]
            go_wp2_with fail
            refine (digits_any b W2 hbz (LL.out BX.out)).mono ?_
            rintro e w6 ⟨n, rfl, hn, hb6⟩
            clear cb
            clear p0 p1 p2 pf a0 a1 v0 v1 v2 vf
            have PB := Lib.hid ((hb6.block P (lt_of PB.out)).trans PB.out)
            have AB := Lib.hid ((hb6.block (P + 1) (lt_of AB.out)).trans AB.out)
            have PSB := Lib.hid ((hb6.block B (lt_of PSB.out)).trans PSB.out)
            have RVB := Lib.hid ((hb6.block w.heap.size (lt_of RVB.out)).trans RVB.out)
            have BX := Lib.hid (BX.out.trans (hb6.mono BX.out.size))
            have p0 : w6.cell? ⟨P, 0, none⟩ = some (.int .i64 2) := (cell_of PB.out 0).trans rfl
            have p1 : w6.cell? ⟨P, 1, none⟩ = some (.int .i64 0) := (cell_of PB.out 1).trans rfl
            have p2 : w6.cell? ⟨P, 2, none⟩ = some (.int .i64 m) := (cell_of PB.out 2).trans rfl
            have pf : ∀ j, w6.frozen? ⟨P, j, none⟩ = false := fun j => free_of PB.out j
            have a0 : w6.cell? ⟨P + 1, 0, none⟩ = some (.pointer (some ⟨P, 2, none⟩)) := (cell_of AB.out 0).trans rfl
            have a1 : w6.cell? ⟨P + 1, 1, none⟩ = some (.pointer (some ⟨P, 1, none⟩)) := (cell_of AB.out 1).trans rfl
            have v0 : w6.cell? ⟨w.heap.size, 0, none⟩ = some (.int .i64 0) := (cell_of RVB.out 0).trans rfl
            have v1 : w6.cell? ⟨w.heap.size, 1, none⟩ = some (.int .i64 0) := (cell_of RVB.out 1).trans rfl
            have v2 : w6.cell? ⟨w.heap.size, 2, none⟩ = some (.int .i64 0) := (cell_of RVB.out 2).trans rfl
            have vf : ∀ j, w6.frozen? ⟨w.heap.size, j, none⟩ = false := fun j => free_of RVB.out j
            have HN := Lib.hid hn
            clear hb6 hn
            cases hx : progNum b.data.toList with
            | none =>
              have ER := Lib.hid (ER.out.trans (show _ = synPol by rw [hx]))
              go_wp2_with fail
              obtain ⟨s0, s1, s2⟩ := res3o (a := .int .i64 0) (c := .int .i64 0) (d := .int .i64 0) RVB.out
              refine bodyPost_ret (v := .tuple #[.agg #[.int .i64 0, .int .i64 0, .int .i64 0], .int .i64 8]) (by simp [results, Tryd.results24, go_sem, s0, s1, s2]) rfl ⟨by rw [ER.out]; rfl, ?_⟩
              repeat (first | exact BX.out | refine Below.setCell ?_ (p := ⟨_, _, none⟩) (by exact Nat.le_refl _) _)
            | some ss =>
              have HX := Lib.hid hx
              clear hx
              go_wp2_with fail
              clear p0 p1 p2 pf a0 a1 v0 v1 v2 vf
              have BX := Lib.hid (BX.out.setCell (p := ⟨P, 1, none⟩) hw0 (.int .i64 n))
              have PB : Hid ((w6.setCell ⟨P, 1, none⟩ (.int .i64 n)).heap[P]? = some (.cells #[.int .i64 2, .int .i64 n, .int .i64 m] 23 (0, 0))) := Lib.hid (by rw [block_setCell PB.out]; rfl)
              have AB := Lib.hid ((same_but (w := w6) (P := P) 1 (.int .i64 n) (P + 1) (by omega)).trans AB.out)
              have PSB := Lib.hid ((same_but (w := w6) (P := P) 1 (.int .i64 n) B hBP).trans PSB.out)
              have RVB := Lib.hid ((same_but (w := w6) (P := P) 1 (.int .i64 n) w.heap.size hRP).trans RVB.out)
              generalize w6.setCell ⟨P, 1, none⟩ (.int .i64 n) = W3 at *
              have p0 : W3.cell? ⟨P, 0, none⟩ = some (.int .i64 2) := (cell_of PB.out 0).trans rfl
              have p1 : W3.cell? ⟨P, 1, none⟩ = some (.int .i64 n) := (cell_of PB.out 1).trans rfl
              have p2 : W3.cell? ⟨P, 2, none⟩ = some (.int .i64 m) := (cell_of PB.out 2).trans rfl
              have pf : ∀ j, W3.frozen? ⟨P, j, none⟩ = false := fun j => free_of PB.out j
              have a0 : W3.cell? ⟨P + 1, 0, none⟩ = some (.pointer (some ⟨P, 2, none⟩)) := (cell_of AB.out 0).trans rfl
              have a1 : W3.cell? ⟨P + 1, 1, none⟩ = some (.pointer (some ⟨P, 1, none⟩)) := (cell_of AB.out 1).trans rfl
              have v0 : W3.cell? ⟨w.heap.size, 0, none⟩ = some (.int .i64 0) := (cell_of RVB.out 0).trans rfl
              have v1 : W3.cell? ⟨w.heap.size, 1, none⟩ = some (.int .i64 0) := (cell_of RVB.out 1).trans rfl
              have v2 : W3.cell? ⟨w.heap.size, 2, none⟩ = some (.int .i64 0) := (cell_of RVB.out 2).trans rfl
              have vf : ∀ j, W3.frozen? ⟨w.heap.size, j, none⟩ = false := fun j => free_of RVB.out j
              have ERc := Lib.hid (ER.out.trans (show _ = chkPol 2 n m by rw [HX.out, HY.out]; show chkPol 2 ss mm = _; rw [HN.out ss HX.out, HM.out mm HY.out]))
              rw [rounds_succ]
              go_wp2_with fail
              have C := Lib.hid (policyFault_any 2 n m W3)
              have RVC := Lib.hid ((heap_alloc_old W3 (.cells #[.int .i64 2, .int .i64 n, .int .i64 m] 23) (lt_of RVB.out)).trans RVB.out)
              have PBC := Lib.hid ((heap_alloc_old W3 (.cells #[.int .i64 2, .int .i64 n, .int .i64 m] 23) (lt_of PB.out)).trans PB.out)
              have BXC := Lib.hid (BX.out.alloc BX.out.size (.cells #[.int .i64 2, .int .i64 n, .int .i64 m] 23))
              go_wp2_with fail
              refine C.out.mono ?_
              rintro e w8 ⟨rfl, rfl, _⟩
              clear p0 p1 p2 pf a0 a1 v0 v1 v2 vf
              generalize W3.alloc (.cells #[.int .i64 2, .int .i64 n, .int .i64 m] 23) = W8 at *
              have p0 : W8.cell? ⟨P, 0, none⟩ = some (.int .i64 2) := (cell_of PBC.out 0).trans rfl
              have p1 : W8.cell? ⟨P, 1, none⟩ = some (.int .i64 n) := (cell_of PBC.out 1).trans rfl
              have p2 : W8.cell? ⟨P, 2, none⟩ = some (.int .i64 m) := (cell_of PBC.out 2).trans rfl
              have v0 : W8.cell? ⟨w.heap.size, 0, none⟩ = some (.int .i64 0) := (cell_of RVC.out 0).trans rfl
              have v1 : W8.cell? ⟨w.heap.size, 1, none⟩ = some (.int .i64 0) := (cell_of RVC.out 1).trans rfl
              have v2 : W8.cell? ⟨w.heap.size, 2, none⟩ = some (.int .i64 0) := (cell_of RVC.out 2).trans rfl
              have vf : ∀ j, W8.frozen? ⟨w.heap.size, j, none⟩ = false := fun j => free_of RVC.out j
              generalize hpe : polErr 2 n m = pe at *
              have HPE := Lib.hid hpe
              clear hpe
              by_cases hp : pe = 0
              · have HP0 := Lib.hid hp
                have hp' : (pe == 0) = true := by simp [hp]
                clear hp
                go_wp2_with fail
                obtain ⟨s0, s1, s2⟩ := res3o (a := .int .i64 2) (c := .int .i64 n) (d := .int .i64 m) RVC.out
                refine bodyPost_ret (v := .tuple #[.agg #[.int .i64 2, .int .i64 n, .int .i64 m], .int .i64 0]) (by simp [results, Tryd.results24, go_sem, s0, s1, s2]) rfl ⟨by rw [ERc.out]; unfold chkPol; rw [if_pos (HPE.out.trans HP0.out)], ?_⟩
                repeat (first | exact BXC.out | refine Below.setCell ?_ (p := ⟨_, _, none⟩) (by exact Nat.le_refl _) _)
              · have HP0 := Lib.hid hp
                have hp' : (pe == 0) = false := by simpa using hp
                clear hp
                go_wp2_with fail
                obtain ⟨s0, s1, s2⟩ := res3o (a := .int .i64 0) (c := .int .i64 0) (d := .int .i64 0) RVC.out
                refine bodyPost_ret (v := .tuple #[.agg #[.int .i64 0, .int .i64 0, .int .i64 0], .int .i64 pe]) (by simp [results, Tryd.results24, go_sem, s0, s1, s2]) rfl ⟨by rw [ERc.out]; unfold chkPol; rw [if_neg (by rw [HPE.out]; exact HP0.out), HPE.out], ?_⟩
                repeat (first | exact BXC.out | refine Below.setCell ?_ (p := ⟨_, _, none⟩) (by exact Nat.le_refl _) _)
        · have ER := Lib.hid (show partsPol (parts 32 s.data.toList) = synPol by rw [← HPS.out]; rfl)
          have hl : ¬ ((r.length : Int) + 1 + 1 + 1 + 1 = 3) := by omega
          go_wp2_with fail
          obtain ⟨s0, s1, s2⟩ := res3o (a := .int .i64 0) (c := .int .i64 0) (d := .int .i64 0) RVB.out
          refine bodyPost_ret (v := .tuple #[.agg #[.int .i64 0, .int .i64 0, .int .i64 0], .int .i64 8]) (by simp [results, Tryd.results24, go_sem, s0, s1, s2]) rfl ⟨by rw [ER.out]; rfl, ?_⟩
          repeat (first | exact BX.out | refine Below.setCell ?_ (p := ⟨_, _, none⟩) (by exact Nat.le_refl _) _)
      · have k2 : (K == 2) = false := by simpa using h2
        have k2n : ¬ K = 2 := h2
        rcases r with _ | ⟨b, _ | ⟨c, r⟩⟩
        · have ER := Lib.hid (show partsPol (parts 32 s.data.toList) = synPol by rw [← HPS.out]; rfl)
          go_wp2_with fail
          obtain ⟨s0, s1, s2⟩ := res3o (a := .int .i64 0) (c := .int .i64 0) (d := .int .i64 0) RVB.out
          refine bodyPost_ret (v := .tuple #[.agg #[.int .i64 0, .int .i64 0, .int .i64 0], .int .i64 8]) (by simp [results, Tryd.results24, go_sem, s0, s1, s2]) rfl ⟨by rw [ER.out]; rfl, ?_⟩
          repeat (first | exact BX.out | refine Below.setCell ?_ (p := ⟨_, _, none⟩) (by exact Nat.le_refl _) _)
        · have ER := Lib.hid (show partsPol (parts 32 s.data.toList) = (match progNum b.data.toList with | some m => chkPol K 0 m | none => synPol) by
            rw [← HPS.out]; show (if 1 ≤ kindOf a.data.toList ∧ kindOf a.data.toList ≠ 2 then _ else _) = _; rw [if_pos (by rw [HK.out]; exact ⟨by omega, h2⟩), HK.out]; rfl)
          have cb : wc.cell? ⟨B, 1, none⟩ = some (.string b) := (cell_of PSB.out 1).trans rfl
          have hbz : b.size ≤ 1000000 := by have := HPZ.out b (by simp); have := HZ.out; omega
          go_wp2_with fail
          have hBs := lt_of PSB.out
          have hRs := lt_of RVB.out
          obtain ⟨t1, t2, t3, t4, t5⟩ := tower wc (.cells #[.int .i64 K, .int .i64 0, .int .i64 0] 23) (.cells #[.pointer (some ⟨wc.heap.size, 2, none⟩), .pointer (some ⟨wc.heap.size, 1, none⟩)] 82)
          have BX := Lib.hid (t5 BX.out BX.out.size)
          have PSB := Lib.hid ((t3 _ hBs).trans PSB.out)
          have RVB := Lib.hid ((t3 _ hRs).trans RVB.out)
          have PB := Lib.hid t1
          have AB := Lib.hid t2
          have hsz := t4
          have hw0 : w.heap.size ≤ wc.heap.size := Nat.le_of_lt hRs
          clear t1 t2 t3 t4 t5 v0 v1 v2 vf
          generalize ((wc.alloc (.cells #[.int .i64 K, .int .i64 0, .int .i64 0] 23)).alloc (.cells #[.pointer (some ⟨wc.heap.size, 2, none⟩), .pointer (some ⟨wc.heap.size, 1, none⟩)] 82)) = W1 at *
          generalize wc.heap.size = P at *
          have hBP : B ≠ P := by omega
          have hBA : B ≠ P + 1 := by omega
          have hRP : w.heap.size ≠ P := by omega
          have p0 : W1.cell? ⟨P, 0, none⟩ = some (.int .i64 K) := (cell_of PB.out 0).trans rfl
          have p1 : W1.cell? ⟨P, 1, none⟩ = some (.int .i64 0) := (cell_of PB.out 1).trans rfl
          have p2 : W1.cell? ⟨P, 2, none⟩ = some (.int .i64 0) := (cell_of PB.out 2).trans rfl
          have pf : ∀ j, W1.frozen? ⟨P, j, none⟩ = false := fun j => free_of PB.out j
          have a0 : W1.cell? ⟨P + 1, 0, none⟩ = some (.pointer (some ⟨P, 2, none⟩)) := (cell_of AB.out 0).trans rfl
          have a1 : W1.cell? ⟨P + 1, 1, none⟩ = some (.pointer (some ⟨P, 1, none⟩)) := (cell_of AB.out 1).trans rfl
          have v0 : W1.cell? ⟨w.heap.size, 0, none⟩ = some (.int .i64 0) := (cell_of RVB.out 0).trans rfl
          have v1 : W1.cell? ⟨w.heap.size, 1, none⟩ = some (.int .i64 0) := (cell_of RVB.out 1).trans rfl
          have v2 : W1.cell? ⟨w.heap.size, 2, none⟩ = some (.int .i64 0) := (cell_of RVB.out 2).trans rfl
          have vf : ∀ j, W1.frozen? ⟨w.heap.size, j, none⟩ = false := fun j => free_of RVB.out j
          clear cb
          have cb : W1.cell? ⟨B, 1, none⟩ = some (.string b) := (cell_of PSB.out 1).trans rfl
          refine wp_loop_rounds 2 ?_
          rw [rounds_succ]
          go_wp2_with fail
          refine (digits_any b W1 hbz (LL.out BX.out)).mono ?_
          rintro e w5 ⟨m, rfl, hm, hb5⟩
          clear cb
          clear p0 p1 p2 pf a0 a1 v0 v1 v2 vf
          have PB := Lib.hid ((hb5.block P (lt_of PB.out)).trans PB.out)
          have AB := Lib.hid ((hb5.block (P + 1) (lt_of AB.out)).trans AB.out)
          have PSB := Lib.hid ((hb5.block B (lt_of PSB.out)).trans PSB.out)
          have RVB := Lib.hid ((hb5.block w.heap.size (lt_of RVB.out)).trans RVB.out)
          have BX := Lib.hid (BX.out.trans (hb5.mono BX.out.size))
          have p0 : w5.cell? ⟨P, 0, none⟩ = some (.int .i64 K) := (cell_of PB.out 0).trans rfl
          have p1 : w5.cell? ⟨P, 1, none⟩ = some (.int .i64 0) := (cell_of PB.out 1).trans rfl
          have p2 : w5.cell? ⟨P, 2, none⟩ = some (.int .i64 0) := (cell_of PB.out 2).trans rfl
          have pf : ∀ j, w5.frozen? ⟨P, j, none⟩ = false := fun j => free_of PB.out j
          have a0 : w5.cell? ⟨P + 1, 0, none⟩ = some (.pointer (some ⟨P, 2, none⟩)) := (cell_of AB.out 0).trans rfl
          have a1 : w5.cell? ⟨P + 1, 1, none⟩ = some (.pointer (some ⟨P, 1, none⟩)) := (cell_of AB.out 1).trans rfl
          have v0 : w5.cell? ⟨w.heap.size, 0, none⟩ = some (.int .i64 0) := (cell_of RVB.out 0).trans rfl
          have v1 : w5.cell? ⟨w.heap.size, 1, none⟩ = some (.int .i64 0) := (cell_of RVB.out 1).trans rfl
          have v2 : w5.cell? ⟨w.heap.size, 2, none⟩ = some (.int .i64 0) := (cell_of RVB.out 2).trans rfl
          have vf : ∀ j, w5.frozen? ⟨w.heap.size, j, none⟩ = false := fun j => free_of RVB.out j
          have HM := Lib.hid hm
          clear hb5 hm
          cases hy : progNum b.data.toList with
          | none =>
            have ER := Lib.hid (ER.out.trans (show _ = synPol by rw [hy]))
            go_wp2_with fail
            obtain ⟨s0, s1, s2⟩ := res3o (a := .int .i64 0) (c := .int .i64 0) (d := .int .i64 0) RVB.out
            refine bodyPost_ret (v := .tuple #[.agg #[.int .i64 0, .int .i64 0, .int .i64 0], .int .i64 8]) (by simp [results, Tryd.results24, go_sem, s0, s1, s2]) rfl ⟨by rw [ER.out]; rfl, ?_⟩
            repeat (first | exact BX.out | refine Below.setCell ?_ (p := ⟨_, _, none⟩) (by exact Nat.le_refl _) _)
          | some mm =>
            have HY := Lib.hid hy
            clear hy
            go_wp2_with fail
            clear p0 p1 p2 pf a0 a1 v0 v1 v2 vf
            have BX := Lib.hid (BX.out.setCell (p := ⟨P, 2, none⟩) hw0 (.int .i64 m))
            have PB : Hid ((w5.setCell ⟨P, 2, none⟩ (.int .i64 m)).heap[P]? = some (.cells #[.int .i64 K, .int .i64 0, .int .i64 m] 23 (0, 0))) := Lib.hid (by rw [block_setCell PB.out]; rfl)
            have AB := Lib.hid ((same_but (w := w5) (P := P) 2 (.int .i64 m) (P + 1) (by omega)).trans AB.out)
            have PSB := Lib.hid ((same_but (w := w5) (P := P) 2 (.int .i64 m) B hBP).trans PSB.out)
            have RVB := Lib.hid ((same_but (w := w5) (P := P) 2 (.int .i64 m) w.heap.size hRP).trans RVB.out)
            generalize w5.setCell ⟨P, 2, none⟩ (.int .i64 m) = W2 at *
            have p0 : W2.cell? ⟨P, 0, none⟩ = some (.int .i64 K) := (cell_of PB.out 0).trans rfl
            have p1 : W2.cell? ⟨P, 1, none⟩ = some (.int .i64 0) := (cell_of PB.out 1).trans rfl
            have p2 : W2.cell? ⟨P, 2, none⟩ = some (.int .i64 m) := (cell_of PB.out 2).trans rfl
            have pf : ∀ j, W2.frozen? ⟨P, j, none⟩ = false := fun j => free_of PB.out j
            have a0 : W2.cell? ⟨P + 1, 0, none⟩ = some (.pointer (some ⟨P, 2, none⟩)) := (cell_of AB.out 0).trans rfl
            have a1 : W2.cell? ⟨P + 1, 1, none⟩ = some (.pointer (some ⟨P, 1, none⟩)) := (cell_of AB.out 1).trans rfl
            have v0 : W2.cell? ⟨w.heap.size, 0, none⟩ = some (.int .i64 0) := (cell_of RVB.out 0).trans rfl
            have v1 : W2.cell? ⟨w.heap.size, 1, none⟩ = some (.int .i64 0) := (cell_of RVB.out 1).trans rfl
            have v2 : W2.cell? ⟨w.heap.size, 2, none⟩ = some (.int .i64 0) := (cell_of RVB.out 2).trans rfl
            have vf : ∀ j, W2.frozen? ⟨w.heap.size, j, none⟩ = false := fun j => free_of RVB.out j
            have ERc := Lib.hid (ER.out.trans (show _ = chkPol K 0 m by rw [HY.out]; show chkPol K 0 mm = _; rw [HM.out mm HY.out]))
            rw [rounds_succ]
            go_wp2_with fail
            have C := Lib.hid (policyFault_any K 0 m W2)
            have RVC := Lib.hid ((heap_alloc_old W2 (.cells #[.int .i64 K, .int .i64 0, .int .i64 m] 23) (lt_of RVB.out)).trans RVB.out)
            have PBC := Lib.hid ((heap_alloc_old W2 (.cells #[.int .i64 K, .int .i64 0, .int .i64 m] 23) (lt_of PB.out)).trans PB.out)
            have BXC := Lib.hid (BX.out.alloc BX.out.size (.cells #[.int .i64 K, .int .i64 0, .int .i64 m] 23))
            go_wp2_with fail
            refine C.out.mono ?_
            rintro e w8 ⟨rfl, rfl, _⟩
            clear p0 p1 p2 pf a0 a1 v0 v1 v2 vf
            generalize W2.alloc (.cells #[.int .i64 K, .int .i64 0, .int .i64 m] 23) = W8 at *
            have p0 : W8.cell? ⟨P, 0, none⟩ = some (.int .i64 K) := (cell_of PBC.out 0).trans rfl
            have p1 : W8.cell? ⟨P, 1, none⟩ = some (.int .i64 0) := (cell_of PBC.out 1).trans rfl
            have p2 : W8.cell? ⟨P, 2, none⟩ = some (.int .i64 m) := (cell_of PBC.out 2).trans rfl
            have v0 : W8.cell? ⟨w.heap.size, 0, none⟩ = some (.int .i64 0) := (cell_of RVC.out 0).trans rfl
            have v1 : W8.cell? ⟨w.heap.size, 1, none⟩ = some (.int .i64 0) := (cell_of RVC.out 1).trans rfl
            have v2 : W8.cell? ⟨w.heap.size, 2, none⟩ = some (.int .i64 0) := (cell_of RVC.out 2).trans rfl
            have vf : ∀ j, W8.frozen? ⟨w.heap.size, j, none⟩ = false := fun j => free_of RVC.out j
            generalize hpe : polErr K 0 m = pe at *
            have HPE := Lib.hid hpe
            clear hpe
            by_cases hp : pe = 0
            · have HP0 := Lib.hid hp
              have hp' : (pe == 0) = true := by simp [hp]
              clear hp
              go_wp2_with fail
              obtain ⟨s0, s1, s2⟩ := res3o (a := .int .i64 K) (c := .int .i64 0) (d := .int .i64 m) RVC.out
              refine bodyPost_ret (v := .tuple #[.agg #[.int .i64 K, .int .i64 0, .int .i64 m], .int .i64 0]) (by simp [results, Tryd.results24, go_sem, s0, s1, s2]) rfl ⟨by rw [ERc.out]; unfold chkPol; rw [if_pos (HPE.out.trans HP0.out)], ?_⟩
              repeat (first | exact BXC.out | refine Below.setCell ?_ (p := ⟨_, _, none⟩) (by exact Nat.le_refl _) _)
            · have HP0 := Lib.hid hp
              have hp' : (pe == 0) = false := by simpa using hp
              clear hp
              go_wp2_with fail
              obtain ⟨s0, s1, s2⟩ := res3o (a := .int .i64 0) (c := .int .i64 0) (d := .int .i64 0) RVC.out
              refine bodyPost_ret (v := .tuple #[.agg #[.int .i64 0, .int .i64 0, .int .i64 0], .int .i64 pe]) (by simp [results, Tryd.results24, go_sem, s0, s1, s2]) rfl ⟨by rw [ERc.out]; unfold chkPol; rw [if_neg (by rw [HPE.out]; exact HP0.out), HPE.out], ?_⟩
              repeat (first | exact BXC.out | refine Below.setCell ?_ (p := ⟨_, _, none⟩) (by exact Nat.le_refl _) _)
        · have ER := Lib.hid (show partsPol (parts 32 s.data.toList) = synPol by
            rw [← HPS.out]
            cases r with
            | nil => show (if kindOf a.data.toList = 2 then _ else _) = _; rw [if_neg (by rw [HK.out]; exact h2)]
            | cons d r => rfl)
          have hl : ¬ ((r.length : Int) + 1 + 1 + 1 = 2) := by omega
          go_wp2_with fail
          obtain ⟨s0, s1, s2⟩ := res3o (a := .int .i64 0) (c := .int .i64 0) (d := .int .i64 0) RVB.out
          refine bodyPost_ret (v := .tuple #[.agg #[.int .i64 0, .int .i64 0, .int .i64 0], .int .i64 8]) (by simp [results, Tryd.results24, go_sem, s0, s1, s2]) rfl ⟨by rw [ER.out]; rfl, ?_⟩
          repeat (first | exact BX.out | refine Below.setCell ?_ (p := ⟨_, _, none⟩) (by exact Nat.le_refl _) _)

end Go.Proofs.YtifibhaalepmgaaDoor
