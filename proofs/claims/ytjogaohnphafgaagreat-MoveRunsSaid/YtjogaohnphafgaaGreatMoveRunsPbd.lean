/-
  The greatest gap; a block's length and place. No conditions but bounds.
  The reference's heap: how much is used, the greatest gap; its room, its blocks. No conditions but bounds.
  The reference's heap: a look. No conditions but bounds.
-/
import Derived.Test.YtjogaohnphafgaaGreatMoveRunsPao
import Derived.Test.YtjogaohnphafgaaGreatMoveRunsPau
import Derived.Test.YtjogaohnphafgaaGreatMoveRunsPba
import Derived.Test.YtjogaohnphafgaaGreatMoveRunsPbc

namespace Go.Proofs.YtjogaohnphafgaaGreat
section
open Go.RowKit
set_option linter.unusedVariables false

def maxG (l : List Gp) : Nat := l.foldl (fun m x => max m x.len) 0
theorem maxG_take {l : List Gp} {k : Nat} {x : Gp} (h : l[k]? = some x) : maxG (l.take (k + 1)) = max (maxG (l.take k)) x.len := by
  unfold maxG
  rw [List.take_add_one, h, List.foldl_append]
  rfl
theorem gp_cells {w : World} {B : Nat} {v : Value} {l : List Gp} {i : Nat} {x : Gp} (h : w.ownsRow B 92 2 v l.length (l.flatMap Gp.cells)) (hs : l[i]? = some x) :
    ∃ g cap, v = .slice (some ⟨g, 0, none⟩) l.length cap ∧ w.cell? ⟨g, i * 2, none⟩ = some (.int .i64 (x.at' : Int)) ∧ w.cell? ⟨g, i * 2 + 1, none⟩ = some (.int .i64 (x.len : Int)) := by
  obtain ⟨a, c, rfl⟩ := wrow_sh h
  have key : ∀ r (u : Value), r < 2 → x.cells[r]? = some u → ∃ g, a = some ⟨g, 0, none⟩ ∧ w.cell? ⟨g, i * 2 + r, none⟩ = some u := fun r u hr hu => by
    obtain ⟨g, e, h1, _⟩ := wrow_cell h (j := i * 2 + r) (u := u) (by rw [gcells_get l i r x hs hr]; exact hu)
    exact ⟨g, e, h1⟩
  obtain ⟨g, e, h0⟩ := key 0 _ (by decide) rfl
  obtain ⟨g', e', h1⟩ := key 1 _ (by decide) rfl
  rw [e] at e'
  cases e'
  exact ⟨g, c, by rw [e], h0, h1⟩
def LgPost (S : HpSt) (w : World) : Ending → World → Prop := fun e w' => ∃ L, SortedL (lieL S.bl) L ∧ e = .returned (.int .i64 (maxG (gapsOf S.mem.length L) : Int)) ∧ Below w.heap.size w w'
theorem gapsOf_few (N : Nat) (L : List Blk) : (gapsOf N L).length ≤ L.length + 1 := gapsOf_len N L
theorem gapsG_lenLe : ∀ (L : List Blk) (a N : Nat), (∀ x ∈ L, x.at' ≤ N) → ∀ g ∈ gapsG a L, g.len ≤ N
  | [], _, _, _, g, h => by simp [gapsG] at h
  | x :: l, a, N, hb, g, h => by
    unfold gapsG at h
    rcases List.mem_append.1 h with h1 | h1
    · split at h1
      · rw [List.mem_singleton.1 h1]
        have := hb x List.mem_cons_self
        simp only
        omega
      · simp at h1
    · exact gapsG_lenLe l _ N (fun y hy => hb y (List.mem_cons_of_mem _ hy)) g h1
theorem maxG_le {l : List Gp} {N : Nat} (h : ∀ g ∈ l, g.len ≤ N) : maxG l ≤ N := by
  unfold maxG
  have : ∀ (l : List Gp) (m : Nat), m ≤ N → (∀ g ∈ l, g.len ≤ N) → l.foldl (fun m x => max m x.len) m ≤ N := by
    intro l
    induction l with
    | nil => intro m hm _; exact hm
    | cons x l ih =>
      intro m hm h
      exact ih _ (Nat.max_le.2 ⟨hm, h x List.mem_cons_self⟩) (fun g hg => h g (List.mem_cons_of_mem _ hg))
  exact this l 0 (Nat.zero_le _) h

set_option maxHeartbeats 4000000 in
set_option maxRecDepth 100000 in
theorem largestM_any {w : World} {F : Nat → Prop} {hp bp : Nat} {S : HpSt} {vm vb vh : Value} {vhs : List Value} (m : HpMem w F hp bp S vm vb vh vhs) :
    Calls Tryz.prog 66 #[.pointer (some ⟨hp, 0, none⟩)] w (LgPost S w) := by
  have C := Lib.hid (gapsM_any m)
  have HM := Lib.hid m
  clear m
  go_enter Tryz.func66, Tryz.ntmps66
  go_wp2_with fail
  refine C.out.mono ?_
  rintro e w1 ⟨L, v, hs, rfl, hrow, hb⟩
  have HS := Lib.hid hs
  have hGL : ∀ g ∈ gapsOf S.mem.length L, g.len ≤ 100000 := fun g hg => by
    refine gapsG_lenLe _ _ _ (fun x hx => ?_) g hg
    have hbig := HM.out.big.1
    rcases List.mem_append.1 hx with h | h
    · have := (HM.out.hb x (hs.mem h).1).2.2; omega
    · rw [List.mem_singleton.1 h]; exact hbig
  have hfew : (gapsOf S.mem.length L).length ≤ 501 := by have := gapsOf_len S.mem.length L; have := hs.len; have := HM.out.big.2.1; omega
  have FIN : Hid (∀ w', Below w.heap.size w w' → LgPost S w (.returned (.int .i64 (maxG (gapsOf S.mem.length L) : Int))) w') := Lib.hid (fun w' h => ⟨L, HS.out, rfl, h⟩)
  generalize gapsOf S.mem.length L = G at *
  have HGL := Lib.hid hGL
  have HROW := Lib.hid hrow
  have HB := Lib.hid hb
  obtain ⟨a, cap, hv⟩ := wrow_sh hrow
  obtain ⟨N, hN⟩ : ∃ N, G.length = N := ⟨_, rfl⟩
  have HN := Lib.hid hN
  have HV := Lib.hid hv
  rw [hN] at hv hfew
  subst hv
  clear hs hrow hb C hN hGL HS
  go_wp2_with fail
  go_loopw [3, 9] (fun n i wr => ∃ k : Nat, k ≤ N ∧ i = .int .i64 (k : Int) ∧ n = .int .i64 (maxG (G.take k) : Int) ∧ Below w1.heap.size w1 wr) (fun _ i _ => N - (intOf i).toNat)
  case atStart => exact ⟨0, Nat.zero_le _, rfl, rfl, Below.refl _ _⟩
  case round =>
    obtain ⟨k, hk, rfl, rfl, hb⟩ := hrel
    by_cases hlt : k < N
    · obtain ⟨x, hx⟩ : ∃ x, G[k]? = some x := ⟨_, List.getElem?_eq_getElem (by have := HN.out; omega)⟩
      obtain ⟨g, cap2, hv2, d0, d1⟩ := gp_cells HROW.out hx
      have hv3 := HV.out
      rw [hv2] at hv3
      simp only [Value.slice.injEq] at hv3
      obtain ⟨rfl, k6, rfl⟩ := hv3
      have d0 := old_cell hb d0
      have d1 := old_cell hb d1
      have h1 : maxG (G.take k) ≤ 100000 := maxG_le (fun g hg => HGL.out g (List.mem_of_mem_take hg))
      have h2 := HGL.out x (List.mem_of_getElem? hx)
      have FN := Lib.hid (maxG_take hx)
      have HB2 := Lib.hid hb
      generalize maxG (G.take k) = q at *
      clear k6 hx hv2 hb
      go_wp2_with fail
      go_roundw
      case measure => simp only [intOf]; omega
      case rel =>
        exact ⟨k + 1, by omega, by go_num, by rw [FN.out]; go_num, HB2.out.trans ((Below.refl _ _).alloc HB2.out.size _)⟩
    · obtain rfl : k = N := by omega
      have ek : G.take k = G := List.take_of_length_le (by have := HN.out; omega)
      rw [ek]
      have HB2 := Lib.hid hb
      clear ek hb
      go_wp2_with fail
      go_ret
      exact FIN.out _ (HB.out.trans (HB2.out.mono HB.out.size))

def LnPost (f : Blk → Nat) (S : HpSt) (q : Int) (w : World) : Ending → World → Prop := fun e w' => e = .returned (.tuple #[.int .i64 (f (blkAt S q) : Int), .int .i64 (fndE S q)]) ∧ w' = w

set_option maxHeartbeats 4000000 in
set_option maxRecDepth 100000 in
theorem lenM_any {w : World} {F : Nat → Prop} {hp bp : Nat} {S : HpSt} {vm vb vh : Value} {vhs : List Value} (m : HpMem w F hp bp S vm vb vh vhs) (q : Int) :
    Calls Tryz.prog 78 #[.pointer (some ⟨hp, 0, none⟩), .int .i64 q] w (LnPost Blk.len S q w) := by
  have FD := Lib.hid (findM_any m q)
  have HM := Lib.hid m
  clear m
  go_enter Tryz.func78, Tryz.ntmps78
  go_wp2_with fail
  refine FD.out.mono ?_
  rintro e w1 ⟨hw1, hpost⟩
  obtain rfl := hw1.symm
  clear hw1
  rcases hpost with ⟨he, rfl⟩ | ⟨he, i, x, g, cap, hf, hv, rfl⟩
  · have he' : (fndE S q != 0) = true := by simpa using he
    have FIN : Hid (LnPost Blk.len S q w (.returned (.tuple #[.int .i64 0, .int .i64 (fndE S q)])) w) := Lib.hid ⟨by rw [blkAt_none he]; rfl, rfl⟩
    clear he FD
    generalize fndE S q = er at *
    go_wp2_with fail
    go_ret2
    exact FIN.out
  · obtain ⟨hx, hxh⟩ := findB_at hf
    obtain ⟨g2, cap2, hv2, d0, d1, d2, _⟩ := blk_cells HM.out.row.1 hx
    rw [hv] at hv2
    simp only [Value.slice.injEq, Option.some.injEq, Addr.mk.injEq, and_true] at hv2
    obtain ⟨rfl, _, rfl⟩ := hv2
    have e0 : blkAt S q = x := by unfold blkAt; rw [if_pos he, hf]; rfl
    have FIN : Hid (LnPost Blk.len S q w (.returned (.tuple #[.int .i64 (x.len : Int), .int .i64 0])) w) := Lib.hid ⟨by rw [e0, he], rfl⟩
    clear he FD e0 hf hv hx hxh
    go_wp2_with fail
    go_ret2
    exact FIN.out

set_option maxHeartbeats 4000000 in
set_option maxRecDepth 100000 in
theorem atM_any {w : World} {F : Nat → Prop} {hp bp : Nat} {S : HpSt} {vm vb vh : Value} {vhs : List Value} (m : HpMem w F hp bp S vm vb vh vhs) (q : Int) :
    Calls Tryz.prog 79 #[.pointer (some ⟨hp, 0, none⟩), .int .i64 q] w (LnPost Blk.at' S q w) := by
  have FD := Lib.hid (findM_any m q)
  have HM := Lib.hid m
  clear m
  go_enter Tryz.func79, Tryz.ntmps79
  go_wp2_with fail
  refine FD.out.mono ?_
  rintro e w1 ⟨hw1, hpost⟩
  obtain rfl := hw1.symm
  clear hw1
  rcases hpost with ⟨he, rfl⟩ | ⟨he, i, x, g, cap, hf, hv, rfl⟩
  · have he' : (fndE S q != 0) = true := by simpa using he
    have FIN : Hid (LnPost Blk.at' S q w (.returned (.tuple #[.int .i64 0, .int .i64 (fndE S q)])) w) := Lib.hid ⟨by rw [blkAt_none he]; rfl, rfl⟩
    clear he FD
    generalize fndE S q = er at *
    go_wp2_with fail
    go_ret2
    exact FIN.out
  · obtain ⟨hx, hxh⟩ := findB_at hf
    obtain ⟨g2, cap2, hv2, d0, d1, d2, _⟩ := blk_cells HM.out.row.1 hx
    rw [hv] at hv2
    simp only [Value.slice.injEq, Option.some.injEq, Addr.mk.injEq, and_true] at hv2
    obtain ⟨rfl, _, rfl⟩ := hv2
    have e0 : blkAt S q = x := by unfold blkAt; rw [if_pos he, hf]; rfl
    have FIN : Hid (LnPost Blk.at' S q w (.returned (.tuple #[.int .i64 (x.at' : Int), .int .i64 0])) w) := Lib.hid ⟨by rw [e0, he], rfl⟩
    clear he FD e0 hf hv hx hxh
    go_wp2_with fail
    go_ret2
    exact FIN.out

end
end Go.Proofs.YtjogaohnphafgaaGreat

namespace Go.Proofs.YtjogaohnphafgaaGreat
section
open Go.RowKit
set_option linter.unusedVariables false

theorem roomR_any {w : World} {F : Nat → Prop} {rp pp M : Nat} {S : HpSt} {kept : List (List Blk)} {vm vb vk : Value} {vks : List Value} (m : RfMem w F rp pp M S kept vm vb vk vks) :
    Calls Tryz.prog 64 #[.pointer (some ⟨rp, 0, none⟩)] w (fun e w' => e = .returned (.int .i64 (S.mem.length : Int)) ∧ w' = w) := by
  have c6 := m.cells.2.2.2.2.2.2.1
  obtain ⟨a, cap, hv, _⟩ := m.memory
  rw [hv] at c6
  clear m hv
  go_enter Tryz.func64, Tryz.ntmps64
  go_wp2_with fail
  go_ret
  exact ⟨rfl, by first | rfl | trivial⟩
theorem blocksR_any {w : World} {F : Nat → Prop} {rp pp M : Nat} {S : HpSt} {kept : List (List Blk)} {vm vb vk : Value} {vks : List Value} (m : RfMem w F rp pp M S kept vm vb vk vks) :
    Calls Tryz.prog 71 #[.pointer (some ⟨rp, 0, none⟩)] w (fun e w' => e = .returned vb ∧ w' = w) := by
  have c7 := m.cells.2.2.2.2.2.2.2.1
  clear m
  go_enter Tryz.func71, Tryz.ntmps71
  go_wp2_with fail
  go_ret
  exact ⟨rfl, by first | rfl | trivial⟩

def UsPost (S : HpSt) (w : World) : Ending → World → Prop := fun e w' => ∃ L, SortedL (lieL S.bl) L ∧ e = .returned (.tuple #[.int .i64 (sumB S.bl : Int), .int .i64 (maxG (gapsOf S.mem.length L) : Int)]) ∧ Below w.heap.size w w'

set_option maxHeartbeats 4000000 in
set_option maxRecDepth 100000 in
theorem usedR_any {w : World} {F : Nat → Prop} {rp pp M : Nat} {S : HpSt} {kept : List (List Blk)} {vm vb vk : Value} {vks : List Value} (m : RfMem w F rp pp M S kept vm vb vk vks) :
    Calls Tryz.prog 62 #[.pointer (some ⟨rp, 0, none⟩)] w (UsPost S w) := by
  have c7 := m.cells.2.2.2.2.2.2.2.1
  obtain ⟨va, vc, hvb, _⟩ := m.row.1.sh
  have HM := Lib.hid m
  have hfew := m.big.2.1
  have GP := Lib.hid (fun W (hW : Below w.heap.size w W) => gapsR_any (m.below hW))
  have SM : Hid (∀ k, sumB (S.bl.take k) ≤ k * 100000) := Lib.hid (fun k => by
    have : ∀ (l : List Blk) (k : Nat), (∀ x ∈ l, x.len ≤ 100000) → sumB (l.take k) ≤ k * 100000 := by
      intro l
      induction l with
      | nil => intro k _; simp [sumB]
      | cons x l ih =>
        intro k h
        cases k with
        | zero => simp [sumB]
        | succ k =>
          rw [List.take_succ_cons, sumB_cons]
          have h1 := ih k (fun y hy => h y (List.mem_cons_of_mem _ hy))
          have h2 := h x List.mem_cons_self
          omega
    exact this S.bl k (fun x hx => by have := (m.hb x hx).2.2; have := m.big.1; omega))
  obtain ⟨BL, hBL⟩ : ∃ BL, S.bl.length = BL := ⟨_, rfl⟩
  have HBL := Lib.hid hBL
  rw [hBL] at hfew
  rw [hvb, hBL] at c7
  have HVB := Lib.hid hvb
  have B0 := Lib.hid (Below.refl w.heap.size w)
  clear m hvb hBL
  go_enter Tryz.func62, Tryz.ntmps62
  go_wp2_with fail
  go_loopw [2, 13] (fun n i wr => ∃ k : Nat, k ≤ BL ∧ i = .int .i64 (k : Int) ∧ n = .int .i64 (sumB (S.bl.take k) : Int) ∧ Below w.heap.size w wr) (fun _ i _ => BL - (intOf i).toNat)
  case atStart => exact ⟨0, Nat.zero_le _, rfl, rfl, B0.out⟩
  case round =>
    obtain ⟨k, hk, rfl, rfl, hb⟩ := hrel
    by_cases hlt : k < BL
    · obtain ⟨x, hx⟩ : ∃ x, S.bl[k]? = some x := ⟨_, List.getElem?_eq_getElem (by have := HBL.out; omega)⟩
      obtain ⟨g, off, cap2, hv2, d0, d1, d2, _⟩ := oblk_cells (HM.out.below hb).row.1 hx
      have hv3 := HVB.out
      rw [hv2, HBL.out] at hv3
      simp only [Value.slice.injEq] at hv3
      obtain ⟨rfl, k6, rfl⟩ := hv3
      clear k6
      have hs1 : sumB (S.bl.take (k + 1)) = sumB (S.bl.take k) + x.len := by
        rw [List.take_add_one, hx]
        simp [sumB]
      have HS1 := Lib.hid hs1
      have b1 := SM.out (k + 1)
      have b2 := SM.out k
      rw [hs1] at b1
      generalize hq : sumB (S.bl.take k) = q at *
      have HB := Lib.hid hb
      clear hx hv2 hs1 hq hb
      go_wp2_with fail
      go_roundw
      case measure => simp only [intOf]; omega
      case rel => exact ⟨k + 1, by omega, by go_num, by rw [HS1.out]; go_num, HB.out.trans ((Below.refl _ _).alloc HB.out.size _)⟩
    · obtain rfl : k = BL := by omega
      have ek : S.bl.take k = S.bl := List.take_of_length_le (by have := HBL.out; omega)
      rw [ek]
      have HB := Lib.hid hb
      have C := Lib.hid (GP.out _ hb)
      have hu : sumB S.bl ≤ 50000000 := by have := SM.out k; rw [ek] at this; omega
      have UU : Hid (∀ (L : List Blk) w', SortedL (lieL S.bl) L → Below w.heap.size w w' → UsPost S w (.returned (.tuple #[.int .i64 (sumB S.bl : Int), .int .i64 (maxG (gapsOf S.mem.length L) : Int)])) w') := Lib.hid (fun L w' h1 h2 => ⟨L, h1, rfl, h2⟩)
      generalize sumB S.bl = U at *
      clear ek hb GP SM
      go_wp2_with fail
      refine C.out.mono ?_
      rintro e w1 ⟨L, v, hs, rfl, hrow, hb⟩
      have hGL : ∀ g ∈ gapsOf S.mem.length L, g.len ≤ 100000 := fun g hg => by
        refine gapsG_lenLe _ _ _ (fun x hx => ?_) g hg
        have hbig := HM.out.big.1
        rcases List.mem_append.1 hx with h | h
        · have := (HM.out.hb x (hs.mem h).1).2.2; omega
        · rw [List.mem_singleton.1 h]; exact hbig
      have hfew : (gapsOf S.mem.length L).length ≤ 501 := by have := gapsOf_len S.mem.length L; have := hs.len; have := HM.out.big.2.1; omega
      have FIN : Hid (∀ w', Below w.heap.size w w' → UsPost S w (.returned (.tuple #[.int .i64 (U : Int), .int .i64 (maxG (gapsOf S.mem.length L) : Int)])) w') := Lib.hid (fun w' h => UU.out L w' hs h)
      generalize gapsOf S.mem.length L = G at *
      have HGL := Lib.hid hGL
      have HROW := Lib.hid hrow
      have HB1 := Lib.hid (HB.out.trans (hb.mono HB.out.size))
      obtain ⟨a, cap, hv⟩ := wrow_sh hrow
      obtain ⟨N, hN⟩ : ∃ N, G.length = N := ⟨_, rfl⟩
      have HN := Lib.hid hN
      have HV := Lib.hid hv
      rw [hN] at hv hfew
      subst hv
      clear hs hrow hb C hN hGL UU
      go_wp2_with fail
      go_loopw [3, 25] (fun n i wr => ∃ k : Nat, k ≤ N ∧ i = .int .i64 (k : Int) ∧ n = .int .i64 (maxG (G.take k) : Int) ∧ Below w1.heap.size w1 wr) (fun _ i _ => N - (intOf i).toNat)
      case atStart => exact ⟨0, Nat.zero_le _, rfl, rfl, Below.refl _ _⟩
      case round =>
        obtain ⟨k, hk, rfl, rfl, hb⟩ := hrel
        by_cases hlt : k < N
        · obtain ⟨x, hx⟩ : ∃ x, G[k]? = some x := ⟨_, List.getElem?_eq_getElem (by have := HN.out; omega)⟩
          obtain ⟨g, cap2, hv2, d0, d1⟩ := gp_cells HROW.out hx
          have hv3 := HV.out
          rw [hv2] at hv3
          simp only [Value.slice.injEq] at hv3
          obtain ⟨rfl, k6, rfl⟩ := hv3
          have d0 := old_cell hb d0
          have d1 := old_cell hb d1
          have h1 : maxG (G.take k) ≤ 100000 := maxG_le (fun g hg => HGL.out g (List.mem_of_mem_take hg))
          have h2 := HGL.out x (List.mem_of_getElem? hx)
          have FN := Lib.hid (maxG_take hx)
          have HB2 := Lib.hid hb
          generalize maxG (G.take k) = q at *
          clear k6 hx hv2 hb
          go_wp2_with fail
          go_roundw
          case measure => simp only [intOf]; omega
          case rel => exact ⟨k + 1, by omega, by go_num, by rw [FN.out]; go_num, HB2.out.trans ((Below.refl _ _).alloc HB2.out.size _)⟩
        · obtain rfl : k = N := by omega
          have ek : G.take k = G := List.take_of_length_le (by have := HN.out; omega)
          rw [ek]
          have HB2 := Lib.hid hb
          clear ek hb
          go_wp2_with fail
          go_ret2
          exact FIN.out _ (HB1.out.trans (HB2.out.mono HB1.out.size))

end
end Go.Proofs.YtjogaohnphafgaaGreat

namespace Go.Proofs.YtjogaohnphafgaaGreat
section
open Go.RowKit
set_option linter.unusedVariables false

def RkPost (w : World) (S : HpSt) (vm : Value) (q f t : Int) : Ending → World → Prop := fun e w' => Below w.heap.size w w' ∧
  ((fndE S q ≠ 0 ∧ e = .returned (.tuple #[.slice none 0 0, .int .i64 (fndE S q)])) ∨ (fndE S q = 0 ∧
    ((lkE (blkAt S q) f t ≠ 0 ∧ e = .returned (.tuple #[.slice none 0 0, .int .i64 (lkE (blkAt S q) f t)])) ∨ (lkE (blkAt S q) f t = 0 ∧ ∃ a, e = .returned (.tuple #[.slice a (t - f).toNat (t - f).toNat, .int .i64 0]) ∧ (0 < (t - f).toNat → ∃ g, vm = .slice (some ⟨g, 0, none⟩) S.mem.length S.mem.length ∧ a = some ⟨g, (blkAt S q).at' + f.toNat, none⟩)))))

set_option maxHeartbeats 4000000 in
set_option maxRecDepth 100000 in
theorem lookR_any {w : World} {F : Nat → Prop} {rp pp M : Nat} {S : HpSt} {kept : List (List Blk)} {vm vb vk : Value} {vks : List Value} (m : RfMem w F rp pp M S kept vm vb vk vks) (q f t : Int) :
    Calls Tryz.prog 17 #[.pointer (some ⟨rp, 0, none⟩), .int .i64 q, .int .i64 f, .int .i64 t] w (RkPost w S vm q f t) := by
  have BK := Lib.hid (blockR_any m q)
  unfold BkPost at BK
  have HM := Lib.hid m
  have hbig := m.big.1
  have hin := blkAt_in (S := S) (q := q) (fun x hx => (m.hb x hx).2.2)
  clear m
  by_cases hE : fndE S q = 0
  case neg =>
    have FIN : Hid (∀ w', Below w.heap.size w w' → RkPost w S vm q f t (.returned (.tuple #[.slice none 0 0, .int .i64 (fndE S q)])) w') := Lib.hid (fun w' h => ⟨h, Or.inl ⟨hE, rfl⟩⟩)
    have hE1 : (fndE S q != 0) = true := bne_iff_ne.2 hE
    have hE2 : (fndE S q == 0) = false := by simpa using hE
    generalize fndE S q = E at *
    generalize blkAt S q = X at *
    clear hE
    go_enter Tryz.func17, Tryz.ntmps17
    go_wp2_with fail
    refine BK.out.mono ?_
    rintro e w2 ⟨rfl, hb2⟩
    have HB2 := Lib.hid (hb2.alloc hb2.size (.cells #[.int .i64 (X.h : Int), .int .i64 (X.at' : Int), .int .i64 (X.len : Int)] 78))
    clear hb2 BK
    go_wp2_with fail
    go_ret2
    exact FIN.out _ HB2.out
  case pos =>
    rw [hE] at BK
    have KEY : Hid (∀ e w', Below w.heap.size w w' → ((lkE (blkAt S q) f t ≠ 0 ∧ e = .returned (.tuple #[.slice none 0 0, .int .i64 (lkE (blkAt S q) f t)])) ∨ (lkE (blkAt S q) f t = 0 ∧ ∃ a, e = .returned (.tuple #[.slice a (t - f).toNat (t - f).toNat, .int .i64 0]) ∧ (0 < (t - f).toNat → ∃ g, vm = .slice (some ⟨g, 0, none⟩) S.mem.length S.mem.length ∧ a = some ⟨g, (blkAt S q).at' + f.toNat, none⟩))) → RkPost w S vm q f t e w') := Lib.hid (fun e w' hb h => ⟨hb, Or.inr ⟨hE, h⟩⟩)
    generalize blkAt S q = X at *
    clear hE
    by_cases h1 : f < 0
    case pos =>
      have e2 : lkE X f t = 2 := by unfold lkE; rw [if_pos (by omega)]
      have FIN : Hid (∀ w', Below w.heap.size w w' → RkPost w S vm q f t (.returned (.tuple #[.slice none 0 0, .int .i64 2])) w') := Lib.hid (fun w' h => KEY.out _ w' h (Or.inl ⟨by rw [e2]; decide, by rw [e2]⟩))
      clear e2 KEY
      go_enter Tryz.func17, Tryz.ntmps17
      go_wp2_with fail
      refine BK.out.mono ?_
      rintro e w2 ⟨rfl, hb2⟩
      have HB2 := Lib.hid (hb2.alloc hb2.size (.cells #[.int .i64 (X.h : Int), .int .i64 (X.at' : Int), .int .i64 (X.len : Int)] 78))
      clear hb2 BK
      go_wp2_with fail
      go_ret2
      exact FIN.out _ HB2.out
    by_cases h2 : t < f
    case pos =>
      have e2 : lkE X f t = 2 := by unfold lkE; rw [if_pos (by omega)]
      have FIN : Hid (∀ w', Below w.heap.size w w' → RkPost w S vm q f t (.returned (.tuple #[.slice none 0 0, .int .i64 2])) w') := Lib.hid (fun w' h => KEY.out _ w' h (Or.inl ⟨by rw [e2]; decide, by rw [e2]⟩))
      clear e2 KEY
      go_enter Tryz.func17, Tryz.ntmps17
      go_wp2_with fail
      refine BK.out.mono ?_
      rintro e w2 ⟨rfl, hb2⟩
      have HB2 := Lib.hid (hb2.alloc hb2.size (.cells #[.int .i64 (X.h : Int), .int .i64 (X.at' : Int), .int .i64 (X.len : Int)] 78))
      clear hb2 BK
      go_wp2_with fail
      go_ret2
      exact FIN.out _ HB2.out
    by_cases h3 : (X.len : Int) < t
    case pos =>
      have e2 : lkE X f t = 2 := by unfold lkE; rw [if_pos (by omega)]
      have FIN : Hid (∀ w', Below w.heap.size w w' → RkPost w S vm q f t (.returned (.tuple #[.slice none 0 0, .int .i64 2])) w') := Lib.hid (fun w' h => KEY.out _ w' h (Or.inl ⟨by rw [e2]; decide, by rw [e2]⟩))
      clear e2 KEY
      go_enter Tryz.func17, Tryz.ntmps17
      go_wp2_with fail
      refine BK.out.mono ?_
      rintro e w2 ⟨rfl, hb2⟩
      have HB2 := Lib.hid (hb2.alloc hb2.size (.cells #[.int .i64 (X.h : Int), .int .i64 (X.at' : Int), .int .i64 (X.len : Int)] 78))
      clear hb2 BK
      go_wp2_with fail
      go_ret2
      exact FIN.out _ HB2.out
    have e2 : lkE X f t = 0 := by unfold lkE; rw [if_neg (by omega)]
    obtain ⟨fn, rfl⟩ : ∃ fn : Nat, f = (fn : Int) := ⟨f.toNat, by omega⟩
    obtain ⟨tn, rfl⟩ : ∃ tn : Nat, t = (tn : Int) := ⟨t.toNat, by omega⟩
    have h2' : fn ≤ tn := by omega
    have h3' : tn ≤ X.len := by omega
    obtain ⟨N, hN⟩ : ∃ N, S.mem.length = N := ⟨_, rfl⟩
    have FIN : Hid (∀ a w', Below w.heap.size w w' → (0 < tn - fn → ∃ g, vm = .slice (some ⟨g, 0, none⟩) S.mem.length S.mem.length ∧ a = some ⟨g, X.at' + fn, none⟩) → RkPost w S vm q fn tn (.returned (.tuple #[.slice a (tn - fn) (tn - fn), .int .i64 0])) w') := Lib.hid (fun a w' hb ha => KEY.out _ w' hb (Or.inr ⟨e2, a, by rw [show ((tn : Int) - (fn : Int)).toNat = tn - fn by omega], fun h => by rw [show ((tn : Int) - (fn : Int)).toNat = tn - fn by omega] at h; exact ha h⟩))
    have HMSH := Lib.hid HM.out.msh
    clear e2 KEY h1 h2 h3
    obtain ⟨xh, xa, xl⟩ := X
    simp only at hin h3'
    rw [hN] at hin hbig
    go_enter Tryz.func17, Tryz.ntmps17
    go_wp2_with fail
    refine BK.out.mono ?_
    rintro e w2 ⟨rfl, hb2⟩
    have HB2 := Lib.hid (hb2.alloc hb2.size (.cells #[.int .i64 (xh : Int), .int .i64 (xa : Int), .int .i64 (xl : Int)] 78))
    have RS2 := heap_alloc_new w2 (.cells #[.int .i64 (xh : Int), .int .i64 (xa : Int), .int .i64 (xl : Int)] 78)
    obtain ⟨q0, q1, q2⟩ := cells3h RS2
    have c6 := (HM.out.below HB2.out).cells.2.2.2.2.2.2.1
    clear hb2 BK
    go_upto_region 6 with fail
    generalize w2.alloc (.cells #[.int .i64 (xh : Int), .int .i64 (xa : Int), .int .i64 (xl : Int)] 78) = W at *
    rcases HMSH.out with ⟨hvm, h0⟩ | ⟨g, hvm⟩
    · obtain rfl : xa = 0 := by omega
      obtain rfl : xl = 0 := by omega
      obtain rfl : tn = 0 := by omega
      obtain rfl : fn = 0 := by omega
      have FN := Lib.hid (fun w' h => FIN.out none w' h (fun h => absurd h (by omega)))
      rw [hvm] at c6
      clear RS2 hvm FIN
      go_quiet (fail)
      go_wp2_with fail
      go_ret2
      exact FN.out _ (bdrewN HB2.out _)
    · rw [hvm, hN] at c6
      have FN := Lib.hid (fun (A : Option Addr) w' h (hA : 0 < tn - fn → A = some ⟨g, xa + fn, none⟩) => FIN.out A w' h (fun h0 => ⟨g, hvm, hA h0⟩))
      clear RS2 hvm FIN
      go_quiet (fail)
      have e1 : xa + tn - (xa + fn) = tn - fn := by omega
      have FN2 : Hid (∀ (A : Option Addr) w', Below w.heap.size w w' → (0 < tn - fn → A = some ⟨g, xa + fn, none⟩) → RkPost w S vm q fn tn (.returned (.tuple #[.slice A (xa + tn - (xa + fn)) (xa + tn - (xa + fn)), .int .i64 0])) w') := Lib.hid (fun A w' h hA => by rw [e1]; exact FN.out A w' h hA)
      have FN0 : Hid (xa + tn = xa + fn → ∀ w', Below w.heap.size w w' → RkPost w S vm q fn tn (.returned (.tuple #[.slice (some ⟨g, 0, none⟩) 0 0, .int .i64 0])) w') := Lib.hid (fun h w' hb => by
        have := FN.out (some ⟨g, 0, none⟩) w' hb (fun h0 => by omega)
        rwa [show tn - fn = 0 by omega] at this)
      clear e1 FN
      go_wp2_with fail
      all_goals go_ret2
      all_goals first
        | exact FN2.out (some ⟨g, xa + fn, none⟩) _ (bdrewN HB2.out _) (fun _ => rfl)
        | exact FN0.out (by assumption) _ (bdrewN HB2.out _)

end
end Go.Proofs.YtjogaohnphafgaaGreat
