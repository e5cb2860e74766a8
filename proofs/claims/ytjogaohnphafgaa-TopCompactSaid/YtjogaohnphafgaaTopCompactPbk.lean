/-
  What is read of a heap: Blocks, Generation, Room, Used, Copy, Look. No conditions but bounds.
  A look at a block of a heap. No conditions but bounds.
-/
import Derived.Test.YtjogaohnphafgaaTopCompactPbj
import Derived.Test.YtjogaohnphafgaaTopCompactPal

namespace Go.Proofs.Ytjogaohnphafgaa
section
open Go.RowKit
set_option linter.unusedVariables false

theorem genM_any {w : World} {F : Nat → Prop} {hp bp : Nat} {S : HpSt} {vm vb vh : Value} {vhs : List Value} (m : HpMem w F hp bp S vm vb vh vhs) :
    Calls Try.prog 12 #[.pointer (some ⟨hp, 0, none⟩)] w (fun e w' => e = .returned (.int .i64 (S.count : Int)) ∧ w' = w) := by
  have c9 := m.cells.2.2.2.2.2.2.2.2.2.1
  clear m
  go_enter Try.func12, Try.ntmps12
  go_wp2_with fail
  go_ret
  exact ⟨rfl, by first | rfl | trivial⟩
theorem roomM_any {w : World} {F : Nat → Prop} {hp bp : Nat} {S : HpSt} {vm vb vh : Value} {vhs : List Value} (m : HpMem w F hp bp S vm vb vh vhs) :
    Calls Try.prog 16 #[.pointer (some ⟨hp, 0, none⟩)] w (fun e w' => e = .returned (.int .i64 (S.mem.length : Int)) ∧ w' = w) := by
  have c6 := m.cells.2.2.2.2.2.2.1
  obtain ⟨a, cap, hv, _⟩ := m.memory
  rw [hv] at c6
  clear m hv
  go_enter Try.func16, Try.ntmps16
  go_wp2_with fail
  go_ret
  exact ⟨rfl, by first | rfl | trivial⟩
theorem blocksM_any {w : World} {F : Nat → Prop} {hp bp : Nat} {S : HpSt} {vm vb vh : Value} {vhs : List Value} (m : HpMem w F hp bp S vm vb vh vhs) :
    Calls Try.prog 11 #[.pointer (some ⟨hp, 0, none⟩)] w (OwnBlks S.bl w) := by
  have c7 := m.cells.2.2.2.2.2.2.2.1
  obtain ⟨va, vc, hvb⟩ := wrow_sh m.row.1
  have C := Lib.hid (clone_blk vb 0 S.bl w m.row.1 (by have := m.big.2.1; omega))
  rw [hvb] at c7 C
  clear m hvb
  go_enter Try.func11, Try.ntmps11
  go_wp2_with fail
  refine C.out.mono ?_
  rintro e w1 ⟨v, rfl, hr, hb⟩
  have HF := Lib.hid (And.intro hr hb)
  obtain ⟨a, cap, rfl⟩ := wrow_sh hr
  clear hr hb C
  go_wp2_with fail
  go_ret
  exact ⟨_, rfl, HF.out⟩

set_option maxHeartbeats 1000000 in
set_option maxRecDepth 100000 in
theorem usedM_any {w : World} {F : Nat → Prop} {hp bp : Nat} {S : HpSt} {vm vb vh : Value} {vhs : List Value} (m : HpMem w F hp bp S vm vb vh vhs) :
    Calls Try.prog 19 #[.pointer (some ⟨hp, 0, none⟩)] w (fun e w' => e = .returned (.int .i64 (sumB S.bl : Int)) ∧ Below w.heap.size w w') := by
  have c7 := m.cells.2.2.2.2.2.2.2.1
  obtain ⟨va, vc, hvb⟩ := wrow_sh m.row.1
  have HM := Lib.hid m
  have hfew := m.big.2.1
  have SM : Hid (∀ k, sumB (S.bl.take k) ≤ k * 100000) := Lib.hid (fun k => by
    have : ∀ (l : List Blk) (k : Nat), (∀ x ∈ l, x.len ≤ 100000) → sumB (l.take k) ≤ k * 100000 := by
      intro l
      induction l with
      | nil => intro k _; simp [sumB]
      | cons x l ih =>
        intro k h
        cases k with
        | zero => simp [sumB]
        | succ k =>
          rw [List.take_succ_cons, sumB_cons]
          have h1 := ih k (fun y hy => h y (List.mem_cons_of_mem _ hy))
          have h2 := h x List.mem_cons_self
          omega
    exact this S.bl k (fun x hx => by have := (m.hb x hx).2.2; have := m.big.1; omega))
  obtain ⟨BL, hBL⟩ : ∃ BL, S.bl.length = BL := ⟨_, rfl⟩
  have HBL := Lib.hid hBL
  rw [hBL] at hfew
  rw [hvb, hBL] at c7
  have HVB := Lib.hid hvb
  have B0 := Lib.hid (Below.refl w.heap.size w)
  clear m hvb hBL
  go_enter Try.func19, Try.ntmps19
  go_wp2_with fail
  go_loopw [3, 11] (fun n i wr => ∃ k : Nat, k ≤ BL ∧ i = .int .i64 (k : Int) ∧ n = .int .i64 (sumB (S.bl.take k) : Int) ∧ Below w.heap.size w wr) (fun _ i _ => BL - (intOf i).toNat)
  case atStart => exact ⟨0, Nat.zero_le _, rfl, rfl, B0.out⟩
  case round =>
    obtain ⟨k, hk, rfl, rfl, hb⟩ := hrel
    by_cases hlt : k < BL
    · obtain ⟨x, hx⟩ : ∃ x, S.bl[k]? = some x := ⟨_, List.getElem?_eq_getElem (by have := HBL.out; omega)⟩
      obtain ⟨g, cap2, hv2, d0, d1, d2, _⟩ := blk_cells (HM.out.below hb).row.1 hx
      have hv3 := HVB.out
      rw [hv2, HBL.out] at hv3
      simp only [Value.slice.injEq] at hv3
      obtain ⟨rfl, k6, rfl⟩ := hv3
      clear k6
      have hs1 : sumB (S.bl.take (k + 1)) = sumB (S.bl.take k) + x.len := by
        rw [List.take_add_one, hx]
        simp [sumB]
      have HS1 := Lib.hid hs1
      have b1 := SM.out (k + 1)
      have b2 := SM.out k
      rw [hs1] at b1
      generalize hq : sumB (S.bl.take k) = q at *
      have HB := Lib.hid hb
      clear hx hv2 hs1 hq hb
      go_wp2_with fail
      go_roundw
      case measure => simp only [intOf]; omega
      case rel => exact ⟨k + 1, by omega, by go_num, by rw [HS1.out]; go_num, HB.out.trans ((Below.refl _ _).alloc HB.out.size _)⟩
    · obtain rfl : k = BL := by omega
      have ek : S.bl.take k = S.bl := List.take_of_length_le (by have := HBL.out; omega)
      rw [ek]
      have HB := Lib.hid hb
      clear ek hb
      go_wp2_with fail
      go_ret
      exact ⟨rfl, HB.out⟩

theorem HpMem.octR {w : World} {F : Nat → Prop} {hp bp : Nat} {S : HpSt} {vm vb vh : Value} {vhs : List Value} (m : HpMem w F hp bp S vm vb vh vhs) (at' len c : Nat) (a : Option Addr) (hl : at' + len ≤ S.mem.length) (ha : 0 < len → ∃ g cap, vm = .slice (some ⟨g, 0, none⟩) S.mem.length cap ∧ a = some ⟨g, at', none⟩) :
    Reads w .u8 (.slice a len c) ((S.mem.drop at').take len) := by
  have e : ((S.mem.drop at').take len).length = len := by rw [List.length_take, List.length_drop]; omega
  refine ⟨a, c, by rw [e], by rw [e]; have := m.big.1; omega, fun hne => ?_⟩
  have hpos : 0 < len := by
    rcases Nat.eq_zero_or_pos len with h | h
    · rw [h] at hne; simp at hne
    · exact h
  obtain ⟨g, cap, hv, rfl⟩ := ha hpos
  obtain ⟨g', hv', hrow, _⟩ := m.bytes (by omega)
  rw [hv] at hv'
  simp only [Value.slice.injEq, Option.some.injEq, Addr.mk.injEq, and_true] at hv'
  obtain ⟨rfl, _⟩ := hv'
  refine ⟨g, at', rfl, fun j hj => ?_⟩
  rw [e] at hj
  have h1 : S.mem[at' + j]? = some (S.mem[at' + j]'(by omega)) := List.getElem?_eq_getElem (by omega)
  rw [cell_of hrow]
  have h2 : ((S.mem.drop at').take len)[j]? = S.mem[at' + j]? := by rw [List.getElem?_take, if_pos hj, List.getElem?_drop]
  simp [List.getElem?_map, List.getD_eq_getElem?_getD, h2, h1]

/-- What Copy gives. -/
def CpPost (w : World) (S : HpSt) (q : Int) : Ending → World → Prop := fun e w' => Below w.heap.size w w' ∧
  ((fndE S q ≠ 0 ∧ e = .returned (.tuple #[.slice none 0 0, .int .i64 (fndE S q)])) ∨ (fndE S q = 0 ∧ ∃ i x v, findB S.bl q = some (i, x) ∧ e = .returned (.tuple #[v, .int .i64 0]) ∧ w'.ownsRow w.heap.size 5 1 v x.len ((octB S.mem x).map (Value.int .u8))))

set_option maxHeartbeats 1000000 in
set_option maxRecDepth 100000 in
theorem copyM_any {w : World} {F : Nat → Prop} {hp bp : Nat} {S : HpSt} {vm vb vh : Value} {vhs : List Value} (m : HpMem w F hp bp S vm vb vh vhs) (q : Int) :
    Calls Try.prog 17 #[.pointer (some ⟨hp, 0, none⟩), .int .i64 q] w (CpPost w S q) := by
  have FD := Lib.hid (findM_any m q)
  have HM := Lib.hid m
  have BB := Lib.hid (Below.refl w.heap.size w)
  clear m
  go_enter Try.func17, Try.ntmps17
  go_wp2_with fail
  refine FD.out.mono ?_
  rintro e w1 ⟨hw1, hpost⟩
  obtain rfl := hw1.symm
  clear hw1
  rcases hpost with ⟨he, rfl⟩ | ⟨he, i, x, g, cap, hf, hv, rfl⟩
  · have he' : (fndE S q != 0) = true := by simpa using he
    have FIN : Hid (CpPost w S q (.returned (.tuple #[.slice none 0 0, .int .i64 (fndE S q)])) w) := Lib.hid ⟨BB.out, Or.inl ⟨he, rfl⟩⟩
    clear he FD
    generalize fndE S q = er at *
    go_wp2_with fail
    go_ret2
    exact FIN.out
  · obtain ⟨hx, hxh⟩ := findB_at hf
    obtain ⟨g2, cap2, hv2, d0, d1, d2, _⟩ := blk_cells HM.out.row.1 hx
    rw [hv] at hv2
    simp only [Value.slice.injEq, Option.some.injEq, Addr.mk.injEq, and_true] at hv2
    obtain ⟨rfl, _, rfl⟩ := hv2
    have hl := (HM.out.hb x (List.mem_of_getElem? hx)).2.2
    have OC := Lib.hid (octetsM_any HM.out (x.h : Int) x.at' x.len hl)
    have KEY : Hid (∀ v w', w'.ownsRow w.heap.size 5 1 v (octB S.mem x).length ((octB S.mem x).map (Value.int .u8)) → Below w.heap.size w w' → CpPost w S q (.returned (.tuple #[v, .int .i64 0])) w') := Lib.hid (fun v w' hr hb => ⟨hb, Or.inr ⟨he, i, x, v, hf, rfl, by rw [octB_len hl] at hr; exact hr⟩⟩)
    have HL := Lib.hid hl
    clear he hf hv hx hxh hl FD
    go_wp2_with fail
    refine OC.out.mono ?_
    rintro e w2 ⟨a, rfl, ha, hb⟩
    have CL := Lib.hid (clone_byte (.slice a x.len x.len) (octB S.mem x) w2 ((HM.out.below hb).octR x.at' x.len x.len a HL.out ha) (by rw [octB_len HL.out]; have := HL.out; have := HM.out.big.1; omega))
    have HB := Lib.hid hb
    clear ha hb OC d0 d1 d2
    go_wp2_with fail
    refine CL.out.mono ?_
    rintro e w3 ⟨v, rfl, hr, hb⟩
    have FIN := Lib.hid (KEY.out v w3 (row_low hr HB.out.size) (HB.out.trans (hb.mono HB.out.size)))
    obtain ⟨ra, rc, rfl⟩ := wrow_sh hr
    clear hr hb CL KEY
    go_wp2_with fail
    go_ret2
    exact FIN.out

end
end Go.Proofs.Ytjogaohnphafgaa

namespace Go.Proofs.Ytjogaohnphafgaa
section
open Go.RowKit
set_option linter.unusedVariables false

def lkE (x : Blk) (f t : Int) : Int := if ¬ (0 ≤ f ∧ f ≤ (x.len : Int)) ∨ ¬ (f ≤ t ∧ t ≤ (x.len : Int)) then 2 else 0
/-- What Look gives. -/
def LkPost (w : World) (S : HpSt) (vm : Value) (q f t : Int) : Ending → World → Prop := fun e w' => Below w.heap.size w w' ∧
  ((fndE S q ≠ 0 ∧ e = .returned (.tuple #[.slice none 0 0, .int .i64 (fndE S q)])) ∨ (fndE S q = 0 ∧ ∃ i x, findB S.bl q = some (i, x) ∧
    ((lkE x f t ≠ 0 ∧ e = .returned (.tuple #[.slice none 0 0, .int .i64 (lkE x f t)])) ∨ (lkE x f t = 0 ∧ ∃ a, e = .returned (.tuple #[.slice a (t - f).toNat (t - f).toNat, .int .i64 0]) ∧ (0 < (t - f).toNat → ∃ g cap, vm = .slice (some ⟨g, 0, none⟩) S.mem.length cap ∧ a = some ⟨g, x.at' + f.toNat, none⟩)))))

set_option maxHeartbeats 4000000 in
set_option maxRecDepth 100000 in
theorem lookM_any {w : World} {F : Nat → Prop} {hp bp : Nat} {S : HpSt} {vm vb vh : Value} {vhs : List Value} (m : HpMem w F hp bp S vm vb vh vhs) (q f t : Int) :
    Calls Try.prog 10 #[.pointer (some ⟨hp, 0, none⟩), .int .i64 q, .int .i64 f, .int .i64 t] w (LkPost w S vm q f t) := by
  have FD := Lib.hid (findM_any m q)
  have HM := Lib.hid m
  have BB := Lib.hid (Below.refl w.heap.size w)
  clear m
  go_enter Try.func10, Try.ntmps10
  go_wp2_with fail
  refine FD.out.mono ?_
  rintro e w1 ⟨hw1, hpost⟩
  obtain rfl := hw1.symm
  clear hw1
  rcases hpost with ⟨he, rfl⟩ | ⟨he, i, x, g, cap, hf, hv, rfl⟩
  · have he' : (fndE S q != 0) = true := by simpa using he
    have FIN : Hid (LkPost w S vm q f t (.returned (.tuple #[.slice none 0 0, .int .i64 (fndE S q)])) w) := Lib.hid ⟨BB.out, Or.inl ⟨he, rfl⟩⟩
    clear he FD
    generalize fndE S q = er at *
    go_wp2_with fail
    go_ret2
    exact FIN.out
  · obtain ⟨hx, hxh⟩ := findB_at hf
    obtain ⟨g2, cap2, hv2, d0, d1, d2, _⟩ := blk_cells HM.out.row.1 hx
    have HV := Lib.hid hv
    rw [hv] at hv2
    simp only [Value.slice.injEq, Option.some.injEq, Addr.mk.injEq, and_true] at hv2
    obtain ⟨rfl, _, rfl⟩ := hv2
    have hl := (HM.out.hb x (List.mem_of_getElem? hx)).2.2
    have OC := Lib.hid (octetsM_any HM.out (x.h : Int) x.at' x.len hl)
    have KEY : Hid (∀ e w', Below w.heap.size w w' → ((lkE x f t ≠ 0 ∧ e = .returned (.tuple #[.slice none 0 0, .int .i64 (lkE x f t)])) ∨ (lkE x f t = 0 ∧ ∃ a, e = .returned (.tuple #[.slice a (t - f).toNat (t - f).toNat, .int .i64 0]) ∧ (0 < (t - f).toNat → ∃ g cap, vm = .slice (some ⟨g, 0, none⟩) S.mem.length cap ∧ a = some ⟨g, x.at' + f.toNat, none⟩))) → LkPost w S vm q f t e w') := Lib.hid (fun e w' hb h => ⟨hb, Or.inr ⟨he, i, x, hf, h⟩⟩)
    have HL := Lib.hid hl
    have hxl : x.len ≤ 100000 := by have := HM.out.big.1; omega
    clear he hf hv hx hxh hl FD
    by_cases h1 : 0 ≤ f ∧ f ≤ (x.len : Int)
    case neg =>
      have W1 := Lib.hid (within_move_no f 0 (x.len : Int) w h1)
      have e2 : lkE x f t = 2 := by unfold lkE; rw [if_pos (Or.inl h1)]
      have FIN := Lib.hid (KEY.out (.returned (.tuple #[.slice none 0 0, .int .i64 2])) w BB.out (Or.inl ⟨by rw [e2]; decide, by rw [e2]⟩))
      clear e2 KEY h1 OC
      go_wp2_with fail
      refine W1.out.mono ?_
      rintro e w2 ⟨rfl, hw2⟩
      obtain rfl := hw2
      go_wp2_with fail
      go_ret2
      exact FIN.out
    case pos =>
      have W1 := Lib.hid (within_move_yes f 0 (x.len : Int) w h1.1 h1.2)
      by_cases h2 : f ≤ t ∧ t ≤ (x.len : Int)
      case neg =>
        have W2 := Lib.hid (within_move_no t f (x.len : Int) w h2)
        have e2 : lkE x f t = 2 := by unfold lkE; rw [if_pos (Or.inr h2)]
        have FIN := Lib.hid (KEY.out (.returned (.tuple #[.slice none 0 0, .int .i64 2])) w BB.out (Or.inl ⟨by rw [e2]; decide, by rw [e2]⟩))
        clear e2 KEY h1 h2 OC
        go_wp2_with fail
        refine W1.out.mono ?_
        rintro e w2 ⟨rfl, hw2⟩
        obtain rfl := hw2
        go_wp2_with fail
        refine W2.out.mono ?_
        rintro e w2 ⟨rfl, hw2⟩
        obtain rfl := hw2
        go_wp2_with fail
        go_ret2
        exact FIN.out
      case pos =>
        have W2 := Lib.hid (within_move_yes t f (x.len : Int) w h2.1 h2.2)
        have e2 : lkE x f t = 0 := by unfold lkE; rw [if_neg (by rintro (h | h); exact h h1; exact h h2)]
        obtain ⟨fn, rfl⟩ : ∃ fn : Nat, f = (fn : Int) := ⟨f.toNat, by omega⟩
        obtain ⟨tn, rfl⟩ : ∃ tn : Nat, t = (tn : Int) := ⟨t.toNat, by omega⟩
        have h3 : fn ≤ tn := by omega
        have h4 : tn ≤ x.len := by omega
        have KEY2 : Hid (∀ a w', Below w.heap.size w w' → (0 < tn - fn → ∃ g cap, vm = .slice (some ⟨g, 0, none⟩) S.mem.length cap ∧ a = some ⟨g, x.at' + fn, none⟩) → LkPost w S vm q fn tn (.returned (.tuple #[.slice a (tn - fn) (tn - fn), .int .i64 0])) w') := Lib.hid (fun a w' hb ha => by
          have e5 : ((tn : Int) - (fn : Int)).toNat = tn - fn := by omega
          exact KEY.out _ w' hb (Or.inr ⟨e2, a, by rw [e5], fun h => by rw [Int.toNat_natCast]; exact ha (by omega)⟩))
        clear e2 KEY h1 h2
        go_wp2_with fail
        refine W1.out.mono ?_
        rintro e w2 ⟨rfl, hw2⟩
        obtain rfl := hw2
        go_wp2_with fail
        refine W2.out.mono ?_
        rintro e w2 ⟨rfl, hw2⟩
        obtain rfl := hw2
        clear W1 W2
        go_wp2_with fail
        refine OC.out.mono ?_
        rintro e w3 ⟨a, rfl, ha, hb⟩
        have HA := Lib.hid ha
        have HB := Lib.hid hb
        clear ha hb OC
        by_cases h0 : tn = fn
        · subst h0
          go_wp2_with fail
          go_ret2
          have e0 : tn - tn = 0 := Nat.sub_self tn
          have FIN := KEY2.out a w3 HB.out (fun h => by omega)
          rw [e0] at FIN
          first
          | exact FIN
          | exact KEY2.out _ w3 HB.out (fun h => by omega)
        · obtain ⟨gm, cm, hvm, rfl⟩ := HA.out (by omega)
          have FIN := Lib.hid (KEY2.out (some ⟨gm, x.at' + fn, none⟩) w3 HB.out (fun _ => ⟨gm, cm, hvm, rfl⟩))
          clear KEY2 hvm
          go_wp2_with fail
          go_ret2
          exact FIN.out

end
end Go.Proofs.Ytjogaohnphafgaa
