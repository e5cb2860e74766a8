/-
  A heap that is compacted, in memory; the search of a block. No conditions but bounds.
-/
import Derived.Test.YtjogaohnphafgaaTopCompactPaj
import Derived.Test.YtjogaohnphafgaaTopCompactPao
import Derived.Test.YtjogaohnphafgaaTopCompactPaq
import Derived.Test.YtjogaohnphafgaaTopCompactPar
import Derived.Test.YtjogaohnphafgaaTopCompactPas
import Derived.Test.YtjogaohnphafgaaTopCompactPak
namespace Go.Proofs.Ytjogaohnphafgaa
open Go.RowKit
set_option linter.unusedVariables false

theorem within_move_yes (n lo hi : Int) (w : World) (h1 : lo ≤ n) (h2 : n ≤ hi) :
    Calls Try.prog 26 #[.int .i64 n, .int .i64 lo, .int .i64 hi] w fun e w' => e = .returned (.bool true) ∧ w = w' := by
  go_enter Try.func26, Try.ntmps26
  go_wp2
  go_ret
  exact ⟨rfl, rfl⟩
theorem within_move_no (n lo hi : Int) (w : World) (h : ¬ (lo ≤ n ∧ n ≤ hi)) :
    Calls Try.prog 26 #[.int .i64 n, .int .i64 lo, .int .i64 hi] w fun e w' => e = .returned (.bool false) ∧ w = w' := by
  by_cases h1 : lo ≤ n
  · have h2 : hi < n := by omega
    clear h
    go_enter Try.func26, Try.ntmps26
    go_wp2
    go_ret
    first | exact ⟨rfl, rfl⟩ | exact ⟨ret_bool (decide_eq_false (by omega)), rfl⟩
  · have h2 : n < lo := by omega
    clear h h1
    go_enter Try.func26, Try.ntmps26
    go_wp2
    go_ret
    first | exact ⟨rfl, rfl⟩ | exact ⟨ret_bool (decide_eq_false (by omega)), rfl⟩

/-- A block: its handle, where it lies, its length. -/
structure Blk where
  h : Nat
  at' : Nat
  len : Nat
instance : Inhabited Blk := ⟨⟨0, 0, 0⟩⟩
def Blk.cells (x : Blk) : List Value := [.int .i64 (x.h : Int), .int .i64 (x.at' : Int), .int .i64 (x.len : Int)]
theorem blk_get (qs : List Blk) (i r : Nat) (x : Blk) (h : qs[i]? = some x) (hr : r < 3) : (qs.flatMap Blk.cells)[i * 3 + r]? = x.cells[r]? := by
  induction qs generalizing i with
  | nil => simp at h
  | cons y qs ih =>
    rw [List.flatMap_cons]
    cases i with
    | zero =>
      simp at h
      subst h
      rw [Nat.zero_mul, Nat.zero_add, List.getElem?_append_left (by show r < 3; exact hr)]
    | succ i =>
      have e : (i + 1) * 3 + r = y.cells.length + (i * 3 + r) := by show _ = 3 + _; omega
      rw [e, List.getElem?_append_right (Nat.le_add_right _ _), Nat.add_sub_cancel_left]
      exact ih i (by simpa using h)
theorem blk_len (qs : List Blk) : (qs.flatMap Blk.cells).length = qs.length * 3 := by
  induction qs with
  | nil => rfl
  | cons y qs ih => rw [List.flatMap_cons, List.length_append, ih]; show 3 + _ = _; simp; omega
/-- The heap's state. -/
structure HpSt where
  k : Int
  s : Int
  m : Int
  closed : Bool
  mem : List Int
  bl : List Blk
  last : Nat
  count : Nat
  hist : List (List Blk)
/-- The memory's shape: none, or a block of that size. -/
def memSh (vm : Value) (n : Nat) : Prop := (vm = .slice none 0 0 ∧ n = 0) ∨ ∃ g, vm = .slice (some ⟨g, 0, none⟩) n n
structure HpMem (w : World) (F : Nat → Prop) (hp bp : Nat) (S : HpSt) (vm vb vh : Value) (vhs : List Value) : Prop where
  self : w.heap[hp]? = some (.cells #[.pointer (some ⟨bp, 0, none⟩), .int .i64 1, .int .i64 S.k, .int .i64 S.s, .int .i64 S.m, .bool S.closed, vm, vb, .int .i64 (S.last : Int), .int .i64 (S.count : Int), vh] 70 (0, 0))
  fh : F hp
  mem : w.ownsRow 0 5 1 vm S.mem.length (S.mem.map (Value.int .u8)) ∧ ∀ k, vm.ownBlock = some k → F k
  mb : bytes S.mem
  msh : memSh vm S.mem.length
  row : w.ownsRow 0 52 3 vb S.bl.length (S.bl.flatMap Blk.cells) ∧ ∀ k, vb.ownBlock = some k → F k
  hrow : w.ownsRow 0 45 1 vh S.hist.length vhs ∧ ∀ k, vh.ownBlock = some k → F k
  hs : vhs.length = S.hist.length ∧ ∀ (i : Nat) (v : Value) (l : List Blk), vhs[i]? = some v → S.hist[i]? = some l → w.ownsRow 0 52 3 v l.length (l.flatMap Blk.cells) ∧ ∀ k, v.ownBlock = some k → F k ∧ vb.ownBlock ≠ some k
  ord : (S.bl.map Blk.h).Pairwise (· < ·)
  hb : ∀ x ∈ S.bl, 1 ≤ x.h ∧ x.h ≤ S.last ∧ x.at' + x.len ≤ S.mem.length
  big : S.mem.length ≤ 100000 ∧ S.bl.length ≤ 500 ∧ S.last ≤ 1000000000 ∧ S.count ≤ 1000000000 ∧ S.hist.length ≤ 9
theorem HpMem.same {w w' : World} {F : Nat → Prop} {hp bp : Nat} {S : HpSt} {vm vb vh : Value} {vhs : List Value} (m : HpMem w F hp bp S vm vb vh vhs) (hs : ∀ k, F k → k < w.heap.size → w'.heap[k]? = w.heap[k]?) : HpMem w' F hp bp S vm vb vh vhs :=
  ⟨(hs _ m.fh (lt_of m.self)).trans m.self, m.fh, ⟨ownsRow_same m.mem.1 (fun k hk => hs k (m.mem.2 k hk) (m.mem.1.lt k hk).2), m.mem.2⟩, m.mb, m.msh, ⟨ownsRow_same m.row.1 (fun k hk => hs k (m.row.2 k hk) (m.row.1.lt k hk).2), m.row.2⟩, ⟨ownsRow_same m.hrow.1 (fun k hk => hs k (m.hrow.2 k hk) (m.hrow.1.lt k hk).2), m.hrow.2⟩,
    ⟨m.hs.1, fun i v l h1 h2 => ⟨ownsRow_same (m.hs.2 i v l h1 h2).1 (fun k hk => hs k ((m.hs.2 i v l h1 h2).2 k hk).1 ((m.hs.2 i v l h1 h2).1.lt k hk).2), (m.hs.2 i v l h1 h2).2⟩⟩, m.ord, m.hb, m.big⟩
theorem HpMem.below {w w' : World} {F : Nat → Prop} {hp bp : Nat} {S : HpSt} {vm vb vh : Value} {vhs : List Value} (m : HpMem w F hp bp S vm vb vh vhs) (hb : Below w.heap.size w w') : HpMem w' F hp bp S vm vb vh vhs := m.same (fun k _ hk => hb.block k hk)
theorem HpMem.cells {w : World} {F : Nat → Prop} {hp bp : Nat} {S : HpSt} {vm vb vh : Value} {vhs : List Value} (m : HpMem w F hp bp S vm vb vh vhs) :
    w.cell? ⟨hp, 0, none⟩ = some (.pointer (some ⟨bp, 0, none⟩)) ∧ w.cell? ⟨hp, 1, none⟩ = some (.int .i64 1) ∧ w.cell? ⟨hp, 2, none⟩ = some (.int .i64 S.k) ∧ w.cell? ⟨hp, 3, none⟩ = some (.int .i64 S.s) ∧ w.cell? ⟨hp, 4, none⟩ = some (.int .i64 S.m) ∧ w.cell? ⟨hp, 5, none⟩ = some (.bool S.closed) ∧
      w.cell? ⟨hp, 6, none⟩ = some vm ∧ w.cell? ⟨hp, 7, none⟩ = some vb ∧ w.cell? ⟨hp, 8, none⟩ = some (.int .i64 (S.last : Int)) ∧ w.cell? ⟨hp, 9, none⟩ = some (.int .i64 (S.count : Int)) ∧ w.cell? ⟨hp, 10, none⟩ = some vh := by
  refine ⟨?_, ?_, ?_, ?_, ?_, ?_, ?_, ?_, ?_, ?_, ?_⟩ <;> (rw [cell_of m.self]; rfl)
/-- The cells of a block of a row. -/
theorem blk_cells {w : World} {v : Value} {l : List Blk} {i : Nat} {x : Blk} (h : w.ownsRow 0 52 3 v l.length (l.flatMap Blk.cells)) (hs : l[i]? = some x) :
    ∃ g cap, v = .slice (some ⟨g, 0, none⟩) l.length cap ∧ w.cell? ⟨g, i * 3, none⟩ = some (.int .i64 (x.h : Int)) ∧ w.cell? ⟨g, i * 3 + 1, none⟩ = some (.int .i64 (x.at' : Int)) ∧ w.cell? ⟨g, i * 3 + 2, none⟩ = some (.int .i64 (x.len : Int)) ∧ ∀ j, w.frozen? ⟨g, j, none⟩ = false := by
  have hi : i < l.length := (List.getElem?_eq_some_iff.1 hs).1
  have hsh : ∃ g cap, v = .slice (some ⟨g, 0, none⟩) l.length cap := by
    rcases h.2 with ⟨h1, h2⟩ | ⟨g, cap', cur, h1, _⟩
    · omega
    · exact ⟨g, cap', h1⟩
  obtain ⟨g, cap, rfl⟩ := hsh
  have key : ∀ r (u : Value), r < 3 → x.cells[r]? = some u → w.cell? ⟨g, i * 3 + r, none⟩ = some u := fun r u hr hu => by
    obtain ⟨g', hg, hc, _⟩ := wrow_cell h (j := i * 3 + r) (u := u) (by rw [blk_get l i r x hs hr]; exact hu)
    cases hg
    exact hc
  obtain ⟨cur, hc⟩ := row_block h (k := g) (by simp [Value.ownBlock])
  exact ⟨g, cap, rfl, key 0 _ (by decide) rfl, key 1 _ (by decide) rfl, key 2 _ (by decide) rfl, fun j => free_of hc _⟩

/-- Where a handle stands. -/
def findB : List Blk → Int → Option (Nat × Blk)
  | [], _ => none
  | x :: l, h => if (x.h : Int) = h then some (0, x) else (findB l h).map fun p => (p.1 + 1, p.2)
theorem findB_at : ∀ {l : List Blk} {h : Int} {i : Nat} {x : Blk}, findB l h = some (i, x) → l[i]? = some x ∧ (x.h : Int) = h
  | [], h, i, x, e => by simp [findB] at e
  | y :: l, h, i, x, e => by
    unfold findB at e
    split at e
    · next hy =>
      cases e
      exact ⟨rfl, hy⟩
    · obtain ⟨⟨j, z⟩, h1, h2⟩ := Option.map_eq_some_iff.1 e
      simp only [Prod.mk.injEq] at h2
      obtain ⟨rfl, rfl⟩ := h2
      have := findB_at h1
      exact ⟨by simpa using this.1, this.2⟩
theorem findB_hit {l : List Blk} {h : Int} {k : Nat} {x : Blk} (hx : l[k]? = some x) (hh : (x.h : Int) = h) (hb : findB (l.take k) h = none) : findB l h = some (k, x) := by
  induction l generalizing k with
  | nil => simp at hx
  | cons y l ih =>
    cases k with
    | zero =>
      simp at hx
      subst hx
      unfold findB
      rw [if_pos hh]
    | succ k =>
      rw [List.take_succ_cons] at hb
      unfold findB at hb ⊢
      split at hb
      · cases hb
      · next hy =>
        rw [if_neg hy]
        have h1 : findB (l.take k) h = none := by
          cases hf : findB (l.take k) h with
          | none => rfl
          | some p => rw [hf] at hb; cases hb
        rw [ih (by simpa using hx) h1]
        rfl
theorem findB_next {l : List Blk} {h : Int} {k : Nat} {x : Blk} (hx : l[k]? = some x) (hh : ¬ (x.h : Int) = h) (hb : findB (l.take k) h = none) : findB (l.take (k + 1)) h = none := by
  induction l generalizing k with
  | nil => simp at hx
  | cons y l ih =>
    cases k with
    | zero =>
      simp at hx
      subst hx
      rw [List.take_succ_cons, List.take_zero]
      unfold findB
      rw [if_neg hh]
      rfl
    | succ k =>
      rw [List.take_succ_cons] at hb ⊢
      unfold findB at hb ⊢
      split at hb
      · cases hb
      · next hy =>
        rw [if_neg hy]
        have h1 : findB (l.take k) h = none := by
          cases hf : findB (l.take k) h with
          | none => rfl
          | some p => rw [hf] at hb; cases hb
        rw [ih (by simpa using hx) h1]
        rfl
def fndE (S : HpSt) (h : Int) : Int := if S.closed then 11 else if ¬ (1 ≤ h ∧ h ≤ (S.last : Int)) then 7 else match findB S.bl h with | none => 13 | some _ => 0
/-- What find gives. -/
def FdPost (S : HpSt) (vb : Value) (h : Int) (w : World) : Ending → World → Prop := fun e w' => w' = w ∧
  ((fndE S h ≠ 0 ∧ e = .returned (.tuple #[.pointer none, .int .i64 (fndE S h)])) ∨ (fndE S h = 0 ∧ ∃ i x g cap, findB S.bl h = some (i, x) ∧ vb = .slice (some ⟨g, 0, none⟩) S.bl.length cap ∧ e = .returned (.tuple #[.pointer (some ⟨g, i * 3, none⟩), .int .i64 0])))

set_option maxHeartbeats 4000000 in
set_option maxRecDepth 100000 in
theorem findM_any {w : World} {F : Nat → Prop} {hp bp : Nat} {S : HpSt} {vm vb vh : Value} {vhs : List Value} (m : HpMem w F hp bp S vm vb vh vhs) (h : Int) :
    Calls Try.prog 28 #[.pointer (some ⟨hp, 0, none⟩), .int .i64 h] w (FdPost S vb h w) := by
  obtain ⟨c0, c1, c2, c3, c4, c5, c6, c7, c8, c9, c10⟩ := m.cells
  have hl1 := m.big.2.2.1
  cases hc : S.closed with
  | true =>
    rw [hc] at c5
    have FIN : Hid (FdPost S vb h w (.returned (.tuple #[.pointer none, .int .i64 11])) w) := Lib.hid ⟨rfl, Or.inl ⟨by unfold fndE; rw [hc]; simp, by unfold fndE; rw [hc]; rfl⟩⟩
    clear m hc
    go_enter Try.func28, Try.ntmps28
    go_wp2_with fail
    go_ret2
    exact FIN.out
  | false =>
    rw [hc] at c5
    by_cases hin : 1 ≤ h ∧ h ≤ (S.last : Int)
    · have W1 := Lib.hid (within_move_yes h 1 (S.last : Int) w hin.1 hin.2)
      have HM := Lib.hid m
      have E0 := Lib.hid (show fndE S h = (match findB S.bl h with | none => 13 | some _ => 0) by unfold fndE; rw [hc]; simp [hin])
      obtain ⟨L, hL⟩ : ∃ L, S.bl.length = L := ⟨_, rfl⟩
      have HL := Lib.hid hL
      have hfew := m.big.2.1
      obtain ⟨a, cap, hvb⟩ := wrow_sh m.row.1
      have HVB := Lib.hid hvb
      rw [hvb, hL] at c7
      rw [hL] at hfew
      clear m hc hin hL hvb
      go_enter Try.func28, Try.ntmps28
      go_wp2_with fail
      refine W1.out.mono ?_
      rintro e w2 ⟨rfl, hw2⟩
      obtain rfl := hw2
      clear W1
      go_wp2_with fail
      go_loopw [23] (fun i wr => ∃ k : Nat, k ≤ L ∧ i = .int .i64 (k : Int) ∧ wr = w ∧ findB (S.bl.take k) h = none) (fun i _ => L - (intOf i).toNat)
      case atStart => exact ⟨0, Nat.zero_le _, rfl, rfl, rfl⟩
      case round =>
        obtain ⟨k, hk, rfl, hwr, hnone⟩ := hrel
        obtain rfl := hwr.symm
        clear hwr
        by_cases hlt : k < L
        · obtain ⟨x, hx⟩ : ∃ x, S.bl[k]? = some x := ⟨_, List.getElem?_eq_getElem (by have := HL.out; omega)⟩
          obtain ⟨g, cap2, hv2, d0, _, _, _⟩ := blk_cells HM.out.row.1 hx
          have hv3 := HVB.out
          rw [hv2] at hv3
          simp only [Value.slice.injEq] at hv3
          obtain ⟨rfl, k6, rfl⟩ := hv3
          clear k6
          by_cases hh : (x.h : Int) = h
          · have hf := findB_hit hx hh hnone
            have FIN : Hid (FdPost S vb h w (.returned (.tuple #[.pointer (some ⟨g, k * 3, none⟩), .int .i64 0])) w) := Lib.hid ⟨rfl, Or.inr ⟨by rw [E0.out, hf], k, x, g, cap2, hf, hv2, rfl⟩⟩
            clear hf hx hnone hv2
            go_wp2_with fail
            go_ret2
            exact FIN.out
          · have hf := Lib.hid (findB_next hx hh hnone)
            clear hx hnone hv2
            go_wp2_with fail
            go_roundw
            case measure => simp only [intOf]; omega
            case rel => exact ⟨k + 1, by omega, by go_num, by trivial, hf.out⟩
        · obtain rfl : k = L := by omega
          have ek : S.bl.take k = S.bl := List.take_of_length_le (by have := HL.out; omega)
          rw [ek] at hnone
          have FIN : Hid (FdPost S vb h w (.returned (.tuple #[.pointer none, .int .i64 13])) w) := Lib.hid ⟨rfl, Or.inl ⟨by rw [E0.out, hnone]; decide, by rw [E0.out, hnone]⟩⟩
          clear hnone ek
          go_wp2_with fail
          go_ret2
          exact FIN.out
    · have W1 := Lib.hid (within_move_no h 1 (S.last : Int) w hin)
      have FIN : Hid (FdPost S vb h w (.returned (.tuple #[.pointer none, .int .i64 7])) w) := Lib.hid ⟨rfl, Or.inl ⟨by unfold fndE; rw [hc]; simp [hin], by unfold fndE; rw [hc]; simp [hin]⟩⟩
      clear m hc hin
      go_enter Try.func28, Try.ntmps28
      go_wp2_with fail
      refine W1.out.mono ?_
      rintro e w2 ⟨rfl, hw2⟩
      obtain rfl := hw2
      clear W1
      go_wp2_with fail
      go_ret2
      exact FIN.out

end Go.Proofs.Ytjogaohnphafgaa
