/-
  The book's Open and Held. No conditions.
  The error of a policy: CheckPolicy, PolicyFault and PolicyError are one function. No conditions.
  Classes, ClassList, slices.BinarySearch, ClassOf, ClassFor: what they give, for all arguments. No conditions.
  ClassOf and ClassFor give one class and one error, for all arguments; RoomClasses' walk. No conditions.
-/
import Derived.Test.YtbndknbjjdoanaaTopSharedPad
import Derived.Test.YtbndknbjjdoanaaTopSharedPaa

namespace Go.Proofs.Ytbndknbjjdoanaa
section
open Go.RowKit

/-- What Open leaves. -/
def openSt (st : BookSt) (o l : Int) : BookSt := { st with acc := fun x => if x = o then some (l, 0, 0) else st.acc x, entries := st.entries ++ [⟨1, o, 0, l, 0, 0⟩] }

def OpPost (err : Int) (F : Nat → Prop) (p : Nat) (st : BookSt) (N : Nat) (w : World) : Ending → World → Prop := fun e w' =>
  e = .returned (.int .i64 err) ∧ BookAt w' (fun k => F k ∨ w.heap.size ≤ k) p st N ∧ Touch F w w'

theorem reads_one (w : World) (x : Int) (t : TypeId) : Reads (w.alloc (.cells #[.int .i64 x] t)) .i64 (.slice (some ⟨w.heap.size, 0, none⟩) 1 1) [x] := by
  refine ⟨some ⟨w.heap.size, 0, none⟩, 1, rfl, by simp, fun _ => ⟨w.heap.size, 0, rfl, fun j hj => ?_⟩⟩
  have : j = 0 := by simpa using hj
  subst this
  rw [cell_of_row _ _ _ _ _ _ (heap_alloc_new w _)]
  rfl

theorem lit_ne {x o : Int} (h : x ≠ o) : (Lit.int .i64 x) ≠ (Lit.int .i64 o) := by simp [h]

theorem open_mem {w w1 : World} {F : Nat → Prop} {p : Nat} {st : BookSt} {N mb : Nat} {blk : Int → Option Nat} {lv ev : Value} {D : DataW Unit} (h : BookMem w F p st N mb blk lv ev D) (o l : Int)
    (hm : w1.ownsMap Try.prog 3 ptrElem mb (N + 1) (D.put (.int .i64 o) (.lit (.int .i64 (w.heap.size : Int)))))
    (hg : (w.alloc (.cells #[.int .i64 l, .int .i64 0, .int .i64 0] 103)).grownBy w1 (some mb)) :
    BookMem w1 (fun k => F k ∨ w.heap.size ≤ k) p { st with acc := fun x => if x = o then some (l, 0, 0) else st.acc x } (N + 1) mb (fun x => if x = o then some w.heap.size else blk x) lv ev (D.put (.int .i64 o) (.lit (.int .i64 (w.heap.size : Int)))) ∧ Touch F w w1 := by
  have hk : ∀ k, k < w.heap.size → k ≠ mb → w1.heap[k]? = w.heap[k]? := fun k hk hne => (hg.block k (by simp; omega) (fun e => hne (by simpa using e))).trans (heap_alloc_old w _ hk)
  have notmb : ∀ b cur t, w.heap[b]? = some (.cells cur t (0, 0)) → b ≠ mb := by
    intro b cur t hb e
    subst e
    obtain ⟨xs, clock, hx, _⟩ := h.map
    rw [hb] at hx; simp at hx
  have hmap : Maps.IsMap D := by obtain ⟨_, _, _, _, _, hD⟩ := h.map; exact ⟨_, hD⟩
  refine ⟨⟨(hk p (lt_of h.self) (notmb _ _ _ h.self)).trans h.self, Or.inl h.fp, hm, Or.inl h.fmap, ?_, ?_, ?_, ?_, ?_, fun k hk => Or.inl (h.flea k hk), ?_, fun k hk => Or.inl (h.fent k hk)⟩, ?_⟩
  · intro x z
    by_cases hx : x = o
    · subst hx
      rw [Maps.atKey_put_same hmap (by simp [WideAt.IsKeyLit]), if_pos rfl]
      rfl
    · rw [Maps.atKey_put_other (lit_ne hx), if_neg hx]
      exact h.look x z
  · intro x
    by_cases hx : x = o
    · simp [hx]
    · simp only [if_neg hx]; exact h.anone x
  · intro x b hb
    by_cases hx : x = o
    · subst hx
      have hb' : some w.heap.size = some b := by simpa using hb
      cases hb'
      refine ⟨l, 0, 0, by simp, ?_, Or.inr (Nat.le_refl _)⟩
      rw [hg.block w.heap.size (by simp) (fun e => ?_)]
      · exact heap_alloc_new w _
      · have := h.map.lt; simp only [Option.some.injEq] at e; omega
    · simp only [if_neg hx] at hb ⊢
      obtain ⟨l', x', s', h1, h2, h3⟩ := h.asome x b hb
      exact ⟨l', x', s', h1, (hk b (lt_of h2) (notmb _ _ _ h2)).trans h2, Or.inl h3⟩
  · intro x y b hx hy
    by_cases ex : x = o
    · by_cases ey : y = o
      · rw [ex, ey]
      · simp only [if_pos ex, if_neg ey, Option.some.injEq] at hx hy
        obtain ⟨_, _, _, _, h2, _⟩ := h.asome y b hy
        have := lt_of h2
        omega
    · by_cases ey : y = o
      · simp only [if_neg ex, if_pos ey, Option.some.injEq] at hx hy
        obtain ⟨_, _, _, _, h2, _⟩ := h.asome x b hx
        have := lt_of h2
        omega
      · simp only [if_neg ex, if_neg ey] at hx hy
        exact h.inj x y b hx hy
  · refine ownsRow_same h.lrow (fun k hk' => ?_)
    obtain ⟨cur, hc⟩ := row_block h.lrow hk'
    exact hk k (lt_of hc) (notmb _ _ _ hc)
  · refine ownsRow_same h.erow (fun k hk' => ?_)
    obtain ⟨cur, hc⟩ := row_block h.erow hk'
    exact hk k (lt_of hc) (notmb _ _ _ hc)
  · exact ((Touch.refl F w).alloc _).grown hg (fun k hk => by simp only [Option.some.injEq] at hk; subst hk; exact Or.inl h.fmap)

set_option maxHeartbeats 4000000 in
set_option maxRecDepth 100000 in
theorem open_new (p : Nat) (o l : Int) (w : World) (F : Nat → Prop) (st : BookSt) (N : Nat) (hb : BookAt w F p st N) (hn : st.entries.length ≤ 9999) (hN : N < maxLen) (ho : 1 ≤ o ∧ o ≤ 40) (hl : 0 ≤ l ∧ l ≤ 10000000) (hno : st.acc o = none) :
    Calls Try.prog 28 #[.pointer (some ⟨p, 0, none⟩), .int .i64 o, .int .i64 l] w (OpPost 0 F p (openSt st o l) (N + 1) w) := by
  obtain ⟨mb, blk, lv, ev, D, hm⟩ := hb
  have hwf : (Lit.int .i64 o).wf = true := WalkArith.wf_i64 (by omega)
  have C := check_any o _ [l] _ (reads_one w l 3)
  rw [show chkE o [l] = 0 from by unfold chkE; rw [if_pos ⟨ho, fun z hz => by simp at hz; subst hz; exact hl⟩]] at C
  have HC := Lib.hid C
  have hmw := hm.same (Below.same_on (Below.alloc (Below.refl _ w) (Nat.le_refl _) (.cells #[.int .i64 l] 3)))
  have L := book_lookup hmw o ho
  have hbn : blk o = none := (hm.anone o).2 hno
  rw [hbn] at L
  unfold ptrOf at L
  have c4 : (w.alloc (.cells #[.int .i64 l] 3)).cell? ⟨p, 4, none⟩ = some (.map (some mb)) := by rw [cell_of hmw.self]; rfl
  have HM := Lib.hid hm
  have HW := Lib.hid hmw
  have hp := lt_of hm.self
  clear C hm hmw hno ho hl
  go_enter Try.func28, Try.ntmps28
  go_wp2_with fail
  refine HC.out.mono ?_
  rintro e w' ⟨rfl, rfl⟩
  go_wp2_with (at_mapUpdate; go_must (refine wpList_mapUpdate_own _ rfl _ _ _ 95 rfl 3 101 intKey Try.underlying95 ptrElem mb N D rfl (by exact HW.out.map.alloc _) hN (.int .i64 o) (.pointer (some ⟨w.heap.size + 1, 0, none⟩)) (.int .i64 o) rfl rfl (Maps.keyOf_int_mk Try.underlying3 hwf) (.lit (.int .i64 (w.heap.size + 1 : Nat))) [] rfl ?_))
  intro w1 hown1 hg1
  have hsz : (w.alloc (.cells #[.int .i64 l] 3)).heap.size = w.heap.size + 1 := by simp
  obtain ⟨h1, h2⟩ := open_mem HW.out o l (by rw [hsz]; exact hown1) hg1
  have NT := Lib.hid (note_few p ⟨1, o, 0, l, 0, 0⟩ w1 _ _ _ ⟨mb, _, lv, ev, _, h1⟩ hn)
  clear hown1 hg1 L c4
  go_wp2_with fail
  refine NT.out.mono ?_
  rintro e w2 ⟨rfl, hb2, ht2⟩
  go_wp2_with fail
  go_ret
  refine ⟨rfl, hb2.wider ?_, ?_⟩
  · intro k hk
    rcases hk with (hk | hk) | hk
    · exact Or.inl hk
    · right; rw [hsz] at hk; omega
    · right; have := h2.size; rw [hsz] at this; omega
  · have t1 : Touch F w w1 := ((Touch.refl F w).alloc _).then h2
    refine t1.trans ht2 ?_
    intro i hi
    rcases hi with hi | hi
    · exact Or.inl hi
    · right; rw [hsz] at hi; omega

/-- What Held gives. -/
def heldV (st : BookSt) (o : Int) : Int := if 1 ≤ o ∧ o ≤ 40 then (match st.acc o with | some (_, h, _) => h | none => 0) else 0
def heldE (st : BookSt) (o : Int) : Int := if 1 ≤ o ∧ o ≤ 40 then (match st.acc o with | some _ => 0 | none => 7) else 2
def SamePost2 (r err : Int) (w : World) : Ending → World → Prop := fun e w' => e = .returned (.tuple #[.int .i64 r, .int .i64 err]) ∧ w = w'

theorem reads_nil (w : World) : Reads w .i64 (.slice none 0 0) [] := ⟨none, 0, rfl, by simp, fun h => absurd rfl h⟩

set_option maxHeartbeats 1000000 in
set_option maxRecDepth 100000 in
theorem held_any (p : Nat) (o : Int) (w : World) (F : Nat → Prop) (st : BookSt) (N : Nat) (hb : BookAt w F p st N) :
    Calls Try.prog 30 #[.pointer (some ⟨p, 0, none⟩), .int .i64 o] w (SamePost2 (heldV st o) (heldE st o) w) := by
  obtain ⟨mb, blk, lv, ev, D, hm⟩ := hb
  by_cases ho : 1 ≤ o ∧ o ≤ 40
  · have he : chkE o [] = 0 := by unfold chkE; rw [if_pos ⟨ho, by simp⟩]
    have C := account_any p o _ [] w F st N mb blk lv ev D (reads_nil w) he hm
    cases hk : blk o with
    | none =>
      have hv : heldV st o = 0 := by unfold heldV; rw [if_pos ho, (hm.anone o).1 hk]
      have hee : heldE st o = 7 := by unfold heldE; rw [if_pos ho, (hm.anone o).1 hk]
      rw [hv, hee]
      rw [hk] at C
      have HC := Lib.hid C
      clear C hm he hv hee hk ho
      go_enter Try.func30, Try.ntmps30
      go_wp2_with fail
      refine HC.out.mono ?_
      rintro e w' ⟨rfl, rfl⟩
      go_wp2_with fail
      go_ret2
      exact ⟨rfl, rfl⟩
    | some ab =>
      obtain ⟨l, h, s, h1, h2, h3⟩ := hm.asome o ab hk
      have hv : heldV st o = h := by unfold heldV; rw [if_pos ho, h1]
      have hee : heldE st o = 0 := by unfold heldE; rw [if_pos ho, h1]
      rw [hv, hee]
      rw [hk] at C
      have c1 : w.cell? ⟨ab, 1, none⟩ = some (.int .i64 h) := by rw [cell_of h2]; rfl
      have HC := Lib.hid C
      clear C hm he hv hee hk ho h1 h2 h3
      go_enter Try.func30, Try.ntmps30
      go_wp2_with fail
      refine HC.out.mono ?_
      rintro e w' ⟨rfl, rfl⟩
      unfold ptrOf
      go_wp2_with fail
      go_ret2
      exact ⟨rfl, rfl⟩
  · have he : chkE o [] ≠ 0 := by unfold chkE; rw [if_neg (fun x => ho x.1)]; decide
    have C := account_err p o _ [] w (reads_nil w) he
    have hv : heldV st o = 0 := by unfold heldV; rw [if_neg ho]
    have hee : heldE st o = 2 := by unfold heldE; rw [if_neg ho]
    rw [hv, hee]
    have HC := Lib.hid C
    clear C hm he hv hee ho
    go_enter Try.func30, Try.ntmps30
    go_wp2_with fail
    refine HC.out.mono ?_
    rintro e w' ⟨rfl, rfl⟩
    go_wp2_with fail
    go_ret2
    exact ⟨rfl, rfl⟩

end
end Go.Proofs.Ytbndknbjjdoanaa

namespace Go.Proofs.Ytbndknbjjdoanaa
section
open Go.RowKit

/-- The error of a policy. -/
def polErr (k s m : Int) : Int :=
  if 1 ≤ k ∧ k ≤ 5 then (if (k = 2 → 1 ≤ s ∧ s ≤ 100000) ∧ (¬ k = 2 → s = 0) ∧ (0 ≤ m ∧ m ≤ 100000) then 0 else 2) else 10

theorem polErr_kind {k s m : Int} (h : ¬ (1 ≤ k ∧ k ≤ 5)) : polErr k s m = 10 := by unfold polErr; rw [if_neg h]
theorem polErr_bad {k s m : Int} (h : 1 ≤ k ∧ k ≤ 5) (h2 : ¬ ((k = 2 → 1 ≤ s ∧ s ≤ 100000) ∧ (¬ k = 2 → s = 0) ∧ (0 ≤ m ∧ m ≤ 100000))) : polErr k s m = 2 := by
  unfold polErr; rw [if_pos h, if_neg h2]
theorem polErr_ok {k s m : Int} (h : 1 ≤ k ∧ k ≤ 5) (h2 : (k = 2 → 1 ≤ s ∧ s ≤ 100000) ∧ (¬ k = 2 → s = 0) ∧ (0 ≤ m ∧ m ≤ 100000)) : polErr k s m = 0 := by
  unfold polErr; rw [if_pos h, if_pos h2]

def polV (k s m : Int) : Value := .agg #[.int .i64 k, .int .i64 s, .int .i64 m]
def ErrPost (err : Int) (w w2 : World) : Ending → World → Prop := fun e w' => e = .returned (.int .i64 err) ∧ w2 = w' ∧ w = w

end
end Go.Proofs.Ytbndknbjjdoanaa

namespace Go.Proofs.Ytbndknbjjdoanaa
section
open Go.RowKit

def lo (k : Nat) : Int := 8 * 2 ^ k
def hi (k : Nat) : Int := 12 * 2 ^ k
def cls (k : Nat) : List Int := (List.range k).flatMap fun i => [lo i, hi i]
/-- The size classes. -/
def classes : List Int := cls 14 ++ [100000]

theorem cls_succ (k : Nat) : cls (k + 1) = cls k ++ [lo k] ++ [hi k] := by simp [cls, List.range_succ]
theorem cls_len (k : Nat) : (cls k).length = 2 * k := by
  induction k with
  | zero => rfl
  | succ k ih => rw [cls_succ]; simp [ih]; omega
theorem lo_bd (k : Nat) (h : k < 14) : 8 ≤ lo k ∧ lo k ≤ 65536 ∧ 12 ≤ hi k ∧ hi k ≤ 98304 ∧ hi k = lo k + lo k / 2 ∧ lo (k + 1) = 2 * lo k ∧ hi (k + 1) = 2 * hi k := by
  have : k = 0 ∨ k = 1 ∨ k = 2 ∨ k = 3 ∨ k = 4 ∨ k = 5 ∨ k = 6 ∨ k = 7 ∨ k = 8 ∨ k = 9 ∨ k = 10 ∨ k = 11 ∨ k = 12 ∨ k = 13 := by omega
  rcases this with rfl | rfl | rfl | rfl | rfl | rfl | rfl | rfl | rfl | rfl | rfl | rfl | rfl | rfl <;> decide
theorem lo_top : lo 14 = 131072 := by decide
theorem hi_top : hi 14 = 196608 := by decide

def OwnPost (zs : List Int) (w : World) : Ending → World → Prop := fun e w' =>
  ∃ v, e = .returned v ∧ w'.ownsRow w.heap.size 3 1 v zs.length (zs.map (Value.int .i64)) ∧ Below w.heap.size w w'

set_option maxHeartbeats 2000000 in
set_option maxRecDepth 100000 in
theorem classes_any (w : World) : Calls Try.prog 54 #[] w (OwnPost classes w) := by
  obtain ⟨i0, hi0, hz0, hz1, hz2⟩ := info_parts infoInt
  go_enter Try.func54, Try.ntmps54
  go_wp2
  go_loopw [1, 2, 3] (fun v a b wr => ∃ k : Nat, k ≤ 14 ∧ a = .int .i64 (lo k) ∧ b = .int .i64 (hi k) ∧ wr.ownsRow w.heap.size 3 1 v (2 * k) ((cls k).map (Value.int .i64)) ∧ Below w.heap.size w wr) (fun _ a _ _ => 200000 - (intOf a).toNat)
  case atStart => exact ⟨0, by omega, rfl, rfl, World.ownsRow_nil _ _ _ _, Below.refl _ _⟩
  case round =>
    obtain ⟨k, hk, rfl, rfl, hown, hb⟩ := hrel
    have hbs := hb.size
    by_cases hlt : k < 14
    · obtain ⟨b1, b2, b3, b4, b5, b6, b7⟩ := lo_bd k hlt
      have B6 := Lib.hid b6
      have B7 := Lib.hid b7
      clear b5 b6 b7
      have S := Lib.hid (cls_succ k)
      generalize lo k = L at *
      generalize hi k = R at *
      generalize hkk : 2 * k = k2 at *
      have KK := Lib.hid hkk
      have k3 : k2 ≤ 28 := by omega
      clear hkk
      go_wp2_with (at_builtin; go_must (refine wpList_append_new rfl (.tmp 10) (.tmp 12) 53 rfl w.heap.size 3 i0 (.int .i64 0) 8 Try.underlying53 hi0 hz0 hz1 hz2 rfl _ _ _ wr _ (.int .i64 L) rfl (by exact hown) rfl rfl (by unfold maxLen; omega) (by omega) (by omega) ?_))
      intro v1 w1 hown1 _ hb1
      have hb2 := hb.trans hb1
      have hbs2 := hb2.size
      clear hown hb
      go_wp2_with (at_builtin; go_must (refine wpList_append_new rfl (.tmp 16) (.tmp 18) 53 rfl w.heap.size 3 i0 (.int .i64 0) 8 Try.underlying53 hi0 hz0 hz1 hz2 rfl _ _ _ w1 _ (.int .i64 R) rfl (by exact hown1) rfl rfl (by unfold maxLen; omega) (by omega) (by omega) ?_))
      intro v2 w2 hown2 _ hb3
      have hb4 := hb2.trans hb3
      have hown3 : w2.ownsRow w.heap.size 3 1 v2 (2 * (k + 1)) ((cls (k + 1)).map (Value.int .i64)) := by
        rw [S.out, List.map_append, List.map_append, List.append_assoc, show 2 * (k + 1) = k2 + 1 + 1 from by have := KK.out; omega]; exact hown2
      clear hown1 hown2
      go_wp2
      go_roundw
      case rel => exact ⟨k + 1, by omega, by rw [B6.out], by rw [B7.out], hown3, hb4⟩
      case measure => simp [intOf]; omega
    · obtain rfl : k = 14 := by omega
      rw [lo_top, hi_top]
      go_wp2_with (at_builtin; go_must (refine wpList_append_new rfl _ _ 53 rfl w.heap.size 3 i0 (.int .i64 0) 8 Try.underlying53 hi0 hz0 hz1 hz2 rfl _ _ _ wr _ (.int .i64 100000) rfl (by exact hown) rfl rfl (by unfold maxLen; omega) (by omega) (by omega) ?_))
      intro v1 w1 hown1 _ hb1
      have hb2 := hb.trans hb1
      clear hown hb
      go_wp2
      go_ret
      refine ⟨_, rfl, ?_, hb2⟩
      have : classes.length = 29 := by simp [classes, cls_len]
      rw [this, classes, List.map_append]
      exact hown1

theorem less_yes (a b : Int) (w : World) (h : a < b) :
    Calls Try.prog 67 #[.int .i64 a, .int .i64 b] w fun e w' => e = .returned (.bool true) ∧ w = w' := by
  go_enter Try.func67, Try.ntmps67
  go_wp2
  go_ret
  exact ⟨rfl, rfl⟩
theorem less_no (a b : Int) (w : World) (h : b ≤ a) :
    Calls Try.prog 67 #[.int .i64 a, .int .i64 b] w fun e w' => e = .returned (.bool false) ∧ w = w' := by
  go_enter Try.func67, Try.ntmps67
  go_wp2
  go_ret
  first | exact ⟨rfl, rfl⟩ | exact ⟨ret_bool (decide_eq_false (by omega)), rfl⟩

def BsPost (zs : List Int) (t : Int) (w : World) : Ending → World → Prop := fun e w' =>
  ∃ (i : Nat) (b : Bool), e = .returned (.tuple #[.int .i64 i, .bool b]) ∧ i ≤ zs.length ∧ (∀ j, j < i → zs.getD j 0 < t) ∧ (∀ j, i ≤ j → j < zs.length → t ≤ zs.getD j 0) ∧ w = w'

set_option maxHeartbeats 2000000 in
set_option maxRecDepth 100000 in
theorem bsearch_any (b o n c : Nat) (zs : List Int) (t : Int) (w : World) (hn : zs.length = n) (hsz : n ≤ 1000000) (hc : ∀ j, j < n → w.cell? ⟨b, o + j, none⟩ = some (.int .i64 (zs.getD j 0)))
    (hs : ∀ i j, i ≤ j → j < n → zs.getD i 0 ≤ zs.getD j 0) :
    Calls Try.prog 55 #[.slice (some ⟨b, o, none⟩) n c, .int .i64 t] w (BsPost zs t w) := by
  have Hn := Lib.hid hn
  have Hc := Lib.hid hc
  have Hs := Lib.hid hs
  clear hn hc hs
  go_enter Try.func55, Try.ntmps55
  go_wp2
  go_loop [7, 8] (fun x y => ∃ i j : Nat, i ≤ j ∧ j ≤ n ∧ x = .int .i64 i ∧ y = .int .i64 j ∧ (∀ m, m < i → zs.getD m 0 < t) ∧ (∀ m, j ≤ m → m < n → t ≤ zs.getD m 0)) (fun x y => (intOf y - intOf x).toNat)
  case atStart => exact ⟨0, n, by omega, by omega, rfl, rfl, fun m hm => absurd hm (by omega), fun m h1 h2 => absurd h1 (by omega)⟩
  case round =>
    obtain ⟨i, j, hij, hjn, rfl, rfl, h1, h2⟩ := hrel
    have H1 := Lib.hid h1
    have H2 := Lib.hid h2
    clear h1 h2
    by_cases hlt : i < j
    · have g := Hc.out ((i + j) / 2) (by omega)
      generalize hx : zs.getD ((i + j) / 2) 0 = x at g
      have HX := Lib.hid hx
      clear hx
      by_cases hxt : x < t
      · go_wp2_with fail
        refine (less_yes _ _ _ hxt).mono ?_
        rintro e w' ⟨rfl, rfl⟩
        go_wp2_with fail
        go_round
        case rel =>
          refine ⟨(i + j) / 2 + 1, j, by omega, by omega, by go_num, rfl, fun m hm => ?_, H2.out⟩
          have := Hs.out m ((i + j) / 2) (by omega) (by omega)
          rw [HX.out] at this
          omega
        case measure => simp [intOf]; omega
      · have hxt' : t ≤ x := by omega
        clear hxt
        go_wp2_with fail
        refine (less_no _ _ _ hxt').mono ?_
        rintro e w' ⟨rfl, rfl⟩
        go_wp2_with fail
        go_round
        case rel =>
          refine ⟨i, (i + j) / 2, by omega, by omega, rfl, by go_num, H1.out, fun m h1 h2 => ?_⟩
          have := Hs.out ((i + j) / 2) m (by omega) (by omega)
          rw [HX.out] at this
          omega
        case measure => simp [intOf]; omega
    · obtain rfl : i = j := by omega
      have L := Hn.out
      by_cases hin : i < n
      · have g := Hc.out i hin
        generalize hx : zs.getD i 0 = x at g
        clear hx L
        have hnn : (x != x) = false := by simp
        by_cases hxt : x = t
        · subst hxt
          go_wp2
          go_ret2
          exact ⟨i, _, rfl, by rw [Hn.out]; omega, H1.out, fun m h1 h2 => H2.out m h1 (by rw [Hn.out] at h2; exact h2), rfl⟩
        · go_wp2
          go_ret2
          exact ⟨i, _, rfl, by rw [Hn.out]; omega, H1.out, fun m h1 h2 => H2.out m h1 (by rw [Hn.out] at h2; exact h2), rfl⟩
      · clear L
        go_wp2
        go_ret2
        exact ⟨i, _, rfl, by rw [Hn.out]; omega, H1.out, fun m h1 h2 => H2.out m h1 (by rw [Hn.out] at h2; exact h2), rfl⟩

end
end Go.Proofs.Ytbndknbjjdoanaa

namespace Go.Proofs.Ytbndknbjjdoanaa
section
open Go.RowKit

/-- The least class that is not below n. -/
def cfor (n : Int) : Int := (classes.find? (fun c => decide (n ≤ c))).getD 0

theorem find_at (l : List Int) (n : Int) : ∀ i, i < l.length → (∀ j, j < i → l.getD j 0 < n) → n ≤ l.getD i 0 → (l.find? (fun c => decide (n ≤ c))).getD 0 = l.getD i 0 := by
  induction l with
  | nil => intro i h; simp at h
  | cons a l ih =>
    intro i hi h1 h2
    by_cases ha : n ≤ a
    · have : i = 0 := by
        rcases Nat.eq_zero_or_pos i with h | h
        · exact h
        · have := h1 0 h; simp at this; omega
      subst this
      simp [ha]
    · cases i with
      | zero => simp at h2; omega
      | succ i =>
        have := ih i (by simpa using hi) (fun j hj => by have := h1 (j + 1) (by omega); simpa using this) (by simpa using h2)
        simpa [List.find?_cons, ha] using this

theorem classes_len : classes.length = 29 := by simp [classes, cls_len]
theorem classes_sorted : ∀ j, j < 29 → ∀ i, i < j + 1 → classes.getD i 0 ≤ classes.getD j 0 := by decide +kernel
theorem classes_le : ∀ j, j < 29 → 8 ≤ classes.getD j 0 ∧ classes.getD j 0 ≤ 100000 := by decide +kernel
theorem classes_last : classes.getD 28 0 = 100000 := by decide +kernel

/-- A call that gives back a number and an error. -/
def RetInt (c err : Int) (w : World) : Ending → World → Prop := fun e w' =>
  e = .returned (.tuple #[.int .i64 c, .int .i64 err]) ∧ Below w.heap.size w w'

theorem ret2_int {k k' : IntKind} {a b c d : Int} (h : a = b) (h' : c = d) : Ending.returned (.tuple #[.int k a, .int k' c]) = .returned (.tuple #[.int k b, .int k' d]) := by rw [h, h']

theorem own_cells {w : World} {B : Nat} {v : Value} {n : Nat} {zs : List Int} (h : w.ownsRow B 3 1 v n (zs.map (Value.int .i64))) (hn : 0 < n) :
    ∃ g cap, v = .slice (some ⟨g, 0, none⟩) n cap ∧ ∀ j, j < n → w.cell? ⟨g, 0 + j, none⟩ = some (.int .i64 (zs.getD j 0)) := by
  have hlen := h.1
  rcases h.2 with ⟨rfl, hz⟩ | ⟨g, cap, cur, rfl, hB, hg, hn', hm, hs, ht⟩
  · omega
  · refine ⟨g, cap, rfl, fun j hj => ?_⟩
    have hj' : j < zs.length := by simp at hlen; omega
    have hc := h.cells (g := g) rfl j (.int .i64 (zs.getD j 0)) (by simp [hj'])
    have e : (⟨g, 0, none⟩ : Addr).add j = ⟨g, 0 + j, none⟩ := by unfold Addr.add; split <;> simp_all
    rw [e] at hc
    exact hc

set_option maxHeartbeats 2000000 in
theorem classOf_ok (n : Int) (w : World) (h1 : 0 ≤ n) (h2 : n ≤ 100000) :
    Calls Try.prog 26 #[.int .i64 n] w (RetInt (cfor n) 0 w) := by
  go_enter Try.func26, Try.ntmps26
  go_wp2_with fail
  refine (within_room_yes _ _ _ _ h1 h2).mono ?_
  rintro e w' ⟨rfl, rfl⟩
  go_wp2_with fail
  refine (classes_any _).mono ?_
  rintro e w1 ⟨v, rfl, hown, hb⟩
  rw [classes_len] at hown
  obtain ⟨g, cap, rfl, hc⟩ := own_cells hown (by omega)
  have Hc := Lib.hid hc
  clear hown hc
  go_wp2_with fail
  refine (bsearch_any g 0 29 cap classes n _ classes_len (by omega) Hc.out (fun i j h1 h2 => classes_sorted j h2 i (by omega))).mono ?_
  rintro e w2 ⟨i, fnd, rfl, hi, h3, h4, rfl⟩
  have hi29 : i < 29 := by
    rw [classes_len] at hi
    rcases Nat.lt_or_ge i 29 with h | h
    · exact h
    · have := h3 28 (by omega); rw [classes_last] at this; omega
  have E : cfor n = classes.getD i 0 := find_at classes n i (by rw [classes_len]; exact hi29) h3 (h4 i (by omega) (by rw [classes_len]; exact hi29))
  have g1 := Hc.out i hi29
  rw [Nat.zero_add] at g1
  generalize classes.getD i 0 = x at *
  have E1 := Lib.hid E
  clear h3 h4 E hi
  go_wp2_with fail
  go_ret2
  exact ⟨ret2_int E1.out.symm rfl, hb⟩

theorem classOf_bad (n : Int) (w : World) (h : ¬ (0 ≤ n ∧ n ≤ 100000)) :
    Calls Try.prog 26 #[.int .i64 n] w (RetInt 0 2 w) := by
  have HN := Lib.hid h
  clear h
  go_enter Try.func26, Try.ntmps26
  go_wp2_with fail
  refine (within_room_no _ _ _ _ HN.out).mono ?_
  rintro e w' ⟨rfl, rfl⟩
  go_wp2_with fail
  go_ret2
  exact ⟨rfl, Below.refl _ _⟩

end
end Go.Proofs.Ytbndknbjjdoanaa
