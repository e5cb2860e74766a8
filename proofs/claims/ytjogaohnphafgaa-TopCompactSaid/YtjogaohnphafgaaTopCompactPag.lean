/-
  The book's Open and Held. No conditions.
  The error of a policy: CheckPolicy, PolicyFault and PolicyError are one function. No conditions.
-/
import Derived.Test.YtjogaohnphafgaaTopCompactPaf
import Derived.Test.YtjogaohnphafgaaTopCompactPaa

namespace Go.Proofs.Ytjogaohnphafgaa
section
open Go.RowKit

/-- What Open leaves. -/
def openSt (st : BookSt) (o l : Int) : BookSt := { st with acc := fun x => if x = o then some (l, 0, 0) else st.acc x, entries := st.entries ++ [⟨1, o, 0, l, 0, 0⟩] }

def OpPost (err : Int) (F : Nat → Prop) (p : Nat) (st : BookSt) (N : Nat) (w : World) : Ending → World → Prop := fun e w' =>
  e = .returned (.int .i64 err) ∧ BookAt w' (fun k => F k ∨ w.heap.size ≤ k) p st N ∧ Touch F w w'

theorem reads_one (w : World) (x : Int) (t : TypeId) : Reads (w.alloc (.cells #[.int .i64 x] t)) .i64 (.slice (some ⟨w.heap.size, 0, none⟩) 1 1) [x] := by
  refine ⟨some ⟨w.heap.size, 0, none⟩, 1, rfl, by simp, fun _ => ⟨w.heap.size, 0, rfl, fun j hj => ?_⟩⟩
  have : j = 0 := by simpa using hj
  subst this
  rw [cell_of_row _ _ _ _ _ _ (heap_alloc_new w _)]
  rfl

theorem lit_ne {x o : Int} (h : x ≠ o) : (Lit.int .i64 x) ≠ (Lit.int .i64 o) := by simp [h]

theorem open_mem {w w1 : World} {F : Nat → Prop} {p : Nat} {st : BookSt} {N mb : Nat} {blk : Int → Option Nat} {lv ev : Value} {D : DataW Unit} (h : BookMem w F p st N mb blk lv ev D) (o l : Int)
    (hm : w1.ownsMap Try.prog 3 ptrElem mb (N + 1) (D.put (.int .i64 o) (.lit (.int .i64 (w.heap.size : Int)))))
    (hg : (w.alloc (.cells #[.int .i64 l, .int .i64 0, .int .i64 0] 98)).grownBy w1 (some mb)) :
    BookMem w1 (fun k => F k ∨ w.heap.size ≤ k) p { st with acc := fun x => if x = o then some (l, 0, 0) else st.acc x } (N + 1) mb (fun x => if x = o then some w.heap.size else blk x) lv ev (D.put (.int .i64 o) (.lit (.int .i64 (w.heap.size : Int)))) ∧ Touch F w w1 := by
  have hk : ∀ k, k < w.heap.size → k ≠ mb → w1.heap[k]? = w.heap[k]? := fun k hk hne => (hg.block k (by simp; omega) (fun e => hne (by simpa using e))).trans (heap_alloc_old w _ hk)
  have notmb : ∀ b cur t, w.heap[b]? = some (.cells cur t (0, 0)) → b ≠ mb := by
    intro b cur t hb e
    subst e
    obtain ⟨xs, clock, hx, _⟩ := h.map
    rw [hb] at hx; simp at hx
  have hmap : Maps.IsMap D := by obtain ⟨_, _, _, _, _, hD⟩ := h.map; exact ⟨_, hD⟩
  refine ⟨⟨(hk p (lt_of h.self) (notmb _ _ _ h.self)).trans h.self, Or.inl h.fp, hm, Or.inl h.fmap, ?_, ?_, ?_, ?_, ?_, fun k hk => Or.inl (h.flea k hk), ?_, fun k hk => Or.inl (h.fent k hk)⟩, ?_⟩
  · intro x z
    by_cases hx : x = o
    · subst hx
      rw [Maps.atKey_put_same hmap (by simp [WideAt.IsKeyLit]), if_pos rfl]
      rfl
    · rw [Maps.atKey_put_other (lit_ne hx), if_neg hx]
      exact h.look x z
  · intro x
    by_cases hx : x = o
    · simp [hx]
    · simp only [if_neg hx]; exact h.anone x
  · intro x b hb
    by_cases hx : x = o
    · subst hx
      have hb' : some w.heap.size = some b := by simpa using hb
      cases hb'
      refine ⟨l, 0, 0, by simp, ?_, Or.inr (Nat.le_refl _)⟩
      rw [hg.block w.heap.size (by simp) (fun e => ?_)]
      · exact heap_alloc_new w _
      · have := h.map.lt; simp only [Option.some.injEq] at e; omega
    · simp only [if_neg hx] at hb ⊢
      obtain ⟨l', x', s', h1, h2, h3⟩ := h.asome x b hb
      exact ⟨l', x', s', h1, (hk b (lt_of h2) (notmb _ _ _ h2)).trans h2, Or.inl h3⟩
  · intro x y b hx hy
    by_cases ex : x = o
    · by_cases ey : y = o
      · rw [ex, ey]
      · simp only [if_pos ex, if_neg ey, Option.some.injEq] at hx hy
        obtain ⟨_, _, _, _, h2, _⟩ := h.asome y b hy
        have := lt_of h2
        omega
    · by_cases ey : y = o
      · simp only [if_neg ex, if_pos ey, Option.some.injEq] at hx hy
        obtain ⟨_, _, _, _, h2, _⟩ := h.asome x b hx
        have := lt_of h2
        omega
      · simp only [if_neg ex, if_neg ey] at hx hy
        exact h.inj x y b hx hy
  · refine ownsRow_same h.lrow (fun k hk' => ?_)
    obtain ⟨cur, hc⟩ := row_block h.lrow hk'
    exact hk k (lt_of hc) (notmb _ _ _ hc)
  · refine ownsRow_same h.erow (fun k hk' => ?_)
    obtain ⟨cur, hc⟩ := row_block h.erow hk'
    exact hk k (lt_of hc) (notmb _ _ _ hc)
  · exact ((Touch.refl F w).alloc _).grown hg (fun k hk => by simp only [Option.some.injEq] at hk; subst hk; exact Or.inl h.fmap)

set_option maxHeartbeats 4000000 in
set_option maxRecDepth 100000 in
theorem open_new (p : Nat) (o l : Int) (w : World) (F : Nat → Prop) (st : BookSt) (N : Nat) (hb : BookAt w F p st N) (hn : st.entries.length ≤ 9999) (hN : N < maxLen) (ho : 1 ≤ o ∧ o ≤ 40) (hl : 0 ≤ l ∧ l ≤ 10000000) (hno : st.acc o = none) :
    Calls Try.prog 23 #[.pointer (some ⟨p, 0, none⟩), .int .i64 o, .int .i64 l] w (OpPost 0 F p (openSt st o l) (N + 1) w) := by
  obtain ⟨mb, blk, lv, ev, D, hm⟩ := hb
  have hwf : (Lit.int .i64 o).wf = true := WalkArith.wf_i64 (by omega)
  have C := check_any o _ [l] _ (reads_one w l 3)
  rw [show chkE o [l] = 0 from by unfold chkE; rw [if_pos ⟨ho, fun z hz => by simp at hz; subst hz; exact hl⟩]] at C
  have HC := Lib.hid C
  have hmw := hm.same (Below.same_on (Below.alloc (Below.refl _ w) (Nat.le_refl _) (.cells #[.int .i64 l] 3)))
  have L := book_lookup hmw o ho
  have hbn : blk o = none := (hm.anone o).2 hno
  rw [hbn] at L
  unfold ptrOf at L
  have c4 : (w.alloc (.cells #[.int .i64 l] 3)).cell? ⟨p, 4, none⟩ = some (.map (some mb)) := by rw [cell_of hmw.self]; rfl
  have HM := Lib.hid hm
  have HW := Lib.hid hmw
  have hp := lt_of hm.self
  clear C hm hmw hno ho hl
  go_enter Try.func23, Try.ntmps23
  go_wp2_with fail
  refine HC.out.mono ?_
  rintro e w' ⟨rfl, rfl⟩
  go_wp2_with (at_mapUpdate; go_must (refine wpList_mapUpdate_own _ rfl _ _ _ 90 rfl 3 96 intKey Try.underlying90 ptrElem mb N D rfl (by exact HW.out.map.alloc _) hN (.int .i64 o) (.pointer (some ⟨w.heap.size + 1, 0, none⟩)) (.int .i64 o) rfl rfl (Maps.keyOf_int_mk Try.underlying3 hwf) (.lit (.int .i64 (w.heap.size + 1 : Nat))) [] rfl ?_))
  intro w1 hown1 hg1
  have hsz : (w.alloc (.cells #[.int .i64 l] 3)).heap.size = w.heap.size + 1 := by simp
  obtain ⟨h1, h2⟩ := open_mem HW.out o l (by rw [hsz]; exact hown1) hg1
  have NT := Lib.hid (note_few p ⟨1, o, 0, l, 0, 0⟩ w1 _ _ _ ⟨mb, _, lv, ev, _, h1⟩ hn)
  clear hown1 hg1 L c4
  go_wp2_with fail
  refine NT.out.mono ?_
  rintro e w2 ⟨rfl, hb2, ht2⟩
  go_wp2_with fail
  go_ret
  refine ⟨rfl, hb2.wider ?_, ?_⟩
  · intro k hk
    rcases hk with (hk | hk) | hk
    · exact Or.inl hk
    · right; rw [hsz] at hk; omega
    · right; have := h2.size; rw [hsz] at this; omega
  · have t1 : Touch F w w1 := ((Touch.refl F w).alloc _).then h2
    refine t1.trans ht2 ?_
    intro i hi
    rcases hi with hi | hi
    · exact Or.inl hi
    · right; rw [hsz] at hi; omega

/-- What Held gives. -/
def heldV (st : BookSt) (o : Int) : Int := if 1 ≤ o ∧ o ≤ 40 then (match st.acc o with | some (_, h, _) => h | none => 0) else 0
def heldE (st : BookSt) (o : Int) : Int := if 1 ≤ o ∧ o ≤ 40 then (match st.acc o with | some _ => 0 | none => 7) else 2
def SamePost2 (r err : Int) (w : World) : Ending → World → Prop := fun e w' => e = .returned (.tuple #[.int .i64 r, .int .i64 err]) ∧ w = w'

theorem reads_nil (w : World) : Reads w .i64 (.slice none 0 0) [] := ⟨none, 0, rfl, by simp, fun h => absurd rfl h⟩

set_option maxHeartbeats 1000000 in
set_option maxRecDepth 100000 in
theorem held_any (p : Nat) (o : Int) (w : World) (F : Nat → Prop) (st : BookSt) (N : Nat) (hb : BookAt w F p st N) :
    Calls Try.prog 25 #[.pointer (some ⟨p, 0, none⟩), .int .i64 o] w (SamePost2 (heldV st o) (heldE st o) w) := by
  obtain ⟨mb, blk, lv, ev, D, hm⟩ := hb
  by_cases ho : 1 ≤ o ∧ o ≤ 40
  · have he : chkE o [] = 0 := by unfold chkE; rw [if_pos ⟨ho, by simp⟩]
    have C := account_any p o _ [] w F st N mb blk lv ev D (reads_nil w) he hm
    cases hk : blk o with
    | none =>
      have hv : heldV st o = 0 := by unfold heldV; rw [if_pos ho, (hm.anone o).1 hk]
      have hee : heldE st o = 7 := by unfold heldE; rw [if_pos ho, (hm.anone o).1 hk]
      rw [hv, hee]
      rw [hk] at C
      have HC := Lib.hid C
      clear C hm he hv hee hk ho
      go_enter Try.func25, Try.ntmps25
      go_wp2_with fail
      refine HC.out.mono ?_
      rintro e w' ⟨rfl, rfl⟩
      go_wp2_with fail
      go_ret2
      exact ⟨rfl, rfl⟩
    | some ab =>
      obtain ⟨l, h, s, h1, h2, h3⟩ := hm.asome o ab hk
      have hv : heldV st o = h := by unfold heldV; rw [if_pos ho, h1]
      have hee : heldE st o = 0 := by unfold heldE; rw [if_pos ho, h1]
      rw [hv, hee]
      rw [hk] at C
      have c1 : w.cell? ⟨ab, 1, none⟩ = some (.int .i64 h) := by rw [cell_of h2]; rfl
      have HC := Lib.hid C
      clear C hm he hv hee hk ho h1 h2 h3
      go_enter Try.func25, Try.ntmps25
      go_wp2_with fail
      refine HC.out.mono ?_
      rintro e w' ⟨rfl, rfl⟩
      unfold ptrOf
      go_wp2_with fail
      go_ret2
      exact ⟨rfl, rfl⟩
  · have he : chkE o [] ≠ 0 := by unfold chkE; rw [if_neg (fun x => ho x.1)]; decide
    have C := account_err p o _ [] w (reads_nil w) he
    have hv : heldV st o = 0 := by unfold heldV; rw [if_neg ho]
    have hee : heldE st o = 2 := by unfold heldE; rw [if_neg ho]
    rw [hv, hee]
    have HC := Lib.hid C
    clear C hm he hv hee ho
    go_enter Try.func25, Try.ntmps25
    go_wp2_with fail
    refine HC.out.mono ?_
    rintro e w' ⟨rfl, rfl⟩
    go_wp2_with fail
    go_ret2
    exact ⟨rfl, rfl⟩

end
end Go.Proofs.Ytjogaohnphafgaa

namespace Go.Proofs.Ytjogaohnphafgaa
section
open Go.RowKit

/-- The error of a policy. -/
def polErr (k s m : Int) : Int :=
  if 1 ≤ k ∧ k ≤ 5 then (if (k = 2 → 1 ≤ s ∧ s ≤ 100000) ∧ (¬ k = 2 → s = 0) ∧ (0 ≤ m ∧ m ≤ 100000) then 0 else 2) else 10

theorem polErr_kind {k s m : Int} (h : ¬ (1 ≤ k ∧ k ≤ 5)) : polErr k s m = 10 := by unfold polErr; rw [if_neg h]
theorem polErr_bad {k s m : Int} (h : 1 ≤ k ∧ k ≤ 5) (h2 : ¬ ((k = 2 → 1 ≤ s ∧ s ≤ 100000) ∧ (¬ k = 2 → s = 0) ∧ (0 ≤ m ∧ m ≤ 100000))) : polErr k s m = 2 := by
  unfold polErr; rw [if_pos h, if_neg h2]
theorem polErr_ok {k s m : Int} (h : 1 ≤ k ∧ k ≤ 5) (h2 : (k = 2 → 1 ≤ s ∧ s ≤ 100000) ∧ (¬ k = 2 → s = 0) ∧ (0 ≤ m ∧ m ≤ 100000)) : polErr k s m = 0 := by
  unfold polErr; rw [if_pos h, if_pos h2]

def polV (k s m : Int) : Value := .agg #[.int .i64 k, .int .i64 s, .int .i64 m]
def polO (k s m : Int) : Obj := .cells #[.int .i64 k, .int .i64 s, .int .i64 m] 23

def ErrPost (err : Int) (w w2 : World) : Ending → World → Prop := fun e w' => e = .returned (.int .i64 err) ∧ w2 = w' ∧ w = w

set_option maxHeartbeats 2000000 in
theorem checkPolicy_any (k s m : Int) (w : World) :
    Calls Try.prog 24 #[.agg #[.int .i64 k, .int .i64 s, .int .i64 m]] w (ErrPost (polErr k s m) w (w.alloc (.cells #[.int .i64 k, .int .i64 s, .int .i64 m] 23))) := by
  by_cases hk : 1 ≤ k ∧ k ≤ 5
  · obtain ⟨hk1, hk2⟩ := hk
    by_cases h2 : k = 2
    · subst h2
      by_cases hs : 1 ≤ s ∧ s ≤ 100000
      · obtain ⟨hs1, hs2⟩ := hs
        by_cases hm : 0 ≤ m ∧ m ≤ 100000
        · obtain ⟨hm1, hm2⟩ := hm
          have E := Lib.hid (polErr_ok (k := 2) (s := s) (m := m) ⟨hk1, hk2⟩ ⟨fun _ => ⟨hs1, hs2⟩, fun h => absurd rfl h, hm1, hm2⟩)
          go_enter Try.func24, Try.ntmps24
          go_wp2_with fail
          refine (within_room_yes 2 1 5 _ (by omega) (by omega)).mono ?_
          rintro e w' ⟨rfl, rfl⟩
          go_wp2_with fail
          refine (within_room_yes _ _ _ _ hs1 hs2).mono ?_
          rintro e w' ⟨rfl, rfl⟩
          go_wp2_with fail
          refine (within_room_yes _ _ _ _ hm1 hm2).mono ?_
          rintro e w' ⟨rfl, rfl⟩
          go_wp2
          go_ret
          exact ⟨ret_int E.out.symm, rfl, rfl⟩
        · have E := Lib.hid (polErr_bad (k := 2) (s := s) (m := m) ⟨hk1, hk2⟩ (fun h => hm h.2.2))
          have X := Lib.hid hm
          clear hm
          go_enter Try.func24, Try.ntmps24
          go_wp2_with fail
          refine (within_room_yes 2 1 5 _ (by omega) (by omega)).mono ?_
          rintro e w' ⟨rfl, rfl⟩
          go_wp2_with fail
          refine (within_room_yes _ _ _ _ hs1 hs2).mono ?_
          rintro e w' ⟨rfl, rfl⟩
          go_wp2_with fail
          refine (within_room_no _ _ _ _ X.out).mono ?_
          rintro e w' ⟨rfl, rfl⟩
          go_wp2
          go_ret
          exact ⟨ret_int E.out.symm, rfl, rfl⟩
      · have E := Lib.hid (polErr_bad (k := 2) (s := s) (m := m) ⟨hk1, hk2⟩ (fun h => hs (h.1 rfl)))
        have X := Lib.hid hs
        clear hs
        go_enter Try.func24, Try.ntmps24
        go_wp2_with fail
        refine (within_room_yes 2 1 5 _ (by omega) (by omega)).mono ?_
        rintro e w' ⟨rfl, rfl⟩
        go_wp2_with fail
        refine (within_room_no _ _ _ _ X.out).mono ?_
        rintro e w' ⟨rfl, rfl⟩
        go_wp2
        go_ret
        exact ⟨ret_int E.out.symm, rfl, rfl⟩
    · by_cases hs : s = 0
      · subst hs
        by_cases hm : 0 ≤ m ∧ m ≤ 100000
        · obtain ⟨hm1, hm2⟩ := hm
          have E := Lib.hid (polErr_ok (k := k) (s := 0) (m := m) ⟨hk1, hk2⟩ ⟨fun h => absurd h h2, fun _ => rfl, hm1, hm2⟩)
          go_enter Try.func24, Try.ntmps24
          go_wp2_with fail
          refine (within_room_yes _ _ _ _ hk1 hk2).mono ?_
          rintro e w' ⟨rfl, rfl⟩
          go_wp2_with fail
          refine (within_room_yes _ _ _ _ hm1 hm2).mono ?_
          rintro e w' ⟨rfl, rfl⟩
          go_wp2
          go_ret
          exact ⟨ret_int E.out.symm, rfl, rfl⟩
        · have E := Lib.hid (polErr_bad (k := k) (s := 0) (m := m) ⟨hk1, hk2⟩ (fun h => hm h.2.2))
          have X := Lib.hid hm
          clear hm
          go_enter Try.func24, Try.ntmps24
          go_wp2_with fail
          refine (within_room_yes _ _ _ _ hk1 hk2).mono ?_
          rintro e w' ⟨rfl, rfl⟩
          go_wp2_with fail
          refine (within_room_no _ _ _ _ X.out).mono ?_
          rintro e w' ⟨rfl, rfl⟩
          go_wp2
          go_ret
          exact ⟨ret_int E.out.symm, rfl, rfl⟩
      · have E := Lib.hid (polErr_bad (k := k) (s := s) (m := m) ⟨hk1, hk2⟩ (fun h => hs (h.2.1 h2)))
        have hb1 : (k != 2) = true := bne_iff_ne.2 h2
        have hb2 : (s != 0) = true := bne_iff_ne.2 hs
        go_enter Try.func24, Try.ntmps24
        go_wp2_with fail
        refine (within_room_yes _ _ _ _ hk1 hk2).mono ?_
        rintro e w' ⟨rfl, rfl⟩
        go_wp2
        go_ret
        exact ⟨ret_int E.out.symm, rfl, rfl⟩
  · have E := Lib.hid (polErr_kind (k := k) (s := s) (m := m) hk)
    have X := Lib.hid hk
    clear hk
    go_enter Try.func24, Try.ntmps24
    go_wp2_with fail
    refine (within_room_no _ _ _ _ X.out).mono ?_
    rintro e w' ⟨rfl, rfl⟩
    go_wp2
    go_ret
    exact ⟨ret_int E.out.symm, rfl, rfl⟩

end
end Go.Proofs.Ytjogaohnphafgaa
