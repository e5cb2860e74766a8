/-
  The law of a cache's slots: Resize. Plain Lean. No program.
  The beginning of a row over a cache and its book: awakeRoom, book, held, a new cache. No conditions.
-/
import Derived.Test.YtiaedonhbafpjaaTopSlabPbp
import Derived.Test.YtiaedonhbafpjaaTopSlabPag
import Derived.Test.YtiaedonhbafpjaaTopSlabPah

namespace Go.Proofs.Ytiaedonhbafpjaa
section
open Go.RowKit
set_option linter.unusedVariables false

theorem splice_get' {α : Type} (cs xs : List α) (c j : Nat) (hc : c + xs.length ≤ cs.length) : (splice cs c xs)[j]? = if j < c then cs[j]? else if j < c + xs.length then xs[j - c]? else cs[j]? := by
  unfold splice
  have e1 : (cs.take c).length = c := by rw [List.length_take]; omega
  split
  · next h => rw [List.getElem?_append_left (by omega), List.getElem?_take_of_lt h]
  · next h =>
    rw [List.getElem?_append_right (by omega), e1]
    split
    · next h2 => rw [List.getElem?_append_left (by omega)]
    · next h2 =>
      rw [List.getElem?_append_right (by omega), List.getElem?_drop]
      congr 1
      omega
/-- The octets after a Resize. -/
def rsO (o : List Int) (k : Nat) : List Int := o.take k ++ zeros (k - o.length)
theorem rsO_len (o : List Int) (k : Nat) : (rsO o k).length = k := by
  unfold rsO zeros
  rw [List.length_append, List.length_take, List.length_replicate]
  omega
theorem rsO_at (o : List Int) (k j : Nat) : (rsO o k)[j]? = if j < k then (if j < o.length then o[j]? else some 0) else none := by
  by_cases hj : j < k
  · rw [if_pos hj]
    unfold rsO zeros
    by_cases h : j < o.length
    · rw [if_pos h, List.getElem?_append_left (by rw [List.length_take]; omega), List.getElem?_take_of_lt hj]
    · rw [if_neg h, List.getElem?_append_right (by rw [List.length_take]; omega), List.length_take, List.getElem?_replicate, if_pos (by omega)]
  · rw [if_neg hj, List.getElem?_eq_none (by rw [rsO_len]; omega)]
theorem octOf_at {S : CaSt} {x : Sl} {an n j : Nat} (hj : j < n) : (octOf S x an n)[j]? = x.cs[an * clsN S.classes x.cls + j]? := by
  unfold octOf
  rw [List.getElem?_take_of_lt hj, List.getElem?_drop]

theorem Law.stay {S : CaSt} {p : Sq × List Int} {qs : List (Sq × List Int)} {gs : List Sq} {B : Nat} (h : Law S (p :: qs) gs B) {x : Sl} {an : Nat} {y : Cel} (u : InUse S x an y p.1.cls p.1.no p.1.at' p.1.gen) (hyl : y.len = p.2.length) (hyo : octOf S x an y.len = p.2) (hys : y.len ≤ clsN S.classes x.cls) (k : Nat) (hk : k ≤ clsN S.classes x.cls) :
    Law (RsStay S x an y k) ((p.1, rsO p.2 k) :: qs) gs B := by
  obtain ⟨hx, hno⟩ := slabOf_some u.no
  have hk2 : an < x.cl.length := (List.getElem?_eq_some_iff.1 u.cel).1
  have hw := h.sh.win hx hk2
  have hm : min y.len k ≤ clsN S.classes x.cls := by omega
  have hf : an * clsN S.classes x.cls + min y.len k + (clsN S.classes x.cls - min y.len k) ≤ x.cs.length := by omega
  unfold RsStay
  refine h.own u k hk _ (fill_len 0 _ _ _) (fun j hj => ?_) (rsO p.2 k) (rsO_len _ _) ?_
  · rw [fill_at 0 _ _ _ _ hf, if_neg (by omega)]
  · refine List.ext_getElem? (fun j => ?_)
    rw [rsO_at]
    by_cases hj : j < k
    · rw [if_pos hj, List.getElem?_take_of_lt hj, List.getElem?_drop, fill_at 0 _ _ _ _ hf]
      by_cases h2 : j < p.2.length
      · rw [if_neg (by omega), if_pos h2, ← hyo, octOf_at (by omega)]
      · rw [if_pos (by omega), if_neg h2]
    · rw [if_neg hj, List.getElem?_eq_none (by rw [List.length_take]; omega)]

theorem Law.move {S S1 : CaSt} {p : Sq × List Int} {qs : List (Sq × List Int)} {gs : List Sq} {B cls n n1 : Nat} (h : Law S (p :: qs) gs B) {x : Sl} {an : Nat} {y : Cel} (u : InUse S x an y p.1.cls p.1.no p.1.at' p.1.gen) (hyl : y.len = p.2.length) (hyo : octOf S x an y.len = p.2)
    (hin : AlIn S cls n S1 n1) {x1 : Sl} {i : Nat} {y1 : Cel} (hfo : freeOf S1.sl cls = some (x1, i, y1)) (hne : cls ≠ x.cls) (k : Nat) (hk : k ≤ clsN S.classes cls) :
    Law (RsMove S S1 x an y x1 i y1 k) ((⟨cls, x1.no, i, y1.gen⟩, rsO p.2 k) :: qs) (gs ++ [p.1]) (B + 2) := by
  obtain ⟨hx, hno⟩ := slabOf_some u.no
  obtain ⟨hx1, hcl1, _, _⟩ := hin.mem hx
  have L1 := h.alIn hin
  obtain ⟨L2, u2⟩ := L1.take hfo (k := k) (by rw [hcl1]; exact hk)
  obtain ⟨hxn, hxc, hfi⟩ := freeOf_some hfo
  have hxx : x.no ≠ x1.no := fun e => hne (by
    have h1 := L1.sh.at hxn
    have h2 := L1.sh.at hx1
    rw [← e, h2] at h1
    rw [← hxc, ← Option.some.inj h1])
  obtain ⟨hy1, _⟩ := freeIdx_at hfi
  have hi : i < x1.cl.length := (List.getElem?_eq_some_iff.1 hy1).1
  have hw1 := L1.sh.win hxn hi
  obtain ⟨T, hT⟩ : ∃ T, octOf S x an (min y.len k) = T := ⟨_, rfl⟩
  have hk2 : an < x.cl.length := (List.getElem?_eq_some_iff.1 u.cel).1
  have hw := h.sh.win hx hk2
  have hTp : T = p.2.take (min y.len k) := by
    rw [← hT, ← hyo]
    unfold octOf
    rw [List.take_take]
    congr 1
    omega
  have hTl : T.length = min y.len k := by rw [hTp, List.length_take]; omega
  have hk1 : k ≤ clsN S1.classes x1.cls := by rw [hcl1, hxc]; exact hk
  obtain ⟨A, hA⟩ : ∃ A, i * clsN S1.classes x1.cls = A := ⟨_, rfl⟩
  rw [hA] at hw1
  have hfl : (fill 0 x1.cs A (clsN S1.classes x1.cls)).length = x1.cs.length := fill_len 0 _ _ _
  have hsp : A + T.length ≤ (fill 0 x1.cs A (clsN S1.classes x1.cls)).length := by rw [hfl]; omega
  have L3 := L2.own u2 k hk1 (splice (fill 0 x1.cs A (clsN S1.classes x1.cls)) A T) (by rw [hA]; exact splice_len _ _ _ hsp) (fun j hj => by
    have hj : j < A ∨ A + clsN S1.classes x1.cls ≤ j := by rw [← hA]; exact hj
    show _ = (fill 0 x1.cs (i * clsN S1.classes x1.cls) (clsN S1.classes x1.cls))[j]?
    rw [hA, splice_get' _ _ _ _ hsp]
    split
    · rfl
    · rw [if_neg (by omega)]) (rsO p.2 k) (rsO_len _ _) (by
    show ((splice (fill 0 x1.cs A (clsN S1.classes x1.cls)) A T).drop (i * clsN S1.classes x1.cls)).take k = _
    rw [hA]
    refine List.ext_getElem? (fun j => ?_)
    rw [rsO_at]
    by_cases hj : j < k
    · rw [if_pos hj, List.getElem?_take_of_lt hj, List.getElem?_drop, splice_get' _ _ _ _ hsp, if_neg (by omega)]
      by_cases h2 : j < p.2.length
      · rw [if_pos (by omega), if_pos h2, Nat.add_sub_cancel_left, hTp, List.getElem?_take_of_lt (by omega)]
      · rw [if_neg (by omega), if_neg h2, fill_at 0 _ _ _ _ hw1, if_pos (by omega)]
    · rw [if_neg hj, List.getElem?_eq_none (by rw [List.length_take]; omega)])
  have hS3 : (AlS S1 x1 i y1 k).put { x1 with cs := splice (fill 0 x1.cs A (clsN S1.classes x1.cls)) A T, cl := (x1.cl.set i ⟨y1.gen, k, true⟩).set i ⟨y1.gen, k, true⟩ } = S1.put { x1 with cs := splice (fill 0 x1.cs A (clsN S1.classes x1.cls)) A T, cl := x1.cl.set i ⟨y1.gen, k, true⟩ } := by
    unfold AlS
    rw [List.set_set]
    exact put_put S1 _ _ rfl
  have L3' := (show Law (S1.put { x1 with cs := splice (fill 0 x1.cs A (clsN S1.classes x1.cls)) A T, cl := x1.cl.set i ⟨y1.gen, k, true⟩ }) ((⟨cls, x1.no, i, y1.gen⟩, rsO p.2 k) :: p :: qs) gs (B + 1) from hS3 ▸ L3).perm (List.Perm.swap _ _ _)
  have hat : slabOf S1.sl (x.no : Int) = some x := L1.sh.at hx1
  have u4 : InUse (S1.put { x1 with cs := splice (fill 0 x1.cs A (clsN S1.classes x1.cls)) A T, cl := x1.cl.set i ⟨y1.gen, k, true⟩ }) x an y p.1.cls p.1.no p.1.at' p.1.gen :=
    ⟨u.cls, by rw [slabOf_put_ne (by rw [← hno]; show (x.no : Int) ≠ (x1.no : Int); omega), ← hno]; exact hat, u.at', u.cel, u.gen, u.used⟩
  have L4 := L3'.free u4
  unfold RsMove
  rw [hT, hA]
  exact L4

end
end Go.Proofs.Ytiaedonhbafpjaa

namespace Go.Proofs.Ytiaedonhbafpjaa
section
open Go.RowKit
set_option linter.unusedVariables false

/-- The book of the statements: one account, number 1, with the greatest budget. -/
def bigStB : BookSt := openSt (newSt 10000000) 1 10000000
def BigPostB (w : World) : Ending → World → Prop := fun e w' =>
  ∃ p, e = .returned (.pointer (some ⟨p, 0, none⟩)) ∧ BookAt w' (fun k => w.heap.size ≤ k) p bigStB 1 ∧ Below w.heap.size w w'

set_option maxHeartbeats 1000000 in
set_option maxRecDepth 100000 in
theorem bigBookB_any (w : World) : Calls Try.prog 5 #[] w (BigPostB w) := by
  go_enter Try.func5, Try.ntmps5
  go_wp2_with fail
  refine (newBook_ok _ _ (by omega) (by omega)).mono ?_
  rintro e w1 ⟨p, rfl, hb, hbel⟩
  have O := Lib.hid (open_new p 1 10000000 w1 _ _ 0 hb (by simp [newSt]) (by unfold maxLen; omega) (by omega) ⟨by omega, by omega⟩ rfl)
  have hsz := hbel.size
  clear hb
  go_wp2_with fail
  refine O.out.mono ?_
  rintro e w2 ⟨rfl, hb2, ht2⟩
  go_wp2_with fail
  go_ret
  refine ⟨p, rfl, hb2.wider (fun k hk => by rcases hk with hk | hk <;> omega), ?_⟩
  exact hbel.trans (ht2.below hsz (fun k hk => hk))

set_option maxHeartbeats 1000000 in
set_option maxRecDepth 100000 in
theorem awakeRoomB_any (w : World) : Calls Try.prog 4 #[] w (LawPost w) := by
  go_enter Try.func4, Try.ntmps4
  go_wp2_with fail
  refine (classOf_bad _ _ (by omega)).mono ?_
  rintro e w1 ⟨rfl, hb⟩
  go_wp2_with fail
  go_ret
  exact ⟨rfl, hb⟩

theorem heldB_any (p : Nat) (w : World) (F : Nat → Prop) (st : BookSt) (N : Nat) (hb : BookAt w F p st N) : Calls Try.prog 19 #[.pointer (some ⟨p, 0, none⟩)] w (fun e w' => e = .returned (.int .i64 (heldV st 1)) ∧ w' = w) := by
  have HH := Lib.hid (held_any p 1 w F st N hb)
  clear hb
  go_enter Try.func19, Try.ntmps19
  go_wp2_with fail
  refine HH.out.mono ?_
  rintro e w1 ⟨rfl, rfl⟩
  go_wp2_with fail
  go_ret
  exact ⟨rfl, rfl⟩
theorem CB.held {w : World} {c bp : Nat} {S : CaSt} {vc vs : Value} {F G : Nat → Prop} {M n : Nat} {b : BookSt} (h : CB w c bp S vc vs F G M n b) : Calls Try.prog 19 #[.pointer (some ⟨bp, 0, none⟩)] w (fun e w' => e = .returned (.int .i64 (n : Int)) ∧ w' = w) := by
  have h1 := heldB_any bp w G b 1 h.bk.bk
  have e : heldV b 1 = (n : Int) := by
    unfold heldV
    rw [if_pos (by omega), h.bk.acc]
  rw [e] at h1
  exact h1

/-- A cache without slabs. -/
def newS (zs : List Int) (slots : Nat) : CaSt := ⟨zs, slots, 0, false, []⟩
theorem newS_law (zs : List Int) (slots : Nat) : Law (newS zs slots) [] [] 0 := by
  refine ⟨⟨by simp [newS], fun x hx => by simp [newS] at hx, fun x hx => by simp [newS] at hx, fun x hx => by simp [newS] at hx, fun x hx => by simp [newS] at hx, Nat.le_refl _⟩, fun p hp => by simp at hp, by simp, fun s hs => by simp at hs, rfl, rfl⟩
def NcPost (w : World) (bp : Nat) (G : Nat → Prop) (zs : List Int) (l : Int) : Ending → World → Prop := fun e w' =>
  Below w.heap.size w w' ∧ ((∃ er : Int, er ≠ 0 ∧ e = .returned (.tuple #[.pointer none, .int .i64 er])) ∨
    ∃ c vc F G', e = .returned (.tuple #[.pointer (some ⟨c, 0, none⟩), .int .i64 0]) ∧ 1 ≤ l ∧ CB w' c bp (newS zs l.toNat) vc (.slice none 0 0) F G' 10000000 0 bigStB ∧ (∀ k, F k → w.heap.size ≤ k) ∧ ∀ k, G' k → G k)
theorem cacheErr_ok {st : BookSt} {zs : List Int} {l o : Int} (h : cacheErr st zs l o = 0) : clsErr zs = 0 ∧ 1 ≤ l ∧ l ≤ 64 := by
  unfold cacheErr at h
  by_cases h0 : cacheErr0 zs l = 0
  · unfold cacheErr0 at h0
    by_cases h1 : clsErr zs = 0
    · rw [if_pos h1] at h0
      by_cases h2 : 1 ≤ l ∧ l ≤ 64
      · exact ⟨h1, h2⟩
      · rw [if_neg h2] at h0
        cases h0
    · rw [if_neg h1] at h0
      exact absurd h0 h1
  · rw [if_neg h0] at h
    exact absurd h h0
theorem newCB_any (bp : Nat) (l : Int) (v : Value) (zs : List Int) (w : World) (G : Nat → Prop) (hb : BookAt w G bp bigStB 1) (hr : Reads w .i64 v zs) :
    Calls Try.prog 6 #[.pointer (some ⟨bp, 0, none⟩), .int .i64 1, v, .int .i64 l] w (NcPost w bp G zs l) := by
  refine (newCache_any bp 1 l v zs w G bigStB 1 hb hr).mono ?_
  rintro e w' ⟨hbl, ⟨h1, h2⟩ | ⟨h1, h, cv, h2, h3, h4, h5⟩⟩
  · exact ⟨hbl, Or.inl ⟨_, h1, h2⟩⟩
  · obtain ⟨c1, c2, c3⟩ := cacheErr_ok h1
    obtain ⟨ln, rfl⟩ : ∃ ln : Nat, l = ln := ⟨l.toNat, by omega⟩
    refine ⟨hbl, Or.inr ⟨h, cv, fun k => w.heap.size ≤ k ∧ k < w'.heap.size, fun k => G k ∧ k < w.heap.size, h2, c2, ?_, fun k hk => hk.1, fun k hk => hk.1⟩⟩
    have hbk := (hb.narrowK).same (fun k hk hl => hbl.block k hl)
    have hlt := (row_low h5 (Nat.zero_le _))
    refine ⟨⟨h4, ⟨h3, lt_of h4⟩, ⟨hlt, fun k hk => ⟨(h5.lt k hk).1, (h5.lt k hk).2⟩⟩, ⟨⟨rfl, Or.inl ⟨rfl, rfl⟩⟩, fun k hk => by cases hk⟩, fun x hx => by simp [newS] at hx, by simp [newS], by simp [newS], by simp [newS], by simp [newS], fun x hx => by simp [newS] at hx, c1, by show 1 ≤ ln ∧ ln ≤ 64; omega, by simp [newS], fun x hx => by simp [newS] at hx⟩, ⟨hbk, rfl, rfl, rfl, by decide, by omega, fun k hk => Nat.lt_of_lt_of_le hk.2 hbl.size⟩, fun k hk hg => by omega, fun k hk => hk.2⟩

end
end Go.Proofs.Ytiaedonhbafpjaa
