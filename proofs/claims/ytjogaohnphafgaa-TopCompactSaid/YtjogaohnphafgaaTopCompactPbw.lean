/-
  TopCompact's law: octets written through a look; a compaction. The plain part. No conditions.
  Frames told by a function (slot number to value): loops and cuts over wide frames with ONE name for all slots. No conditions.
-/
import Derived.Test.YtjogaohnphafgaaTopCompactPbv
import Derived.Deep.LoopGhost
import Derived.Deep.Cut
import Derived.Test.YtjogaohnphafgaaTopCompactPaa

namespace Go.Proofs.Ytjogaohnphafgaa
section
open Go.RowKit
set_option linter.unusedVariables false

/-- The first k octets from at' on, each one d more. -/
def incA (d : Int) (m : List Int) (at' : Nat) : Nat → List Int
  | 0 => m
  | k + 1 => (incA d m at' k).set (at' + k) ((m.getD (at' + k) 0 + d) % 256)
theorem incA_len (d : Int) (m : List Int) (at' : Nat) : ∀ k, (incA d m at' k).length = m.length
  | 0 => rfl
  | k + 1 => by rw [incA, List.length_set, incA_len d m at' k]
theorem incA_get (d : Int) (m : List Int) (at' : Nat) : ∀ (k : Nat), at' + k ≤ m.length → ∀ j, (incA d m at' k)[j]? = if at' ≤ j ∧ j < at' + k then some ((m.getD j 0 + d) % 256) else m[j]?
  | 0, _, j => by rw [incA, if_neg (by omega)]
  | k + 1, h, j => by
    rw [incA, List.getElem?_set, incA_get d m at' k (by omega) j, incA_len]
    by_cases e : at' + k = j
    · subst e
      rw [if_pos rfl, if_pos (by omega), if_pos (by omega)]
    · rw [if_neg e]
      by_cases h1 : at' ≤ j ∧ j < at' + k
      · rw [if_pos h1, if_pos (by omega)]
      · rw [if_neg h1, if_neg (by omega)]
theorem incA_bytes {d : Int} {m : List Int} (h : bytes m) (at' : Nat) : ∀ k, bytes (incA d m at' k)
  | 0 => h
  | k + 1 => fun u hu => by
    rw [incA] at hu
    rcases List.mem_or_eq_of_mem_set hu with h1 | h1
    · exact incA_bytes h at' k u h1
    · omega
theorem octB_inc {d : Int} {m : List Int} {x : Blk} (h : x.at' + x.len ≤ m.length) : octB (incA d m x.at' x.len) x = incA d (octB m x) 0 x.len := by
  have hl := octB_len h
  refine List.ext_getElem? (fun j => ?_)
  rw [octB_get, incA_get d _ 0 x.len (by rw [hl]; omega), incA_get d m x.at' x.len h]
  by_cases hj : j < x.len
  · rw [if_pos hj, if_pos (by omega), if_pos (by omega)]
    congr 3
    rw [List.getD_eq_getElem?_getD, List.getD_eq_getElem?_getD, octB_get, if_pos hj]
  · rw [if_neg hj, if_neg (by omega), List.getElem?_eq_none (by rw [hl]; omega)]
theorem set_self {α : Type} {l : List α} {i : Nat} {x : α} (h : l[i]? = some x) : l.set i x = l := by
  refine List.ext_getElem? (fun j => ?_)
  rw [List.getElem?_set]
  by_cases e : i = j
  · subst e
    rw [if_pos rfl, if_pos (List.getElem?_eq_some_iff.1 h).1, h]
  · rw [if_neg e]
theorem putR_self {R : RowsL} {s : Nat} {o : Option (Nat × Nat × Nat)} {xs : List Int} (hn : (R.map Prod.fst).Nodup) (h : lookN R (s : Int) = some (o, xs)) : putR R s o xs = R := by
  unfold putR
  have hm := lookN_val h
  refine (List.map_congr_left (fun p hp => ?_)).trans (List.map_id R)
  by_cases e : p.1 = s
  · rw [if_pos e]
    have h1 := lookN_of_mem hn (show (p.1, p.2) ∈ R from hp)
    rw [e, h] at h1
    simp only [Option.some.injEq] at h1
    rw [h1, ← e]
    rfl
  · rw [if_neg e]
    rfl
theorem putR_put (R : RowsL) (s : Nat) (o o' : Option (Nat × Nat × Nat)) (xs ys : List Int) : putR (putR R s o xs) s o' ys = putR R s o' ys := by
  unfold putR
  rw [List.map_map]
  refine List.map_congr_left (fun p _ => ?_)
  simp only [Function.comp]
  by_cases e : p.1 = s
  · rw [if_pos e, if_pos rfl, if_pos e]
  · rw [if_neg e, if_neg e]
section
variable {S : HpSt} {R : RowsL} {K : Int → Bool} {n : Nat}
theorem CmP.wrote {i : Nat} {x : Blk} {o : Option (Nat × Nat × Nat)} (d : Int) (h : CmP S R K n) (hnd : (S.bl.map Blk.h).Nodup) (hi : ∀ y ∈ S.bl, y.at' + y.len ≤ S.mem.length) (hx : S.bl[i]? = some x) :
    CmP { S with mem := incA d S.mem x.at' x.len } (putR R x.h o (incA d (octB S.mem x) 0 x.len)) K n := by
  have hin := hi x (List.mem_of_getElem? hx)
  refine ⟨h.pol, h.op, h.apB, con_put (y := x) h.con hx hnd (set_self hx).symm rfl (octB_inc hin) (fun j z hz hne => ?_), fun k hk => ⟨(h.gone k hk).1, (h.gone k hk).2.1, look_put (h.gone k hk).2.2⟩, h.few, h.his⟩
  refine oct_of (hi z (List.mem_of_getElem? hz)) (fun t t1 t2 t3 t4 => ?_)
  have := apart_at h.apB hx hz hne
  unfold apartB at this
  rw [incA_get d _ _ _ hin]
  by_cases hx0 : x.len = 0
  · rw [if_neg (by omega)]
  · rw [if_neg (by omega)]

theorem keep8_last {α : Type} (l : List α) (x : α) (d : α) : (keep8 (l ++ [x])).getD ((keep8 (l ++ [x])).length - 1) d = x := by
  unfold keep8
  rw [List.getD_eq_getElem?_getD, List.getElem?_drop, List.length_drop, List.length_append]
  show ((l ++ [x])[l.length + 1 - 8 + (l.length + 1 - (l.length + 1 - 8) - 1)]?).getD d = x
  rw [show l.length + 1 - 8 + (l.length + 1 - (l.length + 1 - 8) - 1) = l.length by omega, List.getElem?_append_right (Nat.le_refl _), Nat.sub_self]
  rfl
theorem CmP.compacted {S' : HpSt} {L' : List Blk} {a : Nat} (h : CmP S R K n) (hb : S.bl.length ≤ 500 ∧ S.mem.length ≤ 100000) (hi : ∀ x ∈ S.bl, 1 ≤ x.h ∧ x.h ≤ S.last ∧ x.at' + x.len ≤ S.mem.length) (hc : CpI { S with hist := keep8 (S.hist ++ [S.bl]), count := S.count + 1 } S' a []) (hs : SortedL (lieL S'.bl) L') :
    CmP { S' with mem := fill 0 S'.mem (endL L') (S'.mem.length - endL L') } R K (n + 1) ∧
    (∀ x ∈ S.bl, x.len ≠ 0 → trR { S' with mem := fill 0 S'.mem (endL L') (S'.mem.length - endL L') } (S.count : Int) (((x.at' + x.len : Nat) : Int) - 1) = ((x.h : Int), (x.len : Int) - 1, 0)) ∧
    (∀ L, SortedL (lieL S'.bl) L → gapsOf S'.mem.length L = if a < S'.mem.length then [⟨a, S'.mem.length - a⟩] else []) ∧ a ≤ S'.mem.length := by
  have hel : endL L' ≤ S'.mem.length := endL_le hs hc.inn
  have e1 : endL L' + (S'.mem.length - endL L') = S'.mem.length := by omega
  have est := hc.st
  have ehist : S'.hist = keep8 (S.hist ++ [S.bl]) := by rw [est]
  have ecount : S'.count = S.count + 1 := by rw [est]
  have elast : S'.last = S.last := by rw [est]
  have eclosed : S'.closed = S.closed := by rw [est]
  have hh := h.his
  have hk8 : (keep8 (S.hist ++ [S.bl])).length = min (S.count + 1) 8 := by
    unfold keep8
    rw [List.length_drop, List.length_append, hh.1]
    simp
    omega
  have oc : ∀ x ∈ S'.bl, octB (fill 0 S'.mem (endL L') (S'.mem.length - endL L')) x = octB S'.mem x := fun x hx => by
    refine oct_of (hc.inn x hx) (fun j j1 j2 j3 j4 => ?_)
    have := endL_ge L' (chain_of hs hc.ap) x (hs.mem' hx j2)
    rw [fill_at 0 _ _ _ _ (by rw [e1]; exact Nat.le_refl _), if_neg (by omega)]
  have hsum : a = sumB S'.bl := by
    have := hc.sm
    simpa [sumB] using this
  have ale : ∀ x ∈ S'.bl, x.len ≠ 0 → x.at' + x.len ≤ a := fun x hx h0 => by
    rcases hc.don x hx h0 with h1 | h1
    · cases h1
    · exact h1
  have aM : a ≤ S'.mem.length := by
    obtain ⟨L, hL⟩ := sorted_exists (lieL S'.bl)
    have := sumB_le L 0 S'.mem.length (chain_of hL hc.ap) (fun x hx => ⟨Nat.zero_le _, hc.inn x (hL.mem hx).1⟩) (Nat.zero_le _)
    rw [hL.sum] at this
    omega
  refine ⟨⟨?_, ?_, hc.ap, ?_, fun k hk => ?_, ⟨?_, ?_⟩, ?_⟩, fun x hx h0 => ?_, fun L hL => ?_, aM⟩
  · have := h.pol
    rw [est]
    exact this
  · exact eclosed.trans h.op
  · have e2 : S'.bl.map (fun x => (x.h, octB (fill 0 S'.mem (endL L') (S'.mem.length - endL L')) x)) = S'.bl.map (fun x => (x.h, octB S'.mem x)) := List.map_congr_left (fun x hx => by rw [oc x hx])
    show R.map _ = S'.bl.map _
    rw [e2, hc.con]
    exact h.con
  · show 1 ≤ k ∧ k ≤ (S'.last : Int) ∧ _
    rw [elast]
    exact h.gone k hk
  · show S'.last ≤ n + 1
    rw [elast]
    have := h.few.1
    omega
  · show S'.count ≤ n + 1
    rw [ecount]
    have := h.few.2
    omega
  · refine ⟨?_, fun l hl => ?_⟩
    · show S'.hist.length = min S'.count 8
      rw [ehist, ecount, hk8]
    · have hl' : l ∈ S'.hist := hl
      rw [ehist] at hl'
      unfold keep8 at hl'
      rcases List.mem_append.1 (List.mem_of_mem_drop hl') with h1 | h1
      · exact hh.2 l h1
      · rw [List.mem_singleton] at h1
        subst h1
        exact ⟨hb.1, fun x hx => by have := (hi x hx).2.2; omega⟩
  · have hxi := hi x hx
    unfold trR
    rw [if_neg (by rw [show ({ S' with mem := fill 0 S'.mem (endL L') (S'.mem.length - endL L') } : HpSt).closed = S'.closed from rfl, eclosed, h.op]; simp)]
    show (if ¬ (0 ≤ (S.count : Int) ∧ (S.count : Int) ≤ (S'.count : Int)) ∨ _ then _ else _) = _
    rw [if_neg (by rw [ecount]; omega)]
    show (if 8 < (S'.count : Int) - (S.count : Int) then _ else _) = _
    rw [if_neg (by rw [ecount]; omega)]
    have etr : trL { S' with mem := fill 0 S'.mem (endL L') (S'.mem.length - endL L') } (S.count : Int) = S.bl := by
      unfold trL
      show (if (S.count : Int) < (S'.count : Int) then S'.hist.getD (S'.hist.length - ((S'.count : Int) - (S.count : Int)).toNat) [] else _) = _
      rw [if_pos (by rw [ecount]; omega), ecount, show (((S.count + 1 : Nat) : Int) - (S.count : Int)).toNat = 1 by omega, ehist]
      exact keep8_last _ _ _
    rw [etr, hit_only h.apB hx h0]
    have hfe : fndE { S' with mem := fill 0 S'.mem (endL L') (S'.mem.length - endL L') } (x.h : Int) = 0 := by
      have hm : (x.h, x.len) ∈ S'.bl.map (fun x => (x.h, x.len)) := by
        rw [hc.ln]
        exact List.mem_map_of_mem (f := fun x : Blk => (x.h, x.len)) hx
      obtain ⟨y, hy, he⟩ := List.mem_map.1 hm
      simp only [Prod.mk.injEq] at he
      obtain ⟨i, hf⟩ := findB_of_mem hc.nd hy
      unfold fndE
      show (if S'.closed = true then _ else if ¬ (1 ≤ (x.h : Int) ∧ (x.h : Int) ≤ (S'.last : Int)) then _ else match findB S'.bl (x.h : Int) with | none => 13 | some _ => 0) = (0 : Int)
      rw [eclosed, h.op, if_neg (by simp), elast, if_neg (by omega), ← he.1, hf]
    show (if fndE _ (x.h : Int) ≠ 0 then _ else _) = _
    rw [hfe, if_neg (by simp)]
    congr 2
    omega
  · unfold gapsOf
    refine gapsG_full L 0 a S'.mem.length (chain_of hL hc.ap) (fun x hx => ⟨Nat.zero_le _, ale x (hL.mem hx).1 (hL.mem hx).2⟩) (Nat.zero_le _) aM ?_
    rw [hL.sum]
    omega
/-- The gaps' sum. -/
theorem CmP.free_sum (h : CmP S R K n) (hi : ∀ x ∈ S.bl, x.at' + x.len ≤ S.mem.length) {L : List Blk} (hL : SortedL (lieL S.bl) L) : sumB S.bl + sumG (gapsOf S.mem.length L) = S.mem.length := by
  have := gapsG_sum L 0 S.mem.length (chain_of hL h.apB) (fun x hx => ⟨Nat.zero_le _, hi x (hL.mem hx).1⟩) (Nat.zero_le _)
  rw [hL.sum] at this
  unfold gapsOf
  omega
end

/-! What a range over the map has come to. -/
def sumUsed (R : RowsL) (left : Lit → Bool) : Nat := ((R.filter fun p => !left (.int .i64 (p.1 : Int))).map fun p => p.2.2.length).sum
theorem sumUsed_all {R : RowsL} {left : Lit → Bool} (h : ∀ kl, left kl = false) : sumUsed R left = (R.map fun p => p.2.2.length).sum := by
  unfold sumUsed
  rw [List.filter_eq_self.2 (fun p _ => by rw [h]; rfl)]
theorem sumUsed_none {R : RowsL} {left : Lit → Bool} (h : ∀ p ∈ R, left (.int .i64 (p.1 : Int)) = true) : sumUsed R left = 0 := by
  unfold sumUsed
  rw [List.filter_eq_nil_iff.2 (fun p hp => by rw [h p hp]; simp)]
  rfl
theorem sumUsed_le (R : RowsL) (left : Lit → Bool) : sumUsed R left ≤ (R.map fun p => p.2.2.length).sum := by
  unfold sumUsed
  induction R with
  | nil => exact Nat.le_refl _
  | cons p R ih =>
    rw [List.filter_cons, List.map_cons, List.sum_cons]
    split
    · rw [List.map_cons, List.sum_cons]; omega
    · omega
theorem sumUsed_step {left : Lit → Bool} {n : Nat} {q : Option (Nat × Nat × Nat) × List Int} : ∀ {R : RowsL}, (R.map Prod.fst).Nodup → (n, q) ∈ R → left (.int .i64 (n : Int)) = true → sumUsed R (fun z => left z && !z.sameKey (.int .i64 (n : Int))) = sumUsed R left + q.2.length
  | [], _, hm, _ => by cases hm
  | p :: R, hn, hm, hl => by
    rw [List.map_cons, List.nodup_cons] at hn
    have same : ∀ m : Nat, m ≠ n → ((left (.int .i64 (m : Int)) && !(Lit.int .i64 (m : Int)).sameKey (.int .i64 (n : Int))) = left (.int .i64 (m : Int))) := fun m hne => by
      have : ¬ ((m : Int) = (n : Int)) := by omega
      simp [Lit.sameKey, this]
    unfold sumUsed
    rw [List.filter_cons, List.filter_cons]
    rcases List.mem_cons.1 hm with e | hm
    · subst e
      have e1 : (R.filter fun p => !(left (.int .i64 (p.1 : Int)) && !(Lit.int .i64 (p.1 : Int)).sameKey (.int .i64 (n : Int)))) = R.filter fun p => !left (.int .i64 (p.1 : Int)) := List.filter_congr (fun r hr => by
        rw [same r.1 (fun e2 => hn.1 (List.mem_map.2 ⟨r, hr, e2⟩))])
      rw [e1, if_pos (by simp [Lit.sameKey]), if_neg (by simp [hl]), List.map_cons, List.sum_cons]
      exact Nat.add_comm _ _
    · have hne : p.1 ≠ n := fun e => hn.1 (by rw [e]; exact List.mem_map.2 ⟨_, hm, rfl⟩)
      have ih := sumUsed_step (R := R) hn.2 hm hl
      unfold sumUsed at ih
      simp only [same p.1 hne]
      split
      · rw [List.map_cons, List.sum_cons, List.map_cons, List.sum_cons, ih]; omega
      · exact ih

end
end Go.Proofs.Ytjogaohnphafgaa

namespace Go.Proofs.Ytjogaohnphafgaa
section
open Go.RowKit
set_option linter.unusedVariables false

/-- The slots as a list. -/
def slotsOf (n : Nat) (f : Nat → Value) : List Value := (List.range n).map f
theorem slots_eq {n : Nat} {l : List Value} (h : l.length = n) : slotsOf n (fun i => l.getD i undef) = l := by
  unfold slotsOf
  refine List.ext_getElem (by simp [h]) (fun i h1 h2 => ?_)
  simp [List.getD_eq_getElem?_getD, h2]
/-- A loop: I: what holds of the slots (by their numbers) and the world at its head. -/
theorem wp_loop_framed {P : Program} {Q : Exit → Act → World → Prop} {w : World} {c : Code} (n : Nat) (I : Nat → (Nat → Value) → World → Prop) (l : List Value) (ds : List Deferred) (hl : l.length = n) (n₀ : Nat) (h₀ : I n₀ (fun i => l.getD i undef) w)
    (round : ∀ g f w, I g f w → ∀ (J : Nat → Act → World → Prop) (K : Act → World → Prop), (∀ k l' w', List.length l' = n → I k (fun i => l'.getD i undef) w' → J k ⟨l'.toArray, ds⟩ w') → (∀ a' w', Handed J g a' w' → K a' w') → c.wp P (Exit.then K Q) ⟨(slotsOf n f).toArray, ds⟩ w) : (Code.loop c).wp P Q ⟨l.toArray, ds⟩ w := by
  refine wp_loop_ghost_k (fun k a' w' => ∃ f, a' = ⟨(slotsOf n f).toArray, ds⟩ ∧ I k f w') n₀ ⟨_, by rw [slots_eq hl], h₀⟩ ?_
  rintro g a' w' ⟨f, rfl, hI⟩ J K hJ hK
  exact round g f w' hI J K (fun k l' w' h1 h2 => hJ k _ w' ⟨_, by rw [slots_eq h1], h2⟩) hK
/-- A statement that is cut around. -/
theorem wp_cut_framed {P : Program} {K : Act → World → Prop} {Q' : Exit → Act → World → Prop} {w : World} {s : Code} (n : Nat) (R : (Nat → Value) → World → Prop) (l : List Value) (ds : List Deferred) 
    (first : ∀ (J K' : Act → World → Prop), (∀ l' w', List.length l' = n → R (fun i => l'.getD i undef) w' → J ⟨l'.toArray, ds⟩ w') → (∀ a' w', Met J a' w' → K' a' w') → s.wp P (Exit.then K' Q') ⟨l.toArray, ds⟩ w)
    (rest : ∀ f w', R f w' → K ⟨(slotsOf n f).toArray, ds⟩ w') : s.wp P (Exit.then K Q') ⟨l.toArray, ds⟩ w := by
  refine wp_cut (fun a' w' => ∃ f, a' = ⟨(slotsOf n f).toArray, ds⟩ ∧ R f w') ?_ ?_
  · rintro a' w' ⟨f, rfl, hR⟩
    exact rest f w' hR
  · intro J K' hJ hK
    exact first J K' (fun l' w' h1 h2 => hJ _ w' ⟨_, by rw [slots_eq h1], h2⟩) hK

end
end Go.Proofs.Ytjogaohnphafgaa
