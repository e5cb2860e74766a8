/-
  What Alloc and Resize do to blocks and octets: plain. No conditions.
  cornlaw2's limit, holds. No conditions.
-/
import Derived.Test.YtjogaohnphafgaaGreatMoveRunsPaw
import Derived.Test.YtjogaohnphafgaaGreatMoveRunsPau
import Derived.Test.YtjogaohnphafgaaGreatMoveRunsPax
import Derived.Test.YtjogaohnphafgaaGreatMoveRunsPaf
import Derived.Test.YtjogaohnphafgaaGreatMoveRunsPap

namespace Go.Proofs.YtjogaohnphafgaaGreat
section
open Go.RowKit
set_option linter.unusedVariables false

/-! A place is apart from all blocks. -/
theorem place_plain {S : HpSt} {M n : Nat} {way : Int} {at' : Nat} {mem1 : List Int} (h : PlOk S M n way at' mem1) (h0 : 0 < n) (ha : S.bl.Pairwise apartB) (hi : ∀ x ∈ S.bl, x.at' + x.len ≤ S.mem.length) :
    (∀ x ∈ S.bl, x.len ≠ 0 → x.at' + x.len ≤ at' ∨ at' + n ≤ x.at') ∧ ∀ j, j < S.mem.length → mem1[j]? = S.mem[j]? := by
  obtain ⟨L, L', hs, hs', ⟨g, hg, rfl, rfl⟩ | ⟨hg, h1, h2, rfl, z, hz, hz2, z1, z2, z3, rfl⟩⟩ := h
  · obtain ⟨g1, g2⟩ := gapSel_in hg
    have hc := chain_of hs ha
    obtain ⟨_, _, k3⟩ := gapsG_apart L 0 S.mem.length hc (fun x hx => ⟨Nat.zero_le _, hi x (hs.mem hx).1⟩) (Nat.zero_le _) g g1
    refine ⟨fun x hx hx0 => ?_, fun j _ => rfl⟩
    rcases k3 x (hs.mem' hx hx0) with h | h
    · exact Or.inl h
    · exact Or.inr (by omega)
  · have hc := chain_of hs' ha
    refine ⟨fun x hx hx0 => Or.inl (endL_ge L' hc x (hs'.mem' hx hx0)), fun j hj => reM_at _ _ _ hj (by omega)⟩
theorem oct_of {m m' : List Int} {x : Blk} {N : Nat} (hx : x.at' + x.len ≤ N) (h : ∀ j, j < N → x.len ≠ 0 → x.at' ≤ j → j < x.at' + x.len → m'[j]? = m[j]?) : octB m' x = octB m x := by
  by_cases h0 : x.len = 0
  · unfold octB
    rw [h0]
    rfl
  · exact octB_same (fun j h1 h2 => h j (by omega) h0 h1 h2)
theorem alloc_plain {S : HpSt} {M n : Nat} {way : Int} {at' : Nat} {mem2 : List Int} (ha : S.bl.Pairwise apartB) (hi : ∀ x ∈ S.bl, x.at' + x.len ≤ S.mem.length)
    (h : (n = 0 ∧ at' = 0 ∧ mem2 = S.mem) ∨ (0 < n ∧ ∃ mem1, PlOk S M n way at' mem1 ∧ S.mem.length ≤ mem1.length ∧ mem2 = fill 0 mem1 at' n)) (hl : at' + n ≤ mem2.length) (hh : Nat) :
    (S.bl ++ [(⟨hh, at', n⟩ : Blk)]).Pairwise apartB ∧ (∀ x ∈ S.bl, octB mem2 x = octB S.mem x) ∧ octB mem2 ⟨hh, at', n⟩ = zeros n := by
  rcases h with ⟨rfl, rfl, rfl⟩ | ⟨h0, mem1, hp, hle, rfl⟩
  · refine ⟨List.pairwise_append.2 ⟨ha, List.pairwise_singleton _ _, fun a _ b hb => ?_⟩, fun x _ => rfl, rfl⟩
    rw [List.mem_singleton] at hb
    subst hb
    exact Or.inr (Or.inl rfl)
  · rw [fill_len] at hl
    obtain ⟨h1, h2⟩ := place_plain hp h0 ha hi
    refine ⟨List.pairwise_append.2 ⟨ha, List.pairwise_singleton _ _, fun a haa b hb => ?_⟩, fun x hx => oct_of (hi x hx) (fun j j1 j2 j3 j4 => ?_), ?_⟩
    · rw [List.mem_singleton] at hb
      subst hb
      by_cases hz : a.len = 0
      · exact Or.inl hz
      · rcases h1 a haa hz with h | h
        · exact Or.inr (Or.inr (Or.inl h))
        · exact Or.inr (Or.inr (Or.inr h))
    · rw [fill_at 0 n mem1 at' j hl, if_neg (by have := h1 x hx j2; omega), h2 j j1]
    · show ((fill 0 mem1 at' n).drop at').take n = zeros n
      rw [fill_self 0 mem1 at' n hl]
      rfl
/-- Octets of another number. -/
def rsO (o : List Int) (n : Nat) : List Int := o.take n ++ zeros (n - o.length)
theorem rsO_len (o : List Int) (n : Nat) : (rsO o n).length = n := by
  unfold rsO zeros
  rw [List.length_append, List.length_take, List.length_replicate]
  omega
theorem rsO_get (o : List Int) (n j : Nat) : (rsO o n)[j]? = if j < n then (if j < o.length then o[j]? else some 0) else none := by
  unfold rsO zeros
  by_cases h1 : j < n
  · rw [if_pos h1]
    by_cases h2 : j < o.length
    · rw [if_pos h2, List.getElem?_append_left (by rw [List.length_take]; omega), List.getElem?_take_of_lt h1]
    · rw [if_neg h2, List.getElem?_append_right (by rw [List.length_take]; omega), List.getElem?_replicate, if_pos (by rw [List.length_take]; omega)]
  · rw [if_neg h1, List.getElem?_eq_none (by rw [List.length_append, List.length_take, List.length_replicate]; omega)]
theorem octB_get (m : List Int) (x : Blk) (j : Nat) : (octB m x)[j]? = if j < x.len then m[x.at' + j]? else none := by
  unfold octB
  rw [List.getElem?_take]
  split
  · rw [List.getElem?_drop]
  · rfl
theorem apart_set {l : List Blk} {i : Nat} {x y : Blk} (ha : l.Pairwise apartB) (hx : l[i]? = some x) (hy : ∀ (j : Nat) (z : Blk), l[j]? = some z → j ≠ i → apartB z y) : (l.set i y).Pairwise apartB := by
  rw [List.pairwise_iff_getElem] at ha ⊢
  intro p q hp hq hpq
  rw [List.getElem_set, List.getElem_set]
  rw [List.length_set] at hp hq
  have base := ha p q hp hq hpq
  split
  · next e1 =>
    split
    · omega
    · next e2 => exact apartB_symm (hy q _ (List.getElem?_eq_getElem hq) (fun e => e2 e.symm))
  · next e1 =>
    split
    · next e2 => exact hy p _ (List.getElem?_eq_getElem hp) (fun e => e1 e.symm)
    · exact base
theorem apart_at {l : List Blk} (ha : l.Pairwise apartB) {i j : Nat} {x z : Blk} (hx : l[i]? = some x) (hz : l[j]? = some z) (hne : j ≠ i) : apartB z x := by
  rw [List.pairwise_iff_getElem] at ha
  obtain ⟨h1, e1⟩ := List.getElem?_eq_some_iff.1 hx
  obtain ⟨h2, e2⟩ := List.getElem?_eq_some_iff.1 hz
  rcases Nat.lt_or_gt_of_ne hne with h | h
  · have := ha j i h2 h1 h
    rw [e1, e2] at this
    exact this
  · have := ha i j h1 h2 h
    rw [e1, e2] at this
    exact apartB_symm this
theorem resize_plain {S : HpSt} {M n i : Nat} {x y : Blk} {mem2 : List Int} (ha : S.bl.Pairwise apartB) (hi : ∀ x ∈ S.bl, x.at' + x.len ≤ S.mem.length) (hx : S.bl[i]? = some x) (h : RzOk S M x n y mem2) :
    (S.bl.set i y).Pairwise apartB ∧ (∀ (j : Nat) (z : Blk), S.bl[j]? = some z → j ≠ i → octB mem2 z = octB S.mem z) ∧ octB mem2 y = rsO (octB S.mem x) n ∧ y.h = x.h ∧ y.len = n := by
  have hxi := hi x (List.mem_of_getElem? hx)
  have hol : (octB S.mem x).length = x.len := octB_len hxi
  rcases h with ⟨hn, rfl, rfl⟩ | ⟨hn, hx0, ⟨L, hs, hany⟩, rfl, rfl⟩ | ⟨hn, _, at', mem1, hp, hle, hle2, rfl, rfl⟩
  · refine ⟨apart_set ha hx (fun j z hz hne => ?_), fun j z _ _ => rfl, ?_, rfl, rfl⟩
    · have := apart_at ha hx hz hne
      unfold apartB at this ⊢
      show z.len = 0 ∨ n = 0 ∨ z.at' + z.len ≤ (if n = 0 then 0 else x.at') ∨ (if n = 0 then 0 else x.at') + n ≤ z.at'
      split
      · next h => exact Or.inr (Or.inl h)
      · omega
    · refine List.ext_getElem? (fun j => ?_)
      rw [octB_get, rsO_get]
      show (if j < n then S.mem[(if n = 0 then 0 else x.at') + j]? else none) = _
      by_cases hj : j < n
      · rw [if_pos hj, if_pos hj, if_neg (by omega), if_pos (by rw [hol]; omega), octB_get, if_pos (by omega)]
      · rw [if_neg hj, if_neg hj]
  · obtain ⟨g, hg, hst⟩ := List.any_eq_true.1 hany
    unfold stB at hst
    simp only [Bool.and_eq_true, decide_eq_true_eq] at hst
    have hc := chain_of hs ha
    obtain ⟨_, k2, k3⟩ := gapsG_apart L 0 S.mem.length hc (fun x hx => ⟨Nat.zero_le _, hi x (hs.mem hx).1⟩) (Nat.zero_le _) g hg
    have hin : x.at' + n ≤ S.mem.length := by omega
    have oth : ∀ (j : Nat) (z : Blk), S.bl[j]? = some z → j ≠ i → z.len ≠ 0 → z.at' + z.len ≤ x.at' ∨ x.at' + n ≤ z.at' := fun j z hz hne hz0 => by
      have h1 := apart_at ha hx hz hne
      have h2 := k3 z (hs.mem' (List.mem_of_getElem? hz) hz0)
      unfold apartB at h1
      omega
    have hl2 : x.at' + x.len + (n - x.len) ≤ S.mem.length := by omega
    refine ⟨apart_set ha hx (fun j z hz hne => ?_), fun j z hz hne => oct_of (hi z (List.mem_of_getElem? hz)) (fun t t1 t2 t3 t4 => ?_), ?_, rfl, rfl⟩
    · by_cases hz0 : z.len = 0
      · exact Or.inl hz0
      · have := oth j z hz hne hz0
        unfold apartB
        show _ ∨ n = 0 ∨ z.at' + z.len ≤ x.at' ∨ x.at' + n ≤ z.at'
        omega
    · have := oth j z hz hne t2
      rw [fill_at 0 _ _ _ _ hl2, if_neg (by omega)]
    · refine List.ext_getElem? (fun j => ?_)
      rw [octB_get, rsO_get]
      show (if j < n then (fill 0 S.mem (x.at' + x.len) (n - x.len))[x.at' + j]? else none) = _
      by_cases hj : j < n
      · rw [if_pos hj, if_pos hj, fill_at 0 _ _ _ _ hl2, hol]
        by_cases hj2 : j < x.len
        · rw [if_neg (by omega), if_pos hj2, octB_get, if_pos hj2]
        · rw [if_pos (by omega), if_neg hj2]
      · rw [if_neg hj, if_neg hj]
  · obtain ⟨p1, p2⟩ := place_plain hp (by omega) ha hi
    have e1 : octB mem1 x = octB S.mem x := octB_same (fun j h1 h2 => p2 j (by omega))
    rw [e1]
    have hsl : at' + (octB S.mem x).length ≤ mem1.length := by rw [hol]; omega
    have hsl2 := splice_ln hsl
    have hl2 : at' + x.len + (n - x.len) ≤ (splice mem1 at' (octB S.mem x)).length := by rw [hsl2]; omega
    refine ⟨apart_set ha hx (fun j z hz hne => ?_), fun j z hz hne => oct_of (hi z (List.mem_of_getElem? hz)) (fun t t1 t2 t3 t4 => ?_), ?_, rfl, rfl⟩
    · by_cases hz0 : z.len = 0
      · exact Or.inl hz0
      · have := p1 z (List.mem_of_getElem? hz) hz0
        unfold apartB
        show _ ∨ n = 0 ∨ z.at' + z.len ≤ at' ∨ at' + n ≤ z.at'
        omega
    · have := p1 z (List.mem_of_getElem? hz) t2
      rw [fill_at 0 _ _ _ _ hl2, if_neg (by omega), splice_get hsl, if_neg (by rw [hol]; omega), p2 t t1]
    · refine List.ext_getElem? (fun j => ?_)
      rw [octB_get, rsO_get]
      show (if j < n then (fill 0 (splice mem1 at' (octB S.mem x)) (at' + x.len) (n - x.len))[at' + j]? else none) = _
      by_cases hj : j < n
      · rw [if_pos hj, if_pos hj, fill_at 0 _ _ _ _ hl2, hol]
        by_cases hj2 : j < x.len
        · rw [if_neg (by omega), if_pos hj2, splice_get hsl, if_pos (by rw [hol]; omega), Nat.add_sub_cancel_left]
        · rw [if_pos (by omega), if_neg hj2]
      · rw [if_neg hj, if_neg hj]


end
end Go.Proofs.YtjogaohnphafgaaGreat

namespace Go.Proofs.YtjogaohnphafgaaGreat
section
open Go.RowKit
set_option linter.unusedVariables false

def limV (n : Int) : Nat := (min (max n 0) 10000000).toNat
set_option maxRecDepth 100000 in
theorem limit_any (n : Int) (w : World) : Calls Tryz.prog 6 #[.int .i64 n] w (fun e w' => e = .returned (.int .i64 (limV n : Int)) ∧ w' = w) := by
  have e : ((limV n : Nat) : Int) = min (max n 0) 10000000 := by unfold limV; omega
  have HE := Lib.hid e
  clear e
  go_enter Tryz.func6, Tryz.ntmps6
  go_wp2_with fail
  all_goals
    go_ret
    exact ⟨ret_int (by rw [HE.out]; try omega), by first | rfl | trivial⟩

set_option maxHeartbeats 1000000 in
theorem totalL_any (p : Nat) (w : World) (F : Nat → Prop) (st : BookSt) (N : Nat) (hb : BookAt w F p st N) :
    Calls Tryz.prog 96 #[.pointer (some ⟨p, 0, none⟩)] w (fun e w' => e = .returned (.int .i64 st.total) ∧ w = w') := by
  obtain ⟨mb, blk, lv, ev, D, hm⟩ := hb
  have d1 : w.cell? ⟨p, 1, none⟩ = some (.int .i64 st.total) := by rw [cell_of hm.self]; rfl
  clear hm
  go_enter Tryz.func96, Tryz.ntmps96
  go_wp2_with fail
  go_ret
  exact ⟨rfl, rfl⟩

set_option maxHeartbeats 1000000 in
set_option maxRecDepth 100000 in
theorem holdsB_any {w : World} {G : Nat → Prop} {bp M n : Nat} {b : BookSt} (h : BkIn w G bp M n b) :
    Calls Tryz.prog 68 #[.pointer (some ⟨bp, 0, none⟩), .int .i64 (n : Int)] w (fun e w' => e = .returned (.bool true) ∧ w' = w) := by
  have HH := held_any bp 1 w G b 1 h.bk
  have e1 : heldV b 1 = (n : Int) := by
    unfold heldV
    rw [if_pos (by omega), h.acc]
  have e2 : heldE b 1 = 0 := by
    unfold heldE
    rw [if_pos (by omega), h.acc]
  rw [e1, e2] at HH
  have HH := Lib.hid HH
  have TT := totalL_any bp w G b 1 h.bk
  rw [h.tot] at TT
  have TT := Lib.hid TT
  clear h e1 e2
  go_enter Tryz.func68, Tryz.ntmps68
  go_wp2_with fail
  refine HH.out.mono ?_
  rintro e w1 ⟨rfl, rfl⟩
  go_wp2_with fail
  refine TT.out.mono ?_
  rintro e w2 ⟨rfl, rfl⟩
  go_wp2_with fail
  go_ret
  exact ⟨by first | rfl | (exact ret_bool (by simp)), rfl⟩

end
end Go.Proofs.YtjogaohnphafgaaGreat
