/-
  What TopCompact's law keeps: a heap, its book and two plain maps; how each call turns it. No conditions.
-/
import Derived.Test.YtjogaohnphafgaaTopCompactPbu
namespace Go.Proofs.Ytjogaohnphafgaa
open Go.RowKit
set_option linter.unusedVariables false

/-- The memory of the law. -/
structure CmM (w0 : World) (hp bp mp gp n : Nat) (S : HpSt) (vm vb vh : Value) (vhs : List Value) (F G Y : Nat → Prop) (b : BookSt) (R : RowsL) (D : DataW Unit) (K : Int → Bool) (w : World) : Prop where
  bel : Below w0.heap.size w0 w
  hb : HB w hp bp S vm vb vh vhs F G 10000000 b
  pl : PlM w Y mp R D
  kp : KpM w gp n K
  z : (∀ k, F k ∨ G k → w0.heap.size ≤ k) ∧ (∀ k, Y k → w0.heap.size ≤ k) ∧ w0.heap.size ≤ gp
  ap : ∀ k, F k ∨ G k → ¬ Y k
  ag : ¬ F gp ∧ ¬ G gp ∧ ¬ Y gp
/-- The plain part. -/
structure CmP (S : HpSt) (R : RowsL) (K : Int → Bool) (n : Nat) : Prop where
  pol : polErr S.k S.s S.m = 0
  op : S.closed = false
  apB : S.bl.Pairwise apartB
  con : ConB S R
  gone : ∀ k, K k = true → 1 ≤ k ∧ k ≤ (S.last : Int) ∧ lookN R k = none
  few : S.last ≤ n ∧ S.count ≤ n
  his : HisOk S
section
variable {w0 w w' : World} {hp bp mp gp n : Nat} {S S' : HpSt} {vm vb vh vm' vb' vh' : Value} {vhs vhs' : List Value} {F G Y F' G' : Nat → Prop} {b b' : BookSt} {R R' : RowsL} {D : DataW Unit} {K : Int → Bool}
theorem CmM.turn (h : CmM w0 hp bp mp gp n S vm vb vh vhs F G Y b R D K w) (hb : HB w' hp bp S' vm' vb' vh' vhs' F' G' 10000000 b') (hF : ∀ k, F' k → F k ∨ w.heap.size ≤ k) (hG : ∀ k, G' k → G k ∨ w.heap.size ≤ k) (ht : Touch (fun k => F k ∨ G k) w w') :
    CmM w0 hp bp mp gp n S' vm' vb' vh' vhs' F' G' Y b' R D K w' := by
  have sz := h.bel.size
  have hgp := h.kp.lt
  refine ⟨h.bel.trans (ht.below sz h.z.1), hb, h.pl.touch ht h.ap, h.kp.same (ht.block _ hgp (fun e => e.elim h.ag.1 h.ag.2.1)), ⟨fun k hk => ?_, h.z.2.1, h.z.2.2⟩, fun k hk hy => ?_, fun e => ?_, fun e => ?_, h.ag.2.2⟩
  · rcases hk with hk | hk
    · rcases hF k hk with e | e
      · exact h.z.1 k (Or.inl e)
      · omega
    · rcases hG k hk with e | e
      · exact h.z.1 k (Or.inr e)
      · omega
  · have hl := h.pl.yl k hy
    rcases hk with hk | hk
    · rcases hF k hk with e | e
      · exact h.ap k (Or.inl e) hy
      · omega
    · rcases hG k hk with e | e
      · exact h.ap k (Or.inr e) hy
      · omega
  · rcases hF _ e with e | e
    · exact h.ag.1 e
    · omega
  · rcases hG _ e with e | e
    · exact h.ag.2.1 e
    · omega
theorem CmM.below (h : CmM w0 hp bp mp gp n S vm vb vh vhs F G Y b R D K w) (hb : Below w.heap.size w w') : CmM w0 hp bp mp gp n S vm vb vh vhs F G Y b R D K w' :=
  h.turn (h.hb.below hb) (fun k hk => Or.inl hk) (fun k hk => Or.inl hk) (Touch.of_below hb)
/-- A block of one's own is turned. -/
theorem CmM.box (h : CmM w0 hp bp mp gp n S vm vb vh vhs F G Y b R D K w) {r : Nat} (ht : Touch (fun k => k = r) w w') (h0 : w0.heap.size ≤ r) (hF : ¬ F r) (hG : ¬ G r) (hY : ¬ Y r) (hg : r ≠ gp) : CmM w0 hp bp mp gp n S vm vb vh vhs F G Y b R D K w' :=
  ⟨h.bel.trans (ht.below h.bel.size (fun k hk => hk ▸ h0)), h.hb.touch ht (fun k hk => hk ▸ hF) (fun k hk => hk ▸ hG), h.pl.touch ht (fun k hk => hk ▸ hY), h.kp.same (ht.block _ h.kp.lt (fun e => hg e.symm)), h.z, h.ap, h.ag⟩
/-- The map turned: a row put or added. -/
theorem CmM.mapped (h : CmM w0 hp bp mp gp n S vm vb vh vhs F G Y b R D K w) {w4 : World} {Y' : Nat → Prop} {D' : DataW Unit} (hg : w.grownBy w4 (some mp)) (pl : PlM w4 Y' mp R' D') (hY : ∀ k, Y' k → Y k ∨ (w0.heap.size ≤ k ∧ ¬ F k ∧ ¬ G k ∧ k ≠ gp)) : CmM w0 hp bp mp gp n S vm vb vh vhs F G Y' b R' D' K w4 := by
  have ht : Touch (fun k => k = mp) w w4 := (Touch.refl (fun k => k = mp) w).grown hg (fun k hk => Or.inl (Option.some.inj hk).symm)
  have hmz := h.z.2.1 mp h.pl.f
  have hm1 : ¬ F mp := fun e => h.ap mp (Or.inl e) h.pl.f
  have hm2 : ¬ G mp := fun e => h.ap mp (Or.inr e) h.pl.f
  have hm3 : gp ≠ mp := fun e => h.ag.2.2 (e ▸ h.pl.f)
  refine ⟨h.bel.trans (ht.below h.bel.size (fun k hk => hk ▸ hmz)), h.hb.touch ht (fun k hk => hk ▸ hm1) (fun k hk => hk ▸ hm2), pl, h.kp.same (ht.block _ h.kp.lt hm3), ⟨h.z.1, fun k hk => ?_, h.z.2.2⟩, fun k hk hy => ?_, h.ag.1, h.ag.2.1, fun e => ?_⟩
  · rcases hY k hk with e | e
    · exact h.z.2.1 k e
    · exact e.1
  · rcases hY k hy with e | e
    · exact h.ap k hk e
    · exact hk.elim e.2.1 e.2.2.1
  · rcases hY gp e with e | e
    · exact h.ag.2.2 e
    · exact e.2.2.2 rfl
theorem CmM.fresh (h : CmM w0 hp bp mp gp n S vm vb vh vhs F G Y b R D K w) {k : Nat} (hk : w.heap.size ≤ k) : w0.heap.size ≤ k ∧ ¬ F k ∧ ¬ G k ∧ ¬ Y k ∧ k ≠ gp := by
  have := h.bel.size
  have := h.kp.lt
  exact ⟨by omega, fun e => by have := h.hb.fl k e; omega, fun e => by have := h.hb.bk.gl k e; omega, fun e => by have := h.pl.yl k e; omega, by omega⟩
/-- A new row for a new key. -/
theorem CmM.add {w3 : World} {key : Nat} {o : Option (Nat × Nat × Nat)} {xs : List Int} (h : CmM w0 hp bp mp gp n S vm vb vh vhs F G Y b R D K w) (hb : Below w.heap.size w w3) (hr : w3.ownsRow w.heap.size 5 1 (rowOf o) xs.length (cellsB xs)) (hx : bytes xs) (hkey : key ≤ 1000000000) (hnew : ∀ p ∈ R, p.1 ≠ key) (hRn : R.length ≤ 1000000) :
    ∃ w4 Y' D', (Instr.mapUpdate 32 (.map (some mp)) (.int .i64 (key : Int)) (rowOf o)).run Try.prog w3 = .ok () w4 ∧ CmM w0 hp bp mp gp n S vm vb vh vhs F G Y' b (R ++ [(key, o, xs)]) D' K w4 := by
  have h3 := h.below hb
  have hk := Maps.keyOf_int_mk (P := Try.prog) (k := 3) Try.underlying3 (a := (key : Int)) (WalkArith.wf_i64 (by omega))
  obtain ⟨w4, hrun, hm4, hg4⟩ := h3.pl.m.update intKey Try.underlying32 (by unfold maxLen; omega) hk (rowElem_of o)
  have keep : ∀ k, k < w3.heap.size → k ≠ mp → w4.heap[k]? = w3.heap[k]? := fun k hk hne => hg4.block k hk (fun e => hne (Option.some.inj e))
  have pl4 := h3.pl.add hnew hm4 keep hg4.size (row_low hr (Nat.zero_le _)) hx (fun k hk hy => by
    have h1 := (hr.lt k hk).1
    exact (h.fresh h1).2.2.2.1 hy)
  refine ⟨w4, _, _, hrun, h3.mapped hg4 pl4 (fun k hk => hk.imp id (fun e => ?_))⟩
  obtain ⟨a, b, c, _, d⟩ := h.fresh (hr.lt k e).1
  exact ⟨a, b, c, d⟩
/-- A new row for a key that is there. -/
theorem CmM.put {w3 : World} {key : Nat} {o : Option (Nat × Nat × Nat)} {xs : List Int} {q : Option (Nat × Nat × Nat) × List Int} (h : CmM w0 hp bp mp gp n S vm vb vh vhs F G Y b R D K w) (hb : Below w.heap.size w w3) (hr : w3.ownsRow w.heap.size 5 1 (rowOf o) xs.length (cellsB xs)) (hx : bytes xs) (hkey : key ≤ 1000000000) (hl : lookN R (key : Int) = some q) (hRn : R.length ≤ 1000000) :
    ∃ w4 Y' D', (Instr.mapUpdate 32 (.map (some mp)) (.int .i64 (key : Int)) (rowOf o)).run Try.prog w3 = .ok () w4 ∧ CmM w0 hp bp mp gp n S vm vb vh vhs F G Y' b (putR R key o xs) D' K w4 := by
  have h3 := h.below hb
  have hk := Maps.keyOf_int_mk (P := Try.prog) (k := 3) Try.underlying3 (a := (key : Int)) (WalkArith.wf_i64 (by omega))
  obtain ⟨w4, hrun, hm4, hg4⟩ := h3.pl.m.update intKey Try.underlying32 (by unfold maxLen; omega) hk (rowElem_of o)
  have keep : ∀ k, k < w3.heap.size → k ≠ mp → w4.heap[k]? = w3.heap[k]? := fun k hk hne => hg4.block k hk (fun e => hne (Option.some.inj e))
  have pl4 := h3.pl.put hl hm4 keep hg4.size (row_low hr (Nat.zero_le _)) hx (fun k hk hy => by
    have h1 := (hr.lt k hk).1
    exact (h.fresh h1).2.2.2.1 hy)
  refine ⟨w4, _, _, hrun, h3.mapped hg4 pl4 (fun k hk => hk.imp id (fun e => ?_))⟩
  obtain ⟨a, b, c, _, d⟩ := h.fresh (hr.lt k e).1
  exact ⟨a, b, c, d⟩
/-- A key struck. -/
theorem CmM.del {w4 : World} {x : Int} {q : Option (Nat × Nat × Nat) × List Int} (h : CmM w0 hp bp mp gp n S vm vb vh vhs F G Y b R D K w) (hl : lookN R x = some q) (hm : w4.ownsMap Try.prog 3 rowElem mp R.length (D.del (.int .i64 x))) (hg : w.grownBy w4 (some mp)) :
    CmM w0 hp bp mp gp n S vm vb vh vhs F G Y b (delL R x) (D.del (.int .i64 x)) K w4 :=
  h.mapped hg (h.pl.del hl hm (fun k hk hne => hg.block k hk (fun e => hne (Option.some.inj e))) hg.size) (fun k hk => Or.inl hk)
/-- A handle is marked. -/
theorem CmM.mark {x : Int} (h : CmM w0 hp bp mp gp n S vm vb vh vhs F G Y b R D K w) (hx : -9223372036854775808 ≤ x ∧ x ≤ 9223372036854775807) (hn : n < 1000000000) :
    ∃ w4, (Instr.mapUpdate 33 (.map (some gp)) (.int .i64 x) (.bool true)).run Try.prog w = .ok () w4 ∧ CmM w0 hp bp mp gp (n + 1) S vm vb vh vhs F G Y b R D (fun k => K k || decide (k = x)) w4 := by
  obtain ⟨w4, hrun, hk, hg⟩ := h.kp.put x hx hn
  have ht : Touch (fun k => k = gp) w w4 := (Touch.refl (fun k => k = gp) w).grown hg (fun k hk => Or.inl (Option.some.inj hk).symm)
  exact ⟨w4, hrun, h.bel.trans (ht.below h.bel.size (fun k hk => hk ▸ h.z.2.2)), h.hb.touch ht (fun k hk => hk ▸ h.ag.1) (fun k hk => hk ▸ h.ag.2.1), h.pl.touch ht (fun k hk => hk ▸ h.ag.2.2), hk, h.z, h.ap, h.ag⟩
theorem KpM.more {m : Nat} (h : KpM w gp n K) (hm : n ≤ m) : KpM w gp m K := by
  obtain ⟨D, ⟨es, clock, h1, h2, h3, h4⟩, h5⟩ := h
  exact ⟨D, ⟨es, clock, h1, h2, Nat.le_trans h3 hm, h4⟩, h5⟩
theorem CmM.more {m : Nat} (h : CmM w0 hp bp mp gp n S vm vb vh vhs F G Y b R D K w) (hm : n ≤ m) : CmM w0 hp bp mp gp m S vm vb vh vhs F G Y b R D K w := ⟨h.bel, h.hb, h.pl, h.kp.more hm, h.z, h.ap, h.ag⟩
end
/-- What holds between two rounds. -/
def CmE (w0 : World) (hp bp mp gp n : Nat) (w : World) : Prop := ∃ (S : HpSt) (vm vb vh : Value) (vhs : List Value) (F G Y : Nat → Prop) (b : BookSt) (R : RowsL) (D : DataW Unit) (K : Int → Bool), CmM w0 hp bp mp gp n S vm vb vh vhs F G Y b R D K w ∧ CmP S R K n

/-! The plain part, call by call. -/
section
variable {S : HpSt} {R : RowsL} {K : Int → Bool} {n : Nat}
theorem CmP.more {m : Nat} (h : CmP S R K n) (hm : n ≤ m) : CmP S R K m := ⟨h.pol, h.op, h.apB, h.con, h.gone, ⟨Nat.le_trans h.few.1 hm, Nat.le_trans h.few.2 hm⟩, h.his⟩
theorem CmP.given {M len : Nat} {way : Int} {at' : Nat} {mem2 : List Int} (h : CmP S R K n) (hi : ∀ x ∈ S.bl, 1 ≤ x.h ∧ x.h ≤ S.last ∧ x.at' + x.len ≤ S.mem.length) (ha : (len = 0 ∧ at' = 0 ∧ mem2 = S.mem) ∨ (0 < len ∧ ∃ mem1, PlOk S M len way at' mem1 ∧ S.mem.length ≤ mem1.length ∧ mem2 = fill 0 mem1 at' len)) (hl : at' + len ≤ mem2.length) (o : Option (Nat × Nat × Nat)) :
    CmP (S.give at' len mem2) (R ++ [(S.last + 1, o, zeros len)]) K (n + 1) ∧ (∀ p ∈ R, p.1 ≠ S.last + 1) ∧ lookN R ((S.last : Int) + 1) = none ∧ K ((S.last : Int) + 1) = false := by
  obtain ⟨p1, p2, p3⟩ := alloc_plain h.apB (fun x hx => (hi x hx).2.2) ha hl (S.last + 1)
  have hnew : ∀ p ∈ R, p.1 ≠ S.last + 1 := fun p hp e => by
    have h1 : p.1 ∈ R.map Prod.fst := List.mem_map_of_mem hp
    rw [con_keys h.con] at h1
    obtain ⟨x, hx, he⟩ := List.mem_map.1 h1
    have := (hi x hx).2.1
    omega
  refine ⟨⟨h.pol, h.op, p1, ?_, fun k hk => ?_, ⟨by show S.last + 1 ≤ n + 1; have := h.few.1; omega, by show S.count ≤ n + 1; have := h.few.2; omega⟩, h.his⟩, hnew, by rw [show ((S.last : Int) + 1) = ((S.last + 1 : Nat) : Int) by omega]; exact lookN_none hnew, ?_⟩
  · show (R ++ _).map _ = (S.bl ++ _).map _
    rw [List.map_append, List.map_append]
    have e1 : S.bl.map (fun x => (x.h, octB (S.give at' len mem2).mem x)) = S.bl.map (fun x => (x.h, octB S.mem x)) := List.map_congr_left (fun x hx => by rw [show octB (S.give at' len mem2).mem x = octB S.mem x from p2 x hx])
    rw [e1, h.con]
    congr 1
    show [(S.last + 1, zeros len)] = [(S.last + 1, octB mem2 ⟨S.last + 1, at', len⟩)]
    rw [p3]
  · obtain ⟨a, b, c⟩ := h.gone k hk
    refine ⟨a, by show k ≤ ((S.last + 1 : Nat) : Int); omega, ?_⟩
    rw [lookN_snoc _ _ _ _ hnew, if_neg (by omega), c]
  · cases hk : K ((S.last : Int) + 1) with
    | false => rfl
    | true =>
      have := (h.gone _ hk).2.1
      omega
theorem CmP.freed {x : Int} (h : CmP S R K n) (hi : ∀ y ∈ S.bl, 1 ≤ y.h ∧ y.h ≤ S.last ∧ y.at' + y.len ≤ S.mem.length) (hx : (lookN R x).isSome = true) : CmP (S.free x) (delL R x) (fun k => K k || decide (k = x)) n := by
  refine ⟨h.pol, h.op, h.apB.sublist List.filter_sublist, ?_, fun k hk => ?_, h.few, h.his⟩
  · show (R.filter _).map _ = (S.bl.filter _).map _
    have key : ∀ (R : RowsL) (l : List Blk), R.map (fun p => (p.1, p.2.2)) = l.map (fun x => (x.h, octB S.mem x)) → (R.filter fun p => decide (¬ (p.1 : Int) = x)).map (fun p => (p.1, p.2.2)) = (l.filter fun y => !decide ((y.h : Int) = x)).map (fun x => (x.h, octB S.mem x)) := by
      intro R
      induction R with
      | nil =>
        intro l hl
        cases l with
        | nil => rfl
        | cons y l => simp at hl
      | cons p R ih =>
        intro l hl
        cases l with
        | nil => simp at hl
        | cons y l =>
          rw [List.map_cons, List.map_cons, List.cons.injEq, Prod.mk.injEq] at hl
          obtain ⟨⟨h1, h2⟩, h3⟩ := hl
          rw [List.filter_cons, List.filter_cons]
          by_cases e : (y.h : Int) = x
          · rw [if_neg (by simp; omega), if_neg (by simp [e]), ih l h3]
          · rw [if_pos (by simp; omega), if_pos (by simp [e]), List.map_cons, List.map_cons, ih l h3, h1, h2]
    exact key R S.bl h.con
  · show 1 ≤ k ∧ k ≤ (S.last : Int) ∧ lookN (R.filter fun p => decide (¬ (p.1 : Int) = x)) k = none
    rw [lookN_filter (fun k => decide (¬ k = x))]
    by_cases e : k = x
    · rw [if_neg (by simp [e])]
      have hl := con_look h.con x
      cases hf : findB S.bl x with
      | none => rw [hf] at hl; rw [hl] at hx; cases hx
      | some q =>
        obtain ⟨i, y⟩ := q
        obtain ⟨hy, hk⟩ := findB_at hf
        have := hi y (List.mem_of_getElem? hy)
        exact ⟨by omega, by omega, rfl⟩
    · have hk' : K k = true := by simpa [e] using hk
      obtain ⟨a, b, c⟩ := h.gone k hk'
      rw [if_pos (by simp [e])]
      exact ⟨a, b, c⟩
theorem con_put {S S' : HpSt} {R : RowsL} {i : Nat} {x y : Blk} {o : Option (Nat × Nat × Nat)} {xs : List Int} (h : ConB S R) (hx : S.bl[i]? = some x) (hnd : (S.bl.map Blk.h).Nodup) (hb : S'.bl = S.bl.set i y) (hh : y.h = x.h) (hy : octB S'.mem y = xs) (ho : ∀ (j : Nat) (z : Blk), S.bl[j]? = some z → j ≠ i → octB S'.mem z = octB S.mem z) : ConB S' (putR R x.h o xs) := by
  unfold ConB putR
  rw [hb, List.map_map]
  refine List.ext_getElem? (fun j => ?_)
  have hj := congrArg (fun l => l[j]?) h
  simp only [List.getElem?_map] at hj
  rw [List.getElem?_map, List.getElem?_map, List.getElem?_set]
  have hil := (List.getElem?_eq_some_iff.1 hx).1
  by_cases e : i = j
  · subst e
    rw [if_pos rfl, if_pos hil]
    rw [hx] at hj
    cases hR : R[i]? with
    | none => rw [hR] at hj; cases hj
    | some p =>
      rw [hR] at hj
      simp only [Option.map_some, Option.some.injEq, Prod.mk.injEq] at hj
      simp only [Option.map_some, Function.comp, Option.some.injEq]
      rw [if_pos hj.1, hy, hh]
  · rw [if_neg e]
    cases hz : S.bl[j]? with
    | none =>
      rw [hz] at hj
      cases hR : R[j]? with
      | none => rfl
      | some p => rw [hR] at hj; cases hj
    | some z =>
      rw [hz] at hj
      cases hR : R[j]? with
      | none => rw [hR] at hj; cases hj
      | some p =>
        rw [hR] at hj
        simp only [Option.map_some, Option.some.injEq, Prod.mk.injEq] at hj
        have hne : z.h ≠ x.h := fun he => e (by
          have h1 : (S.bl.map Blk.h)[j]? = some x.h := by rw [List.getElem?_map, hz]; simp [he]
          have h2 : (S.bl.map Blk.h)[i]? = some x.h := by rw [List.getElem?_map, hx]; rfl
          exact ((List.getElem?_inj (by rw [List.length_map]; exact hil) hnd).1 (h2.trans h1.symm)))
        simp only [Option.map_some, Function.comp, Option.some.injEq]
        rw [if_neg (by rw [hj.1]; exact hne), ho j z hz (fun e' => e e'.symm), hj.1, hj.2]
theorem look_put {R : RowsL} {s : Nat} {o : Option (Nat × Nat × Nat)} {xs : List Int} {k : Int} (h : lookN R k = none) : lookN (putR R s o xs) k = none := by
  rw [putR_look, h]
  split <;> rfl
theorem CmP.sized {M i : Nat} {x y : Blk} {len : Nat} {mem2 : List Int} {o : Option (Nat × Nat × Nat)} (h : CmP S R K n) (hnd : (S.bl.map Blk.h).Nodup) (hi : ∀ y ∈ S.bl, y.at' + y.len ≤ S.mem.length) (hx : S.bl[i]? = some x) (hz : RzOk S M x len y mem2) :
    CmP { S with mem := mem2, bl := S.bl.set i y } (putR R x.h o (rsO (octB S.mem x) len)) K n := by
  obtain ⟨p1, p2, p3, p4, p5⟩ := resize_plain h.apB hi hx hz
  exact ⟨h.pol, h.op, p1, con_put h.con hx hnd rfl p4 p3 p2, fun k hk => ⟨(h.gone k hk).1, (h.gone k hk).2.1, look_put (h.gone k hk).2.2⟩, h.few, h.his⟩
end

end Go.Proofs.Ytjogaohnphafgaa
