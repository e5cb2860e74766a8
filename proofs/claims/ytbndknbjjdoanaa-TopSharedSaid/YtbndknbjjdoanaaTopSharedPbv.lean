/-
  What holds between the calls of the law of shared strings, and how each call turns it. No conditions but bounds.
-/
import Derived.Test.YtbndknbjjdoanaaTopSharedPbu
namespace Go.Proofs.Ytbndknbjjdoanaa
open Go.RowKit
set_option linter.unusedVariables false

structure SvI (w0 : World) (h bp mp n : Nat) (P : PoolSt) (Z Y : Nat → Prop) (L : RowsL) (D : DataW Unit) (w : World) : Prop where
  bel : Below w0.heap.size w0 w
  sp : SP w Z h bp P P.bl.length
  pl : PlM w Y mp L D
  zb : ∀ k, Z k → w0.heap.size ≤ k
  yb : ∀ k, Y k → w0.heap.size ≤ k
  dis : ∀ k, Z k → ¬ Y k
  keys : L.map Prod.fst = P.st.map Prod.fst
  con : ∀ s, (lookN L s).map Prod.snd = P.con s
  lb : P.lastB ≤ 2000 * n
  ls : P.lastS ≤ n
def SvE (w0 : World) (h bp mp n : Nat) (w : World) : Prop := ∃ P Z Y L D, SvI w0 h bp mp n P Z Y L D w
section
variable {w0 : World} {h bp mp n : Nat} {P : PoolSt} {Z Y : Nat → Prop} {L : RowsL} {D : DataW Unit} {w : World}
theorem SvI.below {w' : World} (s : SvI w0 h bp mp n P Z Y L D w) (hb : Below w.heap.size w w') : SvI w0 h bp mp n P Z Y L D w' :=
  ⟨s.bel.trans (hb.mono s.bel.size), s.sp.same hb, s.pl.below hb, s.zb, s.yb, s.dis, s.keys, s.con, s.lb, s.ls⟩
theorem SvI.up (s : SvI w0 h bp mp n P Z Y L D w) : SvI w0 h bp mp (n + 1) P Z Y L D w := ⟨s.bel, s.sp, s.pl, s.zb, s.yb, s.dis, s.keys, s.con, by have := s.lb; omega, by have := s.ls; omega⟩
/-- What a call leaves. -/
theorem SvI.went {P' : PoolSt} {Z' : Nat → Prop} {w' : World} (s : SvI w0 h bp mp n P Z Y L D w) (g : Went h bp P Z w P' Z' w') :
    Below w0.heap.size w0 w' ∧ PlM w' Y mp L D ∧ (∀ k, Z' k → w0.heap.size ≤ k) ∧ (∀ k, Z' k → ¬ Y k) ∧ P'.lastB ≤ 2000 * (n + 1) ∧ P'.lastS ≤ n + 1 := by
  have hs := s.bel.size
  refine ⟨s.bel.trans (g.nx.2.below hs s.zb), s.pl.touch g.nx.2 s.dis, fun k hk => ?_, fun k hk hy => ?_, by have := g.lb; have := s.lb; omega, by have := g.ls; have := s.ls; omega⟩
  · rcases g.nx.1 k hk with h1 | h1
    · exact s.zb k h1
    · omega
  · rcases g.nx.1 k hk with h1 | h1
    · exact s.dis k h1 hy
    · have := s.pl.yl k hy
      omega
theorem SvI.kept {w' : World} (s : SvI w0 h bp mp n P Z Y L D w) (g : Kept h bp P Z w w') : SvE w0 h bp mp (n + 1) w' := by
  obtain ⟨P', Z', g, hk, hc⟩ := g
  obtain ⟨a1, a2, a3, a4, a5, a6⟩ := s.went g
  exact ⟨P', Z', Y, L, D, a1, g.sp, a2, a3, s.yb, a4, s.keys.trans hk.symm, fun x => (s.con x).trans (hc x).symm, a5, a6⟩
theorem SvI.len (s : SvI w0 h bp mp n P Z Y L D w) : L.length = P.st.length := by
  have := congrArg List.length s.keys
  simpa using this
theorem SP.smalls {Q : PoolSt} {m : Nat} (s : SP w Z h bp Q m) : Q.st.length ≤ 200 ∧ 1 ≤ Q.size ∧ Q.size ≤ 4096 ∧ (∀ q ∈ Q.st, 1 ≤ q.1) ∧ m ≤ 10000000 := by
  obtain ⟨mb, ms, D1, D2, F, G, b, p, hz⟩ := s
  refine ⟨p.pm.few.1, p.pm.sz.1, p.pm.sz.2, fun q hq => (p.pm.ns q hq).1, ?_⟩
  have h1 := p.room
  have h2 := p.pm.sz.1
  have h3 : 1 * m ≤ Q.size * m := Nat.mul_le_mul_right _ h2
  omega
/-- What a string shows: its key's row. -/
theorem SvI.look (s : SvI w0 h bp mp n P Z Y L D w) {x : Int} {xs : List Int} (hc : P.con x = some xs) : ∃ o, lookN L x = some (o, xs) ∧ rowAt L x = o ∧ octAt L x = xs := by
  have h1 := s.con x
  rw [hc] at h1
  obtain ⟨⟨o, ys⟩, h2, h3⟩ := Option.map_eq_some_iff.1 h1
  simp only at h3
  subst h3
  exact ⟨o, h2, by unfold rowAt; rw [h2]; rfl, by unfold octAt; rw [h2]; rfl⟩
theorem own_new {B : Nat} {v : Value} {m : Nat} {xs : List Value} {W : World} (h : W.ownsRow B 5 1 v m xs) {k : Nat} (hk : v.ownBlock = some k) : B ≤ k ∧ k < W.heap.size := h.lt k hk

theorem SvI.more {xs : List Int} {w2 w3 : World} {o : Option (Nat × Nat × Nat)} (s : SvI w0 h bp mp n P Z Y L D w) (g : More h bp P Z xs w w2) (hb : Below w2.heap.size w2 w3) (hr : w3.ownsRow w2.heap.size 5 1 (rowOf o) xs.length (cellsB xs)) (hx : bytes xs) (hn : n ≤ 1000000) :
    ∃ w4, (Instr.mapUpdate 45 (.map (some mp)) (.int .i64 ((P.lastS + 1 : Nat) : Int)) (rowOf o)).run Try.prog w3 = .ok () w4 ∧ SvE w0 h bp mp (n + 1) w4 := by
  obtain ⟨P', Z', g, hk, hc⟩ := g
  obtain ⟨a1, a2, a3, a4, a5, a6⟩ := s.went g
  have a2 := a2.below hb
  have b1 := a1.trans (hb.mono a1.size)
  have sp3 := g.sp.same hb
  have hls := s.ls
  have hkey := Maps.keyOf_int_mk (P := Try.prog) (k := 3) Try.underlying3 (a := ((P.lastS + 1 : Nat) : Int)) (WalkArith.wf_i64 (by omega))
  have few := s.sp.smalls.1
  rw [← s.len] at few
  obtain ⟨w4, hrun, hm4, hg4⟩ := a2.m.update intKey Try.underlying45 (by unfold maxLen; omega) hkey (rowElem_of o)
  have hnew : ∀ p ∈ L, p.1 ≠ P.lastS + 1 := fun p hp => by
    have h1 : p.1 ∈ P.st.map Prod.fst := by rw [← s.keys]; exact List.mem_map_of_mem hp
    obtain ⟨q, hq, he⟩ := List.mem_map.1 h1
    have := s.sp.ok.ns q hq
    omega
  have keep : ∀ k, k < w3.heap.size → k ≠ mp → w4.heap[k]? = w3.heap[k]? := fun k hk hne => hg4.block k hk (fun e => hne (Option.some.inj e))
  have pl4 := a2.add hnew hm4 keep hg4.size (row_low hr (Nat.zero_le _)) hx (fun k hk hy => by
    have h1 := (hr.lt k hk).1
    have h2 := s.pl.yl k hy
    have h3 := g.nx.2.size
    omega)
  refine ⟨w4, hrun, P', Z', _, _, _, b1.grown hg4 b1.size (fun k e => by cases e; exact s.yb mp s.pl.f), ?_, pl4, a3, fun k hk => ?_, fun k hz hy => ?_, ?_, fun x => ?_, a5, a6⟩
  · exact sp3.far (fun k hk => keep k (sp3.lt k hk) (fun e => a4 k hk (by rw [e]; exact a2.f))) hg4.size
  · rcases hk with hk | hk
    · exact s.yb k hk
    · have h1 := (hr.lt k hk).1
      have h2 := a1.size
      omega
  · rcases hy with hy | hy
    · exact a4 k hz hy
    · have h1 := (hr.lt k hy).1
      have h2 := g.sp.lt k hz
      omega
  · rw [List.map_append, s.keys, hk]
    rfl
  · rw [lookN_snoc _ _ _ _ hnew, hc]
    split
    · rfl
    · exact s.con x
theorem SvI.turned {xs ys : List Int} {sn : Nat} {o0 : Option (Nat × Nat × Nat)} {w2 w3 : World} {o : Option (Nat × Nat × Nat)} (s : SvI w0 h bp mp n P Z Y L D w) (hl : lookN L (sn : Int) = some (o0, ys)) (g : Turned h bp P Z sn xs w w2) (hb : Below w2.heap.size w2 w3) (hr : w3.ownsRow w2.heap.size 5 1 (rowOf o) xs.length (cellsB xs)) (hx : bytes xs) (hn : n ≤ 1000000) :
    ∃ w4, (Instr.mapUpdate 45 (.map (some mp)) (.int .i64 (sn : Int)) (rowOf o)).run Try.prog w3 = .ok () w4 ∧ SvE w0 h bp mp (n + 1) w4 := by
  obtain ⟨P', Z', g, hk, hc⟩ := g
  obtain ⟨a1, a2, a3, a4, a5, a6⟩ := s.went g
  have a2 := a2.below hb
  have b1 := a1.trans (hb.mono a1.size)
  have sp3 := g.sp.same hb
  have hls := s.ls
  have hsn : sn ≤ 1000000 := by
    have h1 : sn ∈ P.st.map Prod.fst := by rw [← s.keys]; exact List.mem_map_of_mem (f := Prod.fst) (lookN_val hl)
    obtain ⟨q, hq, he⟩ := List.mem_map.1 h1
    have := s.sp.ok.ns q hq
    omega
  have hkey := Maps.keyOf_int_mk (P := Try.prog) (k := 3) Try.underlying3 (a := (sn : Int)) (WalkArith.wf_i64 (by omega))
  have few := s.sp.smalls.1
  rw [← s.len] at few
  obtain ⟨w4, hrun, hm4, hg4⟩ := a2.m.update intKey Try.underlying45 (by unfold maxLen; omega) hkey (rowElem_of o)
  have keep : ∀ k, k < w3.heap.size → k ≠ mp → w4.heap[k]? = w3.heap[k]? := fun k hk hne => hg4.block k hk (fun e => hne (Option.some.inj e))
  have pl4 := a2.put hl hm4 keep hg4.size (row_low hr (Nat.zero_le _)) hx (fun k hk hy => by
    have h1 := (hr.lt k hk).1
    have h2 := s.pl.yl k hy
    have h3 := g.nx.2.size
    omega)
  refine ⟨w4, hrun, P', Z', _, _, _, b1.grown hg4 b1.size (fun k e => by cases e; exact s.yb mp s.pl.f), ?_, pl4, a3, fun k hk => ?_, fun k hz hy => ?_, ?_, fun x => ?_, a5, a6⟩
  · exact sp3.far (fun k hk => keep k (sp3.lt k hk) (fun e => a4 k hk (by rw [e]; exact a2.f))) hg4.size
  · rcases hk with hk | hk
    · exact s.yb k hk
    · have h1 := (hr.lt k hk).1
      have h2 := a1.size
      omega
  · rcases hy with hy | hy
    · exact a4 k hz hy
    · have h1 := (hr.lt k hy).1
      have h2 := g.sp.lt k hz
      omega
  · rw [putR_keys, s.keys, hk]
  · rw [putR_look, hc]
    split
    · next e => rw [← e, hl]; rfl
    · exact s.con x
/-- A string is given up, and its row taken out. -/
theorem SvI.dropped {x : Int} {P' : PoolSt} {Z' : Nat → Prop} {w2 w3 : World} (s : SvI w0 h bp mp n P Z Y L D w) (hx : (P.con x).isSome) (g : Went h bp P Z w P' Z' w2) (hk : P'.st.map Prod.fst = (P.st.map Prod.fst).filter (fun k : Nat => decide (¬ (k : Int) = x))) (hc : ∀ y, P'.con y = if y = x then none else P.con y)
    (hm : w3.ownsMap Try.prog 3 rowElem mp L.length (D.del (.int .i64 x))) (hg : w2.grownBy w3 (some mp)) : SvE w0 h bp mp (n + 1) w3 := by
  obtain ⟨a1, a2, a3, a4, a5, a6⟩ := s.went g
  obtain ⟨xs, hxs⟩ := Option.isSome_iff_exists.1 hx
  obtain ⟨o, hl, _⟩ := s.look hxs
  have keep : ∀ k, k < w2.heap.size → k ≠ mp → w3.heap[k]? = w2.heap[k]? := fun k hk hne => hg.block k hk (fun e => hne (Option.some.inj e))
  refine ⟨P', Z', Y, _, _, a1.grown hg a1.size (fun k e => by cases e; exact s.yb mp s.pl.f), g.sp.far (fun k hk => keep k (g.sp.lt k hk) (fun e => a4 k hk (by rw [e]; exact a2.f))) hg.size, a2.del hl hm keep hg.size, a3, s.yb, a4, ?_, fun y => ?_, a5, a6⟩
  · rw [hk, ← s.keys]
    unfold delL
    rw [List.filter_map]
    rfl
  · show (lookN (L.filter fun p => decide (¬ (p.1 : Int) = x)) y).map _ = _
    rw [lookN_filter (fun k => decide (¬ k = x)), hc]
    by_cases e : y = x
    · rw [if_neg (by simp [e]), if_pos e]; rfl
    · rw [if_pos (by simp [e]), if_neg e]; exact s.con y
/-- A string is written, and its row where it lies. -/
theorem SvI.wrote {xs ys : List Int} {sn : Nat} {o : Option (Nat × Nat × Nat)} {P' : PoolSt} {Z' : Nat → Prop} {w2 w3 : World} (s : SvI w0 h bp mp n P Z Y L D w) (hl : lookN L (sn : Int) = some (o, ys)) (g : Went h bp P Z w P' Z' w2) (hk : P'.st.map Prod.fst = P.st.map Prod.fst) (hc : ∀ x, P'.con x = if (sn : Int) = x then some xs else P.con x)
    (hr : w3.ownsRow 0 5 1 (rowOf o) xs.length (cellsB xs)) (hx : bytes xs) (ht : Touch (fun k => (rowOf o).ownBlock = some k) w2 w3) : SvE w0 h bp mp (n + 1) w3 := by
  obtain ⟨a1, a2, a3, a4, a5, a6⟩ := s.went g
  have hY := (a2.st _ (lookN_val hl)).2
  refine ⟨P', Z', Y, putR L sn o xs, D, a1.trans (ht.below a1.size (fun k hk => s.yb k (hY k hk))), g.sp.far (fun k hk => ht.block k (g.sp.lt k hk) (fun e => a4 k hk (hY k e))) ht.size, a2.write hl hr hx (fun k hk hne => ht.block k hk hne) ht.size, a3, s.yb, a4, by rw [putR_keys, s.keys, hk], fun x => ?_, a5, a6⟩
  rw [putR_look, hc]
  split
  · next e => rw [← e, hl]; rfl
  · exact s.con x
end

/-- 'copy' into a row that is one's own. -/
theorem copy_row {w : World} {o : Option (Nat × Nat × Nat)} {xs os : List Int} {f n c dc : Nat} {a U da : Option Addr} (hr : w.ownsRow 0 5 1 (rowOf o) xs.length (cellsB xs)) (ha : rowOf o = .slice a n c) (hf : f + os.length ≤ xs.length) (hU : U = if c = f then a else Option.map (fun x => x.add f) a) (hs : Reads w .u8 (.slice da os.length dc) os) (hos : bytes os) :
    ∃ w', (Builtin.copy_ #[22, 22] 3 #[.slice U (n - f) (c - f), .slice da os.length dc]).run Try.prog w = .ok (.int .i64 (os.length : Int)) w' ∧ w'.ownsRow 0 5 1 (rowOf o) (splice xs f os).length (cellsB (splice xs f os)) ∧ Touch (fun k => (rowOf o).ownBlock = some k) w w' := by
  have hn : n = xs.length := by
    rcases hr.2 with ⟨h1, h2⟩ | ⟨g, cap, cur, h1, _⟩
    · rw [ha] at h1
      simp only [Value.slice.injEq] at h1
      omega
    · rw [ha] at h1
      simp only [Value.slice.injEq] at h1
      omega
  by_cases h0 : os.length = 0
  · obtain rfl : os = [] := List.eq_nil_of_length_eq_zero h0
    have hrun := run_copy_none (P := Try.prog) w 22 22 3 5 U da (n - f) (c - f) 0 dc Try.underlying22 byteSize (by simp)
    exact ⟨w, hrun, by rw [splice_nilX]; exact hr, Touch.refl _ _⟩
  · rcases hr.2 with ⟨h1, h2⟩ | ⟨g, cap, cur, h1, hb, hg, hle, hm, hsz, htk⟩
    · omega
    · obtain rfl : o = some (g, xs.length, cap) := by
        rcases o with _ | ⟨g', n', c'⟩
        · simp [rowOf] at h1
        · simp only [rowOf, Value.slice.injEq, Option.some.injEq, Addr.mk.injEq, and_true] at h1
          obtain ⟨rfl, rfl, rfl⟩ := h1
          rfl
      simp only [rowOf, Value.slice.injEq] at ha
      obtain ⟨rfl, rfl, rfl⟩ := ha
      have hne : ¬ cap = f := by omega
      rw [if_neg hne] at hU
      obtain rfl : U = some ⟨g, f, none⟩ := by rw [hU]; show some ((⟨g, 0, none⟩ : Addr).add f) = _; unfold Addr.add; split <;> simp_all
      obtain ⟨b', o', hd, hcell⟩ : ∃ b o, da = some ⟨b, o, none⟩ ∧ ∀ j, j < os.length → w.cell? ⟨b, o + j, none⟩ = some (.int .u8 (os.getD j 0)) := by
        obtain ⟨a', c', he, _, hc⟩ := hs
        simp only [Value.slice.injEq] at he
        obtain ⟨rfl, _, _⟩ := he
        exact hc (by intro e; rw [e] at h0; simp at h0)
      subst hd
      have hcl : (cellsB os).length = os.length := by simp [cellsB]
      have hrun := run_copy_row (P := Try.prog) w 22 22 3 5 g f (xs.length - f) (cap - f) ⟨b', o', none⟩ os.length dc cur 5 (cellsB os) Try.underlying22 byteSize hg (by rw [hcl]; exact (Nat.min_eq_left (by omega)).symm) (fun j v hv => by
        have hj : j < os.length := by rw [← hcl]; exact (List.getElem?_eq_some_iff.1 hv).1
        have e1 : (⟨b', o', none⟩ : Addr).add j = ⟨b', o' + j, none⟩ := by unfold Addr.add; split <;> simp_all
        rw [e1, hcell j hj]
        unfold cellsB at hv
        rw [List.getElem?_map, List.getElem?_eq_getElem hj] at hv
        rw [List.getD_eq_getElem?_getD, List.getElem?_eq_getElem hj]
        exact hv) (by rw [hcl]; omega) (fun v hv => by obtain ⟨z, _, rfl⟩ := List.mem_map.1 hv; rfl)
      refine ⟨_, by rw [hrun, hcl]; rfl, ⟨by simp [cellsB], Or.inr ⟨g, cap, (cur.toList.take f ++ cellsB os ++ cur.toList.drop (f + os.length)).toArray, ?_, Nat.zero_le _, setRow_heap w g cur _ _ _ hg, ?_, hm, ?_, ?_⟩⟩, ⟨rfl, rfl, rfl, by simp [World.setRow], fun k _ hk => setRow_other w g k _ (fun e => hk (by rw [e]; rfl))⟩⟩
      · show Value.slice _ _ _ = _
        rw [splice_len _ _ _ (by omega)]
      · rw [splice_len _ _ _ (by omega)]; exact hle
      · simp only [List.size_toArray, List.length_append, List.length_take, List.length_drop, Array.length_toList, hcl]
        omega
      · have hcur : cur.toList.take xs.length = cellsB xs := by simpa using htk
        have h9 : cur.toList.length = cur.size := by simp
        have hlen : f + os.length ≤ cur.toList.length := by omega
        rw [splice_len _ _ _ (by omega), Nat.mul_one]
        show (cur.toList.take f ++ cellsB os ++ cur.toList.drop (f + os.length)).take xs.length = cellsB (splice xs f os)
        rw [List.append_assoc, ← hcl]
        have e1 : cellsB (splice xs f os) = splice (cellsB xs) f (cellsB os) := by
          unfold splice cellsB
          simp
        rw [e1, ← hcur]
        show (splice cur.toList f (cellsB os)).take xs.length = splice (cur.toList.take xs.length) f (cellsB os)
        unfold splice
        rw [hcl, List.take_append, List.take_take, List.take_take, Nat.min_eq_right (show f ≤ xs.length by omega), Nat.min_eq_left (show f ≤ xs.length by omega)]
        refine congrArg (fun l => cur.toList.take f ++ l) ?_
        rw [List.take_append, List.length_take, hcl, Nat.min_eq_left (by omega : f ≤ cur.toList.length), List.take_of_length_le (l := cellsB os) (by rw [hcl]; omega), List.drop_take]
        rw [show xs.length - f - os.length = xs.length - (f + os.length) by omega]

end Go.Proofs.Ytbndknbjjdoanaa
