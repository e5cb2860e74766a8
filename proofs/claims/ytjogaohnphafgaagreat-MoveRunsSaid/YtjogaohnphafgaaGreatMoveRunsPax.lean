/-
  The shifts that Compact would make: Plan. No conditions but bounds.
  Blocks moved together: the plain part. No conditions.
-/
import Derived.Test.YtjogaohnphafgaaGreatMoveRunsPaw

namespace Go.Proofs.YtjogaohnphafgaaGreat
section
open Go.RowKit
set_option linter.unusedVariables false

/-- A shift: the handle, whence, whither. -/
structure Shf where
  h : Nat
  fr : Nat
  tt : Nat
instance : Inhabited Shf := ⟨⟨0, 0, 0⟩⟩
def Shf.cells (x : Shf) : List Value := [.int .i64 (x.h : Int), .int .i64 (x.fr : Int), .int .i64 (x.tt : Int)]
theorem scells_len (ls : List Shf) : (ls.flatMap Shf.cells).length = ls.length * 3 := by
  induction ls with
  | nil => rfl
  | cons y qs ih => rw [List.flatMap_cons, List.length_append, ih]; show 3 + _ = _; simp; omega
theorem shf_get (qs : List Shf) (i r : Nat) (x : Shf) (h : qs[i]? = some x) (hr : r < 3) : (qs.flatMap Shf.cells)[i * 3 + r]? = x.cells[r]? := by
  induction qs generalizing i with
  | nil => simp at h
  | cons y qs ih =>
    rw [List.flatMap_cons]
    cases i with
    | zero =>
      simp at h
      subst h
      rw [Nat.zero_mul, Nat.zero_add, List.getElem?_append_left (by show r < 3; exact hr)]
    | succ i =>
      have e : (i + 1) * 3 + r = y.cells.length + (i * 3 + r) := by show _ = 3 + _; omega
      rw [e, List.getElem?_append_right (Nat.le_add_right _ _), Nat.add_sub_cancel_left]
      exact ih i (by simpa using h)
theorem infoShf : (Tryz.prog.info? 64).map (fun i => (i.zero, i.size, i.bytes)) = some (some (.agg #[.int .i64 0, .int .i64 0, .int .i64 0]), 3, 24) := by kernel_rfl
/-- The cells of a shift of a row. -/
theorem shf_cells {w : World} {B : Nat} {v : Value} {l : List Shf} {i : Nat} {x : Shf} (h : w.ownsRow B 64 3 v l.length (l.flatMap Shf.cells)) (hs : l[i]? = some x) :
    ∃ g cap, v = .slice (some ⟨g, 0, none⟩) l.length cap ∧ w.cell? ⟨g, i * 3, none⟩ = some (.int .i64 (x.h : Int)) ∧ w.cell? ⟨g, i * 3 + 1, none⟩ = some (.int .i64 (x.fr : Int)) ∧ w.cell? ⟨g, i * 3 + 2, none⟩ = some (.int .i64 (x.tt : Int)) := by
  have hi : i < l.length := (List.getElem?_eq_some_iff.1 hs).1
  have hsh : ∃ g cap, v = .slice (some ⟨g, 0, none⟩) l.length cap := by
    rcases h.2 with ⟨h1, h2⟩ | ⟨g, cap', cur, h1, _⟩
    · omega
    · exact ⟨g, cap', h1⟩
  obtain ⟨g, cap, rfl⟩ := hsh
  have key : ∀ r (u : Value), r < 3 → x.cells[r]? = some u → w.cell? ⟨g, i * 3 + r, none⟩ = some u := fun r u hr hu => by
    obtain ⟨g', hg, hc, _⟩ := wrow_cell h (j := i * 3 + r) (u := u) (by rw [shf_get l i r x hs hr]; exact hu)
    cases hg
    exact hc
  exact ⟨g, cap, rfl, key 0 _ (by decide) rfl, key 1 _ (by decide) rfl, key 2 _ (by decide) rfl⟩

def shiftsG : Nat → List Blk → List Shf
  | _, [] => []
  | a, x :: l => (if x.at' = a then [] else [⟨x.h, x.at', a⟩]) ++ shiftsG (a + x.len) l
theorem shiftsG_step {a : Nat} {l : List Blk} {k : Nat} {x : Blk} {G T : List Shf} (hx : l[k]? = some x) (h : T = G ++ shiftsG a (l.drop k)) : T = (G ++ if x.at' = a then [] else [⟨x.h, x.at', a⟩]) ++ shiftsG (a + x.len) (l.drop (k + 1)) := by
  have e : l.drop k = x :: l.drop (k + 1) := by
    obtain ⟨hlt, he⟩ := List.getElem?_eq_some_iff.1 hx
    rw [List.drop_eq_getElem_cons hlt, he]
  rw [h, e, List.append_assoc]
  rfl
def PlanPost (S : HpSt) (w : World) : Ending → World → Prop := fun e w' => ∃ L v, SortedL (lieL S.bl) L ∧ e = .returned v ∧ w'.ownsRow w.heap.size 64 3 v (shiftsG 0 L).length ((shiftsG 0 L).flatMap Shf.cells) ∧ (shiftsG 0 L).length ≤ S.bl.length ∧ Below w.heap.size w w'

set_option maxHeartbeats 4000000 in
set_option maxRecDepth 100000 in
theorem planM_any {w : World} {F : Nat → Prop} {hp bp : Nat} {S : HpSt} {vm vb vh : Value} {vhs : List Value} (m : HpMem w F hp bp S vm vb vh vhs) :
    Calls Tryz.prog 51 #[.pointer (some ⟨hp, 0, none⟩)] w (PlanPost S w) := by
  have C := Lib.hid (lyingM_any m)
  have HM := Lib.hid m
  clear m
  go_enter Tryz.func51, Tryz.ntmps51
  go_upto_region 3 with fail
  go_wp2_with fail
  refine C.out.mono ?_
  rintro e wc ⟨v, L, rfl, hs, hrow, hb⟩
  have hfew : L.length ≤ 500 := by have := hs.len; have := HM.out.big.2.1; omega
  have HS := Lib.hid hs
  have HROW := Lib.hid hrow
  have HB := Lib.hid hb
  have HLE : Hid (L.length ≤ S.bl.length) := Lib.hid hs.len
  obtain ⟨N, hN⟩ : ∃ N, L.length = N := ⟨_, rfl⟩
  have HN := Lib.hid hN
  obtain ⟨va, vc, hv⟩ := wrow_sh hrow
  rw [hN] at hv hfew
  subst hv
  have hBD : ∀ k, sumB (L.take k) ≤ k * 100000 := fun k => by
    have : ∀ (l : List Blk) (k : Nat), (∀ x ∈ l, x.len ≤ 100000) → sumB (l.take k) ≤ k * 100000 := by
      intro l
      induction l with
      | nil => intro k _; simp [sumB]
      | cons x l ih =>
        intro k h
        cases k with
        | zero => simp [sumB]
        | succ k =>
          rw [List.take_succ_cons, sumB_cons]
          have h1 := ih k (fun y hy => h y (List.mem_cons_of_mem _ hy))
          have h2 := h x List.mem_cons_self
          omega
    exact this L k (fun x hx => by have := (HM.out.hb x (hs.mem hx).1).2.2; have := HM.out.big.1; omega)
  have HBD := Lib.hid hBD
  have sz := hb.size
  obtain ⟨i0, hi0, hz0, hz1, hz2⟩ := info_parts infoShf
  clear hs hN hrow hb hBD C
  go_wp2_with fail
  go_loopw [3, 4, 10] (fun v a i wr => ∃ (k at' : Nat) (G : List Shf), k ≤ N ∧ i = .int .i64 (k : Int) ∧ a = .int .i64 (at' : Int) ∧ at' = sumB (L.take k) ∧ G.length ≤ k ∧ wr.ownsRow wc.heap.size 64 3 v G.length (G.flatMap Shf.cells) ∧ Below wc.heap.size wc wr ∧ shiftsG 0 L = G ++ shiftsG at' (L.drop k)) (fun _ _ i _ => N - (intOf i).toNat)
  case atStart => exact ⟨0, 0, [], Nat.zero_le _, rfl, rfl, rfl, Nat.le_refl _, World.ownsRow_nil _ _ _ _, Below.refl _ _, rfl⟩
  case round =>
    obtain ⟨k, at', G, hk, rfl, rfl, hat, hgk, hG, hb, hgl⟩ := hrel
    by_cases hlt : k < N
    · obtain ⟨x, hx⟩ : ∃ x, L[k]? = some x := ⟨_, List.getElem?_eq_getElem (by have := HN.out; omega)⟩
      obtain ⟨g2, cap2, hv2, d0, d1, d2, _⟩ := blk_cells (row_low HROW.out (Nat.zero_le _)) hx
      rw [HN.out] at hv2
      simp only [Value.slice.injEq, true_and] at hv2
      obtain ⟨rfl, rfl⟩ := hv2
      have d0 := old_cell hb d0
      have d1 := old_cell hb d1
      have d2 := old_cell hb d2
      have HSTEP := Lib.hid (shiftsG_step hx hgl)
      have hs1 : sumB (L.take (k + 1)) = at' + x.len := by
        rw [hat, List.take_add_one, hx]
        simp [sumB]
      have HS1 := Lib.hid hs1
      have hbd := HBD.out (k + 1)
      rw [hs1] at hbd
      have HB2 := Lib.hid hb
      have HG := Lib.hid hG
      have B1 : ∀ o, Below wr.heap.size wr (wr.alloc o) := fun o => (Below.refl _ _).alloc (Nat.le_refl _) o
      have HB1 := Lib.hid B1
      have szr := hb.size
      have bx : (wr.alloc (.cells #[.int .i64 (x.h : Int), .int .i64 (x.at' : Int), .int .i64 (x.len : Int)] 78)).heap[wr.heap.size]? = some (.cells #[.int .i64 (x.h : Int), .int .i64 (x.at' : Int), .int .i64 (x.len : Int)] 78 (0, 0)) := heap_alloc_new _ _
      have HBX := Lib.hid bx
      by_cases hgt : x.at' = at'
      · have hgt' : ((x.at' : Int) != (at' : Int)) = false := by rw [hgt]; simp
        have hst := HSTEP.out
        rw [if_pos hgt, List.append_nil] at hst
        have HST := Lib.hid hst
        clear hx hgl hb hG bx hst HSTEP B1 hgt hat hs1
        go_wp2_with fail
        go_roundw
        case measure => simp only [intOf]; omega
        case rel => exact ⟨k + 1, at' + x.len, G, by omega, by go_num, by go_num, HS1.out.symm, by omega, row_kept HG.out (HB1.out _), HB2.out.trans ((HB1.out _).mono HB2.out.size), HST.out⟩
      · have hgt' : ((x.at' : Int) != (at' : Int)) = true := by simp; omega
        obtain ⟨GN, hGN⟩ : ∃ GN, G.length = GN := ⟨_, rfl⟩
        have HGN := Lib.hid hGN
        obtain ⟨va, vc, hv⟩ := wrow_sh hG
        rw [hGN] at HG hgk hv
        subst hv
        have hst := HSTEP.out
        rw [if_neg hgt] at hst
        have HST := Lib.hid hst
        have RW : Hid ((wr.alloc (.cells #[.int .i64 (x.h : Int), .int .i64 (x.at' : Int), .int .i64 (x.len : Int)] 78)).ownsRow wc.heap.size 64 3 (.slice va GN vc) GN (G.flatMap Shf.cells)) := Lib.hid (row_kept HG.out (HB1.out _))
        have BW := Lib.hid (HB2.out.trans ((HB1.out (.cells #[.int .i64 (x.h : Int), .int .i64 (x.at' : Int), .int .i64 (x.len : Int)] 78)).mono HB2.out.size))
        have hbs := BW.out.size
        clear hx hgl hb hG bx hGN B1 hst HSTEP hat hs1
        go_wp2_with (at_builtin; go_must (refine wpList_append_w rfl (.tmp 18) (.tmp 25) 59 rfl wc.heap.size 64 i0 (.agg #[.int .i64 0, .int .i64 0, .int .i64 0]) 3 24 Tryz.underlying59 hi0 hz0 hz1 hz2 rfl (by decide) _ _ _ (wr.alloc (.cells #[.int .i64 (x.h : Int), .int .i64 (x.at' : Int), .int .i64 (x.len : Int)] 78)) _ [.int .i64 (x.h : Int), .int .i64 (x.at' : Int), .int .i64 (at' : Int)] rfl (by exact RW.out) (by simp [Act.eval]) rfl (by intro u hu; simp at hu; rcases hu with rfl | rfl | rfl <;> rfl) (by unfold maxLen; omega) (by omega) (by simpa using hbs) ?_))
        intro v' w' hown' hgr hb'
        have hx' := (hgr.block wr.heap.size (by simp) (fun e => by have := (HG.out.lt _ e.symm).2; omega)).trans HBX.out
        have d3 : w'.cell? ⟨wr.heap.size, 1, none⟩ = some (.int .i64 (x.at' : Int)) := (cell_of hx' 1).trans rfl
        have d4 : w'.cell? ⟨wr.heap.size, 2, none⟩ = some (.int .i64 (x.len : Int)) := (cell_of hx' 2).trans rfl
        clear hgr hx'
        have FIN : Hid (w'.ownsRow wc.heap.size 64 3 v' (G ++ [(⟨x.h, x.at', at'⟩ : Shf)]).length ((G ++ [(⟨x.h, x.at', at'⟩ : Shf)]).flatMap Shf.cells)) := Lib.hid (by
          rw [List.length_append, HGN.out, List.flatMap_append]
          exact hown')
        have B2 := Lib.hid (BW.out.trans hb')
        clear hown' hb' RW BW
        go_wp2_with fail
        go_roundw
        case measure => simp only [intOf]; omega
        case rel => exact ⟨k + 1, at' + x.len, _, by omega, by go_num, by go_num, HS1.out.symm, by rw [List.length_append, HGN.out]; simp; omega, FIN.out, B2.out, HST.out⟩
    · obtain rfl : k = N := by omega
      have ed : L.drop k = [] := List.drop_eq_nil_of_le (by have := HN.out; omega)
      rw [ed] at hgl
      have eG : shiftsG 0 L = G := by
        rw [hgl]
        exact List.append_nil _
      have FIN : Hid (PlanPost S w (.returned u3) wr) := Lib.hid ⟨L, _, HS.out, rfl, by rw [eG]; exact row_low hG HB.out.size, by rw [eG]; have := HLE.out; have := HN.out; omega, HB.out.trans (hb.mono HB.out.size)⟩
      clear hgl hG hb ed eG
      go_wp2_with fail
      go_ret
      exact FIN.out

end
end Go.Proofs.YtjogaohnphafgaaGreat

namespace Go.Proofs.YtjogaohnphafgaaGreat
section
open Go.RowKit
set_option linter.unusedVariables false

theorem sorted_one {l L L' : List Blk} (h : SortedL (lieL l) L) (h' : SortedL (lieL l) L') (ha : l.Pairwise apartB) : L = L' := by
  have strict : ∀ {K : List Blk}, SortedL (lieL l) K → K.Pairwise (fun a b => a.at' < b.at') := fun {K} hk => by
    have hc : Chain K := chain_of hk ha
    unfold Chain at hc
    refine List.Pairwise.imp_of_mem ?_ hc
    intro a b ma mb hab
    have := (hk.mem ma).2
    omega
  refine List.Perm.eq_of_pairwise (le := fun a b => a.at' ≤ b.at') ?_ h.2 h'.2 (h.1.trans h'.1.symm)
  intro a b ma mb h1 h2
  have hb : b ∈ L := (h.1.trans h'.1.symm).mem_iff.2 mb
  by_cases e : a = b
  · exact e
  · exfalso
    have hs := strict h
    obtain ⟨i, hi, rfl⟩ := List.mem_iff_getElem.1 ma
    obtain ⟨j, hj, rfl⟩ := List.mem_iff_getElem.1 hb
    rw [List.pairwise_iff_getElem] at hs
    rcases Nat.lt_trichotomy i j with hij | rfl | hij
    · have := hs i j hi hj hij; omega
    · exact e rfl
    · have := hs j i hj hi hij; omega

/-- Blocks moved together, as a function. -/
def cpF : HpSt → Nat → List Blk → HpSt
  | S, _, [] => S
  | S, a, x :: l => if x.at' = a then cpF S (a + x.len) l else match findB S.bl (x.h : Int) with
    | none => S
    | some (i, _) => cpF { S with mem := splice S.mem a (octB S.mem x), bl := S.bl.set i ⟨x.h, a, x.len⟩ } (a + x.len) l
/-- What holds while blocks are moved together: those in l are still to be moved, all others lie below a. -/
structure CpI (S0 S : HpSt) (a : Nat) (l : List Blk) : Prop where
  st : S = { S0 with mem := S.mem, bl := S.bl }
  len : S.mem.length = S0.mem.length
  con : S.bl.map (fun x => (x.h, octB S.mem x)) = S0.bl.map (fun x => (x.h, octB S0.mem x))
  ln : S.bl.map (fun x => (x.h, x.len)) = S0.bl.map (fun x => (x.h, x.len))
  nd : (S.bl.map Blk.h).Nodup
  ap : S.bl.Pairwise apartB
  ch : Chain l
  sub : ∀ x ∈ l, x ∈ S.bl ∧ x.len ≠ 0 ∧ a ≤ x.at'
  don : ∀ x ∈ S.bl, x.len ≠ 0 → x ∈ l ∨ x.at' + x.len ≤ a
  sm : a + sumB l = sumB S.bl
  inn : ∀ x ∈ S.bl, x.at' + x.len ≤ S.mem.length
  fin : ∀ L, SortedL (lieL S0.bl) L → cpF S a l = cpF S0 0 L
theorem CpI.start {S : HpSt} {L : List Blk} (hs : SortedL (lieL S.bl) L) (ha : S.bl.Pairwise apartB) (hn : (S.bl.map Blk.h).Nodup) (hi : ∀ x ∈ S.bl, x.at' + x.len ≤ S.mem.length) : CpI S S 0 L :=
  ⟨rfl, rfl, rfl, rfl, hn, ha, chain_of hs ha, fun x hx => ⟨(hs.mem hx).1, (hs.mem hx).2, Nat.zero_le _⟩, fun x hx h0 => Or.inl (hs.mem' hx h0), by rw [hs.sum]; omega, hi, fun L' h' => by rw [sorted_one h' hs ha]⟩
theorem CpI.skip {S0 S : HpSt} {a : Nat} {x : Blk} {l : List Blk} (h : CpI S0 S a (x :: l)) (hx : x.at' = a) : CpI S0 S (a + x.len) l := by
  obtain ⟨c1, c2⟩ := chain_cons h.ch
  refine ⟨h.st, h.len, h.con, h.ln, h.nd, h.ap, c2, fun y hy => ?_, fun y hy h0 => ?_, ?_, h.inn, fun L h' => by have := h.fin L h'; rw [cpF, if_pos hx] at this; exact this⟩
  · have := h.sub y (List.mem_cons_of_mem _ hy)
    exact ⟨this.1, this.2.1, by rw [← hx]; exact c1 y hy⟩
  · rcases h.don y hy h0 with h1 | h1
    · rcases List.mem_cons.1 h1 with rfl | h1
      · exact Or.inr (by omega)
      · exact Or.inl h1
    · exact Or.inr (by omega)
  · have := h.sm
    rw [sumB_cons] at this
    omega
theorem CpI.norm {S0 S : HpSt} : ∀ (l : List Blk) {a : Nat}, CpI S0 S a l → ∃ a' l', shiftsG a l = shiftsG a' l' ∧ CpI S0 S a' l' ∧ (l' = [] ∨ ∃ x l'', l' = x :: l'' ∧ x.at' ≠ a')
  | [], a, h => ⟨a, [], rfl, h, Or.inl rfl⟩
  | x :: l, a, h => by
    by_cases hx : x.at' = a
    · obtain ⟨a', l', h1, h2, h3⟩ := CpI.norm l (h.skip hx)
      refine ⟨a', l', ?_, h2, h3⟩
      rw [← h1]
      show (if x.at' = a then [] else _) ++ _ = _
      rw [if_pos hx]
      rfl
    · exact ⟨a, x :: l, rfl, h, Or.inr ⟨x, l, rfl, hx⟩⟩
theorem findB_of_mem : ∀ {l : List Blk} {x : Blk}, (l.map Blk.h).Nodup → x ∈ l → ∃ i, findB l (x.h : Int) = some (i, x)
  | y :: l, x, hn, hx => by
    rw [List.map_cons, List.nodup_cons] at hn
    unfold findB
    rcases List.mem_cons.1 hx with rfl | hx
    · exact ⟨0, by rw [if_pos rfl]⟩
    · have hne : ¬ ((y.h : Int) = (x.h : Int)) := fun e => hn.1 (by
        have e' : y.h = x.h := by omega
        rw [e']
        exact List.mem_map_of_mem hx)
      obtain ⟨i, hi⟩ := findB_of_mem hn.2 hx
      exact ⟨i + 1, by rw [if_neg hne, hi]; rfl⟩
/-- Octets where a block was written elsewhere. -/
theorem splice_get {m cs : List Int} {o j : Nat} (h : o + cs.length ≤ m.length) : (splice m o cs)[j]? = if o ≤ j ∧ j < o + cs.length then cs[j - o]? else m[j]? := by
  unfold splice
  have e1 : (m.take o).length = o := by rw [List.length_take]; omega
  by_cases h1 : j < o
  · rw [List.getElem?_append_left (by omega), List.getElem?_take_of_lt h1, if_neg (by omega)]
  · rw [List.getElem?_append_right (by omega), e1]
    by_cases h2 : j < o + cs.length
    · rw [List.getElem?_append_left (by omega), if_pos ⟨by omega, h2⟩]
    · rw [List.getElem?_append_right (by omega), List.getElem?_drop, if_neg (by omega)]
      congr 1
      omega
theorem splice_ln {m cs : List Int} {o : Nat} (h : o + cs.length ≤ m.length) : (splice m o cs).length = m.length := by
  unfold splice
  simp
  omega
theorem CpI.step {S0 S : HpSt} {a i : Nat} {x : Blk} {l : List Blk} (h : CpI S0 S a (x :: l)) (hne : x.at' ≠ a) (hf : findB S.bl (x.h : Int) = some (i, x)) :
    CpI S0 { S with mem := splice S.mem a (octB S.mem x), bl := S.bl.set i ⟨x.h, a, x.len⟩ } (a + x.len) l := by
  obtain ⟨c1, c2⟩ := chain_cons h.ch
  obtain ⟨hx, hx0, hxa⟩ := h.sub x List.mem_cons_self
  have hix := (findB_at hf).1
  have hil := (List.getElem?_eq_some_iff.1 hix).1
  have hin := h.inn x hx
  have hol : (octB S.mem x).length = x.len := octB_len hin
  have hle : a + (octB S.mem x).length ≤ S.mem.length := by rw [hol]; omega
  have hsl := splice_ln hle
  -- the others
  have oth : ∀ j y, S.bl[j]? = some y → j ≠ i → y ≠ x := fun j y hj hne e => hne (by
    have h1 : (S.bl.map Blk.h)[j]? = some x.h := by rw [List.getElem?_map, hj, e]; rfl
    have h2 : (S.bl.map Blk.h)[i]? = some x.h := by rw [List.getElem?_map, hix]; rfl
    exact ((List.getElem?_inj (by rw [List.length_map]; exact (List.getElem?_eq_some_iff.1 hj).1) h.nd).1 (h1.trans h2.symm)))
  have apx : ∀ y ∈ S.bl, y ≠ x → y.len ≠ 0 → y.at' + y.len ≤ a ∨ x.at' + x.len ≤ y.at' := fun y hy hne h0 => by
    rcases h.don y hy h0 with h1 | h1
    · rcases List.mem_cons.1 h1 with e | h1
      · exact absurd e hne
      · exact Or.inr (c1 y h1)
    · exact Or.inl h1
  have con1 : ∀ j y, S.bl[j]? = some y → j ≠ i → octB (splice S.mem a (octB S.mem x)) y = octB S.mem y := fun j y hj hne => by
    refine octB_same (fun t ht1 ht2 => ?_)
    have := apx y (List.mem_of_getElem? hj) (oth j y hj hne) (by omega)
    rw [splice_get hle, if_neg (by rw [hol]; omega)]
  have conx : octB (splice S.mem a (octB S.mem x)) ⟨x.h, a, x.len⟩ = octB S.mem x := by
    show ((splice S.mem a (octB S.mem x)).drop a).take x.len = _
    refine List.ext_getElem? (fun t => ?_)
    rw [List.getElem?_take]
    split
    · next ht => rw [List.getElem?_drop, splice_get hle, if_pos (by rw [hol]; omega)]; congr 1; omega
    · next ht => rw [List.getElem?_eq_none (by rw [hol]; omega)]
  have memb : ∀ y, y ∈ S.bl.set i ⟨x.h, a, x.len⟩ → y = ⟨x.h, a, x.len⟩ ∨ (y ∈ S.bl ∧ y ≠ x) := fun y hy => by
    obtain ⟨j, hj⟩ := List.mem_iff_getElem?.1 hy
    rw [List.getElem?_set] at hj
    split at hj
    · exact Or.inl (by simpa using hj.symm)
    · next hne => exact Or.inr ⟨List.mem_of_getElem? hj, oth j y hj (fun e => hne e.symm)⟩
  refine ⟨?_, ?_, ?_, ?_, ?_, ?_, c2, fun y hy => ?_, fun y hy h0 => ?_, ?_, fun y hy => ?_, fun L h' => by have := h.fin L h'; rw [cpF, if_neg hne, hf] at this; exact this⟩
  · have := h.st
    rw [this]
  · exact hsl.trans h.len
  · rw [← h.con]
    refine List.ext_getElem? (fun j => ?_)
    rw [List.getElem?_map, List.getElem?_map, List.getElem?_set]
    by_cases e : i = j
    · subst e
      rw [if_pos rfl, if_pos hil, hix]
      simp only [Option.map_some]
      rw [conx]
    · rw [if_neg e]
      cases hj : S.bl[j]? with
      | none => rfl
      | some y =>
        simp only [Option.map_some]
        rw [con1 j y hj (fun e' => e e'.symm)]
  · rw [← h.ln]
    refine List.ext_getElem? (fun j => ?_)
    rw [List.getElem?_map, List.getElem?_map, List.getElem?_set]
    by_cases e : i = j
    · subst e
      rw [if_pos rfl, if_pos hil, hix]
      rfl
    · rw [if_neg e]
  · show ((S.bl.set i ⟨x.h, a, x.len⟩).map Blk.h).Nodup
    rw [set_map_h (y := ⟨x.h, a, x.len⟩) hix rfl]
    exact h.nd
  · show (S.bl.set i ⟨x.h, a, x.len⟩).Pairwise apartB
    have key : ∀ y ∈ S.bl, y ≠ x → apartB y ⟨x.h, a, x.len⟩ := fun y hy hne => by
      by_cases h0 : y.len = 0
      · exact Or.inl h0
      · have := apx y hy hne h0
        unfold apartB
        simp only
        omega
    rw [List.pairwise_iff_getElem]
    intro p q hp hq hpq
    rw [List.getElem_set, List.getElem_set]
    rw [List.length_set] at hp hq
    have base := (List.pairwise_iff_getElem.1 h.ap) p q hp hq hpq
    split
    · next e1 =>
      split
      · omega
      · next e2 => exact apartB_symm (key _ (List.getElem_mem hq) (oth q _ (List.getElem?_eq_getElem hq) (fun e => e2 e.symm)))
    · next e1 =>
      split
      · next e2 => exact key _ (List.getElem_mem hp) (oth p _ (List.getElem?_eq_getElem hp) (fun e => e1 e.symm))
      · exact base
  · obtain ⟨h1, h2, h3⟩ := h.sub y (List.mem_cons_of_mem _ hy)
    have h4 := c1 y hy
    refine ⟨?_, h2, by omega⟩
    obtain ⟨j, hj⟩ := List.mem_iff_getElem?.1 h1
    refine List.mem_iff_getElem?.2 ⟨j, ?_⟩
    rw [List.getElem?_set, if_neg (fun e => ?_)]
    · exact hj
    · subst e
      rw [hix] at hj
      simp only [Option.some.injEq] at hj
      subst hj
      omega
  · rcases memb y hy with rfl | ⟨h1, h2⟩
    · exact Or.inr (Nat.le_refl _)
    · rcases h.don y h1 h0 with h3 | h3
      · rcases List.mem_cons.1 h3 with e | h3
        · exact absurd e h2
        · exact Or.inl h3
      · exact Or.inr (by omega)
  · have h1 := h.sm
    rw [sumB_cons] at h1
    have h2 : sumB (S.bl.set i ⟨x.h, a, x.len⟩) = sumB S.bl := by
      unfold sumB
      congr 1
      refine List.ext_getElem? (fun j => ?_)
      rw [List.getElem?_map, List.getElem?_map, List.getElem?_set]
      by_cases e : i = j
      · subst e
        rw [if_pos rfl, if_pos hil, hix]
        rfl
      · rw [if_neg e]
    show a + x.len + sumB l = sumB (S.bl.set i ⟨x.h, a, x.len⟩)
    omega
  · show y.at' + y.len ≤ (splice S.mem a (octB S.mem x)).length
    rw [hsl]
    rcases memb y hy with rfl | ⟨h1, h2⟩
    · show a + x.len ≤ _
      omega
    · exact h.inn y h1

theorem cpF_his : ∀ (l : List Blk) (S : HpSt) (a : Nat) (hi : List (List Blk)) (c : Nat), cpF { S with hist := hi, count := c } a l = { cpF S a l with hist := hi, count := c }
  | [], S, a, hi, c => rfl
  | x :: l, S, a, hi, c => by
    unfold cpF
    split
    · exact cpF_his l S _ hi c
    · cases hf : findB S.bl (x.h : Int) with
      | none => rfl
      | some p => exact cpF_his l { S with mem := splice S.mem a (octB S.mem x), bl := S.bl.set p.1 ⟨x.h, a, x.len⟩ } _ hi c
theorem CpI.done {S0 S : HpSt} {a : Nat} (h : CpI S0 S a []) {L : List Blk} (hL : SortedL (lieL S0.bl) L) : S = cpF S0 0 L := h.fin L hL

end
end Go.Proofs.YtjogaohnphafgaaGreat
