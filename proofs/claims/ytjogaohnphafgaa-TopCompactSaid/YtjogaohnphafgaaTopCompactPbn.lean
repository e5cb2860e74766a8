/-
  The shifts that Compact would make: Plan. No conditions but bounds.
-/
import Derived.Test.YtjogaohnphafgaaTopCompactPbm
namespace Go.Proofs.Ytjogaohnphafgaa
open Go.RowKit
set_option linter.unusedVariables false

/-- A shift: the handle, whence, whither. -/
structure Shf where
  h : Nat
  fr : Nat
  tt : Nat
instance : Inhabited Shf := ⟨⟨0, 0, 0⟩⟩
def Shf.cells (x : Shf) : List Value := [.int .i64 (x.h : Int), .int .i64 (x.fr : Int), .int .i64 (x.tt : Int)]
theorem scells_len (ls : List Shf) : (ls.flatMap Shf.cells).length = ls.length * 3 := by
  induction ls with
  | nil => rfl
  | cons y qs ih => rw [List.flatMap_cons, List.length_append, ih]; show 3 + _ = _; simp; omega
theorem shf_get (qs : List Shf) (i r : Nat) (x : Shf) (h : qs[i]? = some x) (hr : r < 3) : (qs.flatMap Shf.cells)[i * 3 + r]? = x.cells[r]? := by
  induction qs generalizing i with
  | nil => simp at h
  | cons y qs ih =>
    rw [List.flatMap_cons]
    cases i with
    | zero =>
      simp at h
      subst h
      rw [Nat.zero_mul, Nat.zero_add, List.getElem?_append_left (by show r < 3; exact hr)]
    | succ i =>
      have e : (i + 1) * 3 + r = y.cells.length + (i * 3 + r) := by show _ = 3 + _; omega
      rw [e, List.getElem?_append_right (Nat.le_add_right _ _), Nat.add_sub_cancel_left]
      exact ih i (by simpa using h)
theorem infoShf : (Try.prog.info? 83).map (fun i => (i.zero, i.size, i.bytes)) = some (some (.agg #[.int .i64 0, .int .i64 0, .int .i64 0]), 3, 24) := by kernel_rfl
/-- The cells of a shift of a row. -/
theorem shf_cells {w : World} {B : Nat} {v : Value} {l : List Shf} {i : Nat} {x : Shf} (h : w.ownsRow B 83 3 v l.length (l.flatMap Shf.cells)) (hs : l[i]? = some x) :
    ∃ g cap, v = .slice (some ⟨g, 0, none⟩) l.length cap ∧ w.cell? ⟨g, i * 3, none⟩ = some (.int .i64 (x.h : Int)) ∧ w.cell? ⟨g, i * 3 + 1, none⟩ = some (.int .i64 (x.fr : Int)) ∧ w.cell? ⟨g, i * 3 + 2, none⟩ = some (.int .i64 (x.tt : Int)) := by
  have hi : i < l.length := (List.getElem?_eq_some_iff.1 hs).1
  have hsh : ∃ g cap, v = .slice (some ⟨g, 0, none⟩) l.length cap := by
    rcases h.2 with ⟨h1, h2⟩ | ⟨g, cap', cur, h1, _⟩
    · omega
    · exact ⟨g, cap', h1⟩
  obtain ⟨g, cap, rfl⟩ := hsh
  have key : ∀ r (u : Value), r < 3 → x.cells[r]? = some u → w.cell? ⟨g, i * 3 + r, none⟩ = some u := fun r u hr hu => by
    obtain ⟨g', hg, hc, _⟩ := wrow_cell h (j := i * 3 + r) (u := u) (by rw [shf_get l i r x hs hr]; exact hu)
    cases hg
    exact hc
  exact ⟨g, cap, rfl, key 0 _ (by decide) rfl, key 1 _ (by decide) rfl, key 2 _ (by decide) rfl⟩

def shiftsG : Nat → List Blk → List Shf
  | _, [] => []
  | a, x :: l => (if x.at' = a then [] else [⟨x.h, x.at', a⟩]) ++ shiftsG (a + x.len) l
theorem shiftsG_step {a : Nat} {l : List Blk} {k : Nat} {x : Blk} {G T : List Shf} (hx : l[k]? = some x) (h : T = G ++ shiftsG a (l.drop k)) : T = (G ++ if x.at' = a then [] else [⟨x.h, x.at', a⟩]) ++ shiftsG (a + x.len) (l.drop (k + 1)) := by
  have e : l.drop k = x :: l.drop (k + 1) := by
    obtain ⟨hlt, he⟩ := List.getElem?_eq_some_iff.1 hx
    rw [List.drop_eq_getElem_cons hlt, he]
  rw [h, e, List.append_assoc]
  rfl
def PlanPost (S : HpSt) (w : World) : Ending → World → Prop := fun e w' => ∃ L v, SortedL (lieL S.bl) L ∧ e = .returned v ∧ w'.ownsRow w.heap.size 83 3 v (shiftsG 0 L).length ((shiftsG 0 L).flatMap Shf.cells) ∧ (shiftsG 0 L).length ≤ S.bl.length ∧ Below w.heap.size w w'

set_option maxHeartbeats 4000000 in
set_option maxRecDepth 100000 in
theorem planM_any {w : World} {F : Nat → Prop} {hp bp : Nat} {S : HpSt} {vm vb vh : Value} {vhs : List Value} (m : HpMem w F hp bp S vm vb vh vhs) :
    Calls Try.prog 35 #[.pointer (some ⟨hp, 0, none⟩)] w (PlanPost S w) := by
  have C := Lib.hid (lyingM_any m)
  have HM := Lib.hid m
  clear m
  go_enter Try.func35, Try.ntmps35
  go_upto_region 3 with fail
  go_wp2_with fail
  refine C.out.mono ?_
  rintro e wc ⟨v, L, rfl, hs, hrow, hb⟩
  have hfew : L.length ≤ 500 := by have := hs.len; have := HM.out.big.2.1; omega
  have HS := Lib.hid hs
  have HROW := Lib.hid hrow
  have HB := Lib.hid hb
  have HLE : Hid (L.length ≤ S.bl.length) := Lib.hid hs.len
  obtain ⟨N, hN⟩ : ∃ N, L.length = N := ⟨_, rfl⟩
  have HN := Lib.hid hN
  obtain ⟨va, vc, hv⟩ := wrow_sh hrow
  rw [hN] at hv hfew
  subst hv
  have hBD : ∀ k, sumB (L.take k) ≤ k * 100000 := fun k => by
    have : ∀ (l : List Blk) (k : Nat), (∀ x ∈ l, x.len ≤ 100000) → sumB (l.take k) ≤ k * 100000 := by
      intro l
      induction l with
      | nil => intro k _; simp [sumB]
      | cons x l ih =>
        intro k h
        cases k with
        | zero => simp [sumB]
        | succ k =>
          rw [List.take_succ_cons, sumB_cons]
          have h1 := ih k (fun y hy => h y (List.mem_cons_of_mem _ hy))
          have h2 := h x List.mem_cons_self
          omega
    exact this L k (fun x hx => by have := (HM.out.hb x (hs.mem hx).1).2.2; have := HM.out.big.1; omega)
  have HBD := Lib.hid hBD
  have sz := hb.size
  obtain ⟨i0, hi0, hz0, hz1, hz2⟩ := info_parts infoShf
  clear hs hN hrow hb hBD C
  go_wp2_with fail
  go_loopw [3, 4, 10] (fun v a i wr => ∃ (k at' : Nat) (G : List Shf), k ≤ N ∧ i = .int .i64 (k : Int) ∧ a = .int .i64 (at' : Int) ∧ at' = sumB (L.take k) ∧ G.length ≤ k ∧ wr.ownsRow wc.heap.size 83 3 v G.length (G.flatMap Shf.cells) ∧ Below wc.heap.size wc wr ∧ shiftsG 0 L = G ++ shiftsG at' (L.drop k)) (fun _ _ i _ => N - (intOf i).toNat)
  case atStart => exact ⟨0, 0, [], Nat.zero_le _, rfl, rfl, rfl, Nat.le_refl _, World.ownsRow_nil _ _ _ _, Below.refl _ _, rfl⟩
  case round =>
    obtain ⟨k, at', G, hk, rfl, rfl, hat, hgk, hG, hb, hgl⟩ := hrel
    by_cases hlt : k < N
    · obtain ⟨x, hx⟩ : ∃ x, L[k]? = some x := ⟨_, List.getElem?_eq_getElem (by have := HN.out; omega)⟩
      obtain ⟨g2, cap2, hv2, d0, d1, d2, _⟩ := blk_cells (row_low HROW.out (Nat.zero_le _)) hx
      rw [HN.out] at hv2
      simp only [Value.slice.injEq, true_and] at hv2
      obtain ⟨rfl, rfl⟩ := hv2
      have d0 := old_cell hb d0
      have d1 := old_cell hb d1
      have d2 := old_cell hb d2
      have HSTEP := Lib.hid (shiftsG_step hx hgl)
      have hs1 : sumB (L.take (k + 1)) = at' + x.len := by
        rw [hat, List.take_add_one, hx]
        simp [sumB]
      have HS1 := Lib.hid hs1
      have hbd := HBD.out (k + 1)
      rw [hs1] at hbd
      have HB2 := Lib.hid hb
      have HG := Lib.hid hG
      have B1 : ∀ o, Below wr.heap.size wr (wr.alloc o) := fun o => (Below.refl _ _).alloc (Nat.le_refl _) o
      have HB1 := Lib.hid B1
      have szr := hb.size
      have bx : (wr.alloc (.cells #[.int .i64 (x.h : Int), .int .i64 (x.at' : Int), .int .i64 (x.len : Int)] 52)).heap[wr.heap.size]? = some (.cells #[.int .i64 (x.h : Int), .int .i64 (x.at' : Int), .int .i64 (x.len : Int)] 52 (0, 0)) := heap_alloc_new _ _
      have HBX := Lib.hid bx
      by_cases hgt : x.at' = at'
      · have hgt' : ((x.at' : Int) != (at' : Int)) = false := by rw [hgt]; simp
        have hst := HSTEP.out
        rw [if_pos hgt, List.append_nil] at hst
        have HST := Lib.hid hst
        clear hx hgl hb hG bx hst HSTEP B1 hgt hat hs1
        go_wp2_with fail
        go_roundw
        case measure => simp only [intOf]; omega
        case rel => exact ⟨k + 1, at' + x.len, G, by omega, by go_num, by go_num, HS1.out.symm, by omega, row_kept HG.out (HB1.out _), HB2.out.trans ((HB1.out _).mono HB2.out.size), HST.out⟩
      · have hgt' : ((x.at' : Int) != (at' : Int)) = true := by simp; omega
        obtain ⟨GN, hGN⟩ : ∃ GN, G.length = GN := ⟨_, rfl⟩
        have HGN := Lib.hid hGN
        obtain ⟨va, vc, hv⟩ := wrow_sh hG
        rw [hGN] at HG hgk hv
        subst hv
        have hst := HSTEP.out
        rw [if_neg hgt] at hst
        have HST := Lib.hid hst
        have RW : Hid ((wr.alloc (.cells #[.int .i64 (x.h : Int), .int .i64 (x.at' : Int), .int .i64 (x.len : Int)] 52)).ownsRow wc.heap.size 83 3 (.slice va GN vc) GN (G.flatMap Shf.cells)) := Lib.hid (row_kept HG.out (HB1.out _))
        have BW := Lib.hid (HB2.out.trans ((HB1.out (.cells #[.int .i64 (x.h : Int), .int .i64 (x.at' : Int), .int .i64 (x.len : Int)] 52)).mono HB2.out.size))
        have hbs := BW.out.size
        clear hx hgl hb hG bx hGN B1 hst HSTEP hat hs1
        go_wp2_with (at_builtin; go_must (refine wpList_append_w rfl (.tmp 18) (.tmp 25) 48 rfl wc.heap.size 83 i0 (.agg #[.int .i64 0, .int .i64 0, .int .i64 0]) 3 24 Try.underlying48 hi0 hz0 hz1 hz2 rfl (by decide) _ _ _ (wr.alloc (.cells #[.int .i64 (x.h : Int), .int .i64 (x.at' : Int), .int .i64 (x.len : Int)] 52)) _ [.int .i64 (x.h : Int), .int .i64 (x.at' : Int), .int .i64 (at' : Int)] rfl (by exact RW.out) (by simp [Act.eval]) rfl (by intro u hu; simp at hu; rcases hu with rfl | rfl | rfl <;> rfl) (by unfold maxLen; omega) (by omega) (by simpa using hbs) ?_))
        intro v' w' hown' hgr hb'
        have hx' := (hgr.block wr.heap.size (by simp) (fun e => by have := (HG.out.lt _ e.symm).2; omega)).trans HBX.out
        have d3 : w'.cell? ⟨wr.heap.size, 1, none⟩ = some (.int .i64 (x.at' : Int)) := (cell_of hx' 1).trans rfl
        have d4 : w'.cell? ⟨wr.heap.size, 2, none⟩ = some (.int .i64 (x.len : Int)) := (cell_of hx' 2).trans rfl
        clear hgr hx'
        have FIN : Hid (w'.ownsRow wc.heap.size 83 3 v' (G ++ [(⟨x.h, x.at', at'⟩ : Shf)]).length ((G ++ [(⟨x.h, x.at', at'⟩ : Shf)]).flatMap Shf.cells)) := Lib.hid (by
          rw [List.length_append, HGN.out, List.flatMap_append]
          exact hown')
        have B2 := Lib.hid (BW.out.trans hb')
        clear hown' hb' RW BW
        go_wp2_with fail
        go_roundw
        case measure => simp only [intOf]; omega
        case rel => exact ⟨k + 1, at' + x.len, _, by omega, by go_num, by go_num, HS1.out.symm, by rw [List.length_append, HGN.out]; simp; omega, FIN.out, B2.out, HST.out⟩
    · obtain rfl : k = N := by omega
      have ed : L.drop k = [] := List.drop_eq_nil_of_le (by have := HN.out; omega)
      rw [ed] at hgl
      have eG : shiftsG 0 L = G := by
        rw [hgl]
        exact List.append_nil _
      have FIN : Hid (PlanPost S w (.returned u3) wr) := Lib.hid ⟨L, _, HS.out, rfl, by rw [eG]; exact row_low hG HB.out.size, by rw [eG]; have := HLE.out; have := HN.out; omega, HB.out.trans (hb.mono HB.out.size)⟩
      clear hgl hG hb ed eG
      go_wp2_with fail
      go_ret
      exact FIN.out

end Go.Proofs.Ytjogaohnphafgaa
