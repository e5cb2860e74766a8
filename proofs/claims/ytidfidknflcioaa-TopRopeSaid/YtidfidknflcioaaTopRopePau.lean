/-
  Len, Room, grown, pieces, ends, joins of a rope: what they give. Conditions: numbers in their bounds.
-/
import Derived.Test.YtidfidknflcioaaTopRopePat
namespace Go.Proofs.Ytidfidknflcioaa
open Go.RowKit
set_option linter.unusedVariables false

/-- What a rope's numbers are. -/
structure POk (p : RPar) : Prop where
  pol : polErr p.k p.s p.m = 0
  leaf : 1 ≤ p.leaf ∧ p.leaf ≤ 4096 ∧ (p.leaf : Int) ≤ p.m
theorem POk.gr {p : RPar} (h : POk p) {room need : Nat} (hr : room ≤ 100000) (hn : need ≤ p.leaf) : growE p.k p.s p.m room need = 0 ∧ growV p.k p.s p.m room need = (p.gr room need : Nat) ∧ need ≤ p.gr room need ∧ room ≤ p.gr room need ∧ p.gr room need ≤ 100000 := by
  have hl := h.leaf
  have he : growE p.k p.s p.m room need = 0 := by
    unfold growE
    rw [if_pos h.pol, if_pos ⟨by omega, by omega⟩]
    unfold gE
    split
    · rfl
    · rw [if_neg (by omega)]
  have hv := growV_new p.k p.s p.m room need h.pol hr (by omega) he
  unfold RPar.gr
  refine ⟨he, ?_, ?_, ?_, ?_⟩ <;> omega

set_option maxHeartbeats 1000000 in
set_option maxRecDepth 100000 in
theorem len_any (I : RopI) (L : List Lm) (lv : Value) (F : Nat → Prop) (w : World) (hm : RopeMem w F I L lv) (hl : L.length ≤ 60000) (ho : SzOk (L.map Lm.sz)) :
    Calls Try.prog 15 #[.pointer (some ⟨I.r, 0, none⟩)] w (fun e w' => e = .returned (.int .i64 ((totS (L.map Lm.sz)).1 : Nat)) ∧ Below w.heap.size w w') := by
  have SZ := Lib.hid (sizes_any I L lv F w hm hl)
  have HO := Lib.hid ho
  clear hm hl ho
  go_enter Try.func15, Try.ntmps15
  go_wp2_with fail
  refine SZ.out.mono ?_
  rintro e w1 ⟨v, rfl, hrow, hb⟩
  have HB := Lib.hid hb
  have TT := Lib.hid (total_any v _ w1 (SzIn.row hrow) HO.out)
  clear hrow hb
  go_wp2_with fail
  refine TT.out.mono ?_
  rintro e w2 ⟨rfl, hb2⟩
  have HB2 := Lib.hid (HB.out.trans (hb2.mono HB.out.size))
  clear hb2
  go_wp2_with fail
  go_ret
  exact ⟨rfl, HB2.out⟩
set_option maxHeartbeats 1000000 in
set_option maxRecDepth 100000 in
theorem ropeRoom_any (I : RopI) (L : List Lm) (lv : Value) (F : Nat → Prop) (w : World) (hm : RopeMem w F I L lv) (hl : L.length ≤ 60000) (ho : SzOk (L.map Lm.sz)) :
    Calls Try.prog 22 #[.pointer (some ⟨I.r, 0, none⟩)] w (fun e w' => e = .returned (.int .i64 ((totS (L.map Lm.sz)).2 : Nat)) ∧ Below w.heap.size w w') := by
  have SZ := Lib.hid (sizes_any I L lv F w hm hl)
  have HO := Lib.hid ho
  clear hm hl ho
  go_enter Try.func22, Try.ntmps22
  go_wp2_with fail
  refine SZ.out.mono ?_
  rintro e w1 ⟨v, rfl, hrow, hb⟩
  have HB := Lib.hid hb
  have TT := Lib.hid (total_any v _ w1 (SzIn.row hrow) HO.out)
  clear hrow hb
  go_wp2_with fail
  refine TT.out.mono ?_
  rintro e w2 ⟨rfl, hb2⟩
  have HB2 := Lib.hid (HB.out.trans (hb2.mono HB.out.size))
  clear hb2
  go_wp2_with fail
  go_ret
  exact ⟨rfl, HB2.out⟩

/-- What a rope's numbers are in memory (its leaves do not matter). -/
def ParAt (w : World) (r : Nat) (p : RPar) : Prop :=
  w.cell? ⟨r, 2, none⟩ = some (.int .i64 p.k) ∧ w.cell? ⟨r, 3, none⟩ = some (.int .i64 p.s) ∧ w.cell? ⟨r, 4, none⟩ = some (.int .i64 p.m) ∧ w.cell? ⟨r, 5, none⟩ = some (.int .i64 (p.leaf : Int))
theorem RopeMem.par {w : World} {F : Nat → Prop} {I : RopI} {L : List Lm} {lv : Value} (h : RopeMem w F I L lv) : ParAt w I.r I.p := by
  obtain ⟨_, _, h2, h3, h4, h5, _⟩ := h.cells
  exact ⟨h2, h3, h4, h5⟩
theorem ParAt.below {w w' : World} {r : Nat} {p : RPar} (h : ParAt w r p) (hb : Below w.heap.size w w') : ParAt w' r p := by
  obtain ⟨h1, h2, h3, h4⟩ := h
  exact ⟨old_cell hb h1, old_cell hb h2, old_cell hb h3, old_cell hb h4⟩

set_option maxHeartbeats 1000000 in
set_option maxRecDepth 100000 in
theorem grownR_any (r : Nat) (p : RPar) (room need : Nat) (w : World) (hp : ParAt w r p) (ho : POk p) (hr : room ≤ 100000) (hn : need ≤ p.leaf) :
    Calls Try.prog 64 #[.pointer (some ⟨r, 0, none⟩), .int .i64 (room : Int), .int .i64 (need : Int)] w (fun e w' => e = .returned (.int .i64 (p.gr room need : Nat)) ∧ Below w.heap.size w w') := by
  obtain ⟨c2, c3, c4, c5⟩ := hp
  obtain ⟨g1, g2, _, _, g3⟩ := ho.gr hr hn
  have GG := Lib.hid (fun W => grow_any p.k p.s p.m room need W)
  rw [g1, g2] at GG
  clear ho g1 g2
  go_enter Try.func64, Try.ntmps64
  go_wp2_with fail
  refine (GG.out _).mono ?_
  rintro e w1 ⟨rfl, hb⟩
  have HB := Lib.hid hb
  clear hb
  go_wp2_with fail
  go_ret
  exact ⟨rfl, HB.out⟩

set_option maxHeartbeats 2000000 in
set_option maxRecDepth 100000 in
theorem piecesR_any (r : Nat) (p : RPar) (n : Nat) (w : World) (hp : ParAt w r p) (ho : POk p) (hn : n ≤ 100000) :
    Calls Try.prog 42 #[.pointer (some ⟨r, 0, none⟩), .int .i64 (n : Int)] w (SzPost (piecesS p n) w) := by
  obtain ⟨i0, hi0, hz0, hz1, hz2⟩ := info_parts infoLeaf
  have c5 := hp.2.2.2
  have hl := ho.leaf
  have hdiv : ((n : Int) + (p.leaf : Int) - 1) / (p.leaf : Int) = (manyN n p.leaf : Nat) := by
    unfold manyN
    have e : ((n : Int) + (p.leaf : Int) - 1) = ((n + p.leaf - 1 : Nat) : Int) := by omega
    rw [e]
    rfl
  have hM : manyN n p.leaf ≤ 200000 := by
    unfold manyN
    have := Nat.div_le_self (n + p.leaf - 1) p.leaf
    omega
  have PC := Lib.hid (pieces_ok (n : Int) (p.leaf : Int) (manyN n p.leaf) w (by omega) (by omega) (by omega) (by omega) hdiv hM)
  rw [pcsN_pcs] at PC
  have PL := Lib.hid (fun j (hj : j ∈ pcsN n p.leaf) => pcsN_le hl.1 hj)
  have hpl : (pcsN n p.leaf).length ≤ 200000 := by unfold pcsN; rw [List.length_map, List.length_range]; exact hM
  have HP := Lib.hid hp
  have HO := Lib.hid ho
  have HS := Lib.hid (show piecesS p n = (pcsN n p.leaf).map fun j => (j, p.gr 0 j) from rfl)
  obtain ⟨js, hjs⟩ : ∃ js, pcsN n p.leaf = js := ⟨_, rfl⟩
  rw [hjs] at PC PL hpl HS
  clear hp ho hdiv hM hjs
  go_enter Try.func42, Try.ntmps42
  go_wp2_with fail
  refine PC.out.mono ?_
  rintro e w1 ⟨v, rfl, hrow, hb⟩
  rw [List.length_map] at hrow
  obtain ⟨va, vc, rfl⟩ := wrow_sh hrow
  have HV := Lib.hid hrow
  have HB := Lib.hid hb
  have hs1 := hb.size
  clear hrow hb c5
  go_wp2_with fail
  go_loopw [7, 21] (fun ov i wr => ∃ k : Nat, k ≤ js.length ∧ i = .int .i64 (k : Int) ∧ wr.ownsRow w1.heap.size 39 2 ov k (szCells ((js.map fun j => (j, p.gr 0 j)).take k)) ∧ Below w1.heap.size w1 wr) (fun _ i _ => js.length - (intOf i).toNat)
  case atStart => exact ⟨0, Nat.zero_le _, rfl, World.ownsRow_nil _ _ _ _, Below.refl _ _⟩
  case round =>
    obtain ⟨k, hk, rfl, hrow, hb⟩ := hrel
    have ROW := Lib.hid hrow
    have BL := Lib.hid hb
    have hbs := hb.size
    clear hrow
    by_cases hlt : k < js.length
    · obtain ⟨j, hj⟩ : ∃ j, js[k]? = some j := ⟨_, List.getElem?_eq_getElem hlt⟩
      obtain ⟨g, rfl, d, _⟩ := wrow_cell HV.out (j := k) (u := .int .i64 (j : Int)) (by rw [List.getElem?_map, List.getElem?_map, hj]; rfl)
      have d' := old_cell hb d
      have jl := PL.out j (List.mem_of_getElem? hj)
      have TK := Lib.hid (show (js.map fun j => (j, p.gr 0 j)).take (k + 1) = (js.map fun j => (j, p.gr 0 j)).take k ++ [(j, p.gr 0 j)] by rw [List.take_add_one, List.getElem?_map, hj]; rfl)
      have GR := Lib.hid (grownR_any r p 0 j wr ((HP.out.below HB.out).below hb) HO.out (by omega) jl.2)
      obtain ⟨G, hG⟩ : ∃ G, p.gr 0 j = G := ⟨_, rfl⟩
      rw [hG] at TK GR
      have j4 : j ≤ 4096 := by omega
      clear hb d hj jl hG
      go_wp2_with fail
      refine GR.out.mono ?_
      rintro e w2 ⟨rfl, hb2⟩
      have ROW2 := Lib.hid (row_kept ROW.out hb2)
      have BL2 := Lib.hid (BL.out.trans (hb2.mono BL.out.size))
      have hs2 := BL2.out.size
      clear hb2 GR
      go_wp2_with (at_builtin; go_must (refine wpList_append_w rfl (.tmp 25) (.tmp 31) 37 rfl w1.heap.size 39 i0 (.agg #[.int .i64 0, .int .i64 0]) 2 16 Try.underlying37 hi0 hz0 hz1 hz2 rfl (by decide) _ _ _ w2 _ [.int .i64 (j : Int), .int .i64 (G : Int)] rfl (by exact ROW2.out) (by rfl) rfl (by intro u hu; simp at hu; rcases hu with rfl | rfl <;> rfl) (by unfold maxLen; omega) (by omega) (by omega) ?_))
      intro v' w4 hown' hg4 hb4
      have FIN := Lib.hid (show w4.ownsRow w1.heap.size 39 2 v' (k + 1) (szCells ((js.map fun j => (j, p.gr 0 j)).take (k + 1))) by rw [TK.out, szCells_app]; exact hown')
      have B4 : Hid (Below w1.heap.size w1 w4) := Lib.hid (BL2.out.trans hb4)
      clear hown' hb4 hg4
      go_wp2_with fail
      go_round
      case rel => exact ⟨k + 1, by omega, by go_num, FIN.out, B4.out⟩
      case measure => simp [intOf]; omega
    · obtain rfl : k = js.length := by omega
      have FIN := Lib.hid (show wr.ownsRow w.heap.size 39 2 u7 (piecesS p n).length (szCells (piecesS p n)) by
        have := row_low ROW.out hs1
        rw [List.take_of_length_le (by simp)] at this
        rw [HS.out, List.length_map]
        exact this)
      have FB := Lib.hid (HB.out.trans (BL.out.mono hs1))
      clear hlt hk hb
      go_wp2_with fail
      go_ret
      exact ⟨_, rfl, FIN.out, FB.out⟩

end Go.Proofs.Ytidfidknflcioaa
