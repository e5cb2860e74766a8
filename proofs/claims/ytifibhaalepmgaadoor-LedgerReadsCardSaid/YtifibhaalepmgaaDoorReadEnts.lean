/-
  The walk of ReadEntries. Conditions: Go's own variables hold what their initialisers lay.
-/
import Derived.Test.YtifibhaalepmgaaDoorLines
namespace Go.Proofs.YtifibhaalepmgaaDoor
open Go Go.RowKit
set_option linter.unusedVariables false

theorem strs_at {ps : List ByteArray} {k : Nat} (h : k < ps.length) : (ps.map Value.string).toArray[k]? = some (.string (ps.getD k ByteArray.empty)) := by
  rw [List.getD_eq_getElem?_getD, List.getElem?_eq_getElem h]
  simp [h]
theorem parts_len (c : UInt8) : ∀ s : List UInt8, (parts c s).length ≤ s.length + 1
  | [] => by simp [parts]
  | x :: l => by
    have ih := parts_len c l
    unfold parts
    by_cases hx : x = c
    · rw [if_pos hx]; simp; omega
    · rw [if_neg hx]
      cases hp : parts c l with
      | nil => simp
      | cons a t => rw [hp] at ih; simp at ih ⊢; omega
theorem readPost_nil {r : List En × Int} {w w' : World} (n : Int) (h : r = ([], n)) (hb : Below w.heap.size w w') : ReadPost r w (.returned (.tuple #[.slice none 0 0, .int .i64 n])) w' := by
  subst h
  exact ⟨_, rfl, EnsIn.nil w', hb⟩
theorem readPost_ok {r : List En × Int} {w w' : World} (v : Value) (L : List En) (h : r = (L, 0)) (he : EnsIn w' v L) (hb : Below w.heap.size w w') : ReadPost r w (.returned (.tuple #[v, .int .i64 0])) w' := by
  subst h
  exact ⟨_, rfl, he, hb⟩
theorem getD_map' {ps : List ByteArray} {k : Nat} (h : k < ps.length) : (ps.map (·.data.toList)).getD k [] = (ps.getD k ByteArray.empty).data.toList := by
  rw [List.getD_eq_getElem?_getD, List.getD_eq_getElem?_getD, List.getElem?_map, List.getElem?_eq_getElem h]
  rfl
theorem getD_mem'' {ps : List ByteArray} {k : Nat} (h : k < ps.length) : ps.getD k ByteArray.empty ∈ ps := by
  rw [List.getD_eq_getElem?_getD, List.getElem?_eq_getElem h]
  exact List.getElem_mem h

set_option maxHeartbeats 8000000 in
set_option maxRecDepth 100000 in
theorem readEntries_any (s : ByteArray) (w : World) (hl : LibAt w) :
    Calls Tryd.prog 22 #[.string s] w (ReadPost (readEns s.data.toList) w) := by
  obtain ⟨i0, hi0, hz0, hz1, hz2⟩ := info_parts infoEntry
  have el : s.data.toList.length = s.size := Array.length_toList
  have LL : Hid (∀ {w' : World}, Below w.heap.size w w' → LibAt w') := Lib.hid (fun h => hl.below h)
  have CL := Lib.hid (count_line s w)
  clear hl
  by_cases hn : 5000 < s.data.toList.count 10
  · have ER := Lib.hid (show readEns s.data.toList = ([], 4) by unfold readEns; rw [if_pos (Or.inl hn)])
    have hn' : 5000 < ((s.data.toList.count 10 : Nat) : Int) := by omega
    clear el
    generalize s.data.toList.count 10 = N at *
    go_enter Tryd.func22, Tryd.ntmps22
    go_wp2_with fail
    refine CL.out.mono ?_
    rintro e w1 ⟨rfl, rfl⟩
    go_wp2_with fail
    go_ret2
    exact readPost_nil 4 ER.out (Below.refl _ _)
  by_cases hz : 500000 < s.size
  · have ER := Lib.hid (show readEns s.data.toList = ([], 4) by unfold readEns; rw [if_pos (Or.inr (by omega))])
    have hn' : ¬ 5000 < ((s.data.toList.count 10 : Nat) : Int) := by omega
    have hz' : 500000 < (s.size : Int) := by omega
    clear el
    generalize s.data.toList.count 10 = N at *
    go_enter Tryd.func22, Tryd.ntmps22
    go_wp2_with fail
    refine CL.out.mono ?_
    rintro e w1 ⟨rfl, rfl⟩
    go_wp2_with fail
    go_ret2
    exact readPost_nil 4 ER.out (Below.refl _ _)
  have E0 : readEns s.data.toList = endEn (restEn s.data.toList) := by unfold readEns; rw [if_neg (by omega)]
  have hn' : ¬ 5000 < ((s.data.toList.count 10 : Nat) : Int) := by omega
  have hz' : ¬ 500000 < (s.size : Int) := by omega
  by_cases hs0 : s.toList = []
  · have ER := Lib.hid (show readEns s.data.toList = ([], 0) by
      rw [E0, ← ByteArray.toList_eq, hs0]; rfl)
    clear el E0
    generalize s.data.toList.count 10 = N at *
    go_enter Tryd.func22, Tryd.ntmps22
    go_wp2_with fail
    refine CL.out.mono ?_
    rintro e w1 ⟨rfl, rfl⟩
    go_wp2_with fail
    go_ret2
    exact readPost_nil 0 ER.out (Below.refl _ _)
  have hs1 : s.toList.isEmpty = false := by simpa using hs0
  have hs2 : s.data.toList ≠ [] := by rw [← ByteArray.toList_eq]; exact hs0
  have CS := cutSuffix_line s w (by omega)
  by_cases hg : s.data.toList.getLast? = some 10
  case neg =>
    have ER := Lib.hid (show readEns s.data.toList = ([], 8) by rw [E0]; unfold restEn; rw [if_neg hs2, if_neg hg]; rfl)
    rw [decide_eq_false hg] at CS
    have HCS := Lib.hid CS
    clear el E0 hg CS hs2
    generalize s.data.toList.count 10 = N at *
    go_enter Tryd.func22, Tryd.ntmps22
    go_wp2_with fail
    refine CL.out.mono ?_
    rintro e w1 ⟨rfl, rfl⟩
    go_wp2_with fail
    refine HCS.out.mono ?_
    rintro e w1 ⟨rfl, rfl⟩
    go_wp2_with fail
    go_ret2
    exact readPost_nil 8 ER.out (Below.refl _ _)
  case pos =>
    have hbody : (bodyA s).data.toList = s.data.toList.dropLast := by unfold bodyA; rw [trim_one hg]
    have E1 : Hid (readEns s.data.toList = endEn (linesEn (parts 10 (bodyA s).data.toList))) := Lib.hid (by rw [E0, hbody]; unfold restEn; rw [if_neg hs2, if_pos hg])
    rw [decide_eq_true hg] at CS
    have HCS := Lib.hid CS
    have hbz := bodyA_size s
    have hbz2 : (bodyA s).size ≤ 500000 := by omega
    generalize bodyA s = body at *
    have SP := Lib.hid (lines_any body w (by omega) (LL.out (Below.refl _ _)))
    rw [E1.out]
    have hbl : body.data.toList.length = body.size := Array.length_toList
    have hpl := parts_len 10 body.data.toList
    clear el E0 hg CS hs2 hbody hbz
    generalize s.data.toList.count 10 = N at *
    go_enter Tryd.func22, Tryd.ntmps22
    go_wp2_with fail
    refine CL.out.mono ?_
    rintro e w1 ⟨rfl, rfl⟩
    go_wp2_with fail
    refine HCS.out.mono ?_
    rintro e w1 ⟨rfl, rfl⟩
    go_wp2_with fail
    refine SP.out.mono ?_
    rintro e w1 ⟨ps, hps, hpz, B, rfl, hB, hblk, hb1⟩
    have HPS := Lib.hid hps
    have HPZ := Lib.hid hpz
    have HBL := Lib.hid hblk
    have B1 := Lib.hid hb1
    have hpn : ps.length ≤ 500001 := by
      have := congrArg List.length hps
      simp at this
      omega
    have E2 : Hid (endEn (linesEn (parts 10 body.data.toList)) = endEn (linesEn (ps.map (·.data.toList)))) := Lib.hid (by rw [hps])
    clear hps hpz hblk hb1 hbl hpl
    go_wp2_with fail
    go_loopw [6, 33] (fun v i wr => ∃ (k : Nat) (M : List En), k ≤ ps.length ∧ i = .int .i64 k ∧ M.length = k ∧ LinesTo (ps.map (·.data.toList)) k M ∧ wr.ownsRow w.heap.size 44 6 v k (ensCells M) ∧ wr.heap[B]? = some (.cells (ps.map Value.string).toArray 9 (0, 0)) ∧ Below w.heap.size w wr) (fun _ i _ => ps.length - (intOf i).toNat)
    case atStart => exact ⟨0, [], by omega, rfl, rfl, LinesTo.zero _, World.ownsRow_nil _ _ _ _, HBL.out, B1.out⟩
    case round =>
      obtain ⟨k, M, hk, rfl, hml, hlt', how, hqb, hbr⟩ := hrel
      have LT := Lib.hid hlt'
      have OW := Lib.hid how
      have QB := Lib.hid hqb
      have BX := Lib.hid hbr
      have hsx := hbr.size
      clear hlt' how hqb hbr
      by_cases hlt : k < ps.length
      · have qc : wr.cell? ⟨B, k, none⟩ = some (.string (ps.getD k ByteArray.empty)) := (cell_of QB.out k).trans (strs_at hlt)
        have qz : (ps.getD k ByteArray.empty).size ≤ 1000000 := by have := HPZ.out _ (getD_mem'' hlt); omega
        have QD := Lib.hid (getD_map' hlt)
        generalize ps.getD k ByteArray.empty = q at *
        have RE := readEntry_any q wr qz (LL.out BX.out)
        cases hx : lineEn q.data.toList with
        | none =>
          rw [hx] at RE
          have HRE := Lib.hid RE
          have ER := Lib.hid (E2.out.trans (show endEn (linesEn (ps.map (·.data.toList))) = ([], 8) by rw [LT.out.bad (by simpa using hlt) (by rw [QD.out]; exact hx)]; rfl))
          clear RE hx
          go_wp2_with fail
          refine HRE.out.mono ?_
          rintro e w5 ⟨rfl, hb5⟩
          have B5 := Lib.hid ((BX.out.trans (hb5.mono hsx)).alloc (Nat.le_trans hsx hb5.size) (.cells #[.int .i64 0, .int .i64 0, .int .i64 0, .int .i64 0, .int .i64 0, .int .i64 0] 44))
          simp only [Option.getD_none, Option.isSome_none, En.zero]
          clear hb5
          go_wp2_with fail
          go_ret2
          exact readPost_nil 8 ER.out B5.out
        | some e =>
          rw [hx] at RE
          have HRE := Lib.hid RE
          have LT2 := Lib.hid (LT.out.step (by simpa using hlt) (by rw [QD.out]; exact hx))
          clear RE hx
          go_wp2_with fail
          refine HRE.out.mono ?_
          rintro e' w5 ⟨rfl, hb5⟩
          simp only [Option.getD_some, Option.isSome_some]
          have B5 := Lib.hid ((BX.out.trans (hb5.mono hsx)).alloc (Nat.le_trans hsx hb5.size) (.cells #[.int .i64 e.k, .int .i64 e.o, .int .i64 e.p, .int .i64 e.a, .int .i64 e.l, .int .i64 e.u] 44))
          have OW5 := Lib.hid ((own_below OW.out hb5).alloc (.cells #[.int .i64 e.k, .int .i64 e.o, .int .i64 e.p, .int .i64 e.a, .int .i64 e.l, .int .i64 e.u] 44))
          have QB5 := Lib.hid ((heap_alloc_old w5 (.cells #[.int .i64 e.k, .int .i64 e.o, .int .i64 e.p, .int .i64 e.a, .int .i64 e.l, .int .i64 e.u] 44) (Nat.lt_of_lt_of_le (lt_of QB.out) hb5.size)).trans ((hb5.block B (lt_of QB.out)).trans QB.out))
          have hs5 := B5.out.size
          clear hb5
          have hown := OW5.out
          go_wp2_with (at_builtin; go_must (refine wpList_append_cells rfl _ _ 38 rfl w.heap.size 44 i0 (.agg #[.int .i64 0, .int .i64 0, .int .i64 0, .int .i64 0, .int .i64 0, .int .i64 0]) 6 48 Tryd.underlying38 hi0 hz0 hz1 hz2 rfl (by decide) _ _ _ (w5.alloc (.cells #[.int .i64 e.k, .int .i64 e.o, .int .i64 e.p, .int .i64 e.a, .int .i64 e.l, .int .i64 e.u] 44)) _ [.int .i64 e.k, .int .i64 e.o, .int .i64 e.p, .int .i64 e.a, .int .i64 e.l, .int .i64 e.u] rfl (by exact hown) (by rw [World.size_alloc]; rfl) rfl (by intro u hu; simp at hu; rcases hu with rfl | rfl | rfl | rfl | rfl | rfl <;> rfl) (by unfold maxLen; omega) (by omega) (by omega) ?_))
          intro v' w8 hown' hgr hb8
          have OW8 := Lib.hid (show w8.ownsRow w.heap.size 44 6 v' (k + 1) (ensCells (M ++ [e])) by rw [ensCells_snoc]; exact hown')
          have QB8 := Lib.hid ((hgr.block B (lt_of QB5.out) (fun e => row_other OW5.out QB5.out (by decide) e.symm)).trans QB5.out)
          have B8 := Lib.hid (B5.out.trans hb8)
          clear hown' hgr hb8 hown
          go_wp2_with fail
          go_round
          case rel => exact ⟨k + 1, M ++ [e], by omega, by go_num, by simp [hml], LT2.out, OW8.out, QB8.out, B8.out⟩
          case measure => simp [intOf]; omega
      · obtain rfl : k = ps.length := by omega
        have LA := LT.out
        rw [show ps.length = (ps.map (·.data.toList)).length by simp] at LA
        have LAll := Lib.hid (LinesTo.all LA)
        have EI := Lib.hid (EnsIn.own (L := M) (by rw [hml]; exact OW.out) (by omega))
        have ET := entriesText_any _ M wr (LL.out BX.out).tabs EI.out
        have hle : ∀ n, listErr M = n → (n = 0 → endEn (some M) = (M, 0)) ∧ (n ≠ 0 → endEn (some M) = ([], n)) := fun n hn => ⟨fun h => by unfold endEn; simp only; rw [if_pos (hn.trans h)], fun h => by unfold endEn; simp only; rw [if_neg (by rw [hn]; exact h), hn]⟩
        unfold ETextPost at ET
        have HLE := Lib.hid hle
        generalize hpe : listErr M = pe at *
        have HPE := Lib.hid hpe
        have HET := Lib.hid ET
        clear LA hlt hk ET hpe hle
        go_wp2_with fail
        refine HET.out.mono ?_
        rintro e w5 ⟨rfl, hb5⟩
        have B5 := Lib.hid (BX.out.trans (hb5.mono hsx))
        have EI5 := Lib.hid (EI.out.below hb5)
        clear hb5
        by_cases hp : pe = 0
        · have ER := Lib.hid (E2.out.trans ((congrArg endEn LAll.out).trans ((HLE.out _ rfl).1 hp)))
          have hp' : (pe == 0) = true := by simp [hp]
          have HP := Lib.hid hp
          clear hp
          go_wp2_with fail
          go_ret2
          exact readPost_ok _ M (ER.out.trans rfl) EI5.out B5.out
        · have ER := Lib.hid (E2.out.trans ((congrArg endEn LAll.out).trans ((HLE.out _ rfl).2 hp)))
          have hp' : (pe == 0) = false := by simpa using hp
          have HP := Lib.hid hp
          clear hp
          go_wp2_with fail
          go_ret2
          exact readPost_nil pe ER.out B5.out

end Go.Proofs.YtifibhaalepmgaaDoor
