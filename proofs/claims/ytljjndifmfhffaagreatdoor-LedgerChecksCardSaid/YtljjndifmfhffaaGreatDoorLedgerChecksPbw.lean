/-
  EntriesText. Conditions: Go's own tables hold what their initialisers lay.
  The walk of RoomPolicies. Conditions: Go's own tables, and the reference's words, hold what their initialisers lay.
-/
import Derived.Test.YtljjndifmfhffaaGreatDoorLedgerChecksPbu
import Derived.Test.YtljjndifmfhffaaGreatDoorLedgerChecksPbv
import Derived.Deep.CutRange
import Derived.IntWalk
import Derived.Deep.DeepCutAuto
import Derived.Test.YtljjndifmfhffaaGreatDoorLedgerChecksPbr

namespace Go.Proofs.YtljjndifmfhffaaGreatDoor
section
open Go.RowKit
set_option linter.unusedVariables false

def kwL : List UInt8 := [111, 112, 101, 110, 101, 100, 32, 115, 104, 117, 116, 32, 116, 97, 107, 101, 110, 32, 103, 105, 118, 101, 110, 32, 112, 97, 105, 100, 32, 108, 105, 109, 105, 116, 101, 100, 32, 98, 117, 100, 103, 101, 116, 101, 100, 32, 108, 101, 116, 32, 114, 101, 110, 101, 119, 101, 100, 32, 101, 110, 100, 101, 100, 32, 112, 97, 115, 115, 101, 100]
theorem kw_fields : Lib.fields kwL = ewordsA.map (·.data.toList) := by kernel_rfl
theorem fieldsE_any (s : ByteArray) (hs : s.data.toList = kwL) (w : World) (ht : TabsAt w) :
    Calls Tryz.prog 17 #[.string s] w (fun e w' => e = .returned (.slice (some ⟨w.heap.size, 0, none⟩) 11 11) ∧ w' = w.alloc (.cells (ewordsA.map Value.string).toArray 9)) := by
  have hz : s.size ≤ 100 := by
    have : s.data.toList.length = s.size := Array.length_toList
    rw [← this, hs]; decide
  have h := Tryz.strings_Fields_laid s w (by omega) (fun _ b hb => of_decide_eq_true (List.all_eq_true.1 (show (s.data.toList.all fun b => decide (b.toNat < 128)) = true by rw [hs]; decide) b (List.mem_of_getElem? hb))) ht.2
  rw [hs, kw_fields] at h
  exact h

theorem numbersOf_any (e : En) (w : World) :
    Calls Tryz.prog 18 #[.agg #[.int .i64 e.k, .int .i64 e.o, .int .i64 e.p, .int .i64 e.a, .int .i64 e.l, .int .i64 e.u]] w (fun x w' => ∃ A, x = .returned (.slice (some ⟨A, 0, none⟩) 5 5) ∧ w'.heap[A]? = some (.cells #[.int .i64 e.o, .int .i64 e.p, .int .i64 e.a, .int .i64 e.l, .int .i64 e.u] 3 (0, 0)) ∧ Below w.heap.size w w') := by
  obtain ⟨t1, t2, t3, t4, t5⟩ := tower2 w (.cells #[.int .i64 e.k, .int .i64 e.o, .int .i64 e.p, .int .i64 e.a, .int .i64 e.l, .int .i64 e.u] 33) (.cells #[.int .i64 e.o, .int .i64 e.p, .int .i64 e.a, .int .i64 e.l, .int .i64 e.u] 3)
  have T2 := Lib.hid t2
  have T5 := Lib.hid (t5 (Below.refl _ w) (Nat.le_refl _))
  clear t1 t2 t3 t4 t5
  go_enter Tryz.func18, Tryz.ntmps18
  go_wp2_with fail
  go_ret
  exact ⟨_, rfl, T2.out, T5.out⟩

theorem ensText_step (L : List En) (k : Nat) (h : k < L.length) : ensText (L.take (k + 1)) = ensText (L.take k) ++ eword (L.getD k En.zero).k ++ numsText (L.getD k En.zero).nums ++ [10] := by
  rw [List.take_succ_eq_append_getElem h, List.getD_eq_getElem?_getD, List.getElem?_eq_getElem h]
  simp only [ensText, lineText, List.flatMap_append, List.flatMap_cons, List.flatMap_nil, List.append_nil, List.append_assoc, Option.getD_some]
theorem numsText_step (l : List Int) (k : Nat) (h : k < l.length) : numsText (l.take (k + 1)) = numsText (l.take k) ++ (32 :: Lib.itoa (l.getD k 0)) := by
  rw [List.take_succ_eq_append_getElem h, List.getD_eq_getElem?_getD, List.getElem?_eq_getElem h]
  simp only [numsText, List.flatMap_append, List.flatMap_cons, List.flatMap_nil, List.append_nil, Option.getD_some]

def entText (L : List En) : ByteArray := ⟨(if listErr L = 0 then ensText L else []).toArray⟩
def ETextPost (L : List En) (w : World) : Ending → World → Prop := fun e w' => e = .returned (.tuple #[.string (entText L), .int .i64 (listErr L)]) ∧ Below w.heap.size w w'
theorem entText_bad {L : List En} {n : Int} (h : listErr L = n) (hn : n ≠ 0) : entText L = ⟨#[]⟩ := by unfold entText; rw [if_neg (by rw [h]; exact hn)]

theorem etext_ret {L : List En} {w w' : World} (x : ByteArray) (n : Int) (hx : entText L = x) (hn : listErr L = n) (hb : Below w.heap.size w w') : ETextPost L w (.returned (.tuple #[.string x, .int .i64 n])) w' := by
  subst hx
  subst hn
  exact ⟨rfl, hb⟩

set_option maxHeartbeats 4000000 in
set_option maxRecDepth 100000 in
theorem entriesText_any (v : Value) (L : List En) (w : World) (ht : TabsAt w) (hr : EnsIn w v L) :
    Calls Tryz.prog 6 #[v] w (ETextPost L w) := by
  obtain ⟨a, cap, rfl, hl, hc⟩ := hr
  have TT : Hid (∀ {w' : World}, Below w.heap.size w w' → TabsAt w') := Lib.hid (fun h => ht.below h)
  have HC := Lib.hid hc
  clear hc ht
  by_cases hn : 5000 < L.length
  · have E := Lib.hid (show listErr L = 4 by unfold listErr; rw [if_pos hn])
    have hn' : 5000 < (L.length : Int) := by omega
    unfold ETextPost
    rw [entText_bad E.out (by decide), E.out]
    go_enter Tryz.func6, Tryz.ntmps6
    go_wp2_with fail
    go_ret2
    exact ⟨rfl, Below.refl _ _⟩
  · have E := Lib.hid (show listErr L = ensErr L by unfold listErr; rw [if_neg hn])
    have hn' : (L.length : Int) ≤ 5000 := by omega
    go_enter Tryz.func6, Tryz.ntmps6
    go_wp2_with fail
    go_loopw [14] (fun i wr => ∃ (k : Nat) (X : List UInt8), k ≤ L.length ∧ i = .int .i64 k ∧ ensErr (L.drop k) = ensErr L ∧ IsB wr w.heap.size w.heap.size X ∧ X = ensText (L.take k) ∧ X.length ≤ 100 * k ∧ Below w.heap.size w wr) (fun i _ => L.length - (intOf i).toNat)
    case atStart => exact ⟨0, [], Nat.zero_le _, rfl, rfl, IsB.new w (Nat.le_refl _), rfl, by simp, by go_grown⟩
    case round =>
      obtain ⟨k, X, hk, rfl, hp, hib, hX, hXl, hbel⟩ := hrel
      have HP := Lib.hid hp
      have BL := Lib.hid hbel
      have IB := Lib.hid hib
      have HX := Lib.hid hX
      clear hp hib hX
      have hsz := hbel.size
      by_cases hlt : k < L.length
      · obtain ⟨b1, o1, rfl, hc6⟩ := HC.out k hlt
        have hlb : b1 < w.heap.size := World.block_lt_of_cell? w _ hc6.1
        have hc7 : cells6 wr b1 (o1 + k * 6) (L.getD k En.zero) := by
          have f : ∀ j, wr.cell? ⟨b1, j, none⟩ = w.cell? ⟨b1, j, none⟩ := fun j => BL.out.cell (p := ⟨b1, j, none⟩) hlb
          obtain ⟨h0, h1, h2, h3, h4, h5⟩ := hc6
          exact ⟨(f _).trans h0, (f _).trans h1, (f _).trans h2, (f _).trans h3, (f _).trans h4, (f _).trans h5⟩
        have ST := Lib.hid ((ensErr_step L k hlt).symm.trans HP.out)
        have TX := Lib.hid (ensText_step L k hlt)
        clear hc6 hbel
        generalize L.getD k En.zero = e at *
        have g1 := hc7
        obtain ⟨g0, g1, g2, g3, g4, g5⟩ := hc7
        have B2 := Lib.hid (BL.out.alloc hsz (.cells #[.int .i64 e.k, .int .i64 e.o, .int .i64 e.p, .int .i64 e.a, .int .i64 e.l, .int .i64 e.u] 33))
        by_cases hk1 : 1 ≤ e.k ∧ e.k ≤ 11
        · have EK := Lib.hid (show enErr e = numsErr e.nums by unfold enErr; rw [if_pos hk1])
          obtain ⟨K, hK⟩ : ∃ K : Nat, e.k = K + 1 := ⟨(e.k - 1).toNat, by omega⟩
          have EW := Lib.hid (show eword e.k = (ewordsA.getD K ByteArray.empty).data.toList by unfold eword ewordA; rw [hK]; congr 2; simp)
          have hK11 : K < 11 := by omega
          obtain ⟨k1, k2⟩ := hk1
          have nb := numbersOf_any e
          simp only [hK] at nb
          have NB := Lib.hid nb
          clear nb
          rw [hK] at k1 k2 g0
          have B2 := Lib.hid (BL.out.alloc hsz (.cells #[.int .i64 (K + 1), .int .i64 e.o, .int .i64 e.p, .int .i64 e.a, .int .i64 e.l, .int .i64 e.u] 33))
          have EB := Lib.hid (heap_alloc_new wr (.cells #[.int .i64 (K + 1), .int .i64 e.o, .int .i64 e.p, .int .i64 e.a, .int .i64 e.l, .int .i64 e.u] 33))
          have IB2 : Hid (IsB (wr.alloc (.cells #[.int .i64 (K + 1), .int .i64 e.o, .int .i64 e.p, .int .i64 e.a, .int .i64 e.l, .int .i64 e.u] 33)) w.heap.size w.heap.size X) := Lib.hid (IB.out.below ((Below.refl _ wr).alloc (Nat.le_refl _) _))
          have hwz := (eword_plain e.k).2.2
          rw [EW.out] at hwz
          have wcell : ∀ W : World, (W.alloc (.cells (ewordsA.map Value.string).toArray 9)).cell? ⟨W.heap.size, K, none⟩ = some (.string (ewordsA.getD K ByteArray.empty)) := fun W => by
            rw [cell_of (heap_alloc_new W _)]
            have hl : K < ewordsA.length := hK11
            rw [List.getD_eq_getElem?_getD, List.getElem?_eq_getElem hl]
            simp [hl]
          generalize hwd : ewordsA.getD K ByteArray.empty = wd at *
          have WC := Lib.hid wcell
          clear wcell hwd
          have hwd8 : wd.size ≤ 8 := by have : wd.data.toList.length = wd.size := Array.length_toList; omega
          have FE : Hid (∀ (s : ByteArray) (W : World), s.data.toList = kwL → Below (wr.alloc (.cells #[.int .i64 (K + 1), .int .i64 e.o, .int .i64 e.p, .int .i64 e.a, .int .i64 e.l, .int .i64 e.u] 33)).heap.size (wr.alloc (.cells #[.int .i64 (K + 1), .int .i64 e.o, .int .i64 e.p, .int .i64 e.a, .int .i64 e.l, .int .i64 e.u] 33)) W → Calls Tryz.prog 17 #[.string s] W (fun x w2 => ∃ F, x = .returned (.slice (some ⟨F, 0, none⟩) 11 11) ∧ w2.cell? ⟨F, K, none⟩ = some (.string wd) ∧ w2.cell? ⟨wr.heap.size, 0, none⟩ = some (.int .i64 (K + 1)) ∧ Below (wr.alloc (.cells #[.int .i64 (K + 1), .int .i64 e.o, .int .i64 e.p, .int .i64 e.a, .int .i64 e.l, .int .i64 e.u] 33)).heap.size (wr.alloc (.cells #[.int .i64 (K + 1), .int .i64 e.o, .int .i64 e.p, .int .i64 e.a, .int .i64 e.l, .int .i64 e.u] 33)) w2)) := Lib.hid (fun s W hs hW => (fieldsE_any s hs W (TT.out (B2.out.trans (hW.mono (by simp; omega))))).mono fun x w2 ⟨hx, hw2⟩ => by
            subst hw2
            refine ⟨_, hx, WC.out W, ?_, hW.alloc hW.size _⟩
            exact (cell_of ((heap_alloc_old _ _ (Nat.lt_of_lt_of_le (by simp) hW.size)).trans ((hW.block _ (by simp)).trans EB.out)) 0).trans rfl)
          have WS : Hid (∀ (W : World), Below (wr.alloc (.cells #[.int .i64 (K + 1), .int .i64 e.o, .int .i64 e.p, .int .i64 e.a, .int .i64 e.l, .int .i64 e.u] 33)).heap.size (wr.alloc (.cells #[.int .i64 (K + 1), .int .i64 e.o, .int .i64 e.p, .int .i64 e.a, .int .i64 e.l, .int .i64 e.u] 33)) W → Calls Tryz.prog 16 #[.pointer (some ⟨w.heap.size, 0, none⟩), .string wd] W (fun x w2 => ∃ y, x = .returned y ∧ UsedB w2 w.heap.size w.heap.size (X ++ wd.data.toList) ∧ w2.heap[wr.heap.size]? = some (.cells #[.int .i64 (K + 1), .int .i64 e.o, .int .i64 e.p, .int .i64 e.a, .int .i64 e.l, .int .i64 e.u] 33 (0, 0)) ∧ Below w.heap.size w w2)) := Lib.hid (fun W hW => (writeString_keep w.heap.size w.heap.size X wd W (IB2.out.below hW) (by omega) (Nat.le_trans hsz (Nat.le_trans (by simp) hW.size))).mono fun x w2 ⟨hx, hu, hst, hb⟩ =>
            ⟨_, hx, hu, hst _ _ _ (by decide) (by decide) ((hW.block _ (by simp)).trans EB.out), (B2.out.trans (hW.mono (by simp; omega))).trans hb⟩)
          go_wp2_with fail
          refine (within_ledger_yes _ _ _ _ k1 k2).mono ?_
          rintro e' w' ⟨rfl, rfl⟩
          have hk0 : IntKind.i64.wrap ((K : Int) + 1 - 1) = K := by rw [show (K : Int) + 1 - 1 = K by omega]; exact IntWalk.i64_in _ (by omega)
          have hk00 : IntKind.i64.wrap (K : Int) = K := IntWalk.i64_in _ (by omega)
          have hK11i : (K : Int) < 11 := by omega
          have hK0i : 0 ≤ (K : Int) := by omega
          go_upto_region 9 with fail
          go_cut [4] (fun s4 wx => s4 = .pointer (some ⟨w.heap.size, 0, none⟩) ∧ UsedB wx w.heap.size w.heap.size (X ++ wd.data.toList) ∧ wx.heap[wr.heap.size]? = some (.cells #[.int .i64 (K + 1), .int .i64 e.o, .int .i64 e.p, .int .i64 e.a, .int .i64 e.l, .int .i64 e.u] 33 (0, 0)) ∧ Below w.heap.size w wx)
          case first =>
            go_region_with (first
              | (go_at_call 17; refine (FE.out _ _ rfl (by first | exact Below.refl _ _ | exact (Below.refl _ _).drew | go_grown)).mono ?_; rintro e' w2 ⟨F, rfl, hf1, hf2, hfb⟩; have HFB := Lib.hid hfb; clear hfb)
              | (go_at_call 16; refine (WS.out _ (by first | exact HFB.out | exact HFB.out.drew | go_grown)).mono ?_; rintro e' w3 ⟨y, rfl, hu, he3, hb3⟩; have HU := Lib.hid hu; have HE3 := Lib.hid he3; have HB3 := Lib.hid hb3; clear hu he3 hb3))
            all_goals
              go_wp2_with fail
              go_meet
              exact ⟨rfl, HU.out, HE3.out, HB3.out⟩
          case rest =>
            obtain ⟨rfl, hu, he3, hb3⟩ := hcut
            have B3 := Lib.hid hb3
            have U3 := Lib.hid hu
            have q0 : wc.cell? ⟨wr.heap.size, 0, none⟩ = some (.int .i64 (K + 1)) := (cell_of he3 0).trans rfl
            have q1 : wc.cell? ⟨wr.heap.size, 1, none⟩ = some (.int .i64 e.o) := (cell_of he3 1).trans rfl
            have q2 : wc.cell? ⟨wr.heap.size, 2, none⟩ = some (.int .i64 e.p) := (cell_of he3 2).trans rfl
            have q3 : wc.cell? ⟨wr.heap.size, 3, none⟩ = some (.int .i64 e.a) := (cell_of he3 3).trans rfl
            have q4 : wc.cell? ⟨wr.heap.size, 4, none⟩ = some (.int .i64 e.l) := (cell_of he3 4).trans rfl
            have q5 : wc.cell? ⟨wr.heap.size, 5, none⟩ = some (.int .i64 e.u) := (cell_of he3 5).trans rfl
            clear hu he3 hb3 g0 g1 g2 g3 g4 g5
            go_wp2_with fail
            refine (NB.out wc).mono ?_
            rintro e' w4 ⟨A, rfl, hA, hb4⟩
            have AB := Lib.hid hA
            have B4 := Lib.hid (B3.out.trans (hb4.mono B3.out.size))
            have U4 := Lib.hid (U3.out.isB.below hb4)
            clear hA hb4 q0 q1 q2 q3 q4 q5
            go_wp2_with fail
            go_loopw [32] (fun i wx => ∃ (m : Nat) (Y : List UInt8), m ≤ 5 ∧ i = .int .i64 m ∧ numsErr (e.nums.drop m) = numsErr e.nums ∧ IsB wx w.heap.size w.heap.size Y ∧ Y = X ++ wd.data.toList ++ numsText (e.nums.take m) ∧ Y.length ≤ 100 * k + 8 + 10 * m ∧ wx.heap[A]? = some (.cells #[.int .i64 e.o, .int .i64 e.p, .int .i64 e.a, .int .i64 e.l, .int .i64 e.u] 3 (0, 0)) ∧ Below w.heap.size w wx) (fun i _ => 5 - (intOf i).toNat)
            case atStart => exact ⟨0, _, by omega, rfl, rfl, U4.out, by simp [numsText], by simp; omega, AB.out, B4.out⟩
            case round =>
              obtain ⟨m, Y, hm, rfl, hq, hib, hY, hYl, hA, hbx⟩ := hrel
              have HQ := Lib.hid hq
              have IBY := Lib.hid hib
              have HY := Lib.hid hY
              have AB := Lib.hid hA
              have BX := Lib.hid hbx
              have hsx := hbx.size
              clear hq hib hY hA hbx
              by_cases hm5 : m < 5
              · have NC := nums_cell (e := e) AB.out m hm5
                have ST2 := Lib.hid ((numsErr_step e.nums m hm5).symm.trans HQ.out)
                have TN := Lib.hid (numsText_step e.nums m hm5)
                generalize e.nums.getD m 0 = z at *
                by_cases hz : inB z
                · have ST3 := Lib.hid ((if_pos hz).symm.trans ST2.out)
                  have hz9 := (itoa_B hz).2.1
                  obtain ⟨z1, z2⟩ := hz
                  clear ST2
                  go_wp2_with fail
                  refine (within_ledger_yes _ _ _ _ z1 z2).mono ?_
                  rintro e' w' ⟨rfl, rfl⟩
                  go_wp2_with fail
                  refine (itoa_any z _ (by omega) (by omega) (TT.out BX.out)).mono ?_
                  rintro e' w6 ⟨x, rfl, hx, hxz, hb6⟩
                  have HX6 := Lib.hid hx
                  have hx9 : x.size ≤ 9 := by have : x.data.toList.length = x.size := Array.length_toList; rw [← this, hx]; exact hz9
                  have B6 := Lib.hid (BX.out.trans (hb6.mono hsx))
                  have IB6 := Lib.hid (IBY.out.below hb6)
                  have A6 := Lib.hid ((hb6.block A (lt_of AB.out)).trans AB.out)
                  have hs6 := B6.out.size
                  have c1 : ¬ 9223372036854775807 < 1 + x.size := by omega
                  have s1 : ({ data := #[32] } : ByteArray).size = 1 := rfl
                  clear hb6 hx hxz
                  go_wp2_with fail
                  refine (writeString_keep w.heap.size w.heap.size Y _ w6 IB6.out (by simp; omega) hs6).mono ?_
                  rintro e' w7 ⟨rfl, hu7, hst7, hb7⟩
                  have U7 := Lib.hid hu7
                  have A7 := Lib.hid (hst7 _ _ _ (by decide) (by decide) A6.out)
                  have B7 := Lib.hid (B6.out.trans hb7)
                  clear hu7 hst7 hb7
                  go_wp2_with fail
                  go_round
                  case rel => exact ⟨m + 1, _, by omega, by go_num, ST3.out, U7.out.isB, by rw [TN.out, HY.out, ← HX6.out]; simp, by simp; omega, A7.out, B7.out⟩
                  case measure => simp [intOf]; omega
                · have ST3 := Lib.hid ((if_neg hz).symm.trans ST2.out)
                  have HZ := Lib.hid hz
                  have H2 := Lib.hid (show listErr L = 2 by rw [E.out, ← ST.out, EK.out, ← ST3.out]; rfl)
                  clear ST2 hz
                  go_wp2_with fail
                  refine (within_ledger_no _ _ _ _ HZ.out).mono ?_
                  rintro e' w' ⟨rfl, rfl⟩
                  go_wp2_with fail
                  go_ret2
                  exact etext_ret ⟨#[]⟩ 2 (entText_bad H2.out (by decide)) H2.out BX.out
              · obtain rfl : m = 5 := by omega
                have ST3 := Lib.hid (show enErr e = 0 from EK.out.trans HQ.out.symm)
                have ST4 := Lib.hid ((if_pos ST3.out).symm.trans ST.out)
                clear hm hm5
                go_wp2_with fail
                refine (writeByte_any w.heap.size w.heap.size Y 10 10 _ rfl IBY.out (by omega) hsx).mono ?_
                rintro e' w8 ⟨rfl, hib8, hb8⟩
                have I8 := Lib.hid hib8
                have B8 := Lib.hid (BX.out.trans hb8)
                clear hib8 hb8
                go_wp2_with fail
                go_round
                case rel => exact ⟨k + 1, _, by omega, by go_num, ST4.out, I8.out, by rw [TX.out, HY.out, HX.out, EW.out]; rfl, by simp; omega, B8.out⟩
                case measure => simp [intOf]; omega
        · have EK := Lib.hid (show enErr e = 10 by unfold enErr; rw [if_neg hk1])
          have H2 := Lib.hid (show listErr L = 10 by rw [E.out, ← ST.out, EK.out]; rfl)
          have HK1 := Lib.hid hk1
          clear hk1
          go_wp2_with fail
          refine (within_ledger_no _ _ _ _ HK1.out).mono ?_
          rintro e' w' ⟨rfl, rfl⟩
          go_wp2_with fail
          go_ret2
          exact etext_ret ⟨#[]⟩ 10 (entText_bad H2.out (by decide)) H2.out B2.out
      · obtain rfl : k = L.length := by omega
        have H0 := Lib.hid (show listErr L = 0 by rw [E.out, ← HP.out, List.drop_length]; rfl)
        have HT := Lib.hid (show X = (if listErr L = 0 then ensText L else []) by rw [if_pos H0.out, HX.out, List.take_length])
        clear hlt hk
        go_wp2_with fail
        refine (Any.Builder_String_any layS layX w.heap.size w.heap.size X wr IB.out hsz).mono ?_
        rintro e' w9 ⟨rfl, hb9⟩
        have B9 := Lib.hid (BL.out.trans hb9)
        clear hb9
        go_wp2_with fail
        go_ret2
        exact etext_ret ⟨X.toArray⟩ 0 (by unfold entText; rw [← HT.out]) H0.out B9.out

end
end Go.Proofs.YtljjndifmfhffaaGreatDoor

namespace Go.Proofs.YtljjndifmfhffaaGreatDoor
section
open Go.RowKit
set_option linter.unusedVariables false

def polA (k s m : Int) : ByteArray := ⟨(polText k s m).toArray⟩
def TextIs (k s m : Int) (w : World) : Ending → World → Prop := fun e w' => e = .returned (.tuple #[.string (polA k s m), .int .i64 (polErr k s m)]) ∧ Below w.heap.size w w'
theorem TextPost.is {k s m : Int} {w : World} {e : Ending} {w' : World} (h : TextPost k s m w e w') : TextIs k s m w e w' := by
  obtain ⟨x, rfl, hx, hb⟩ := h
  have : x = polA k s m := by
    unfold polA
    rw [← hx]
  rw [this]
  exact ⟨rfl, hb⟩

end
end Go.Proofs.YtljjndifmfhffaaGreatDoor
