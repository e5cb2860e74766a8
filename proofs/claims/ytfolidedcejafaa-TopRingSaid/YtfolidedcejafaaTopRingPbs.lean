/-
  The walk of TopRing. No conditions.
-/
import Derived.Shelf.Bytes.SlSmallAll
import Derived.Lib.AppendZeros
import Derived.Deep.CutRange
import Derived.Deep.DeepCutAuto
import Derived.Test.YtfolidedcejafaaTopRingPbr
import Derived.Test.YtfolidedcejafaaTopRingPbo
namespace Go.Proofs.Ytfolidedcejafaa
open Go.RowKit
set_option linter.unusedVariables false

theorem conv_any {W : World} {v : Value} {L : List Int} (h : Reads W .u8 v L) (hl : L.length ≤ 140737488355328) : (convert 46 9 v).run Try.prog W = .ok (.string (strOfNums L)) W := by
  obtain ⟨a, c, rfl, _, hne⟩ := h
  cases L with
  | nil => exact run_convert_bytes_zero W 46 5 Try.underlying46 Try.underlying5 a c 9 Try.underlying9
  | cons z l =>
    obtain ⟨b, o, rfl, hh⟩ := hne (by simp)
    refine run_convert_bytes_arg W 46 5 Try.underlying46 Try.underlying5 b o _ c (z :: l) rfl (fun i hi => ?_) 9 Try.underlying9
    rw [hh i hi]
theorem str_app (a b : List Int) : strOfNums a ++ strOfNums b = strOfNums (a ++ b) := by
  apply ByteArray.ext
  apply Array.ext'
  rw [ByteArray.data_append, Array.toList_append, strOfNums_data, strOfNums_data, strOfNums_data, List.map_append]

theorem RQAt.len {w : World} {Fo : Nat → Prop} {r : Nat} {I : QuId} {xs ys : List Int} (h : RQAt w Fo r I xs ys) : xs.length ≤ 100000 ∧ ys.length ≤ 50000000 := by
  obtain ⟨g, R, cs, st, len, L, bst, F, G, hr, rfl, rfl, h0, h1⟩ := h
  have hc : ∀ c ∈ L, ChOk c := fun c hc => hr.qb.ok.2 c hc
  have := hr.qb.ok.sum L.length
  rw [List.take_length] at this
  rw [octL_length hr.rok, qCont_len hc]
  exact ⟨Nat.le_trans hr.rok.2.1 hr.rR, this⟩

/-- Between two moves. -/
def TrAt (w wr : World) (r : Nat) (I : QuId) (a b : Value) : Prop := ∃ Fo xs ys, TS w wr r I a b xs ys xs ys Fo (fun _ => False)

set_option maxRecDepth 100000 in
theorem awakeRing_any (w : World) : Calls Try.prog 5 #[] w (LawPost w) := by
  go_enter Try.func5, Try.ntmps5
  go_wp2_with fail
  refine (newBook_bad (-1) _ (by omega)).mono ?_
  rintro e w1 ⟨rfl, rfl⟩
  go_wp2_with fail
  go_ret
  exact ⟨rfl, Below.refl _ _⟩

set_option maxHeartbeats 16000000 in
set_option maxRecDepth 100000 in
theorem topRing (k s m sz : Int) (v : Value) (ms : List Int) (w : World) (h : Reads w .i64 v ms) :
    Calls Try.prog 4 #[.agg #[.int .i64 k, .int .i64 s, .int .i64 m], .int .i64 sz, v] w (LawPost w) := by
  have B0 := BoxAt.new w k s m 23
  have bel0 : Below w.heap.size w (w.alloc (.cells #[.int .i64 k, .int .i64 s, .int .i64 m] 23)) := by go_grown
  have HV := Lib.hid h
  obtain ⟨va, vc, rfl, hlm, _⟩ := h
  have HB0 := Lib.hid B0
  have HL0 := Lib.hid bel0
  clear B0 bel0
  go_enter Try.func4, Try.ntmps4
  go_wp2_with fail
  refine (awakeRing_any _).mono ?_
  rintro e w1 ⟨rfl, hb1⟩
  have B1 := Lib.hid (HB0.out.below hb1)
  have L1 := Lib.hid (HL0.out.trans (hb1.mono (by simp)))
  clear hb1
  go_wp2_with fail
  refine (newBook_ok _ _ (by omega) (by omega)).mono ?_
  rintro e w2 ⟨bp, rfl, hb, hb2⟩
  have B2 := Lib.hid (B1.out.below hb2)
  have s1 := L1.out.size
  have L2 := Lib.hid (L1.out.trans (hb2.mono s1))
  have O := Lib.hid (open_new bp 1 10000000 w2 _ _ 0 hb (by simp [newSt]) (by unfold maxLen; omega) (by omega) (by omega) rfl)
  have hb2s := Lib.hid hb2.size
  have HB12 : Hid (∀ {w3 : World}, Below w1.heap.size w2 w3 → BoxAt w3 w.heap.size k s m) := Lib.hid (fun h => B1.out.below (hb2.trans h))
  clear hb hb2
  have s2 := L2.out.size
  go_wp2_with fail
  refine O.out.mono ?_
  rintro e w3 ⟨rfl, hb3, ht3⟩
  have s12 := hb2s.out
  have t3 := ht3.below (B := w1.heap.size) s12 (fun k hk => hk)
  have B3 := HB12.out t3
  have L3 := Lib.hid (L2.out.trans (t3.mono s1))
  have s3 := t3.size
  have HK3 := Lib.hid hb3.narrow
  have NW := Lib.hid (newRing0_any bp 1 k s m w3 _ _ _ hb3)
  clear hb3 ht3 t3
  have HB3 := Lib.hid B3
  obtain ⟨x0, x1, x2, x3⟩ := B3
  go_wp2_with fail
  refine NW.out.mono ?_
  rintro e w4 ⟨hb4, hcase⟩
  have B4 := HB3.out.below hb4
  obtain ⟨y0, y1, y2, y3⟩ := B4
  have L4 := Lib.hid (L3.out.trans (hb4.mono L3.out.size))
  have HK4 := Lib.hid (HK3.out.same (fun k hk _ => hb4.block k hk.2))
  have NQ := Lib.hid (newQueue_any bp k s m sz w4 _ _ _ HK4.out (by rfl))
  have HB4 := Lib.hid hb4
  clear x0 x1 x2 x3 hb4
  rcases hcase with ⟨hne, rfl⟩ | ⟨hre, r, hrl, rfl, hra⟩
  · generalize newRE _ 1 k s m = err at *
    have hE : (err == 0) = false := by simpa using hne
    have hE2 : (err != 0) = true := by simpa using hne
    clear hne
    go_wp2_with fail
    refine NQ.out.mono ?_
    rintro e w5 ⟨hb5, hcase⟩
    have L5 := Lib.hid (L4.out.trans (hb5.mono L4.out.size))
    clear hb5
    rcases hcase with ⟨err2, hne2, rfl⟩ | ⟨rq, _, rfl, _⟩
    · go_wp2_with fail
      go_ret
      exact ⟨rfl, L5.out⟩
    · go_wp2_with fail
      go_ret
      exact ⟨rfl, L5.out⟩
  · have HRA := Lib.hid hra
    have hr4 := lt_of hra
    clear hra
    go_wp2_with fail
    refine NQ.out.mono ?_
    rintro e w5 ⟨hb5, hcase⟩
    have L5 := Lib.hid (L4.out.trans (hb5.mono L4.out.size))
    have HB5 := Lib.hid hb5
    clear hb5
    rcases hcase with ⟨err2, hne2, rfl⟩ | ⟨rq, hrq, rfl, hpol, hsz, hqu⟩
    · have hE : (err2 == 0) = false := by simpa using hne2
      clear hne2
      go_wp2_with fail
      go_ret
      exact ⟨rfl, L5.out⟩
    · have START : Hid (TrAt w w5 r ⟨rq, bp, 1, k, s, m, sz⟩ (.slice none 0 0) (.slice none 0 0)) := Lib.hid (by
        have hrq5 := lt_of hqu
        have hk4 := HB4.out.size
        have hk5 := HB5.out.size
        have hk3 := L3.out.size
        have hlw5 := L5.out.size
        have hw1 := L1.out.size
        have hw2 := L2.out.size
        refine ⟨fun q => RQFoot r none (fun q => q = rq) (fun q => (w1.heap.size ≤ q ∨ w2.heap.size ≤ q) ∧ q < w3.heap.size) q, [], [], ⟨none, 0, [], 0, 0, [], openSt (newSt 10000000) 1 10000000, fun q => q = rq, fun q => (w1.heap.size ≤ q ∨ w2.heap.size ≤ q) ∧ q < w3.heap.size,
          ⟨(HB5.out.block r hr4).trans HRA.out, ⟨rfl, rfl⟩, ⟨rfl, Nat.le_refl _, Or.inr ⟨rfl, rfl⟩⟩, by omega, ⟨⟨.slice none 0 0, hqu, rfl, World.ownsRow_nil _ _ _ _, (fun q hq => by simp [Value.ownBlock] at hq), (fun c hc => by simp at hc), by simp⟩,
            HK4.out.same (fun q hq _ => HB5.out.block q (by omega)), ?_, ?_, ?_, rfl, hpol, hsz, ?_, rfl, ?_, ?_, ⟨by simp, (fun c hc => by simp at hc)⟩, by simp [qsum]⟩, ⟨by omega, fun x => by omega⟩, (fun b e => by cases e), fun _ => ⟨rfl, rfl⟩⟩, rfl, rfl, fun q hq => hq, ?_⟩, OwnW.nil _ _, OwnW.nil _ _, (fun q hq => by cases hq), (fun q hq => by cases hq), (fun q hq => by cases hq), ?_, (fun q hq => hq.elim), L5.out⟩
        · rintro q rfl ⟨_, hq⟩; omega
        · rintro q rfl; exact hrq5
        · rintro q ⟨_, hq⟩; omega
        · simp [openSt, newSt, qsum]
        · simp [openSt, newSt, qsum]
        · simp [openSt, newSt]
        · rintro q (rfl | ⟨_, hq⟩ | rfl | hq)
          · exact hrq5
          · omega
          · omega
          · cases hq
        · rintro q (rfl | ⟨hq, _⟩ | rfl | hq)
          · omega
          · rcases hq with hq | hq <;> omega
          · omega
          · cases hq)
      have L5' := L5.out.size
      clear y0 y1 y2 y3 hpol hqu
      go_wp2_with fail
      go_loopw [13, 14, 15, 68] (fun a b c i wr => ∃ (j : Nat) (c' : Int), j ≤ ms.length ∧ i = .int .i64 j ∧ c = .int .u8 c' ∧ TrAt w wr r ⟨rq, bp, 1, k, s, m, sz⟩ a b) (fun _ _ _ i _ => ms.length - (intOf i).toNat)
      case atStart => exact ⟨0, 1, Nat.zero_le _, rfl, rfl, START.out⟩
      case round =>
        obtain ⟨j, c', hj, rfl, rfl, Fo, xs, ys, hts⟩ := hrel
        have HTS := Lib.hid hts
        have BL := Lib.hid hts.bel
        by_cases hlt : j < ms.length
        · obtain ⟨va', vc', hve, _, hvc⟩ := HV.out
          simp only [Value.slice.injEq, true_and] at hve
          obtain ⟨rfl, rfl⟩ := hve
          obtain ⟨vb, vo, rfl, hcell⟩ := hvc (by intro e; rw [e] at hlt; simp at hlt)
          have d := old_cell BL.out (hcell j hlt)
          clear hcell hvc hts
          generalize ms.getD j 0 = z at *
          go_upto_region 15 with fail
          go_cut [77] from 72 to 77 (fun c wx => c = .bool (decide (0 ≤ z ∧ z ≤ 200)) ∧ wx = wr)
          case first =>
            by_cases h1 : 0 ≤ z
            · by_cases h2 : z ≤ 200
              · go_wp2_with fail
                go_meet
                exact ⟨(congrArg Value.bool (decide_eq_true ⟨h1, h2⟩)).symm, rfl⟩
              · go_wp2_with fail
                go_meet
                exact ⟨(congrArg Value.bool (decide_eq_false (by omega))).symm, rfl⟩
            · go_wp2_with fail
              go_meet
              exact ⟨(congrArg Value.bool (decide_eq_false (by omega))).symm, rfl⟩
          case rest =>
            obtain ⟨rfl, rfl⟩ := hcut
            obtain ⟨wo, hwo⟩ : ∃ wo, wo = wc := ⟨_, rfl⟩
            subst hwo
            go_upto_if 77 with fail
            go_cut [13, 14, 15] (fun a b c wx => (∃ c', c = .int .u8 c') ∧ TrAt w wx r ⟨rq, bp, 1, k, s, m, sz⟩ a b)
            case first =>
              by_cases h12 : 0 ≤ z ∧ z ≤ 200
              · obtain ⟨N, rfl⟩ : ∃ N : Nat, z = N := ⟨z.toNat, by omega⟩
                have hN : N ≤ 200 := by omega
                clear h12
                have MK := run_makeBytes wo N N (by omega) (by omega) (by omega)
                simp only [Int.toNat_natCast] at MK
                go_wp2_with fail
                go_loopw [15, 82] (fun c i W => ∃ (q : Nat) (c2 : Int) (zs : List Int), q ≤ N ∧ i = .int .i64 q ∧ c = .int .u8 c2 ∧ zs.length = N ∧ byteRow W wo.heap.size zs ∧ Below wo.heap.size wo W) (fun _ i _ => N - (intOf i).toNat)
                case atStart => exact ⟨0, c', zeros N, Nat.zero_le _, rfl, rfl, by simp [zeros], heap_alloc_new wo _, (Below.refl _ _).alloc (Nat.le_refl _) _⟩
                case round =>
                  obtain ⟨q, c2, zs, hq, rfl, rfl, hzl, hrow, hbW⟩ := hrel
                  have HROW := Lib.hid hrow
                  have HZ := Lib.hid hzl
                  have HBW := Lib.hid hbW
                  by_cases hqN : q < N
                  · have hcq := hrow.cell q (by omega)
                    have hfq : wr.frozen? ⟨wo.heap.size, q, none⟩ = false := free_of hrow _
                    clear hrow hzl hbW
                    go_wp2_with fail
                    go_round
                    case rel => exact ⟨q + 1, _, zs.set q c2, by omega, by go_num, rfl, by simp [HZ.out], HROW.out.set q c2, HBW.out.setCell (Nat.le_refl _) _⟩
                    case measure => simp [intOf]; omega
                  · obtain rfl : q = N := by omega
                    clear hqN hq hrow hzl hbW
                    have TX := Lib.hid ((HTS.out.below HBW.out).other (X' := fun k => k = wo.heap.size) (fun k hk => by
                      subst hk
                      have h1 := HTS.out.rq.lt
                      exact ⟨fun x => by have := h1 _ x; omega, fun e => by have := (HTS.out.wa.block e).2; omega, fun e => by have := (HTS.out.wb.block e).2; omega, lt_of HROW.out⟩))
                    have RDF := Lib.hid (fun (W' : World) (h : byteRow W' wo.heap.size zs) => (show Reads W' .u8 (.slice (some ⟨wo.heap.size, 0, none⟩) q q) zs by
                      have h1 := qreads_part h 0 q q (by rw [HZ.out]; omega) (by rw [HZ.out]; omega) (some ⟨wo.heap.size, 0, none⟩) (fun _ => rfl)
                      rwa [List.drop_zero, ← HZ.out, List.take_length, HZ.out] at h1))
                    have WR := Lib.hid (write_rq wr Fo r ⟨rq, bp, 1, k, s, m, sz⟩ xs ys _ zs TX.out.rq (RDF.out wr HROW.out) (by rw [HZ.out]; omega))
                    go_wp2_with fail
                    refine WR.out.mono ?_
                    rintro e w6 ⟨bw, err, rfl, hnx⟩
                    obtain ⟨Fo6, ts6, T6⟩ := TX.out.op hnx
                    have TS6 := Lib.hid ts6
                    have R6 := Lib.hid (show byteRow w6 wo.heap.size zs from (T6.block _ (lt_of HROW.out) (TX.out.x _ rfl).1).trans HROW.out)
                    clear hnx ts6 T6
                    go_upto_if 99 with fail
                    go_cut [13] from 100 to 102 (fun a wx => ∃ Fo xs, TS w wx r ⟨rq, bp, 1, k, s, m, sz⟩ a u14 xs ys xs ys Fo (fun k => k = wo.heap.size) ∧ byteRow wx wo.heap.size zs)
                    case first =>
                      by_cases herr : err = 0
                      · subst herr
                        have ts6 := TS6.out
                        rw [if_pos rfl] at ts6
                        obtain ⟨a7, w7, hrun, ha7, ht7, hb7⟩ := run_append_win w6 _ 46 u13 xs ts6.wa _ zs (RDF.out w6 R6.out) (by have := HTS.out.rq.len; rw [HZ.out]; omega) ts6.bel.size
                        have FIN := Lib.hid (show TS w w7 r ⟨rq, bp, 1, k, s, m, sz⟩ a7 u14 (xs ++ zs) ys (xs ++ zs) ys Fo6 (fun k => k = wo.heap.size) ∧ byteRow w7 wo.heap.size zs from ⟨ts6.appA ha7 ht7 hb7, (ht7.block _ (lt_of R6.out) (ts6.x _ rfl).2.1).trans R6.out⟩)
                        have HRUN := Lib.hid hrun
                        clear ts6 ha7 ht7 hb7 hrun
                        go_wp2_with (at_builtin; go_must (refine Lib.wpList_append_run w6 rfl (.tmp 100) (.tmp 101) 46 46 rfl _ _ (by rfl) (by rfl) _ _ HRUN.out ?_))
                        go_meet
                        exact ⟨Fo6, _, FIN.out⟩
                      · have ts6 := TS6.out
                        rw [if_neg herr] at ts6
                        have FIN := Lib.hid (And.intro ts6 R6.out)
                        have hE : (err == 0) = false := by simpa using herr
                        clear ts6 herr
                        go_wp2_with fail
                        go_meet
                        exact ⟨Fo6, _, FIN.out⟩
                    case rest =>
                      obtain ⟨Fo7, xs7, ts7, r7⟩ := hcut
                      have TS7 := Lib.hid ts7
                      have R7 := Lib.hid r7
                      have PU := Lib.hid (push_rq _ Fo7 r ⟨rq, bp, 1, k, s, m, sz⟩ xs7 ys _ zs ts7.rq (fun W' ht => RDF.out W' ((ht.block _ (lt_of r7) (ts7.x _ rfl).1).trans r7)) (by rw [HZ.out]; omega))
                      clear ts7 r7 R6 TS6 TX
                      obtain ⟨w7, hw7⟩ : ∃ w7, w7 = wc := ⟨_, rfl⟩
                      subst hw7
                      go_wp2_with fail
                      refine PU.out.mono ?_
                      rintro e w8 ⟨err, rfl, hnx⟩
                      obtain ⟨Fo8, ts8, T8⟩ := TS7.out.op hnx
                      have TS8 := Lib.hid ts8
                      have R8 := Lib.hid (show byteRow w8 wo.heap.size zs from (T8.block _ (lt_of R7.out) (TS7.out.x _ rfl).1).trans R7.out)
                      clear hnx ts8 T8
                      by_cases herr : err = 0
                      · subst herr
                        have ts8 := TS8.out
                        rw [if_pos rfl] at ts8
                        obtain ⟨a9, w9, hrun, ha9, ht9, hb9⟩ := run_append_win w8 _ 46 u14 ys ts8.wb _ zs (RDF.out w8 R8.out) (by have := TS7.out.rq.len; rw [HZ.out]; omega) ts8.bel.size
                        have FIN := Lib.hid (show TrAt w w9 r ⟨rq, bp, 1, k, s, m, sz⟩ _ a9 from ⟨Fo8, xs7, ys ++ zs, (ts8.appB ha9 ht9 hb9).other (fun _ h => h.elim)⟩)
                        have HRUN := Lib.hid hrun
                        clear ts8 ha9 ht9 hb9 hrun
                        go_wp2_with (at_builtin; go_must (refine Lib.wpList_append_run w8 rfl (.tmp 108) (.tmp 109) 46 46 rfl _ _ (by rfl) (by rfl) _ _ HRUN.out ?_))
                        go_meet
                        exact ⟨⟨_, rfl⟩, FIN.out⟩
                      · have ts8 := TS8.out
                        rw [if_neg herr] at ts8
                        have FIN := Lib.hid (show TrAt w w8 r ⟨rq, bp, 1, k, s, m, sz⟩ _ u14 from ⟨Fo8, xs7, ys, ts8.other (fun _ h => h.elim)⟩)
                        have hE : (err == 0) = false := by simpa using herr
                        clear ts8 herr
                        go_wp2_with fail
                        go_meet
                        exact ⟨⟨_, rfl⟩, FIN.out⟩
              · have h77 : decide (0 ≤ z ∧ z ≤ 200) = false := decide_eq_false h12
                rw [h77]
                by_cases h34 : z < 0 ∧ -200 ≤ z
                · obtain ⟨M, rfl⟩ : ∃ M : Nat, z = -(M : Int) := ⟨(-z).toNat, by omega⟩
                  obtain ⟨g1, g2⟩ := h34
                  have hM : 0 < M ∧ M ≤ 200 := by omega
                  obtain ⟨p1, cap1, e1, hc1, hm1⟩ := HTS.out.wa.sh
                  obtain ⟨p2, cap2, e2, hc2, hm2⟩ := HTS.out.wb.sh
                  subst e1 e2
                  have hlen := HTS.out.rq.len
                  unfold maxLen at hm1 hm2
                  clear h12 h77
                  go_upto_region 30 with fail
                  have ek : min (M : Int) xs.length = ((min M xs.length : Nat) : Int) := by omega
                  have em : min (M : Int) ys.length = ((min M ys.length : Nat) : Int) := by omega
                  rw [ek, em]
                  have hkn : min M xs.length ≤ xs.length := Nat.min_le_right _ _
                  have hmn : min M ys.length ≤ ys.length := Nat.min_le_right _ _
                  clear ek em
                  generalize min M xs.length = kn at *
                  generalize min M ys.length = mn at *
                  have RD := Lib.hid (read_rq wo Fo r ⟨rq, bp, 1, k, s, m, sz⟩ xs ys kn HTS.out.rq hkn)
                  go_wp2_with fail
                  refine RD.out.mono ?_
                  rintro e w6 ⟨vu, rfl, hu, hrq6, ht6⟩
                  have TS6 := Lib.hid (HTS.out.same hrq6 ht6)
                  have HU := Lib.hid hu
                  have PL := Lib.hid (pull_rq w6 Fo r ⟨rq, bp, 1, k, s, m, sz⟩ (xs.drop kn) ys mn hrq6 hmn)
                  have hs6 := Lib.hid ht6.size
                  clear hu hrq6 ht6
                  go_wp2_with fail
                  refine PL.out.mono ?_
                  rintro e w7 ⟨vw, rfl, hw, hnx⟩
                  obtain ⟨Fo7, ts7, t7⟩ := TS6.out.op hnx
                  have TS7 := Lib.hid ts7
                  have hu7 : w7.ownsRow wo.heap.size 5 1 vu kn ((xs.take kn).map (Value.int .u8)) := ownsRow_same HU.out (fun j hj => t7.block j (HU.out.lt j hj).2 (fun x => by have := (HU.out.lt j hj).1; have := HTS.out.rq.lt j x; omega))
                  have lk : (xs.take kn).length = kn := by rw [List.length_take]; omega
                  have lm : (ys.take mn).length = mn := by rw [List.length_take]; omega
                  have ru : Reads w7 .u8 vu (xs.take kn) := Reads.own (by rw [lk]; exact hu7) (by omega)
                  have rv : Reads w7 .u8 vw (ys.take mn) := Reads.own (by rw [lm]; exact hw) (by omega)
                  have ra := ts7.wa.reads.take kn hkn
                  have rb := ts7.wb.reads.take mn hmn
                  have cu := fun q => conv_any (W := w7.drewN q) (ru.below (bdrewN (Below.refl _ _) q) rfl) (by omega)
                  have cv := fun q => conv_any (W := w7.drewN q) (rv.below (bdrewN (Below.refl _ _) q) rfl) (by omega)
                  have ca := fun q => conv_any (W := w7.drewN q) (ra.below (bdrewN (Below.refl _ _) q) rfl) (by omega)
                  have cb := fun q => conv_any (W := w7.drewN q) (rb.below (bdrewN (Below.refl _ _) q) rfl) (by omega)
                  have FIN := Lib.hid (fun q => show TrAt w (w7.drewN q) r ⟨rq, bp, 1, k, s, m, sz⟩ (.slice (if cap1 = kn then p1 else Option.map (fun x : Addr => x.add kn) p1) (xs.length - kn) (cap1 - kn)) (.slice (if cap2 = mn then p2 else Option.map (fun x : Addr => x.add mn) p2) (ys.length - mn) (cap2 - mn)) from ⟨Fo7, _, _, (ts7.below (bdrewN (Below.refl _ _) q)).cut ((ts7.below (bdrewN (Below.refl _ _) q)).wa.cut hkn).2 ((ts7.below (bdrewN (Below.refl _ _) q)).wb.cut hmn).2 (fun _ h => cut_block h) (fun _ h => cut_block h)⟩)
                  obtain ⟨z1, hz1⟩ : ∃ z1, (if cap1 = kn then p1 else Option.map (fun x : Addr => x.add kn) p1) = z1 := ⟨_, rfl⟩
                  obtain ⟨z2, hz2⟩ : ∃ z2, (if cap2 = mn then p2 else Option.map (fun x : Addr => x.add mn) p2) = z2 := ⟨_, rfl⟩
                  rw [hz1, hz2] at FIN
                  generalize strOfNums (xs.take kn) = su at *
                  generalize strOfNums (ys.take mn) = sv at *
                  clear hnx ts7 t7 hu7 ru rv ra rb hw lk lm
                  go_wp2_with fail
                  go_quiet (fail)
                  go_wp2_with fail
                  go_quiet (fail)
                  go_wp2_with fail
                  go_meet
                  refine ⟨⟨_, rfl⟩, ?_⟩
                  rw [World.drewN_drewN]
                  exact FIN.out _
                · have FIN := Lib.hid (show TrAt w wo r ⟨rq, bp, 1, k, s, m, sz⟩ u13 u14 from ⟨Fo, xs, ys, HTS.out⟩)
                  by_cases h3 : z < 0
                  · have h4 : z < -200 := by omega
                    clear h34 h12 h77
                    go_wp2_with fail
                    go_meet
                    exact ⟨⟨_, rfl⟩, FIN.out⟩
                  · clear h34 h12 h77
                    go_wp2_with fail
                    go_meet
                    exact ⟨⟨_, rfl⟩, FIN.out⟩
            case rest =>
              obtain ⟨⟨c5, rfl⟩, Fo8, xs8, ys8, ts8⟩ := hcut
              obtain ⟨w8, hw8⟩ : ∃ w8, w8 = wc := ⟨_, rfl⟩
              subst hw8
              have TS8 := Lib.hid ts8
              obtain ⟨RR, QR, q1, q2, sHeld, sRR, sRL, sQR, sQL⟩ := says_rq _ _ _ _ _ _ ts8.rq
              have PT := Lib.hid (parts_rq _ _ _ _ _ _ ts8.rq)
              have SH := Lib.hid sHeld
              have SRR := Lib.hid sRR
              have SRL := Lib.hid sRL
              have SQR := Lib.hid sQR
              have SQL := Lib.hid sQL
              obtain ⟨p1, cap1, e1, hc1, hm1⟩ := ts8.wa.sh
              obtain ⟨p2, cap2, e2, hc2, hm2⟩ := ts8.wb.sh
              subst e1 e2
              have hlen := ts8.rq.len
              unfold maxLen at hm1 hm2
              clear ts8 sHeld sRR sRL sQR sQL
              go_upto_region 35 with fail
              go_wp2_with fail
              refine PT.out.mono ?_
              rintro e w9 ⟨f1, f2, n1, n2, xa, xb, rfl, ra, rb, hab, hb9⟩
              have HB9 := Lib.hid hb9
              have ca := conv_any ra (by rw [← hab, List.length_append] at hlen; omega)
              have cb := conv_any rb (by rw [← hab, List.length_append] at hlen; omega)
              have ra8 := (TS8.out.below hb9).wa.reads
              have cc := conv_any ra8 (by omega)
              have hap := str_app xa xb
              rw [hab] at hap
              have hz1 := strOfNums_size xa
              have hz2 := strOfNums_size xb
              have hsz : ¬ (9223372036854775807 < (strOfNums xa).size + (strOfNums xb).size) := by rw [hz1, hz2]; rw [← hab, List.length_append] at hlen; omega
              have HH := Lib.hid (SH.out w9 hb9)
              have HRL := Lib.hid (SRL.out w9 hb9)
              have HQL := Lib.hid (SQL.out w9 hb9)
              clear ra rb hb9 ra8 hz1 hz2
              generalize strOfNums xa = sa at *
              generalize strOfNums xb = sb at *
              generalize strOfNums xs8 = sx at *
              go_wp2_with fail
              refine HH.out.mono ?_
              rintro e w10 ⟨rfl, rfl⟩
              go_wp2_with fail
              refine HRL.out.mono ?_
              rintro e w10 ⟨rfl, rfl⟩
              go_wp2_with fail
              refine HQL.out.mono ?_
              rintro e w10 ⟨rfl, hb10⟩
              have HB10 := Lib.hid (HB9.out.trans (hb10.mono HB9.out.size))
              have HRR := Lib.hid (SRR.out _ HB10.out)
              have HQR := Lib.hid (SQR.out _ HB10.out)
              clear hb10
              go_wp2_with fail
              refine HRR.out.mono ?_
              rintro e w11 ⟨rfl, rfl⟩
              go_wp2_with fail
              refine HQR.out.mono ?_
              rintro e w11 ⟨rfl, hb11⟩
              have FIN := Lib.hid (show TrAt w w11 r ⟨rq, bp, 1, k, s, m, sz⟩ _ _ from ⟨Fo8, xs8, ys8, TS8.out.below (HB10.out.trans (hb11.mono HB10.out.size))⟩)
              clear hb11
              go_wp2_with fail
              go_round
              case rel => exact ⟨j + 1, c5, by omega, by go_num, rfl, FIN.out⟩
              case measure => simp [intOf]; omega
        · obtain rfl : j = ms.length := by omega
          clear hlt hj hts
          go_wp2_with fail
          go_ret
          exact ⟨rfl, BL.out⟩

end Go.Proofs.Ytfolidedcejafaa
