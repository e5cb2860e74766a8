/-
  Pull of a queue: what it gives, with its book. Conditions: numbers in their bounds; not more than there is.
  The iterator of slices.Chunk over octets: what it gives. Conditions: numbers in their bounds.
  slices.Chunk over octets, as the law on a range over a function wants it. Conditions: numbers in their bounds.
-/
import Derived.Test.YtfnmjlnpfoclbaaGreatQueueRunsPao
import Derived.RangeFuncNested
import Derived.RangeFuncBound
import Derived.RangeFuncCalls
import Derived.RangeFuncLeaves
import Derived.Shelf.Abstract
import Derived.Shelf.RegionOpen
import Derived.WalkKit
import Derived.OwnWalkIn
import Derived.TacticsInMore
import Derived.LoopNIn
import Derived.LoopIn

namespace Go.Proofs.YtfnmjlnpfoclbaaGreat
section
open Go.RowKit
set_option linter.unusedVariables false

theorem qreads_part {w : World} {b : Nat} {cs : List Int} (h : byteRow w b cs) (c k cap : Nat) (hk : c + k ≤ cs.length) (hl : cs.length ≤ 1000000) (f : Option Addr) (hf : 0 < k → f = some ⟨b, c, none⟩) : Reads w .u8 (.slice f k cap) ((cs.drop c).take k) := by
  have hlen : ((cs.drop c).take k).length = k := by rw [List.length_take, List.length_drop]; omega
  refine ⟨f, cap, by rw [hlen], by omega, fun hne => ?_⟩
  have h0 : 0 < k := by
    rcases Nat.eq_zero_or_pos k with h0 | h0
    · subst h0; simp at hne
    · exact h0
  refine ⟨b, c, hf h0, fun j hj => ?_⟩
  rw [hlen] at hj
  rw [h.cell (c + j) (by omega)]
  simp [List.getD_eq_getElem?_getD, hj]

theorem qrow_low {w : World} {B B' e size n : Nat} {v : Value} {xs : List Value} (h : w.ownsRow B e size v n xs) (hB : B' ≤ B) : w.ownsRow B' e size v n xs := by
  refine ⟨h.1, h.2.imp id ?_⟩
  rintro ⟨g, cap, cur, h1, h2, h3⟩
  exact ⟨g, cap, cur, h1, Nat.le_trans hB h2, h3⟩

theorem mid_append {ops : Array Oper} {rest : List Oper} {o : Oper} {a : Act} {Q : Exit → Act → World → Prop} (hgd : o.guard = none) (s x : Operand)
    (ho : o.op = .call { callee := .builtin .append, args := #[s, x], argTypes := #[42, 42] })
    (base : Nat) (w : World) (v : Value) (n : Nat) (xs : List Int) (hs : a.eval s = v) (hown : w.ownsRow base 5 1 v n (xs.map (Value.int .u8)))
    (sv : Value) (zs : List Int) (hx : a.eval x = sv) (hr : Reads w .u8 sv zs) (h63 : n + zs.length ≤ 140737488355328) (hbase : base ≤ w.heap.size)
    (h : ∀ v' w', w'.ownsRow base 5 1 v' (n + zs.length) ((xs ++ zs).map (Value.int .u8)) → w.grownBy w' v.ownBlock → wpQuiet Tryz.prog ops (fun w3 => ∃ n, w3 = w'.drewN n) (fun a3 => ∀ w3, (∃ n, w3 = w'.drewN n) → Q .normal a3 w3) rest (a.put o.dst v')) :
    MidAt Tryz.prog ops Q o rest a w := by
  intro K hK
  obtain ⟨v', w', hrun, h1, h2⟩ := run_append_octets w base o.type v n xs hown sv zs hr h63 hbase
  simp only [Region.wanted, hgd, if_true]
  unfold Oper.wp execOp
  simp only [ho, resolve, invoke, builtin, Sem.run_bind, Sem.run_pure, Result.andThen_ok, List.map_toArray, List.map_cons, List.map_nil, hs, hx, hrun]
  exact hK _ _ (h v' w' h1 h2)

theorem pullL_blocks : ∀ (n : Nat) (L : List QCh) (c : QCh), c ∈ L → ∃ d ∈ pullL n L, c.b = d.b
  | _, [], c, h => by simp at h
  | n, x :: l, c, h => by
    rcases List.mem_cons.1 h with rfl | h
    · exact ⟨c.adv (min n c.len), by rw [pullL]; exact List.mem_cons_self, rfl⟩
    · obtain ⟨d, h1, h2⟩ := pullL_blocks _ l c h
      exact ⟨d, by rw [pullL]; exact List.mem_cons_of_mem _ h1, h2⟩

def PullPost (I : QuId) (L : List QCh) (bst : BookSt) (N : Nat) (F G : Nat → Prop) (n : Nat) (w : World) : Ending → World → Prop := fun e w' =>
  ∃ v, e = .returned (.tuple #[v, .int .i64 0]) ∧ w'.ownsRow w.heap.size 5 1 v n (((qCont L).take n).map (Value.int .u8)) ∧ QRPost w w' I (dropQ L.length 0 (pullL n L)) (givenSt bst I.o (goneN (pullL n L))) N F G ∧ OctStay w w' L

set_option maxHeartbeats 4000000 in
set_option maxRecDepth 100000 in
theorem pull_any (I : QuId) (L : List QCh) (bst : BookSt) (N : Nat) (F G : Nat → Prop) (n : Nat) (w : World) (h : QR w I L bst N F G) (hn : n ≤ qsum QCh.len L) :
    Calls Tryz.prog 31 #[.pointer (some ⟨I.r, 0, none⟩), .int .i64 n] w (PullPost I L bst N F G n w) := by
  obtain ⟨cv, hm⟩ := h.qu
  have AB0 := Lib.hid h
  have HLEN := Lib.hid (qLen_any I F L cv w hm h.ok)
  have hsum := h.ok.sum L.length
  rw [List.take_length] at hsum
  obtain ⟨ca, cc, hcv, g1, g2, _⟩ := hm.chs
  subst hcv
  have c6 : w.cell? ⟨I.r, 6, none⟩ = some (.bool false) := by rw [cell_of hm.self]; rfl
  have HM := Lib.hid hm
  have HOK := Lib.hid (fun c hc => h.ok.2 c hc : ∀ c ∈ L, ChOk c)
  have b63 := h.ok.1
  have hS : (0 : Int) ≤ n := by omega
  have HRS := Lib.hid hn
  generalize hNL : qsum QCh.len L = S at *
  clear h hm
  obtain ⟨r, bp, o, pk, ps, pm, sz⟩ := I
  dsimp only at *
  go_enter Tryz.func31, Tryz.ntmps31
  go_wp2_with fail
  refine HLEN.out.mono ?_
  rintro e w1 ⟨rfl, hb1⟩
  have B1 := Lib.hid hb1
  have M1 := Lib.hid (HM.out.below hb1)
  have hs1 := hb1.size
  have d7 : w1.cell? ⟨r, 7, none⟩ = some (.slice ca L.length cc) := by rw [cell_of M1.out.self]; rfl
  clear hb1
  go_wp2_with fail
  refine (within_ring_yes _ _ _ _ (by omega) (by omega)).mono ?_
  rintro e w2 ⟨rfl, rfl⟩
  go_wp2_with fail
  go_loopw [6, 7, 8, 9, 26] (fun out _ _ _ i wr => ∃ k : Nat, k ≤ L.length ∧ i = .int .i64 k ∧ QuMem wr F ⟨r, bp, o, pk, ps, pm, sz⟩ (pullAt n k L) (.slice ca L.length cc) ∧ wr.ownsRow w1.heap.size 5 1 out (pullO n (L.take k)).length ((pullO n (L.take k)).map (Value.int .u8)) ∧ Touch (fun j => (Value.slice ca L.length cc).ownBlock = some j) w1 wr) (fun _ _ _ _ i _ => L.length - (intOf i).toNat)
  case atStart => exact ⟨0, Nat.zero_le _, rfl, by rw [pullAt_zero]; exact M1.out, World.ownsRow_nil _ _ _ _, Touch.refl _ _⟩
  case round =>
    obtain ⟨k, hk, rfl, hmr, how, ht⟩ := hrel
    have hsz := ht.size
    have HMR := Lib.hid hmr
    have OW := Lib.hid how
    have HT := Lib.hid ht
    have e7 : wr.cell? ⟨r, 7, none⟩ = some (.slice ca L.length cc) := by rw [cell_of hmr.self]; rfl
    obtain ⟨oa, oc, rfl⟩ := qrow_shape how
    have hol : Hid ((pullO n (L.take k)).length ≤ n) := Lib.hid (by rw [pullO_eq _ _ (fun c hc => HOK.out c (List.mem_of_mem_take hc)), List.length_take]; omega)
    clear how ht
    by_cases hlt : k < L.length
    · obtain ⟨ca', cc', he, _, _, hcc⟩ := hmr.chs
      obtain ⟨b, o', ha', d0, d1, d2⟩ := hcc k (by rw [pullAt_len]; exact hlt)
      simp only [Value.slice.injEq] at he
      rw [← he.1] at ha'
      obtain ⟨g, cap, hsh⟩ : ∃ g cap, Value.slice ca L.length cc = .slice (some ⟨g, 0, none⟩) L.length cap := by
        rcases hmr.crow.2 with ⟨h1, h2⟩ | ⟨g, cap', cur, h1, _⟩
        · rw [pullAt_len] at h2; omega
        · exact ⟨g, cap', by rw [h1, pullAt_len]⟩
      simp only [Value.slice.injEq, true_and] at hsh
      obtain ⟨rfl, rfl⟩ := hsh
      simp only [Option.some.injEq, Addr.mk.injEq, and_true] at ha'
      obtain ⟨rfl, rfl⟩ := ha'
      clear he
      rw [pullAt_get n k L hlt] at d0 d1 d2
      have hin := qgetD_in hlt
      obtain ⟨q1, q2, q3⟩ := HOK.out _ hin
      have PS := Lib.hid (pullAt_step n k L HOK.out hlt)
      have PO := Lib.hid (pullO_step L n k HOK.out hlt)
      have hbr := Lib.hid (hmr.mem ((pullAt n k L).getD k QCh.zero) (qgetD_in (by rw [pullAt_len]; exact hlt)))
      rw [pullAt_get n k L hlt] at hbr
      have SF := Lib.hid (fun (w' : World) (t : Nat) (h : QuMem w' F ⟨r, bp, o, pk, ps, pm, sz⟩ (pullAt n k L) (.slice (some ⟨g, 0, none⟩) L.length cc)) => (QuMem.setFr (L := pullAt n k L) (by rw [pullAt_len]; exact h) k t (by rw [pullAt_len]; exact hlt)))
      rw [pullAt_get n k L hlt, pullAt_len] at SF
      clear hmr hin hcc
      generalize L.getD k QCh.zero = x at *
      obtain ⟨xb, xos, xf, xt⟩ := x
      generalize hO : pullO n (L.take k) = O at *
      have hol' := hol.out
      dsimp only at q1 q2 q3 d0 d1 d2
      rw [Nat.zero_add] at d0 d1 d2
      generalize hxl : xos.length = xl at *
      by_cases hA : n - O.length ≤ xt - xf
      · have eT : min (n - O.length) (QCh.len ⟨xb, xos, xf, xt⟩) = n - O.length := Nat.min_eq_left hA
        have eI : (min ((n : Int) - O.length) ((xt : Int) - xf)) = ((n - O.length : Nat) : Int) := by omega
        go_wp2_with fail
        go_quiet (fail)
        go_wp2_with fail
        rw [show (n : Int) - O.length = ((n - O.length : Nat) : Int) by omega]
        rw [eT] at PS PO
        have hT1 : O.length + (n - O.length) ≤ n := by omega
        have hT2 : xf + (n - O.length) ≤ xt := by omega
        generalize n - O.length = T at *
        clear eT eI
        refine wp_region_mid 16 _ (by kernel_rfl) (by kernel_rfl) rfl ?_
        simp only [List.take_succ_cons, List.take_zero, List.drop_succ_cons, List.drop_zero]
        repeat (go_big_quiet_step (fail))
        refine wpQuiet_nil ?_
        intro _ hw'
        obtain ⟨nq4, rfl⟩ := hw'
        have OWq : ((wr.drewN nq).drewN nq4).ownsRow w1.heap.size 5 1 (.slice oa O.length oc) O.length (O.map (Value.int .u8)) := OW.out
        have BRq : byteRow ((wr.drewN nq).drewN nq4) xb xos := hbr.out.1
        have hTl : ((xos.drop xf).take T).length = T := by rw [List.length_take, List.length_drop]; omega
        refine mid_append rfl (.tmp 49) (.tmp 64) rfl w1.heap.size _ _ _ O rfl OWq _ ((xos.drop xf).take T) rfl ?hr (by rw [hTl]; omega) hsz ?_
        case hr =>
          generalize hX : Act.eval _ _ = X
          unfold Act.eval at hX
          simp at hX
          rw [← hX]
          exact qreads_part BRq xf T _ (by omega) (by omega) _ (fun h0 => if_neg (by omega))
        intro v' w5 hown hgr
        have T5 := (((HT.out.drewN nq).drewN nq4).grown hgr (fun j hj => Or.inr (OW.out.lt j hj).1))
        have M5 := HMR.out.same (w' := w5) (fun j hj hlt' => (hgr.block j hlt' (fun e => by have := (OW.out.lt j e.symm).1; have := AB0.out.fl j hj; omega)))
        have P5 := Lib.hid (fun q => And.intro (T5.drewN q) (And.intro (M5.below (bdrewN (Below.refl _ _) q)) (show (w5.drewN q).ownsRow w1.heap.size 5 1 v' (O.length + ((xos.drop xf).take T).length) ((O ++ (xos.drop xf).take T).map (Value.int .u8)) from hown)))
        have hb5 : ∀ j, F j → j < wr.heap.size → w5.heap[j]? = wr.heap[j]? := fun j hj hlt' => (hgr.block j hlt' (fun e => by have := (OW.out.lt j e.symm).1; have := AB0.out.fl j hj; omega))
        have HB5 := Lib.hid hb5
        clear T5 M5 hown hgr OWq BRq hb5
        go_simp
        repeat (go_big_quiet_step (fail))
        refine wpQuiet_nil ?_
        intro nq5
        obtain ⟨T6, M6, R6⟩ := P5.out nq5
        have hb6 : ∀ j, F j → j < wr.heap.size → (w5.drewN nq5).heap[j]? = wr.heap[j]? := HB5.out
        clear P5 HB5
        generalize w5.drewN nq5 = w6 at *
        obtain ⟨cur, hcur⟩ := row_block M6.crow rfl
        have gF := M6.fc g rfl
        have glt := (HMR.out.crow.lt g rfl).2
        have bg := hb6 g gF glt
        have d1' : w6.cell? ⟨g, k * 3 + 1, none⟩ = some (.int .i64 xf) := by rw [← d1]; simp only [World.cell?, bg]
        have fr' : w6.frozen? ⟨g, k * 3 + 1, none⟩ = false := free_of hcur _
        have SS := SF.out w6 T M6
        have T7 := T6.setCell (p := ⟨g, k * 3 + 1, none⟩) (Or.inl rfl) (.int .i64 ((xf + T : Nat) : Int))
        rw [← PS.out] at SS
        have FIN := Lib.hid (And.intro SS (And.intro T7 (ownsRow_setCell_other R6 (a := ⟨g, k * 3 + 1, none⟩) (fun e => by have := (R6.lt g e).1; have := AB0.out.fl g gF; omega) (.int .i64 ((xf + T : Nat) : Int)))))
        have eN : ((xf + T : Nat) : Int) = (xf : Int) + T := by omega
        simp only [eN, hTl] at FIN
        clear SS T7 T6 M6 R6 hcur bg gF glt eN
        go_wp2_with fail
        go_round
        case rel =>
          refine ⟨k + 1, by omega, by go_num, FIN.out.1, ?_, FIN.out.2.1⟩
          rw [PO.out, List.length_append, hTl]
          exact FIN.out.2.2
        case measure => simp [intOf]; omega
      · have eT : min (n - O.length) (QCh.len ⟨xb, xos, xf, xt⟩) = xt - xf := Nat.min_eq_right (by unfold QCh.len; dsimp only; omega)
        have eI : (min ((n : Int) - O.length) ((xt : Int) - xf)) = ((xt - xf : Nat) : Int) := by omega
        go_wp2_with fail
        go_quiet (fail)
        go_wp2_with fail
        rw [show (xt : Int) - xf = ((xt - xf : Nat) : Int) by omega]
        rw [eT] at PS PO
        have hT1 : O.length + (xt - xf) ≤ n := by omega
        have hT2 : xf + (xt - xf) ≤ xt := by omega
        generalize xt - xf = T at *
        clear eT eI
        refine wp_region_mid 16 _ (by kernel_rfl) (by kernel_rfl) rfl ?_
        simp only [List.take_succ_cons, List.take_zero, List.drop_succ_cons, List.drop_zero]
        repeat (go_big_quiet_step (fail))
        refine wpQuiet_nil ?_
        intro _ hw'
        obtain ⟨nq4, rfl⟩ := hw'
        have OWq : ((wr.drewN nq).drewN nq4).ownsRow w1.heap.size 5 1 (.slice oa O.length oc) O.length (O.map (Value.int .u8)) := OW.out
        have BRq : byteRow ((wr.drewN nq).drewN nq4) xb xos := hbr.out.1
        have hTl : ((xos.drop xf).take T).length = T := by rw [List.length_take, List.length_drop]; omega
        refine mid_append rfl (.tmp 49) (.tmp 64) rfl w1.heap.size _ _ _ O rfl OWq _ ((xos.drop xf).take T) rfl ?hr (by rw [hTl]; omega) hsz ?_
        case hr =>
          generalize hX : Act.eval _ _ = X
          unfold Act.eval at hX
          simp at hX
          rw [← hX]
          exact qreads_part BRq xf T _ (by omega) (by omega) _ (fun h0 => if_neg (by omega))
        intro v' w5 hown hgr
        have T5 := (((HT.out.drewN nq).drewN nq4).grown hgr (fun j hj => Or.inr (OW.out.lt j hj).1))
        have M5 := HMR.out.same (w' := w5) (fun j hj hlt' => (hgr.block j hlt' (fun e => by have := (OW.out.lt j e.symm).1; have := AB0.out.fl j hj; omega)))
        have P5 := Lib.hid (fun q => And.intro (T5.drewN q) (And.intro (M5.below (bdrewN (Below.refl _ _) q)) (show (w5.drewN q).ownsRow w1.heap.size 5 1 v' (O.length + ((xos.drop xf).take T).length) ((O ++ (xos.drop xf).take T).map (Value.int .u8)) from hown)))
        have hb5 : ∀ j, F j → j < wr.heap.size → w5.heap[j]? = wr.heap[j]? := fun j hj hlt' => (hgr.block j hlt' (fun e => by have := (OW.out.lt j e.symm).1; have := AB0.out.fl j hj; omega))
        have HB5 := Lib.hid hb5
        clear T5 M5 hown hgr OWq BRq hb5
        go_simp
        repeat (go_big_quiet_step (fail))
        refine wpQuiet_nil ?_
        intro nq5
        obtain ⟨T6, M6, R6⟩ := P5.out nq5
        have hb6 : ∀ j, F j → j < wr.heap.size → (w5.drewN nq5).heap[j]? = wr.heap[j]? := HB5.out
        clear P5 HB5
        generalize w5.drewN nq5 = w6 at *
        obtain ⟨cur, hcur⟩ := row_block M6.crow rfl
        have gF := M6.fc g rfl
        have glt := (HMR.out.crow.lt g rfl).2
        have bg := hb6 g gF glt
        have d1' : w6.cell? ⟨g, k * 3 + 1, none⟩ = some (.int .i64 xf) := by rw [← d1]; simp only [World.cell?, bg]
        have fr' : w6.frozen? ⟨g, k * 3 + 1, none⟩ = false := free_of hcur _
        have SS := SF.out w6 T M6
        have T7 := T6.setCell (p := ⟨g, k * 3 + 1, none⟩) (Or.inl rfl) (.int .i64 ((xf + T : Nat) : Int))
        rw [← PS.out] at SS
        have FIN := Lib.hid (And.intro SS (And.intro T7 (ownsRow_setCell_other R6 (a := ⟨g, k * 3 + 1, none⟩) (fun e => by have := (R6.lt g e).1; have := AB0.out.fl g gF; omega) (.int .i64 ((xf + T : Nat) : Int)))))
        have eN : ((xf + T : Nat) : Int) = (xf : Int) + T := by omega
        simp only [eN, hTl] at FIN
        clear SS T7 T6 M6 R6 hcur bg gF glt eN
        go_wp2_with fail
        go_round
        case rel =>
          refine ⟨k + 1, by omega, by go_num, FIN.out.1, ?_, FIN.out.2.1⟩
          rw [PO.out, List.length_append, hTl]
          exact FIN.out.2.2
        case measure => simp [intOf]; omega
    · obtain rfl : k = L.length := by omega
      have hfull : (pullO n L).length = n := by rw [pullO_eq _ _ HOK.out, List.length_take, qCont_len HOK.out, hNL]; omega
      rw [List.take_length] at OW
      rw [pullO_eq _ _ HOK.out] at OW hfull
      rw [hfull] at OW
      rw [pullAt_all] at hmr
      have AB1 := AB0.out.below B1.out
      have QBr : QR wr ⟨r, bp, o, pk, ps, pm, sz⟩ (pullL n L) bst N F G :=
        { qu := ⟨_, hmr⟩, bk := AB1.bk.same (HT.out.same (fun j hj _ x => AB0.out.dis j (HM.out.fc j x) hj)), dis := AB1.dis
          fl := fun j hj => by have := AB1.fl j hj; omega
          gl := fun j hj => by have := AB1.gl j hj; omega
          pol := AB1.pol, sz := AB1.sz, good := AB1.good
          ok := ⟨by rw [pullL_length]; exact b63, pullL_ok L n HOK.out⟩ }
      have OST : Hid (OctStay w wr L) := Lib.hid (fun c hc => by
        have hx := HM.out.mem c hc
        have hl := lt_of hx.1
        refine (HT.out.block c.b (by omega) (fun e => ?_)).trans (B1.out.block c.b hl)
        exact qrow_ne HM.out.crow hx.1 (by decide) e)
      have DR := drop_any ⟨r, bp, o, pk, ps, pm, sz⟩ (pullL n L) bst N F G wr QBr
      rw [pullL_length] at DR
      have HDR := Lib.hid DR
      have PB := pullL_blocks n L
      rw [List.take_length, pullO_eq _ _ HOK.out, hfull]
      clear QBr DR hlt hk hmr AB1 hol
      go_wp2_with fail
      refine HDR.out.mono ?_
      rintro e w9 ⟨rfl, ⟨F', G', p1, p2, p3, p4⟩, p5⟩
      have P1 := Lib.hid p1
      have P4 := Lib.hid p4
      have P5 : Hid (OctStay w w9 L) := Lib.hid (fun c hc => by
        obtain ⟨d, hd, e⟩ := PB c hc
        exact (e ▸ p5 d hd).trans (OST.out c hc))
      clear p1 p4 p5 OST PB
      go_wp2_with fail
      go_ret2
      refine ⟨_, rfl, ?_, ⟨F', G', P1.out, ?_, ?_, ?_⟩, P5.out⟩
      · refine qrow_low (ownsRow_same OW.out (fun j hj => P4.out.block j (OW.out.lt j hj).2 (fun x => ?_))) hs1
        have := (OW.out.lt j hj).1
        rcases x with x | x
        · have := AB0.out.fl j x; omega
        · have := AB0.out.gl j x; omega
      · exact fun j hj => (p2 j hj).imp id (fun x => by omega)
      · exact fun j hj => (p3 j hj).imp id (fun x => by omega)
      · exact ((Touch.of_below B1.out).then (HT.out.mono (fun j x => Or.inl (HM.out.fc j x)))).then P4.out

end
end Go.Proofs.YtfnmjlnpfoclbaaGreat

namespace Go.Proofs.YtfnmjlnpfoclbaaGreat
section
open Go.RowKit Go.Shelf
attribute [local go_sem] Oper.semAt_some
set_option linter.unusedVariables false

/-- A round leaves the iterator's two boxes as they were. -/
def KpC (Bs Bn : Nat) (W W' : World) : Prop := W'.heap[Bs]? = W.heap[Bs]? ∧ W'.heap[Bn]? = W.heap[Bn]?
def chunkPart (b off N size j : Nat) : Value := .slice (some ⟨b, off + j * size, none⟩) (min size (N - j * size)) (min size (N - j * size))

set_option maxHeartbeats 2000000 in
set_option maxRecDepth 100000 in
theorem chunk1_in (n : Nat) (hn : 1 ≤ n) (l Bs Bn b off N cap size M : Nat) (hs1 : 1 ≤ size) (hs2 : size ≤ 100000) (hN : N ≤ 1000000) (hcap : N ≤ cap) (hcap2 : cap ≤ 9223372036854775807)
    (hM : N ≤ M * size) (hM2 : ∀ k, k < M → k * size < N) (J Jx : List Nat → World → Prop) (hJ : ∀ pre A q, J pre A → J pre (A.drewN q))
    (hY : ∀ pre x W, J pre W → pre.length < M → YieldAt Fence.wide (n - 1) Tryz.prog l #[chunkPart b off N size x] W fun e W' =>
      (e = .returned (.bool true) ∧ J (pre ++ [x]) W' ∧ KpC Bs Bn W W') ∨ (e = .returned (.bool false) ∧ Jx (pre ++ [x]) W'))
    (W : World) (hBs : W.heap[Bs]? = some (.cells #[.slice (some ⟨b, off, none⟩) N cap] 42 (0, 0))) (hBn : W.heap[Bn]? = some (.cells #[.int .i64 size] 3 (0, 0))) (h0 : J [] W) :
    CallsIn Fence.wide n Tryz.prog 89 #[.func (.yield l) #[] #[], .pointer (some ⟨Bs, 0, none⟩), .pointer (some ⟨Bn, 0, none⟩)] W fun e W' => (∃ v, e = .returned v) ∧
      ((∃ ys, ys = List.range M ∧ J ys W') ∨ (∃ pre, (∃ k, k ≤ M ∧ pre = List.range k) ∧ Jx pre W')) := by
  refine callsIn_of_wp Tryz.func89 rfl trivial ?_ rfl
  simp only [Tryz.ntmps89, List.size_toArray, List.length_cons, List.length_nil, Nat.reduceAdd, Nat.reduceSub, Array.replicate_succ, Array.replicate_zero, List.push_toArray, List.append_toArray, List.nil_append, List.cons_append]
  gi_wp2
  gi_loopw [4, 5] (fun i _ wr => ∃ k : Nat, k ≤ M ∧ i = .int .i64 (k * size : Nat) ∧ J (List.range k) wr ∧ KpC Bs Bn W wr) (fun i _ _ => M * size - (intOf i).toNat)
  case atStart => exact ⟨0, Nat.zero_le _, by simp, h0, rfl, rfl⟩
  case round =>
    obtain ⟨k, hk, rfl, hJs, hk1, hk2⟩ := hrel
    have cs : wr.cell? ⟨Bs, 0, none⟩ = some (.slice (some ⟨b, off, none⟩) N cap) := by rw [cell_of (hk1.trans hBs)]; rfl
    have cn : wr.cell? ⟨Bn, 0, none⟩ = some (.int .i64 size) := by rw [cell_of (hk2.trans hBn)]; rfl
    have HK := Lib.hid (And.intro hk1 hk2)
    have HN2 := Lib.hid hM2
    have HM1 := Lib.hid hM
    by_cases hlt : k < M
    · have hP := hM2 k hlt
      have eP : (k + 1) * size = k * size + size := Nat.succ_mul _ _
      have hle : (k + 1) * size ≤ M * size := Nat.mul_le_mul_right _ hlt
      have HY2 := fun q => hY _ k (wr.drewN q) (hJ _ _ q hJs) (by rw [List.length_range]; exact hlt)
      unfold chunkPart at HY2
      rw [eP] at hle
      have HLE := Lib.hid hle
      have HEP := Lib.hid eP
      clear hM hM2 hk1 hk2 hle eP hY
      generalize hPP : k * size = P at *
      by_cases hA : size ≤ N - P
      · have hMIN : min size (N - P) = size := Nat.min_eq_left hA
        gi_wp2
        gi_quiet (fail)
        obtain ⟨fn, tmps, assign, body, hy, hR⟩ := HY2 nq
        rw [hMIN] at hy
        gi_wp2
        refine hR.mono ?_
        rintro e W3 (⟨rfl, hJ3, hk3⟩ | ⟨rfl, hJx3⟩)
        · have k3 : KpC Bs Bn W W3 := ⟨hk3.1.trans HK.out.1, hk3.2.trans HK.out.2⟩
          have cn3 : W3.cell? ⟨Bn, 0, none⟩ = some (.int .i64 size) := by rw [cell_of (k3.2.trans hBn)]; rfl
          gi_wp2
          go_roundw
          case rel => exact ⟨k + 1, by omega, by rw [HEP.out]; simp, by rw [List.range_succ]; exact hJ3, k3⟩
          case measure => have := HLE.out; simp [intOf]; omega
        · gi_wp2
          refine bodyPost_ret (results_none rfl _ _ _) rfl ?_
          exact ⟨⟨_, rfl⟩, .inr ⟨_, ⟨k + 1, by omega, (List.range_succ).symm⟩, hJx3⟩⟩
      · have hMIN : min size (N - P) = N - P := Nat.min_eq_right (by omega)
        gi_wp2
        gi_quiet (fail)
        obtain ⟨fn, tmps, assign, body, hy, hR⟩ := HY2 nq
        rw [hMIN] at hy
        gi_wp2
        refine hR.mono ?_
        rintro e W3 (⟨rfl, hJ3, hk3⟩ | ⟨rfl, hJx3⟩)
        · have k3 : KpC Bs Bn W W3 := ⟨hk3.1.trans HK.out.1, hk3.2.trans HK.out.2⟩
          have cn3 : W3.cell? ⟨Bn, 0, none⟩ = some (.int .i64 size) := by rw [cell_of (k3.2.trans hBn)]; rfl
          gi_wp2
          go_roundw
          case rel => exact ⟨k + 1, by omega, by rw [HEP.out]; simp, by rw [List.range_succ]; exact hJ3, k3⟩
          case measure => have := HLE.out; simp [intOf]; omega
        · gi_wp2
          refine bodyPost_ret (results_none rfl _ _ _) rfl ?_
          exact ⟨⟨_, rfl⟩, .inr ⟨_, ⟨k + 1, by omega, (List.range_succ).symm⟩, hJx3⟩⟩
    · obtain rfl : k = M := by omega
      gi_wp2
      go_end0
      exact ⟨⟨_, rfl⟩, .inl ⟨_, rfl, hJs⟩⟩

set_option maxRecDepth 100000 in
theorem chunkMk_any (a : Option Addr) (N cap size : Nat) (w : World) (h : 1 ≤ size) :
    Calls Tryz.prog 67 #[.slice a N cap, .int .i64 size] w (fun e w' => e = .returned (.func (.func 89) #[] #[.pointer (some ⟨w.heap.size, 0, none⟩), .pointer (some ⟨w.heap.size + 1, 0, none⟩)]) ∧
      w' = (w.alloc (.cells #[.slice a N cap] 42)).alloc (.cells #[.int .i64 size] 3)) := by
  go_enter Tryz.func67, Tryz.ntmps67
  go_wp2_with fail
  go_ret
  exact ⟨by simp, rfl⟩

/-- An empty slice has no parts. -/
theorem chunk0_in (n : Nat) (l Bs Bn : Nat) (a : Option Addr) (cap size : Nat) (hs1 : 1 ≤ size) (J : List Nat → World → Prop)
    (W : World) (hBs : W.heap[Bs]? = some (.cells #[.slice a 0 cap] 42 (0, 0))) (h0 : J [] W) :
    CallsIn Fence.wide n Tryz.prog 89 #[.func (.yield l) #[] #[], .pointer (some ⟨Bs, 0, none⟩), .pointer (some ⟨Bn, 0, none⟩)] W fun e W' => (∃ v, e = .returned v) ∧ J [] W' := by
  have cs : W.cell? ⟨Bs, 0, none⟩ = some (.slice a 0 cap) := by rw [cell_of hBs]; rfl
  refine callsIn_of_wp Tryz.func89 rfl trivial ?_ rfl
  simp only [Tryz.ntmps89, List.size_toArray, List.length_cons, List.length_nil, Nat.reduceAdd, Nat.reduceSub, Array.replicate_succ, Array.replicate_zero, List.push_toArray, List.append_toArray, List.nil_append, List.cons_append]
  gi_wp2
  gi_loopw [4, 5] (fun i _ wr => i = .int .i64 0 ∧ wr = W) (fun _ _ _ => 0)
  case atStart => exact ⟨rfl, rfl⟩
  case round =>
    obtain ⟨rfl, rfl⟩ := hrel
    gi_wp2
    go_end0
    exact ⟨⟨_, rfl⟩, h0⟩

end
end Go.Proofs.YtfnmjlnpfoclbaaGreat

namespace Go.Proofs.YtfnmjlnpfoclbaaGreat
section
open Go.RowKit Go.Shelf
set_option linter.unusedVariables false

theorem grown_drewN (w : World) (q : Nat) : w.grownBy (w.drewN q) none := ⟨rfl, rfl, rfl, Nat.le_refl _, fun _ _ _ => rfl⟩

/-- How the parts of N octets are counted. -/
def Parts' (N size M : Nat) : Prop := N ≤ M * size ∧ ∀ k, k < M → k * size < N

theorem chunk_stops (n : Nat) (hn : 1 ≤ n) (Bs Bn b off N cap size M : Nat) (hs1 : 1 ≤ size) (hs2 : size ≤ 100000) (hN : N ≤ 1000000) (hcap : N ≤ cap) (hcap2 : cap ≤ 9223372036854775807) (hM : Parts' N size M)
    (w : World) (hBs : w.heap[Bs]? = some (.cells #[.slice (some ⟨b, off, none⟩) N cap] 42 (0, 0))) (hBn : w.heap[Bn]? = some (.cells #[.int .i64 size] 3 (0, 0))) :
    SeqStopsK Fence.wide n Tryz.prog 89 #[.pointer (some ⟨Bs, 0, none⟩), .pointer (some ⟨Bn, 0, none⟩)] (fun j : Nat => #[chunkPart b off N size j]) (KpC Bs Bn)
      (fun ys => ys = List.range M) (fun pre => ∃ k, k ≤ M ∧ pre = List.range k) M w := fun l J Jx W hW hJ _ hY h0 => by
  have hs := (hW.block Bs (lt_of hBs)).trans hBs
  have hb := (hW.block Bn (lt_of hBn)).trans hBn
  exact chunk1_in n hn l Bs Bn b off N cap size M hs1 hs2 hN hcap hcap2 hM.1 hM.2 J Jx (fun pre A q h => hJ pre A (A.drewN q) none h (grown_drewN A q) (by simp)) hY W hs hb h0
theorem chunk_stops0 (n : Nat) (Bs Bn b off cap size : Nat) (a : Option Addr) (hs1 : 1 ≤ size)
    (w : World) (hBs : w.heap[Bs]? = some (.cells #[.slice a 0 cap] 42 (0, 0))) :
    SeqStopsK Fence.wide n Tryz.prog 89 #[.pointer (some ⟨Bs, 0, none⟩), .pointer (some ⟨Bn, 0, none⟩)] (fun j : Nat => #[chunkPart b off 0 size j]) (KpC Bs Bn)
      (fun ys => ys = List.range 0) (fun pre => ∃ k, k ≤ 0 ∧ pre = List.range k) 0 w := fun l J Jx W hW hJ _ hY h0 => by
  have hs := (hW.block Bs (lt_of hBs)).trans hBs
  exact (chunk0_in n l Bs Bn a cap size hs1 J W hs h0).mono fun e W' ⟨he, hj⟩ => ⟨he, .inl ⟨[], rfl, hj⟩⟩

theorem KpC.trans {Bs Bn : Nat} {A B C : World} (h : KpC Bs Bn A B) (k : KpC Bs Bn B C) : KpC Bs Bn A C := ⟨k.1.trans h.1, k.2.trans h.2⟩
/-- A block of the walk's own is no box. -/
theorem KpC.put {Bs Bn : Nat} {B : Nat} (hs : Bs < B) (hn : Bn < B) (W : World) (l : Nat) (o o' : Obj) (hl : B ≤ l) : KpC Bs Bn W (W.putObj l o') := by
  have f : ∀ j, j < B → (W.putObj l o').heap[j]? = W.heap[j]? := fun j hj => by
    simp only [World.putObj]
    rw [Array.getElem?_setIfInBounds_ne (by omega)]
  exact ⟨f Bs hs, f Bn hn⟩

theorem parts_count (N size : Nat) (h : 1 ≤ size) : Parts' N size ((N + size - 1) / size) := by
  refine ⟨?_, fun k hk => ?_⟩
  · have h1 := Nat.div_add_mod (N + size - 1) size
    have h2 := Nat.mod_lt (N + size - 1) (show size > 0 by omega)
    rw [Nat.mul_comm] at h1
    omega
  · have h1 : (k + 1) * size ≤ N + size - 1 := Nat.le_trans (Nat.mul_le_mul_right _ hk) (Nat.div_mul_le_self _ _)
    rw [Nat.succ_mul] at h1
    omega

end
end Go.Proofs.YtfnmjlnpfoclbaaGreat
