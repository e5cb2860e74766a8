/-
  Pull of a queue: what it gives, with its book. Conditions: numbers in their bounds; not more than there is.
-/
import Derived.Test.YtfolidedcejafaaTopRingPbb
namespace Go.Proofs.Ytfolidedcejafaa
open Go.RowKit
set_option linter.unusedVariables false

theorem qreads_part {w : World} {b : Nat} {cs : List Int} (h : byteRow w b cs) (c k cap : Nat) (hk : c + k ≤ cs.length) (hl : cs.length ≤ 1000000) (f : Option Addr) (hf : 0 < k → f = some ⟨b, c, none⟩) : Reads w .u8 (.slice f k cap) ((cs.drop c).take k) := by
  have hlen : ((cs.drop c).take k).length = k := by rw [List.length_take, List.length_drop]; omega
  refine ⟨f, cap, by rw [hlen], by omega, fun hne => ?_⟩
  have h0 : 0 < k := by
    rcases Nat.eq_zero_or_pos k with h0 | h0
    · subst h0; simp at hne
    · exact h0
  refine ⟨b, c, hf h0, fun j hj => ?_⟩
  rw [hlen] at hj
  rw [h.cell (c + j) (by omega)]
  simp [List.getD_eq_getElem?_getD, hj]

theorem qrow_low {w : World} {B B' e size n : Nat} {v : Value} {xs : List Value} (h : w.ownsRow B e size v n xs) (hB : B' ≤ B) : w.ownsRow B' e size v n xs := by
  refine ⟨h.1, h.2.imp id ?_⟩
  rintro ⟨g, cap, cur, h1, h2, h3⟩
  exact ⟨g, cap, cur, h1, Nat.le_trans hB h2, h3⟩

theorem mid_append {ops : Array Oper} {rest : List Oper} {o : Oper} {a : Act} {Q : Exit → Act → World → Prop} (hgd : o.guard = none) (s x : Operand)
    (ho : o.op = .call { callee := .builtin .append, args := #[s, x], argTypes := #[46, 46] })
    (base : Nat) (w : World) (v : Value) (n : Nat) (xs : List Int) (hs : a.eval s = v) (hown : w.ownsRow base 5 1 v n (xs.map (Value.int .u8)))
    (sv : Value) (zs : List Int) (hx : a.eval x = sv) (hr : Reads w .u8 sv zs) (h63 : n + zs.length ≤ 140737488355328) (hbase : base ≤ w.heap.size)
    (h : ∀ v' w', w'.ownsRow base 5 1 v' (n + zs.length) ((xs ++ zs).map (Value.int .u8)) → w.grownBy w' v.ownBlock → wpQuiet Try.prog ops (fun w3 => ∃ n, w3 = w'.drewN n) (fun a3 => ∀ w3, (∃ n, w3 = w'.drewN n) → Q .normal a3 w3) rest (a.put o.dst v')) :
    MidAt Try.prog ops Q o rest a w := by
  intro K hK
  obtain ⟨v', w', hrun, h1, h2⟩ := run_append_octets w base o.type v n xs hown sv zs hr h63 hbase
  simp only [Region.wanted, hgd, if_true]
  unfold Oper.wp execOp
  simp only [ho, resolve, invoke, builtin, Sem.run_bind, Sem.run_pure, Result.andThen_ok, List.map_toArray, List.map_cons, List.map_nil, hs, hx, hrun]
  exact hK _ _ (h v' w' h1 h2)

def PullPost (I : QuId) (L : List QCh) (R : Nat) (F G : Nat → Prop) (n : Nat) (w : World) : Ending → World → Prop := fun e w' =>
  ∃ v, e = .returned (.tuple #[v, .int .i64 0]) ∧ w'.ownsRow w.heap.size 5 1 v n (((qCont L).take n).map (Value.int .u8)) ∧ QBPost w w' I (dropQ L.length 0 (pullL n L)) R F G

set_option maxHeartbeats 4000000 in
set_option maxRecDepth 100000 in
theorem pull_any (I : QuId) (L : List QCh) (R : Nat) (bst : BookSt) (F G : Nat → Prop) (n : Nat) (w : World) (h : QB w I L R bst F G) (hn : n ≤ qsum QCh.len L) :
    Calls Try.prog 28 #[.pointer (some ⟨I.r, 0, none⟩), .int .i64 n] w (PullPost I L R F G n w) := by
  obtain ⟨cv, hm⟩ := h.qu
  have AB0 := Lib.hid h
  have HLEN := Lib.hid (qLen_any I F L cv w hm h.ok)
  have hsum := h.ok.sum L.length
  rw [List.take_length] at hsum
  obtain ⟨ca, cc, hcv, g1, g2, _⟩ := hm.chs
  subst hcv
  have c6 : w.cell? ⟨I.r, 6, none⟩ = some (.bool false) := by rw [cell_of hm.self]; rfl
  have HM := Lib.hid hm
  have HOK := Lib.hid (fun c hc => h.ok.2 c hc : ∀ c ∈ L, ChOk c)
  have b63 := h.ok.1
  have hS : (0 : Int) ≤ n := by omega
  have HRS := Lib.hid hn
  generalize hNL : qsum QCh.len L = S at *
  clear h hm
  obtain ⟨r, bp, o, pk, ps, pm, sz⟩ := I
  dsimp only at *
  go_enter Try.func28, Try.ntmps28
  go_wp2_with fail
  refine HLEN.out.mono ?_
  rintro e w1 ⟨rfl, hb1⟩
  have B1 := Lib.hid hb1
  have M1 := Lib.hid (HM.out.below hb1)
  have hs1 := hb1.size
  have d7 : w1.cell? ⟨r, 7, none⟩ = some (.slice ca L.length cc) := by rw [cell_of M1.out.self]; rfl
  clear hb1
  go_wp2_with fail
  refine (within_ring_yes _ _ _ _ (by omega) (by omega)).mono ?_
  rintro e w2 ⟨rfl, rfl⟩
  go_wp2_with fail
  go_loopw [6, 7, 8, 9, 26] (fun out _ _ _ i wr => ∃ k : Nat, k ≤ L.length ∧ i = .int .i64 k ∧ QuMem wr F ⟨r, bp, o, pk, ps, pm, sz⟩ (pullAt n k L) (.slice ca L.length cc) ∧ wr.ownsRow w1.heap.size 5 1 out (pullO n (L.take k)).length ((pullO n (L.take k)).map (Value.int .u8)) ∧ Touch (fun j => (Value.slice ca L.length cc).ownBlock = some j) w1 wr) (fun _ _ _ _ i _ => L.length - (intOf i).toNat)
  case atStart => exact ⟨0, Nat.zero_le _, rfl, by rw [pullAt_zero]; exact M1.out, World.ownsRow_nil _ _ _ _, Touch.refl _ _⟩
  case round =>
    obtain ⟨k, hk, rfl, hmr, how, ht⟩ := hrel
    have hsz := ht.size
    have HMR := Lib.hid hmr
    have OW := Lib.hid how
    have HT := Lib.hid ht
    have e7 : wr.cell? ⟨r, 7, none⟩ = some (.slice ca L.length cc) := by rw [cell_of hmr.self]; rfl
    obtain ⟨oa, oc, rfl⟩ := qrow_shape how
    have hol : Hid ((pullO n (L.take k)).length ≤ n) := Lib.hid (by rw [pullO_eq _ _ (fun c hc => HOK.out c (List.mem_of_mem_take hc)), List.length_take]; omega)
    clear how ht
    by_cases hlt : k < L.length
    · obtain ⟨ca', cc', he, _, _, hcc⟩ := hmr.chs
      obtain ⟨b, o', ha', d0, d1, d2⟩ := hcc k (by rw [pullAt_len]; exact hlt)
      simp only [Value.slice.injEq] at he
      rw [← he.1] at ha'
      obtain ⟨g, cap, hsh⟩ : ∃ g cap, Value.slice ca L.length cc = .slice (some ⟨g, 0, none⟩) L.length cap := by
        rcases hmr.crow.2 with ⟨h1, h2⟩ | ⟨g, cap', cur, h1, _⟩
        · rw [pullAt_len] at h2; omega
        · exact ⟨g, cap', by rw [h1, pullAt_len]⟩
      simp only [Value.slice.injEq, true_and] at hsh
      obtain ⟨rfl, rfl⟩ := hsh
      simp only [Option.some.injEq, Addr.mk.injEq, and_true] at ha'
      obtain ⟨rfl, rfl⟩ := ha'
      clear he
      rw [pullAt_get n k L hlt] at d0 d1 d2
      have hin := qgetD_in hlt
      obtain ⟨q1, q2, q3⟩ := HOK.out _ hin
      have PS := Lib.hid (pullAt_step n k L HOK.out hlt)
      have PO := Lib.hid (pullO_step L n k HOK.out hlt)
      have hbr := Lib.hid (hmr.mem ((pullAt n k L).getD k QCh.zero) (qgetD_in (by rw [pullAt_len]; exact hlt)))
      rw [pullAt_get n k L hlt] at hbr
      have SF := Lib.hid (fun (w' : World) (t : Nat) (h : QuMem w' F ⟨r, bp, o, pk, ps, pm, sz⟩ (pullAt n k L) (.slice (some ⟨g, 0, none⟩) L.length cc)) => (QuMem.setFr (L := pullAt n k L) (by rw [pullAt_len]; exact h) k t (by rw [pullAt_len]; exact hlt)))
      rw [pullAt_get n k L hlt, pullAt_len] at SF
      clear hmr hin hcc
      generalize L.getD k QCh.zero = x at *
      obtain ⟨xb, xos, xf, xt⟩ := x
      generalize hO : pullO n (L.take k) = O at *
      have hol' := hol.out
      dsimp only at q1 q2 q3 d0 d1 d2
      rw [Nat.zero_add] at d0 d1 d2
      generalize hxl : xos.length = xl at *
      by_cases hA : n - O.length ≤ xt - xf
      · have eT : min (n - O.length) (QCh.len ⟨xb, xos, xf, xt⟩) = n - O.length := Nat.min_eq_left hA
        have eI : (min ((n : Int) - O.length) ((xt : Int) - xf)) = ((n - O.length : Nat) : Int) := by omega
        go_wp2_with fail
        go_quiet (fail)
        go_wp2_with fail
        rw [show (n : Int) - O.length = ((n - O.length : Nat) : Int) by omega]
        rw [eT] at PS PO
        have hT1 : O.length + (n - O.length) ≤ n := by omega
        have hT2 : xf + (n - O.length) ≤ xt := by omega
        generalize n - O.length = T at *
        clear eT eI
        refine wp_region_mid 16 _ (by kernel_rfl) (by kernel_rfl) rfl ?_
        simp only [List.take_succ_cons, List.take_zero, List.drop_succ_cons, List.drop_zero]
        repeat (go_big_quiet_step (fail))
        refine wpQuiet_nil ?_
        intro _ hw'
        obtain ⟨nq4, rfl⟩ := hw'
        have OWq : ((wr.drewN nq).drewN nq4).ownsRow w1.heap.size 5 1 (.slice oa O.length oc) O.length (O.map (Value.int .u8)) := OW.out
        have BRq : byteRow ((wr.drewN nq).drewN nq4) xb xos := hbr.out.1
        have hTl : ((xos.drop xf).take T).length = T := by rw [List.length_take, List.length_drop]; omega
        refine mid_append rfl (.tmp 49) (.tmp 64) rfl w1.heap.size _ _ _ O rfl OWq _ ((xos.drop xf).take T) rfl ?hr (by rw [hTl]; omega) hsz ?_
        case hr =>
          generalize hX : Act.eval _ _ = X
          unfold Act.eval at hX
          simp at hX
          rw [← hX]
          exact qreads_part BRq xf T _ (by omega) (by omega) _ (fun h0 => if_neg (by omega))
        intro v' w5 hown hgr
        have T5 := (((HT.out.drewN nq).drewN nq4).grown hgr (fun j hj => Or.inr (OW.out.lt j hj).1))
        have M5 := HMR.out.same (w' := w5) (fun j hj hlt' => (hgr.block j hlt' (fun e => by have := (OW.out.lt j e.symm).1; have := AB0.out.fl j hj; omega)))
        have P5 := Lib.hid (fun q => And.intro (T5.drewN q) (And.intro (M5.below (bdrewN (Below.refl _ _) q)) (show (w5.drewN q).ownsRow w1.heap.size 5 1 v' (O.length + ((xos.drop xf).take T).length) ((O ++ (xos.drop xf).take T).map (Value.int .u8)) from hown)))
        have hb5 : ∀ j, F j → j < wr.heap.size → w5.heap[j]? = wr.heap[j]? := fun j hj hlt' => (hgr.block j hlt' (fun e => by have := (OW.out.lt j e.symm).1; have := AB0.out.fl j hj; omega))
        have HB5 := Lib.hid hb5
        clear T5 M5 hown hgr OWq BRq hb5
        go_simp
        repeat (go_big_quiet_step (fail))
        refine wpQuiet_nil ?_
        intro nq5
        obtain ⟨T6, M6, R6⟩ := P5.out nq5
        have hb6 : ∀ j, F j → j < wr.heap.size → (w5.drewN nq5).heap[j]? = wr.heap[j]? := HB5.out
        clear P5 HB5
        generalize w5.drewN nq5 = w6 at *
        obtain ⟨cur, hcur⟩ := row_block M6.crow rfl
        have gF := M6.fc g rfl
        have glt := (HMR.out.crow.lt g rfl).2
        have bg := hb6 g gF glt
        have d1' : w6.cell? ⟨g, k * 3 + 1, none⟩ = some (.int .i64 xf) := by rw [← d1]; simp only [World.cell?, bg]
        have fr' : w6.frozen? ⟨g, k * 3 + 1, none⟩ = false := free_of hcur _
        have SS := SF.out w6 T M6
        have T7 := T6.setCell (p := ⟨g, k * 3 + 1, none⟩) (Or.inl rfl) (.int .i64 ((xf + T : Nat) : Int))
        rw [← PS.out] at SS
        have FIN := Lib.hid (And.intro SS (And.intro T7 (ownsRow_setCell_other R6 (a := ⟨g, k * 3 + 1, none⟩) (fun e => by have := (R6.lt g e).1; have := AB0.out.fl g gF; omega) (.int .i64 ((xf + T : Nat) : Int)))))
        have eN : ((xf + T : Nat) : Int) = (xf : Int) + T := by omega
        simp only [eN, hTl] at FIN
        clear SS T7 T6 M6 R6 hcur bg gF glt eN
        go_wp2_with fail
        go_round
        case rel =>
          refine ⟨k + 1, by omega, by go_num, FIN.out.1, ?_, FIN.out.2.1⟩
          rw [PO.out, List.length_append, hTl]
          exact FIN.out.2.2
        case measure => simp [intOf]; omega
      · have eT : min (n - O.length) (QCh.len ⟨xb, xos, xf, xt⟩) = xt - xf := Nat.min_eq_right (by unfold QCh.len; dsimp only; omega)
        have eI : (min ((n : Int) - O.length) ((xt : Int) - xf)) = ((xt - xf : Nat) : Int) := by omega
        go_wp2_with fail
        go_quiet (fail)
        go_wp2_with fail
        rw [show (xt : Int) - xf = ((xt - xf : Nat) : Int) by omega]
        rw [eT] at PS PO
        have hT1 : O.length + (xt - xf) ≤ n := by omega
        have hT2 : xf + (xt - xf) ≤ xt := by omega
        generalize xt - xf = T at *
        clear eT eI
        refine wp_region_mid 16 _ (by kernel_rfl) (by kernel_rfl) rfl ?_
        simp only [List.take_succ_cons, List.take_zero, List.drop_succ_cons, List.drop_zero]
        repeat (go_big_quiet_step (fail))
        refine wpQuiet_nil ?_
        intro _ hw'
        obtain ⟨nq4, rfl⟩ := hw'
        have OWq : ((wr.drewN nq).drewN nq4).ownsRow w1.heap.size 5 1 (.slice oa O.length oc) O.length (O.map (Value.int .u8)) := OW.out
        have BRq : byteRow ((wr.drewN nq).drewN nq4) xb xos := hbr.out.1
        have hTl : ((xos.drop xf).take T).length = T := by rw [List.length_take, List.length_drop]; omega
        refine mid_append rfl (.tmp 49) (.tmp 64) rfl w1.heap.size _ _ _ O rfl OWq _ ((xos.drop xf).take T) rfl ?hr (by rw [hTl]; omega) hsz ?_
        case hr =>
          generalize hX : Act.eval _ _ = X
          unfold Act.eval at hX
          simp at hX
          rw [← hX]
          exact qreads_part BRq xf T _ (by omega) (by omega) _ (fun h0 => if_neg (by omega))
        intro v' w5 hown hgr
        have T5 := (((HT.out.drewN nq).drewN nq4).grown hgr (fun j hj => Or.inr (OW.out.lt j hj).1))
        have M5 := HMR.out.same (w' := w5) (fun j hj hlt' => (hgr.block j hlt' (fun e => by have := (OW.out.lt j e.symm).1; have := AB0.out.fl j hj; omega)))
        have P5 := Lib.hid (fun q => And.intro (T5.drewN q) (And.intro (M5.below (bdrewN (Below.refl _ _) q)) (show (w5.drewN q).ownsRow w1.heap.size 5 1 v' (O.length + ((xos.drop xf).take T).length) ((O ++ (xos.drop xf).take T).map (Value.int .u8)) from hown)))
        have hb5 : ∀ j, F j → j < wr.heap.size → w5.heap[j]? = wr.heap[j]? := fun j hj hlt' => (hgr.block j hlt' (fun e => by have := (OW.out.lt j e.symm).1; have := AB0.out.fl j hj; omega))
        have HB5 := Lib.hid hb5
        clear T5 M5 hown hgr OWq BRq hb5
        go_simp
        repeat (go_big_quiet_step (fail))
        refine wpQuiet_nil ?_
        intro nq5
        obtain ⟨T6, M6, R6⟩ := P5.out nq5
        have hb6 : ∀ j, F j → j < wr.heap.size → (w5.drewN nq5).heap[j]? = wr.heap[j]? := HB5.out
        clear P5 HB5
        generalize w5.drewN nq5 = w6 at *
        obtain ⟨cur, hcur⟩ := row_block M6.crow rfl
        have gF := M6.fc g rfl
        have glt := (HMR.out.crow.lt g rfl).2
        have bg := hb6 g gF glt
        have d1' : w6.cell? ⟨g, k * 3 + 1, none⟩ = some (.int .i64 xf) := by rw [← d1]; simp only [World.cell?, bg]
        have fr' : w6.frozen? ⟨g, k * 3 + 1, none⟩ = false := free_of hcur _
        have SS := SF.out w6 T M6
        have T7 := T6.setCell (p := ⟨g, k * 3 + 1, none⟩) (Or.inl rfl) (.int .i64 ((xf + T : Nat) : Int))
        rw [← PS.out] at SS
        have FIN := Lib.hid (And.intro SS (And.intro T7 (ownsRow_setCell_other R6 (a := ⟨g, k * 3 + 1, none⟩) (fun e => by have := (R6.lt g e).1; have := AB0.out.fl g gF; omega) (.int .i64 ((xf + T : Nat) : Int)))))
        have eN : ((xf + T : Nat) : Int) = (xf : Int) + T := by omega
        simp only [eN, hTl] at FIN
        clear SS T7 T6 M6 R6 hcur bg gF glt eN
        go_wp2_with fail
        go_round
        case rel =>
          refine ⟨k + 1, by omega, by go_num, FIN.out.1, ?_, FIN.out.2.1⟩
          rw [PO.out, List.length_append, hTl]
          exact FIN.out.2.2
        case measure => simp [intOf]; omega
    · obtain rfl : k = L.length := by omega
      have hfull : (pullO n L).length = n := by rw [pullO_eq _ _ HOK.out, List.length_take, qCont_len HOK.out, hNL]; omega
      rw [List.take_length] at OW
      rw [pullO_eq _ _ HOK.out] at OW hfull
      rw [hfull] at OW
      rw [pullAt_all] at hmr
      have AB1 := AB0.out.below B1.out
      have QBr : QB wr ⟨r, bp, o, pk, ps, pm, sz⟩ (pullL n L) R bst F G :=
        { qu := ⟨_, hmr⟩, bk := AB1.bk.same (HT.out.same (fun j hj _ x => AB0.out.dis j (HM.out.fc j x) hj)), dis := AB1.dis
          fl := fun j hj => by have := AB1.fl j hj; omega
          gl := fun j hj => by have := AB1.gl j hj; omega
          own := AB1.own, pol := AB1.pol, sz := AB1.sz, acc := by rw [pullL_room]; exact AB1.acc
          bud := AB1.bud, tot := by rw [pullL_room]; exact AB1.tot
          ent := AB1.ent, ok := ⟨by rw [pullL_length]; exact b63, pullL_ok L n HOK.out⟩, room := by rw [pullL_room]; exact AB1.room }
      have DR := drop_any ⟨r, bp, o, pk, ps, pm, sz⟩ (pullL n L) R bst F G wr QBr
      rw [pullL_length] at DR
      have HDR := Lib.hid DR
      rw [List.take_length, pullO_eq _ _ HOK.out, hfull]
      clear QBr DR hlt hk hmr AB1 hol
      go_wp2_with fail
      refine HDR.out.mono ?_
      rintro e w9 ⟨rfl, bst', F', G', p1, p2, p3, p4⟩
      have P1 := Lib.hid p1
      have P4 := Lib.hid p4
      clear p1 p4
      go_wp2_with fail
      go_ret2
      refine ⟨_, rfl, ?_, bst', F', G', P1.out, ?_, ?_, ?_⟩
      · refine qrow_low (ownsRow_same OW.out (fun j hj => P4.out.block j (OW.out.lt j hj).2 (fun x => ?_))) hs1
        have := (OW.out.lt j hj).1
        rcases x with x | x
        · have := AB0.out.fl j x; omega
        · have := AB0.out.gl j x; omega
      · exact fun j hj => (p2 j hj).imp id (fun x => by omega)
      · exact fun j hj => (p3 j hj).imp id (fun x => by omega)
      · exact ((Touch.of_below B1.out).then (HT.out.mono (fun j x => Or.inl (HM.out.fc j x)))).then P4.out

end Go.Proofs.Ytfolidedcejafaa
