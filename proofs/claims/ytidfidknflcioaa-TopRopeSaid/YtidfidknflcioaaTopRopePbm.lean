/-
  Replace of a rope. Conditions: numbers in their bounds.
-/
import Derived.Test.YtidfidknflcioaaTopRopePbl
namespace Go.Proofs.Ytidfidknflcioaa
open Go.RowKit
set_option linter.unusedVariables false

theorem Reads.past' {w w' : World} {k : IntKind} {v : Value} {zs : List Int} {F : Nat → Prop} (h : Reads w k v zs) (ht : Touch F w w') (hF : zs ≠ [] → ∀ b, v.ownBlock = some b → ¬ F b) : Reads w' k v zs := by
  obtain ⟨a, cap, rfl, hl, hc⟩ := h
  refine ⟨a, cap, rfl, hl, fun hne => ?_⟩
  obtain ⟨b, o, rfl, hcell⟩ := hc hne
  refine ⟨b, o, rfl, fun j hj => ?_⟩
  have h1 := hcell j hj
  exact (cell_sameB (ht.block b (lt_of_cell h1) (hF hne b rfl)) _).trans h1
theorem leaves_le : ∀ l : List Lm, (∀ x ∈ l, 1 ≤ x.n) → l.length ≤ (totS (l.map Lm.sz)).1 := by
  intro l
  induction l with
  | nil => intro _; simp
  | cons x l ih =>
    intro hx
    have := ih (fun y hy => hx y (by simp [hy]))
    have := hx x (by simp)
    simp only [totS, List.map_cons, List.sum_cons, List.length_cons, Lm.sz] at *
    omega
def repE (p : RPar) (l : List Sz) (f t : Int) (n : Nat) : Int :=
  if betE (totS l).1 f t = 0 then (if 50000 - (((totS l).1 : Int) - (t - f)) < (n : Int) then 4 else askE (roomS l) (roomS (insS p (rmS p l f.toNat t.toNat) f.toNat n))) else 2

def RepPost (I : RopI) (L : List Lm) (F G : Nat → Prop) (f t : Int) (os : List Int) (w : World) : Ending → World → Prop := fun e w' =>
  e = .returned (.int .i64 (repE I.p (L.map Lm.sz) f t os.length)) ∧ ∃ L' lv' bst' F' G', RB w' I L' lv' bst' F' G' ∧ L'.map Lm.lc = (if repE I.p (L.map Lm.sz) f t os.length = 0 then replC I.p (L.map Lm.lc) f.toNat t.toNat os else L.map Lm.lc) ∧
    (∀ k, F' k → F k ∨ w.heap.size ≤ k) ∧ (∀ k, G' k → G k ∨ w.heap.size ≤ k) ∧ Touch (fun k => F k ∨ G k) w w'

theorem RepPost.none {I : RopI} {L : List Lm} {lv : Value} {bst : BookSt} {F G : Nat → Prop} {f t : Int} {os : List Int} {w w' : World} {E : Int} (h : RB w I L lv bst F G) (hb : Below w.heap.size w w') (hE : repE I.p (L.map Lm.sz) f t os.length = E) (h0 : E ≠ 0) : RepPost I L F G f t os w (.returned (.int .i64 E)) w' :=
  ⟨by rw [hE], L, lv, bst, F, G, h.same hb, by rw [if_neg (by rw [hE]; exact h0)], fun k hk => Or.inl hk, fun k hk => Or.inl hk, Touch.of_below hb⟩

set_option maxHeartbeats 2000000 in
set_option maxRecDepth 100000 in
theorem replaceR_any (I : RopI) (L : List Lm) (lv : Value) (bst : BookSt) (F G : Nat → Prop) (f t : Int) (a : Option Addr) (n c : Nat) (os : List Int) (w : World) (h : RB w I L lv bst F G) (hr : Reads w .u8 (.slice a n c) os) (hn : os.length = n) (hnb : n ≤ 281474976710656) (hbz : bytes os) (hnG : os ≠ [] → ∀ b, (Value.slice a n c).ownBlock = some b → ¬ G b) :
    Calls Try.prog 8 #[.pointer (some ⟨I.r, 0, none⟩), .int .i64 f, .int .i64 t, .slice a n c] w (RepPost I L F G f t os w) := by
  have H := Lib.hid h
  have HR := Lib.hid hr
  have HN := Lib.hid hn
  have HBZ := Lib.hid hbz
  have HNG := Lib.hid hnG
  have h60 : L.length ≤ 60000 := by have := h.len; omega
  have hso := h.szok
  have hoct := h.oct
  have BT := Lib.hid (between_any I L lv F f t w h.rm h60 hso (by omega))
  have LEN := Lib.hid (fun W (hW : Below w.heap.size w W) => len_any I L lv F W (h.rm.below hW) h60 hso)
  obtain ⟨N, hN⟩ : ∃ N, (totS (L.map Lm.sz)).1 = N := ⟨_, rfl⟩
  rw [hN] at BT LEN hoct
  have HNN := Lib.hid hN
  have HSO := Lib.hid hso
  clear h hr hn hN hso
  by_cases hb : 0 ≤ f ∧ f ≤ N ∧ f ≤ t ∧ t ≤ N
  · have hbe : betE N f t = 0 := if_pos hb
    rw [hbe] at BT
    obtain ⟨fn, rfl⟩ : ∃ m : Nat, f = m := ⟨f.toNat, by omega⟩
    obtain ⟨tn, rfl⟩ : ∃ m : Nat, t = m := ⟨t.toNat, by omega⟩
    have HBE := Lib.hid hbe
    clear hbe
    go_enter Try.func8, Try.ntmps8
    go_wp2_with fail
    refine BT.out.mono ?_
    rintro e w1 ⟨rfl, hb1⟩
    have B1 := Lib.hid hb1
    clear hb1 BT
    go_wp2_with fail
    refine (LEN.out _ B1.out).mono ?_
    rintro e w2 ⟨rfl, hb2⟩
    have B2 := Lib.hid (B1.out.trans (hb2.mono B1.out.size))
    clear hb2 LEN B1
    by_cases hbig : 50000 - ((N : Int) - ((tn : Int) - fn)) < (n : Int)
    · have hbig' : decide (50000 - ((N : Int) - ((tn : Int) - fn)) < (n : Int)) = true := decide_eq_true hbig
      have FIN := Lib.hid (RepPost.none (f := (fn : Int)) (t := (tn : Int)) (os := os) H.out B2.out (E := 4) (by unfold repE; rw [HNN.out, if_pos HBE.out, HN.out, if_pos hbig]) (by decide))
      go_wp2_with fail
      go_ret
      exact FIN.out
    · have hbig' : decide (50000 - ((N : Int) - ((tn : Int) - fn)) < (n : Int)) = false := decide_eq_false hbig
      have hn50 : n ≤ 50000 := by omega
      have SZ := Lib.hid (sizes_any I L lv F w2 (H.out.rm.below B2.out) h60)
      go_wp2_with fail
      refine SZ.out.mono ?_
      rintro e w3 ⟨v3, rfl, hrow3, hb3⟩
      have B3 := Lib.hid (B2.out.trans (hb3.mono B2.out.size))
      have AR := Lib.hid (afterRemove_any I.r I.p v3 (L.map Lm.sz) fn tn w3 (H.out.rm.below B3.out).par H.out.pok (SzIn.row hrow3) HSO.out (by omega) (by rw [HNN.out]; omega) (by rw [HNN.out]; omega))
      clear SZ hrow3 hb3 B2
      go_wp2_with fail
      refine AR.out.mono ?_
      rintro e w4 ⟨v4, rfl, hv4, hb4⟩
      have B4 := Lib.hid (B3.out.trans (hb4.mono B3.out.size))
      have MS := Lib.hid (map_szC (fun y hy => (H.out.rm.mem y hy).2.1) : (L.map Lm.lc).map szC = L.map Lm.sz)
      have RT := Lib.hid (show (totS (rmS I.p (L.map Lm.sz) fn tn)).1 = N - (tn - fn) by
        rw [← MS.out, ← delC_sz, ← octC_len, octC_del I.p _ fn tn (by omega), List.length_append, List.length_take, List.length_drop, octC_len, MS.out, HNN.out]
        omega)
      have LE := Lib.hid (show ∀ q ∈ L.map Lm.sz, q.1 ≤ I.p.leaf by
        intro q hq
        obtain ⟨y, hy, rfl⟩ := List.mem_map.1 hq
        exact (H.out.each y hy).2)
      have RO := Lib.hid (rmS_ok (f := fn) (t := tn) H.out.pok HSO.out)
      have IO := Lib.hid (insS_ok (a := fn) (n := n) H.out.pok RO.out (Nat.le_trans rmS_len (by rw [List.length_map]; exact h60)) (rmS_le LE.out) hn50)
      have AI := Lib.hid (afterInsert_any I.r I.p v4 (rmS I.p (L.map Lm.sz) fn tn) fn n w4 (H.out.rm.below B4.out).par H.out.pok hv4 RO.out (by rw [RT.out]; omega) (by rw [RT.out]; omega) hn50)
      clear AR hv4 hb4 B3
      go_wp2_with fail
      refine AI.out.mono ?_
      rintro e w5 ⟨v5, rfl, hv5, hb5⟩
      have B5 := Lib.hid (B4.out.trans (hb5.mono B4.out.size))
      have AK := Lib.hid (ask_any I L lv bst F G v5 _ w5 (H.out.same B5.out) hv5 IO.out)
      have EE := Lib.hid (show repE I.p (L.map Lm.sz) (fn : Int) (tn : Int) os.length = askE (roomS (L.map Lm.sz)) (roomS (insS I.p (rmS I.p (L.map Lm.sz) fn tn) fn n)) by
        unfold repE; rw [HNN.out, if_pos HBE.out, HN.out, if_neg (by omega)]; rfl)
      clear AI hv5 hb5 B4
      obtain ⟨cur, hcur⟩ : ∃ cur, roomS (L.map Lm.sz) = cur := ⟨_, rfl⟩
      obtain ⟨next, hnext⟩ : ∃ next, roomS (insS I.p (rmS I.p (L.map Lm.sz) fn tn) fn n) = next := ⟨_, rfl⟩
      rw [hcur, hnext] at AK EE
      have HCUR := Lib.hid (And.intro hcur hnext)
      clear hcur hnext
      go_wp2_with fail
      refine AK.out.mono ?_
      rintro e w6 ⟨rfl, ⟨G', hbk, hG'⟩, ht6, hrm6⟩
      have W56 : w.heap.size ≤ w6.heap.size := Nat.le_trans B5.out.size ht6.size
      have GL : ∀ k, G' k → k < w6.heap.size := fun k hk => (hG' k hk).elim (fun h => Nat.lt_of_lt_of_le (H.out.gl k h) W56) (fun h => h.2)
      have GW : ∀ k, G' k → G k ∨ w.heap.size ≤ k := fun k hk => (hG' k hk).imp id (fun h => Nat.le_trans B5.out.size h.1)
      have DI : ∀ k, F k → ¬ G' k := fun k hk hg => by
        rcases GW k hg with h | h
        · exact H.out.dis k hk h
        · have := H.out.fl k hk; omega
      have TT : Touch (fun k => F k ∨ G k) w w6 := ((Touch.of_below B5.out).then ht6).mono (fun k hk => Or.inr hk)
      have hsp := (HCUR.out.1 ▸ H.out.acc : bst.acc 1 = some (10000000, ((cur : Nat) : Int), 0))
      by_cases hE : askE cur next = 0
      · have OK := Lib.hid (askSt_ok hsp H.out.bud (HCUR.out.1 ▸ H.out.tot) H.out.ent (HCUR.out.1 ▸ H.out.room) hE)
        have HE2 := Lib.hid hE
        have HR6 := Lib.hid (Reads.past' (HR.out.below B5.out rfl) ht6 HNG.out)
        have CL := Lib.hid (clone_byte (.slice a n c) os w6 HR6.out (by rw [HN.out]; omega))
        have RM6 := Lib.hid hrm6
        have BK6 := Lib.hid hbk
        have GG := Lib.hid (And.intro GL (And.intro GW (And.intro DI TT)))
        rw [hE]
        clear hE hbk hG' ht6 hrm6 GL GW DI TT hsp
        go_wp2_with fail
        refine CL.out.mono ?_
        rintro e w7 ⟨v7, rfl, hown7, hb7⟩
        obtain ⟨za, zc, rfl⟩ := wrow_sh hown7
        have R7 := Lib.hid (Reads.own hown7 (by rw [HN.out]; omega))
        have OWN7 := Lib.hid hown7
        obtain ⟨a8, c8', e8, hz1, hz2, _⟩ := (Seg.of_row hown7 (fun u hu => by obtain ⟨y', _, rfl⟩ := List.mem_map.1 hu; rfl)).2.2
        simp only [Value.slice.injEq] at e8
        obtain ⟨rfl, _, rfl⟩ := e8
        have B67 := Lib.hid hb7
        have RMV := Lib.hid (removeR_any I L lv F fn tn w7 ⟨RM6.out.below hb7, H.out.pok, fun k hk => Nat.lt_of_lt_of_le (H.out.fl k hk) (Nat.le_trans W56 hb7.size), H.out.len, H.out.oct, H.out.each⟩ (by omega) (by rw [HNN.out]; omega))
        clear hown7 hb7 CL
        go_wp2_with fail
        refine RMV.out.mono ?_
        rintro e w8 ⟨rfl, F1, lv1, L1, hm1, hl1, hF1, hF1l, ht8, he1⟩
        have OC1 : (totS (L1.map Lm.sz)).1 = N - (tn - fn) := by rw [← map_szC (fun y hy => (hm1.mem y hy).2.1), hl1, delC_sz, MS.out]; exact RT.out
        have ll1 := leaves_le L1 (fun x hx => (he1 x hx).1)
        have R8 := Reads.past' R7.out ht8 (fun _ b hb' hF => by
          have h1 := (OWN7.out.lt b hb').1
          have h2 := H.out.fl b hF
          omega)
        have INS := Lib.hid (insertR_any I L1 lv1 F1 fn za os.length zc os w8 ⟨hm1, H.out.pok, hF1l, by omega, by omega, he1⟩ (by omega) R8 rfl (by rw [HN.out]; exact hn50) ⟨hz1, hz2⟩ HBZ.out)
        have P8 := Lib.hid (And.intro hl1 (And.intro hF1 ht8))
        clear hm1 hl1 hF1 hF1l ht8 he1 R8 RMV
        go_wp2_with fail
        refine INS.out.mono ?_
        rintro e w9 ⟨rfl, F2, lv2, L2, hm2, hl2, hF2, hF2l, ht9, he2⟩
        have hle7 := hF2
        have ok2 := fun y hy => (hm2.mem y hy).2.1
        have SL1 : (L1.map Lm.lc).map szC = rmS I.p (L.map Lm.sz) fn tn := by rw [P8.out.1, delC_sz, MS.out]
        have T1 : (totS ((L1.map Lm.lc).map szC)).1 = N - (tn - fn) := by rw [SL1]; exact RT.out
        have S2 : L2.map Lm.sz = insS I.p (rmS I.p (L.map Lm.sz) fn tn) fn n := by
          rw [← map_szC ok2, hl2, insC_sz I.p _ fn os H.out.pok.leaf.1 (fun x hx => by
            by_cases hnil : L1.map Lm.lc = []
            · rw [hnil] at T1 ⊢
              have h0 : fn = 0 := by have h1 : (0 : Nat) = N - (tn - fn) := T1; omega
              rw [h0]
              exact Nat.zero_le _
            · have h1 := (endsS_in ((L1.map Lm.lc).map szC) fn (by rw [T1]; omega) (by simpa using hnil)).2
              rw [getD_sz, hx] at h1
              exact h1), SL1, HN.out]
        have RS : roomS (L2.map Lm.sz) = next := by rw [S2]; exact HCUR.out.2
        have OC2 : (totS (L2.map Lm.sz)).1 ≤ 50000 := by
          rw [← map_szC ok2, hl2, ← octC_len, octC_ins I.p _ fn os H.out.pok.leaf.1 (by rw [octC_len, T1]; omega), List.length_append, List.length_append, List.length_take, List.length_drop, octC_len, T1, HN.out]
          omega
        obtain ⟨GL, GW, DI, TT⟩ := GG.out
        have T79 := P8.out.2.2.trans ht9 P8.out.2.1
        have T69 : Touch F w6 w9 := (Touch.of_below B67.out).then T79
        have B6 := B67.out.size
        have S78 := P8.out.2.2.size
        have FW : ∀ k, F2 k → F k ∨ w6.heap.size ≤ k := fun k hk => by
          rcases hF2 k hk with h | h
          · rcases P8.out.2.1 k h with h | h
            · exact Or.inl h
            · exact Or.inr (Nat.le_trans B6 h)
          · exact Or.inr (Nat.le_trans B6 (Nat.le_trans S78 h))
        have FIN : Hid (RepPost I L F G (fn : Int) (tn : Int) os w (.returned (.int .i64 0)) w9) := Lib.hid ⟨by rw [EE.out, HE2.out], L2, lv2, askSt bst cur next, F2, G', ⟨hm2, BK6.out.same (fun k hk hl => T69.block k hl (fun hf => DI k hf hk)), fun k hk hg => (FW k hk).elim (fun h => DI k h hg) (fun h => by have := GL k hg; omega), hF2l, fun k hk => Nat.lt_of_lt_of_le (GL k hk) T69.size, H.out.own, H.out.pok, by rw [RS]; exact OK.out.1, OK.out.2.1, by rw [RS]; exact OK.out.2.2.1, OK.out.2.2.2.1, by rw [RS]; exact OK.out.2.2.2.2, OC2, he2⟩,
          by rw [if_pos (by rw [EE.out, HE2.out]), hl2, P8.out.1]; rfl, fun k hk => (FW k hk).imp id (fun h => Nat.le_trans W56 h), GW, TT.then (T69.mono (fun k hk => Or.inl hk))⟩
        clear hm2 hl2 hF2 hF2l ht9 he2 hle7 ok2 SL1 T1 S2 RS OC2 GL GW DI TT T79 T69 FW
        go_wp2_with fail
        go_ret
        exact FIN.out
      · have HE := Lib.hid hE
        have hne : (askE cur next == 0) = false := by simpa using hE
        have FIN : Hid (RepPost I L F G (fn : Int) (tn : Int) os w (.returned (.int .i64 (askE cur next))) w6) := Lib.hid ⟨by rw [EE.out], L, lv, bst, F, G', ⟨hrm6, by rw [askSt_no hE] at hbk; exact hbk, DI, fun k hk => Nat.lt_of_lt_of_le (H.out.fl k hk) W56, GL, H.out.own, H.out.pok, H.out.acc, H.out.bud, H.out.tot, H.out.ent, H.out.room, H.out.oct, H.out.each⟩, by rw [if_neg (by rw [EE.out]; exact hE)], fun k hk => Or.inl hk, GW, TT⟩
        obtain ⟨E, hEE⟩ : ∃ E, askE cur next = E := ⟨_, rfl⟩
        rw [hEE] at FIN hne ⊢
        clear hE hbk hG' ht6 hrm6 GL GW DI TT hsp hEE
        go_wp2_with fail
        go_ret
        exact FIN.out
  · have hbe : betE N f t = 2 := if_neg hb
    rw [hbe] at BT
    have FIN := Lib.hid (fun w' (hb' : Below w.heap.size w w') => RepPost.none (f := f) (t := t) (os := os) H.out hb' (E := 2) (by unfold repE; rw [HNN.out, hbe]; rfl) (by decide))
    clear hb hbe
    go_enter Try.func8, Try.ntmps8
    go_wp2_with fail
    refine BT.out.mono ?_
    rintro e w1 ⟨rfl, hb1⟩
    have B1 := Lib.hid hb1
    clear hb1
    go_wp2_with fail
    go_ret
    exact FIN.out _ B1.out

end Go.Proofs.Ytidfidknflcioaa
