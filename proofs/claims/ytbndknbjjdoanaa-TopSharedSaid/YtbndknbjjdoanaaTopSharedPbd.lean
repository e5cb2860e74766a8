/-
  A string's parts replaced: the memory law; Pack: what it gives. Conditions: numbers in their bounds.
-/
import Derived.Test.YtbndknbjjdoanaaTopSharedPbc
namespace Go.Proofs.Ytbndknbjjdoanaa
open Go.RowKit
set_option linter.unusedVariables false

def putS (st : List (Nat × Option (Nat × Nat × Nat) × List Pt)) (s : Nat) (o : Option (Nat × Nat × Nat)) (l : List Pt) : List (Nat × Option (Nat × Nat × Nat) × List Pt) := st.map fun p => if p.1 = s then (s, o, l) else p
def PoolSt.setS (P : PoolSt) (s : Nat) (o : Option (Nat × Nat × Nat)) (l : List Pt) : PoolSt := { P with st := putS P.st s o l }
theorem putS_keys (st : List (Nat × Option (Nat × Nat × Nat) × List Pt)) (s : Nat) (o : Option (Nat × Nat × Nat)) (l : List Pt) : (putS st s o l).map Prod.fst = st.map Prod.fst := by
  unfold putS
  rw [List.map_map]
  refine List.map_congr_left (fun p _ => ?_)
  simp only [Function.comp]
  split
  · next h => exact h.symm
  · rfl
theorem putS_look {st : List (Nat × Option (Nat × Nat × Nat) × List Pt)} {s : Nat} {o : Option (Nat × Nat × Nat)} {l : List Pt} : ∀ {k : Int}, lookN (putS st s o l) k = if (s : Int) = k then (lookN st k).map (fun _ => (o, l)) else lookN st k := by
  induction st with
  | nil => intro k; simp [putS, lookN]
  | cons p st ih =>
    intro k
    have e : putS (p :: st) s o l = (if p.1 = s then (s, o, l) else p) :: putS st s o l := rfl
    rw [e]
    have ih := @ih k
    unfold lookN at ih ⊢
    rw [List.find?_cons, List.find?_cons]
    by_cases hp : p.1 = s
    · rw [if_pos hp]
      by_cases hk : (s : Int) = k
      · have h1 : (p.1 : Int) = k := by omega
        simp [hk, h1]
      · have h1 : ¬ (p.1 : Int) = k := by omega
        simp only [hk, h1, decide_false, if_false]
        rw [ih, if_neg hk]
    · rw [if_neg hp]
      by_cases hk : (p.1 : Int) = k
      · have h1 : ¬ (s : Int) = k := by omega
        simp [hk, h1]
      · simp only [hk, decide_false]
        exact ih
theorem putS_mem {st : List (Nat × Option (Nat × Nat × Nat) × List Pt)} {s : Nat} {o : Option (Nat × Nat × Nat)} {l : List Pt} {p : Nat × Option (Nat × Nat × Nat) × List Pt} (h : p ∈ putS st s o l) : p = (s, o, l) ∨ p ∈ st := by
  obtain ⟨q, hq, rfl⟩ := List.mem_map.1 h
  split
  · exact Or.inl rfl
  · exact Or.inr hq
theorem PoolMem.put {w w3 : World} {F : Nat → Prop} {h bp : Nat} {P : PoolSt} {mb ms N1 N2 : Nat} {D1 D2 : DataW Unit} (m : PoolMem w F h bp P mb ms N1 N2 D1 D2) {s : Nat} {q : Option (Nat × Nat × Nat) × List Pt} (hl : lookN P.st s = some q) {o : Option (Nat × Nat × Nat)} {l : List Pt}
    (hm : w3.ownsMap Try.prog 3 rowElem ms (N2 + 1) (D2.put (.int .i64 (s : Int)) (rowD o))) (keep : ∀ k, k < w.heap.size → k ≠ ms → w3.heap[k]? = w.heap[k]?)
    (hr : w.ownsRow 0 75 3 (rowOf o) l.length (ptCells l)) (hpt : PtsOf P l) (hll : l.length ≤ 500 ∧ lenP l ≤ 100000) : PoolMem w3 (fun k => F k ∨ (rowOf o).ownBlock = some k) h bp (P.setS s o l) mb ms N1 (N2 + 1) D1 (D2.put (.int .i64 (s : Int)) (rowD o)) := by
  have mapne : ∀ b N D (R : Value → Option (DataW Unit × List MemPlace)), w.ownsMap Try.prog 3 R b N D → ∀ (k : Nat) (cs : Array Value) (t : TypeId), w.heap[k]? = some (Obj.cells cs t (0, 0)) → k ≠ b := fun b N D R hm k cs t hk e => by
    obtain ⟨es, clock, hb, _⟩ := hm
    rw [e, hb] at hk
    simp at hk
  obtain ⟨r1, r2⟩ := m.rest (w' := w3) (fun k hk _ _ h2 => keep k hk h2)
  have tidy := m.m2.tidy intKey
  have ismap := m.m2.isMap
  have hhas : Maps.has D2 (.int .i64 (s : Int)) = true := Maps.has_true_of_atKey (y := rowD q.1) (fun z => by rw [m.l2, hl]; rfl)
  have hlen : (putS P.st s o l).length = P.st.length := by unfold putS; rw [List.length_map]
  obtain ⟨n, hn, hmem⟩ := lookN_mem hl
  have en : n = s := by omega
  subst en
  refine ⟨(keep h (lt_of m.self) (mapne _ _ _ _ m.m2 _ _ _ m.self)).trans m.self, Or.inl m.fh, ownsMap_same m.m1 (keep mb m.m1.lt m.mne), Or.inl m.f1, hm, Or.inl m.f2, m.l1, m.z1, fun k z => ?_, ?_, fun p hp => ?_, m.ia, m.ig, m.kb, m.nb, ?_, fun p hp => ?_, fun p hp => ?_, fun p hp => ?_, m.sz, m.mne, ?_⟩
  · show _ = rowZ ((lookN (putS P.st n o l) k).map Prod.fst) z
    rw [putS_look]
    by_cases e : (n : Int) = k
    · subst e
      rw [if_pos rfl, Maps.atKey_put_same ismap (by simp [WideAt.IsKeyLit]), hl]
      rfl
    · rw [if_neg e, Maps.atKey_put_other (by simp; omega), m.l2]
  · rw [Maps.size_put tidy, hhas, m.z2]
    show _ = (putS P.st n o l).length
    rw [hlen]
    rfl
  · obtain ⟨a1, a2, a3, a4, a5, a6, a7⟩ := r1 p hp
    exact ⟨a1, a2, a3, a4, Or.inl a5, Or.inl a6, a7⟩
  · show ((putS P.st n o l).map Prod.fst).Nodup
    rw [putS_keys]
    exact m.ks
  · rcases putS_mem hp with rfl | hp
    · exact m.ns (n, q) hmem
    · exact m.ns p hp
  · rcases putS_mem hp with rfl | hp
    · refine ⟨ownsRow_same hr (fun k hk => ?_), fun k hk => Or.inr hk⟩
      obtain ⟨cur, hc⟩ := row_block hr hk
      exact keep k (lt_of hc) (mapne _ _ _ _ m.m2 _ _ _ hc)
    · obtain ⟨a1, a2⟩ := r2 p hp
      exact ⟨a1, fun k hk => Or.inl (a2 k hk)⟩
  · rcases putS_mem hp with rfl | hp
    · exact hpt
    · exact m.pt p hp
  · obtain ⟨a1, a2, a3, a4, a5⟩ := m.few
    refine ⟨by show (putS P.st n o l).length ≤ 200; rw [hlen]; exact a1, a2, fun p hp => ?_, a4, a5⟩
    rcases putS_mem hp with rfl | hp
    · exact hll
    · exact a3 p hp

theorem manyP_bd {size n k : Nat} (hs : 1 ≤ size) (h : n ≤ k * size) : manyP size n ≤ k := by
  unfold manyP
  refine Nat.le_of_lt_succ ((Nat.div_lt_iff_lt_mul (by omega)).2 ?_)
  rw [Nat.succ_mul]
  omega
theorem PtsOf.bd {w : World} {F : Nat → Prop} {h bp : Nat} {P : PoolSt} {mb ms N1 N2 : Nat} {D1 D2 : DataW Unit} (m : PoolMem w F h bp P mb ms N1 N2 D1 D2) : ∀ {l : List Pt}, PtsOf P l → lenP l ≤ l.length * P.size
  | [], _ => Nat.zero_le _
  | x :: l, h => by
    obtain ⟨y, h1, h2, h3⟩ := h x (by simp)
    have h4 := (m.blkOf h1).2.2.2.2.2.2.1
    have h5 := PtsOf.bd m (l := l) (fun z hz => h z (by simp [hz]))
    have e : lenP (x :: l) = x.n + lenP l := by simp [lenP]
    rw [e, List.length_cons, Nat.succ_mul]
    have : x.n ≤ P.size := by unfold Pt.n; omega
    omega

def PaPost (h bp : Nat) (P : PoolSt) (x : Int) (Z : Nat → Prop) (w : World) : Ending → World → Prop := fun e w' => match lookN P.st x with
  | none => e = .returned (.tuple #[.bool false, .int .i64 13]) ∧ Stays h bp P Z P.bl.length w w'
  | some q => (PkS P x.toNat q.2 ∧ e = .returned (.tuple #[.bool false, .int .i64 0]) ∧ Stays h bp P Z P.bl.length w w') ∨
    (¬ PkS P x.toNat q.2 ∧ tkE P P.bl.length (manyP P.size (lenP q.2)) ≠ 0 ∧ e = .returned (.tuple #[.bool false, .int .i64 (tkE P P.bl.length (manyP P.size (lenP q.2)))]) ∧ ∃ Z', SP w' Z' h bp P P.bl.length ∧ Nxt Z Z' w w') ∨
    (¬ PkS P x.toNat q.2 ∧ tkE P P.bl.length (manyP P.size (lenP q.2)) = 0 ∧ e = .returned (.tuple #[.bool true, .int .i64 0]) ∧ ∃ bks o Z', bks.length = manyP P.size (lenP q.2) ∧ Fills P.size (octP P.oct q.2) bks ∧
      SP w' Z' h bp ((P.growAll bks).setS x.toNat o (fillPts P.lastB P.size (octP P.oct q.2) bks.length)).swept ((P.growAll bks).setS x.toNat o (fillPts P.lastB P.size (octP P.oct q.2) bks.length)).swept.bl.length ∧ Nxt Z Z' w w')
def StrAt (h ms : Nat) (W : World) : Prop := W.cell? ⟨h, 7, none⟩ = some (.map (some ms))

set_option maxHeartbeats 4000000 in
set_option maxRecDepth 100000 in
theorem pack_any {w : World} {Z : Nat → Prop} {h bp : Nat} {P : PoolSt} (s : SP w Z h bp P P.bl.length) (x : Int) (hx : -9223372036854775808 ≤ x ∧ x ≤ 9223372036854775807) (hB : P.lastB + 2000 ≤ 1000000000 ∧ P.lastS + 1 ≤ 1000000000) :
    Calls Try.prog 13 #[.pointer (some ⟨h, 0, none⟩), .int .i64 x] w (PaPost h bp P x Z w) := by
  have HSP := Lib.hid s
  obtain ⟨mb, ms, D1, D2, F, G, b, p, hZ⟩ := s
  have HP := Lib.hid p
  have FI := Lib.hid (findP_any p.pm x hx)
  have HZ := Lib.hid hZ
  have HBB := Lib.hid hB
  clear p hZ hB
  cases hl : lookN P.st x with
  | none =>
    have HL := Lib.hid hl
    clear hl
    go_enter Try.func13, Try.ntmps13
    go_wp2_with fail
    refine FI.out.mono ?_
    rintro e w2 ⟨rfl, he⟩
    rw [HL.out] at he
    subst he
    have FIN : Hid (PaPost h bp P x Z w2 (.returned (.tuple #[.bool false, .int .i64 13])) w2) := Lib.hid (by
      unfold PaPost
      rw [HL.out]
      exact ⟨rfl, HSP.out, Below.refl _ _⟩)
    go_wp2_with fail
    go_ret2
    exact FIN.out
  | some q =>
    obtain ⟨o, l⟩ := q
    have HL := Lib.hid hl
    obtain ⟨n, rfl, hmem⟩ := lookN_mem hl
    have hnb : n ≤ 1000000000 := by
      have h1 := (HP.out.pm.ns _ hmem).2
      have h2 := HP.out.pm.few.2.2.2.2
      simp only at h1
      omega
    have STR := Lib.hid (HP.out.pm.str hl)
    obtain ⟨ra, rc, hrow, r1, r2, r3⟩ := STR.out.2.2.2.2.2.1
    have HROW := Lib.hid hrow
    have PK := Lib.hid (packed_any HP.out.pm n (rowOf o) l STR.out.2.2.2.2.2.1 STR.out.2.2.1 STR.out.2.2.2.1 STR.out.2.2.2.2.1 hnb)
    have PI := Lib.hid STR.out.2.2.2.2.2.1
    have hn0 : ((n : Int)).toNat = n := by omega
    rw [hrow] at PK PI
    clear hl hrow r1 r2 r3 hmem
    go_enter Try.func13, Try.ntmps13
    go_wp2_with fail
    refine FI.out.mono ?_
    rintro e w2 ⟨hw2, he⟩
    obtain rfl := hw2.symm
    rw [HL.out] at he
    simp only [HROW.out] at he
    subst he
    go_wp2_with fail
    refine PK.out.mono ?_
    rintro e w3 ⟨hb3, d, rfl, hd⟩
    have B3 := Lib.hid hb3
    have HD := Lib.hid hd
    clear hb3 hd PK
    cases d with
    | true =>
      have FIN : Hid (PaPost h bp P (n : Int) Z w (.returned (.tuple #[.bool false, .int .i64 0])) w3) := Lib.hid (by
        unfold PaPost
        rw [HL.out, hn0]
        exact Or.inl ⟨HD.out.1 rfl, rfl, HSP.out.same B3.out, B3.out⟩)
      go_wp2_with fail
      go_ret2
      exact FIN.out
    | false =>
      have HNP := Lib.hid (show ¬ PkS P n l from fun e => by have := HD.out.2 e; cases this)
      have LE := Lib.hid (lengthP_any (.slice ra l.length rc) l w3 (PI.out.below B3.out) STR.out.2.2.2.2.2.2)
      have MY := Lib.hid (fun W (hW : Below w.heap.size w W) => manyP_any (HP.out.pm.below hW) (lenP l) (by have := STR.out.2.2.2.2.1; omega))
      have hlb := STR.out.2.2.2.2.1
      have mb5 := manyP_bd HP.out.pm.sz.1 (STR.out.2.2.1.bd HP.out.pm)
      have m500 : manyP P.size (lenP l) ≤ 500 := by have := STR.out.2.2.2.1; omega
      have TK := Lib.hid (fun W (hW : Below w.heap.size w W) => takeP_any (HP.out.same hW) (manyP P.size (lenP l)) (by omega))
      have HOL := Lib.hid (show (octP P.oct l).length = lenP l from octP_len (STR.out.2.2.1.okM HP.out.pm))
      obtain ⟨N, hN⟩ : ∃ N, lenP l = N := ⟨_, rfl⟩
      obtain ⟨M, hM⟩ : ∃ M, manyP P.size N = M := ⟨_, rfl⟩
      have HN := Lib.hid (And.intro hN hM)
      rw [hN] at LE MY TK m500 hlb HOL
      rw [hM] at MY TK m500
      clear hN hM mb5
      go_wp2_with fail
      refine LE.out.mono ?_
      rintro e w4 ⟨rfl, hb4⟩
      have B4 := Lib.hid (B3.out.trans (hb4.mono B3.out.size))
      clear hb4 LE
      go_wp2_with fail
      refine (MY.out _ B4.out).mono ?_
      rintro e w5 ⟨rfl, qq, hq5⟩
      have B5 := Lib.hid (show Below w.heap.size w w5 by rw [hq5]; exact bdrewN B4.out qq)
      clear hq5 MY
      go_wp2_with fail
      refine (TK.out _ B5.out).mono ?_
      rintro e w6 ⟨rfl, G', b', hp6, hG6, ht6⟩
      have NX6 : Hid (Nxt Z (fun k => F k ∨ G' k) w w6) := Lib.hid (by
        refine ⟨fun k hk => ?_, (Touch.of_below B5.out).then (ht6.mono (fun k hk => (HZ.out k).1 (Or.inr hk)))⟩
        rcases hk with hk | hk
        · exact Or.inl ((HZ.out k).1 (Or.inl hk))
        · rcases hG6 k hk with hk | hk
          · exact Or.inl ((HZ.out k).1 (Or.inr hk))
          · have := B5.out.size
            right; omega)
      by_cases ht0 : tkE P P.bl.length M = 0
      · rw [if_pos ht0] at hp6
        have htk := tkE_le ht0
        have HT0 := Lib.hid ht0
        rw [ht0]
        have HP6 := Lib.hid hp6
        have S7 : StrAt h ms w6 := hp6.pm.cells.2.2.2.2.2.2.2
        have SBE := Lib.hid (fun W (hW : Below w6.heap.size w6 W) => show StrAt h ms W from (hp6.pm.below hW).cells.2.2.2.2.2.2.2)
        have PI6 : PtIn w6 (.slice ra l.length rc) l := by
          have h1 := (hp6.pm.str HL.out).2.2.2.2.2.1
          rw [HROW.out] at h1
          exact h1
        have HPI6 := Lib.hid PI6
        have HPO := Lib.hid (hp6.pm.str HL.out).2.2.1
        clear hp6 hG6 ht6 ht0 TK PI6
        go_upto_region 9 with fail
        have S0 : StrAt h ms w6.drew := SBE.out _ ((Below.refl _ w6).drew)
        have r7 : ∀ y : WIn (StrAt h ms), y.w.cell? ⟨h, 7, none⟩ = some (.map (some ms)) := fun y => y.h
        haveI ne : Nonempty (WIn (StrAt h ms)) := ⟨⟨w6.drew, S0⟩⟩
        refine wp_normal ?_
        refine wp_region_plan 10 (StrAt h ms) rfl ?_
        refine wpN_seg [0, 1, 2, 3, 4, 5, 6, 7] (by kernel_rfl) (by kernel_rfl) (by kernel_rfl) (by kernel_rfl) (by decide) (fun _ _ _ _ _ h => h) S0 ?_
        simp only [pick, List.map_cons, List.map_nil, List.getElem?_cons_succ, List.getElem?_cons_zero, Option.getD_some]
        repeat (go_big_quiet_step (fail))
        refine wpQuiet_nil ?_
        clear r7 ne S0 S7
        have BD := Lib.hid (show Below w6.heap.size w6 w6.drew from (Below.refl _ w6).drew)
        have CP := Lib.hid (copiedP_any (HP6.out.pm.below BD.out) (.slice ra l.length rc) l (HPI6.out.below BD.out) (by have := STR.out.2.2.2.1; omega) HPO.out)
        refine wpN_one 8 _ (by kernel_rfl) rfl ?_
        refine NextAt.held ?_
        intro K hK
        go_simp
        refine CP.out.mono ?_
        rintro e w7 ⟨v7, rfl, hr7, hb7⟩
        have B7 := Lib.hid (BD.out.trans (hb7.mono BD.out.size))
        have ow7 : ∀ k, v7.ownBlock = some k → w6.heap.size ≤ k := fun k hk => (hr7.lt k hk).1
        have rdT : ∀ W, Touch F w7 W → Reads W .u8 v7 (octP P.oct l) := fun W hW => Reads.own (ownsRow_same hr7 (fun k hk => hW.block k (hr7.lt k hk).2 (fun hF => by
          have h1 := ow7 k hk
          have h2 := HP6.out.fl k hF
          omega))) (by rw [HOL.out]; omega)
        have hos : bytes (octP P.oct l) := fun z hz => by
          obtain ⟨y, hy, hz⟩ := List.mem_flatMap.1 hz
          obtain ⟨bk, hbk, _⟩ := STR.out.2.2.1 y hy
          unfold octPt at hz
          rw [oct_of hbk] at hz
          exact bytes_part (HP.out.pm.blkOf hbk).2.2.2.1 _ _ z hz
        obtain ⟨a7, c7, rfl⟩ := wrow_sh hr7
        have hcap7 : (octP P.oct l).length ≤ c7 ∧ c7 ≤ 9223372036854775807 := by
          obtain ⟨_, _, a', c', he', h1, h2, _⟩ := Seg.of_row hr7 (fun u hu => by obtain ⟨z, _, rfl⟩ := List.mem_map.1 hu; rfl)
          simp only [Value.slice.injEq] at he'
          omega
        have FL := Lib.hid (filled_any (HP6.out.pm.below B7.out) a7 (octP P.oct l).length c7 (octP P.oct l) rdT rfl (by rw [HOL.out]; omega) hcap7.1 hcap7.2 hos (fun k hk => Nat.lt_of_lt_of_le (HP6.out.fl k hk) B7.out.size) (by rw [HOL.out, HN.out.2]; omega) (by rw [HOL.out, HN.out.2]; have := HBB.out.1; omega) (by rw [HOL.out, HN.out.2]; omega))
        rw [HOL.out] at FL hcap7 ⊢
        clear hr7 hb7 ow7 rdT hos hcap7 CP
        go_simp
        refine hK _ _ (SBE.out _ B7.out) ?_
        clear hK K
        refine wpN_one 9 _ (by kernel_rfl) rfl ?_
        refine NextAt.held ?_
        intro K hK
        go_simp
        refine FL.out.mono ?_
        rintro e w8 ⟨v8, bks, D8, F8, rfl, hbl, hfi, hm8, hF8, hl8, hFF8, hrow8, hap8, ht8⟩
        obtain ⟨o8, ho8⟩ := row_of hrow8
        have p8 := (HP6.out.same B7.out).turn hm8 (fun k hk => hF8 k hk) hl8 ht8 (growAll_size _ _)
        have hkey := Maps.keyOf_int_mk (P := Try.prog) (k := 3) Try.underlying3 (a := (n : Int)) (WalkArith.wf_i64 (by omega))
        obtain ⟨w9, hrun, hm9, hg9⟩ := hm8.m2.update intKey Try.underlying61 (by have := HP.out.pm.few.1; unfold maxLen; omega) hkey (rowElem_of o8)
        rw [← ho8] at hrun
        have hlook : lookN (P.growAll bks).st (n : Int) = some (o, l) := by rw [growAll_st]; exact HL.out
        have hll : (fillPts P.lastB P.size (octP P.oct l) bks.length).length = bks.length := fillPts_len _ _ _ _
        have hbl2 : bks.length = M := by rw [hbl, HOL.out, HN.out.2]
        have hR0 := row_low hrow8 (Nat.zero_le _)
        rw [ho8] at hR0
        have keep9 : ∀ k, k < w8.heap.size → k ≠ ms → w9.heap[k]? = w8.heap[k]? := fun k hk hne => hg9.block k hk (fun e => hne (Option.some.inj e))
        have m9 := hm8.put hlook hm9 keep9 (by rw [hll]; exact hR0) (hfi.pts HP.out.nb) (by rw [hll, lenP_fill, HOL.out]; omega)
        have T9 : Touch F8 w8 w9 := (Touch.refl F8 w8).grown hg9 (fun k e => by cases e; exact Or.inl hm8.f2)
        have own8 := hrow8.lt
        have p9 := p8.turn' m9 (fun k hk => by
          rcases hk with hk | hk
          · exact p8.dis k hk
          · intro hg
            rw [← ho8] at hk
            have h1 := (own8 k hk).1
            have h2 := HP6.out.gl k hg
            have h3 := B7.out.size
            omega) (fun k hk => by
          rcases hk with hk | hk
          · exact Nat.lt_of_lt_of_le (p8.fl k hk) T9.size
          · rw [← ho8] at hk
            have h1 := (own8 k hk).2
            have h2 := T9.size
            omega) T9 rfl
        have ebl : P.bl.length + M = ((P.growAll bks).setS n o8 (fillPts P.lastB P.size (octP P.oct l) bks.length)).bl.length := by
          show _ = (P.growAll bks).bl.length
          rw [growAll_bl, hbl2]
        rw [ebl] at p9
        have SW := Lib.hid (sweepP_any p9)
        have S8 : StrAt h ms w8 := hm8.cells.2.2.2.2.2.2.2
        have NX9 : Hid (Nxt Z (fun k => (F8 k ∨ (rowOf o8).ownBlock = some k) ∨ G' k) w w9) := Lib.hid (by
          have N7 : Nxt (fun k => F k ∨ G' k) (fun k => F k ∨ G' k) w6 w7 := Nxt.of_below B7.out
          refine (NX6.out.trans N7).trans ⟨fun k hk => ?_, (ht8.mono (fun k hk => Or.inl hk)).trans T9 (fun k hk => ?_)⟩
          · rcases hk with (hk | hk) | hk
            · rcases hF8 k hk with hk | hk
              · exact Or.inl (Or.inl hk)
              · exact Or.inr hk
            · rw [← ho8] at hk
              exact Or.inr (own8 k hk).1
            · exact Or.inl (Or.inr hk)
          · rcases hF8 k hk with hk | hk
            · exact Or.inl (Or.inl hk)
            · exact Or.inr hk)
        have F19 := Lib.hid (show F8 mb from hm8.f1)
        have HFI := Lib.hid (And.intro hbl hfi)
        obtain ⟨a8, c8, rfl⟩ := wrow_sh hrow8
        clear hm8 hF8 hl8 hFF8 hrow8 hap8 ht8 ho8 p8 hm9 hg9 hlook hll hR0 keep9 m9 T9 own8 p9 ebl hbl hfi FL
        go_simp
        refine hK _ _ S8 ?_
        clear hK K S8
        refine wpN_one 10 _ (by kernel_rfl) rfl ?_
        refine NextAt.free (by kernel_rfl) ?_
        intro K hK
        refine step_update_here rfl _ _ _ _ rfl _ _ _ (by go_simp) (by go_simp) (by go_simp) hrun ?_
        go_simp
        refine hK _ _ ?_
        clear hK K hrun
        refine wpN_done (by kernel_rfl) ?_
        go_wp2_with fail
        refine SW.out.mono ?_
        rintro e w10 ⟨⟨v10, rfl⟩, D1', G2, b2, p10, hG10, t10⟩
        have FIN : Hid (PaPost h bp P (n : Int) Z w (.returned (.tuple #[.bool true, .int .i64 0])) w10) := Lib.hid (by
          unfold PaPost
          rw [HL.out, hn0]
          simp only
          rw [HN.out.1, HN.out.2]
          refine Or.inr (Or.inr ⟨HNP.out, HT0.out, by trivial, bks, o8, _, hbl2, HFI.out.2, SP.of p10, NX9.out.trans ⟨fun k hk => ?_, t10.mono (fun k hk => ?_)⟩⟩)
          · rcases hk with hk | hk
            · exact Or.inl (Or.inl hk)
            · rcases hG10 k hk with hk | hk
              · exact Or.inl (Or.inr hk)
              · exact Or.inr hk
          · rcases hk with hk | rfl
            · exact Or.inr hk
            · exact Or.inl (Or.inl F19.out))
        clear p10 hG10 t10 SW
        go_wp2_with fail
        go_ret2
        exact FIN.out
      · rw [if_neg ht0] at hp6
        have FIN : Hid (PaPost h bp P (n : Int) Z w (.returned (.tuple #[.bool false, .int .i64 (tkE P P.bl.length M)])) w6) := Lib.hid (by
          unfold PaPost
          rw [HL.out, hn0]
          simp only
          rw [HN.out.1, HN.out.2]
          exact Or.inr (Or.inl ⟨HNP.out, ht0, rfl, _, SP.of hp6, NX6.out⟩))
        generalize tkE P P.bl.length M = ee at *
        have hne : (ee == 0) = false := by simp; exact ht0
        clear hp6 hG6 ht6 TK
        go_wp2_with fail
        go_ret2
        exact FIN.out

end Go.Proofs.Ytbndknbjjdoanaa
