/-
  SharePacked: the walk. No conditions: every input.
-/
import Derived.Test.YtbndknbjjdoanaaSharePackedPca
namespace Go.Proofs.Ytbndknbjjdoanaa
open Go.RowKit
set_option linter.unusedVariables false

theorem bytesIn_pk {w : World} {p : Option Addr} {n c : Nat} {zs : List Int} (h : Reads w .u8 (.slice p n c) zs) (hl : zs.length = n) : Lib.BytesIn w p n zs := by
  obtain ⟨a, cap, hv, _, hc⟩ := h
  simp only [Value.slice.injEq] at hv
  obtain ⟨rfl, _, _⟩ := hv
  intro hn
  obtain ⟨b, o, hp, hcell⟩ := hc (fun e => by rw [e] at hl; simp at hl; omega)
  exact ⟨b, o, hp, fun i hi => hcell i (by omega)⟩
theorem equal_pk {w : World} {p1 p2 : Option Addr} {n m c d : Nat} {zs : List Int} (h1 : Reads w .u8 (.slice p1 n c) zs) (hl : zs.length = n) (h2 : Reads w .u8 (.slice p2 m d) zs) (hm : zs.length = m) :
    Calls Try.prog 15 #[.slice p1 n c, .slice p2 m d] w (fun e w' => e = .returned (.bool true) ∧ w' = w) := by
  refine (Go.Proofs.Try.bytes_Equal_all p1 p2 n c m d zs zs w hl hm (bytesIn_pk h1 hl) (bytesIn_pk h2 hm)).mono ?_
  rintro e w' ⟨rfl, rfl⟩
  exact ⟨by simp, rfl⟩
theorem reads_from {w : World} {a : Option Addr} {n c k : Nat} {zs : List Int} (h : Reads w .u8 (.slice a n c) zs) (hk : k ≤ n) (hnc : n ≤ c) (m : Nat) : Reads w .u8 (.slice (if c = k then a else Option.map (fun x => x.add k) a) (n - k) m) (zs.drop k) := by
  obtain ⟨a', cap, he, hl, hc⟩ := h
  simp only [Value.slice.injEq] at he
  obtain ⟨rfl, hn, rfl⟩ := he
  have hlm : (zs.drop k).length = n - k := by rw [List.length_drop]; omega
  refine ⟨_, _, by rw [hlm], by omega, fun hne => ?_⟩
  have h0 : k < zs.length := by
    rcases Nat.lt_or_ge k zs.length with h0 | h0
    · exact h0
    · exact absurd (List.drop_eq_nil_of_le h0) hne
  obtain ⟨b, o, rfl, h1⟩ := hc (by intro e; subst e; simp at h0)
  refine ⟨b, o + k, by rw [if_neg (by omega)]; show some ((⟨b, o, none⟩ : Addr).add k) = _; unfold Addr.add; split <;> simp_all, fun j hj => ?_⟩
  rw [List.length_drop] at hj
  rw [Nat.add_assoc, h1 (k + j) (by omega)]
  simp [List.getD_eq_getElem?_getD]
/-- All that is turned lies above. -/
theorem Nxt.below {Z Z' : Nat → Prop} {w0 w w' : World} (h : Nxt Z Z' w w') (hB : Below w0.heap.size w0 w) (hZ : ∀ k, Z k → w0.heap.size ≤ k) : Below w0.heap.size w0 w' ∧ ∀ k, Z' k → w0.heap.size ≤ k := by
  refine ⟨hB.trans (h.2.below hB.size hZ), fun k hk => ?_⟩
  rcases h.1 k hk with hk | hk
  · exact hZ k hk
  · have := hB.size; omega

set_option maxHeartbeats 4000000 in
set_option maxRecDepth 100000 in
theorem sharePacked (sz : Int) (v : Value) (os : List Int) (at' : Int) (w : World) (_ : -9223372036854775808 ≤ sz ∧ sz ≤ 9223372036854775807) (hrow : RowIn w .u8 1 v os) (hcap : capsOk v) (hat : -9223372036854775808 ≤ at' ∧ at' ≤ 9223372036854775807) :
    Calls Try.prog 3 #[.int .i64 sz, v, .int .i64 at'] w (LawPost w) := by
  obtain ⟨hr, hwf, hreach⟩ := hrow
  obtain ⟨a, n, c, rfl, hnc, hc2⟩ := hcap
  have hlen : os.length = n := by
    obtain ⟨_, _, he, _⟩ := hr
    simp only [Value.slice.injEq] at he
    omega
  have hbz : bytes os := fun z hz => range_u8 (hwf z hz)
  rw [hlen] at hreach
  have HR := Lib.hid hr
  have HBZ := Lib.hid hbz
  have HLEN := Lib.hid hlen
  have HNC := Lib.hid (And.intro hnc hc2)
  have hn47 : n ≤ 140737488355328 := by omega
  obtain ⟨t1, t2⟩ := hat
  clear hr hwf hreach hbz hlen
  go_enter Try.func3, Try.ntmps3
  go_wp2_with fail
  refine (awakeRoomB_any w).mono ?_
  rintro e w1 ⟨rfl, hb1⟩
  have B1 := Lib.hid hb1
  clear hb1
  go_wp2_with fail
  refine (bigBookB_any w1).mono ?_
  rintro e w2 ⟨bp, rfl, hbk2, hb2⟩
  have B2 := Lib.hid (B1.out.trans (hb2.mono B1.out.size))
  have HBK := Lib.hid hbk2
  clear hb2 hbk2
  go_wp2_with fail
  refine (newPoolB_any bp sz w2 _ HBK.out).mono ?_
  rintro e w3 ⟨hb3, ⟨_, rfl⟩ | ⟨hsz, h, rfl, Z3, hsp3, hZ3⟩⟩
  · have B3 := Lib.hid (B2.out.trans (hb3.mono B2.out.size))
    clear hb3
    go_wp2_with fail
    go_ret
    exact ⟨rfl, B3.out⟩
  obtain ⟨sn, rfl⟩ : ∃ sn : Nat, sz = sn := ⟨sz.toNat, by omega⟩
  rw [Int.toNat_natCast] at hsp3
  have hsn : 1 ≤ sn ∧ sn ≤ 4096 := by omega
  have B3 := Lib.hid (B2.out.trans (hb3.mono B2.out.size))
  have HZ3 : Hid (∀ k, Z3 k → w.heap.size ≤ k) := Lib.hid (fun k hk => by
    have h1 := B1.out.size
    have h2 := B2.out.size
    rcases hZ3 k hk with hk | hk
    · omega
    · omega)
  have SP3 := Lib.hid hsp3
  clear hb3 hsp3 hZ3 hsz
  have MK := Lib.hid (make_any SP3.out a n c os (fun W hW => HR.out.below (B3.out.trans (hW.below B3.out.size HZ3.out)) rfl) HLEN.out HNC.out.1 HNC.out.2 hn47 HBZ.out ⟨by show 0 + 2000 ≤ _; omega, by show 0 + 1 ≤ _; omega⟩)
  go_wp2_with fail
  refine MK.out.mono ?_
  clear MK
  rintro e w4 (⟨h1, rfl, Z4, hsp4, hnx⟩ | ⟨h1, he, bks, o1, Z4, hbl, hfi, hsp4, hnx⟩)
  · obtain ⟨hB4, _⟩ := hnx.below B3.out HZ3.out
    have B4 := Lib.hid hB4
    have h1' : ((mkE (newP sn) os.length) == 0) = false := by simp; exact h1
    have h1n : ((mkE (newP sn) os.length) != 0) = true := by simp; exact h1
    generalize mkE (newP sn) os.length = ee at *
    clear hsp4 hnx hB4 h1
    go_wp2_with fail
    go_ret
    exact ⟨rfl, B4.out⟩
  obtain rfl : e = .returned (.tuple #[.int .i64 1, .int .i64 0]) := he
  obtain ⟨hB4, hZ4⟩ := hnx.below B3.out HZ3.out
  have hmk : n ≤ 100000 ∧ manyP sn n ≤ 500 := by
    unfold mkE at h1
    rw [HLEN.out] at h1
    split at h1
    · cases h1
    · next hc =>
      exact ⟨by omega, by show manyP (newP sn).size n ≤ 500; omega⟩
  have B4 := Lib.hid (And.intro hB4 hZ4)
  have hbl' : bks.length = manyP sn os.length := hbl
  obtain ⟨hF1, hO1, hL1⟩ := pk_made hsn hbl' hfi o1
  obtain ⟨M, hM⟩ : ∃ M, bks.length = M := ⟨_, rfl⟩
  have HM := Lib.hid (show M = manyP sn n by rw [← hM, hbl', HLEN.out])
  obtain ⟨FP, hFP⟩ : ∃ FP, fillPts 0 sn os bks.length = FP := ⟨_, rfl⟩
  have hFPl : FP.length = M := by rw [← hFP, fillPts_len, hM]
  obtain ⟨P1, hP1⟩ : ∃ P1, ((newP sn).growAll bks).add o1 (fillPts 0 sn os bks.length) = P1 := ⟨_, rfl⟩
  have hsp4 : SP w4 Z4 h bp P1 P1.bl.length := by
    have e : (newP sn).bl.length + bks.length = P1.bl.length := by
      rw [← hP1]
      show _ = ((newP sn).growAll bks).bl.length
      rw [growAll_bl]
    rw [← e, ← hP1]
    exact hsp4
  rw [hP1, hFP, hM] at hF1
  rw [hP1, hFP] at hO1
  rw [hFP, HLEN.out] at hL1
  have F1 := Lib.hid hF1
  have O1 := Lib.hid (And.intro hO1 (And.intro hL1 hFPl))
  have SP4 := Lib.hid hsp4
  have hM500 : M ≤ 500 := by have := HM.out; omega
  obtain ⟨hn1, _⟩ := hmk
  clear hnx hB4 hZ4 h1 hbl hfi hsp4 hF1 hO1 hL1 hM hFP hFPl hP1 hbl'
  by_cases hatr : at' < 0 ∨ (n : Int) < at'
  · by_cases ha0 : at' < 0
    · clear hatr
      go_wp2_with fail
      go_ret
      exact ⟨rfl, B4.out.1⟩
    · have ha1 : (n : Int) < at' := by omega
      clear hatr
      go_wp2_with fail
      go_ret
      exact ⟨rfl, B4.out.1⟩
  have ha0 : ¬ at' < 0 := by omega
  have ha1 : ¬ (n : Int) < at' := by omega
  clear hatr
  obtain ⟨at0, rfl⟩ : ∃ k : Nat, at' = k := ⟨at'.toNat, by omega⟩
  have SL := Lib.hid (slice_any SP4.out 1 (at0 : Int) (n : Int) (by omega) ⟨by rw [F1.out.lb]; omega, by rw [F1.out.ls]; omega⟩)
  go_wp2_with fail
  refine SL.out.mono ?_
  clear SL
  intro e w5 hp5
  unfold SlPost at hp5
  have hlk : lookN P1.st 1 = some (o1, FP) := by rw [F1.out.st]; rfl
  rw [hlk] at hp5
  simp only at hp5
  rw [if_pos (by rw [O1.out.2.1]; exact if_pos ⟨by omega, by omega, by omega, by omega⟩)] at hp5
  obtain ⟨CT, hCT⟩ : ∃ CT, cutP FP (at0 : Int) (n : Int) = CT := ⟨_, rfl⟩
  have hm1 : (1, o1, FP) ∈ P1.st := by rw [F1.out.st]; simp
  have hok1 := (SP4.out.pts hm1).2
  have hcl : CT.length ≤ M := by rw [← hCT, ← O1.out.2.2]; exact cutP_len _ _ _
  have hco : octP P1.oct CT = os.drop at0 := by
    rw [← hCT, cutP_oct hok1, O1.out.1]
    simp only [Int.toNat_natCast]
    rw [List.take_of_length_le (by rw [HLEN.out]; omega)]
  have hcok : ∀ x ∈ CT, x.ok P1.oct := fun x hx => by
    rw [← hCT] at hx
    exact (cutP_ok hok1 x hx).1
  have hcn : lenP CT = n - at0 := by
    rw [← octP_len hcok, hco, List.length_drop, HLEN.out]
  rw [hCT] at hp5
  have hf4 := SP4.out.few.1
  rcases hp5.plain F1.out.np hf4 with ⟨hbad, _, _⟩ | ⟨he, o2, Z5, hsp5, hnx5⟩
  · rw [F1.out.st, hcn] at hbad
    simp at hbad
    omega
  rw [F1.out.ls] at he
  subst he
  have F2 := Lib.hid (F1.out.add o2 CT)
  have hB5 := hnx5.below B4.out.1 B4.out.2
  have B5 := Lib.hid hB5
  have SP5 := Lib.hid hsp5
  have CT1 := Lib.hid (And.intro hco (And.intro hcn (And.intro hcl hcok)))
  clear hp5 hlk hm1 hok1 hcl hco hcok hcn hf4 hsp5 hnx5 hB5 hCT
  obtain ⟨P2, hP2⟩ : ∃ P2, P1.add o2 CT = P2 := ⟨_, rfl⟩
  have O2 := Lib.hid (show P2.oct = P1.oct by rw [← hP2]; rfl)
  rw [hP2] at F2 SP5
  clear hP2
  have JN := Lib.hid (join_any SP5.out 2 1 (by omega) (by omega) ⟨by rw [F2.out.lb]; omega, by rw [F2.out.ls]; omega⟩)
  go_wp2_with fail
  refine JN.out.mono ?_
  clear JN
  intro e w6 hp6
  unfold JnPost at hp6
  have hlk2 : lookN P2.st 2 = some (o2, CT) := by rw [F2.out.st]; rfl
  have hlk1 : lookN P2.st 1 = some (o1, FP) := by rw [F2.out.st]; rfl
  rw [hlk2, hlk1] at hp6
  simp only at hp6
  rcases hp6.plain F2.out.np SP5.out.few.1 with ⟨_, rfl, Z6, hsp6, hnx6⟩ | ⟨he, o3, Z6, hsp6, hnx6⟩
  · have B6 := Lib.hid (hnx6.below B5.out.1 B5.out.2).1
    clear hp6 hlk2 hlk1 hsp6 hnx6
    go_wp2_with fail
    go_ret
    exact ⟨by first | rfl | simp, B6.out⟩
  rw [F2.out.ls] at he
  subst he
  obtain ⟨L, hL⟩ : ∃ L, CT ++ FP = L := ⟨_, rfl⟩
  rw [hL] at hsp6
  have F3 := Lib.hid (F2.out.add o3 L)
  have B6 := Lib.hid (hnx6.below B5.out.1 B5.out.2)
  have SP6 := Lib.hid hsp6
  have OL : Hid (octP P2.oct L = os.drop at0 ++ os) := Lib.hid (by rw [← hL, octP_app, O2.out, CT1.out.1, O1.out.1])
  clear hp6 hlk2 hlk1 hsp6 hnx6 hL
  obtain ⟨P3, hP3⟩ : ∃ P3, P2.add o3 L = P3 := ⟨_, rfl⟩
  have O3 := Lib.hid (show octP P3.oct L = os.drop at0 ++ os by rw [← hP3]; exact OL.out)
  rw [hP3] at F3 SP6
  clear hP3 OL
  have RM : Hid (∀ q, Calls Try.prog 11 #[.pointer (some ⟨h, 0, none⟩)] (w6.drewN q) (fun e w' => e = .returned (.int .i64 ((sn * M : Nat) : Int)) ∧ ∃ q2, w' = (w6.drewN q).drewN q2)) := Lib.hid (fun q => by
    have h1 := roomP_any (SP6.out.same (bdrewN (Below.refl _ w6) q))
    rw [F3.out.size, F3.out.bl] at h1
    exact h1)
  have hdiv : ((n : Int) + (sn : Int) - 1) / (sn : Int) = (M : Int) := by
    rw [HM.out]
    unfold manyP
    have e : ((n : Int) + (sn : Int) - 1) = ((n + sn - 1 : Nat) : Int) := by omega
    rw [e]
    rfl
  have hne : ((sn : Int) == 0) = false := by simp; omega
  have hmul : sn * M ≤ 4096 * 500 := Nat.mul_le_mul hsn.2 hM500
  have hmi : (sn : Int) * (M : Int) = ((sn * M : Nat) : Int) := by rw [Int.natCast_mul]
  obtain ⟨R, hR⟩ : ∃ R, sn * M = R := ⟨_, rfl⟩
  rw [hR] at RM hmul hmi
  clear hR
  go_upto_region 16 with fail
  refine wp_normal ?_
  refine wp_region_plan 11 (fun _ => True) rfl ?_
  refine wpN_pure [0, 2, 3, 4, 5, 6, 7, 8, 9, 10] (by kernel_rfl) (by kernel_rfl) (by kernel_rfl) (fun _ _ _ _ _ h => h) (fun _ => trivial) ?_
  simp only [pick, List.map_cons, List.map_nil, List.getElem?_cons_succ, List.getElem?_cons_zero, Option.getD_some]
  repeat (go_big_quiet_step (fail))
  refine wpQuiet_nil ?_
  refine wpN_one 1 _ (by kernel_rfl) rfl ?_
  refine NextAt.held ?_
  intro K hK
  go_simp
  refine (RM.out 1).mono ?_
  rintro e w7 ⟨rfl, q7, hq7⟩
  have B7 := Lib.hid (show Below w6.heap.size w6 w7 by rw [hq7]; exact bdrewN (bdrewN (Below.refl _ w6) 1) q7)
  clear hq7 RM
  go_simp
  refine hK _ _ trivial ?_
  clear hK K
  refine wpN_one 11 _ (by kernel_rfl) rfl ?_
  refine NextAt.free (by kernel_rfl) ?_
  intro K hK
  go_simp
  refine hK _ _ ?_
  clear hK K
  refine wpN_done (by kernel_rfl) ?_
  have DR1 := Lib.hid (drop_any (SP6.out.same B7.out) 1 (by omega))
  have B7w := Lib.hid (B6.out.1.trans (B7.out.mono B6.out.1.size))
  go_wp2_with fail
  refine DR1.out.mono ?_
  clear DR1
  intro e w8 hp8
  unfold DrPost at hp8
  have hlk : lookN P3.st 1 = some (o1, FP) := by rw [F3.out.st]; rfl
  rw [hlk] at hp8
  simp only at hp8
  obtain ⟨rfl, Z8, hsp8, hnx8⟩ := hp8
  have B8 := Lib.hid (hnx8.below B7w.out B6.out.2)
  obtain ⟨hF5, hM5, hO5, hlk2, hsw5⟩ := pk_alone F3.out
  have DR2 := Lib.hid (drop_any hsp8 2 (by omega))
  clear hlk hsp8 hnx8
  go_wp2_with fail
  refine DR2.out.mono ?_
  clear DR2
  intro e w9 hp9
  unfold DrPost at hp9
  rw [hlk2] at hp9
  simp only at hp9
  obtain ⟨rfl, Z9, hsp9, hnx9⟩ := hp9
  have B9 := Lib.hid (hnx9.below B8.out.1 B8.out.2)
  obtain ⟨P5, hP5⟩ : ∃ P5, ((P3.drop 1).swept.drop 2).swept = P5 := ⟨_, rfl⟩
  rw [hP5] at hF5 hM5 hO5 hsw5 hsp9
  have F5 := Lib.hid (And.intro hF5 (And.intro hM5 hsw5))
  have SP9 := Lib.hid hsp9
  have hO5' : octP P5.oct L = os.drop at0 ++ os := by rw [hO5, O3.out]
  have hm5 : (3, o3, L) ∈ P5.st := by rw [hF5.st]; simp
  have hlp5 : lenP L = (n - at0) + n := by
    rw [← octP_len (hsp9.pts hm5).2, hO5', List.length_append, List.length_drop, HLEN.out]
  have O5 := Lib.hid (And.intro hO5' hlp5)
  clear hF5 hM5 hO5 hlk2 hsw5 hsp9 hnx9 hP5 hO5' hm5 hlp5
  have PA := Lib.hid (pack_any SP9.out 3 (by omega) ⟨by rw [F5.out.1.lb]; omega, by rw [F5.out.1.ls]; omega⟩)
  go_wp2_with fail
  refine PA.out.mono ?_
  clear PA
  intro e w10 hp10
  have MERGE : (∃ ee : Int, (ee = 4 ∨ ee = 12) ∧ e = .returned (.tuple #[.bool false, .int .i64 ee]) ∧ Below w.heap.size w w10) ∨
      (∃ (d : Bool) (P6 : PoolSt) (Z10 : Nat → Prop) (o6 : Option (Nat × Nat × Nat)) (L6 : List Pt), e = .returned (.tuple #[.bool d, .int .i64 0]) ∧ SP w10 Z10 h bp P6 P6.bl.length ∧ P6.st = [(3, o6, L6)] ∧ octP P6.oct L6 = os.drop at0 ++ os ∧ lenP L6 = (n - at0) + n ∧ P6.bl.length = manyP sn ((n - at0) + n) ∧ P6.size = sn ∧ Below w.heap.size w w10 ∧ ∀ k, Z10 k → w.heap.size ≤ k) := by
    unfold PaPost at hp10
    rw [show lookN P5.st 3 = some (o3, L) by rw [F5.out.1.st]; rfl] at hp10
    simp only at hp10
    rcases hp10 with ⟨hpk, he, hs, hb⟩ | ⟨_, hne, he, Z', hs, hx⟩ | ⟨_, _, he, bks, o6, Z', hbl, hfi, hs, hx⟩
    · right
      have h1 := pk_packed SP9.out F5.out.1 F5.out.2.2 hpk
      rw [O5.out.2] at h1
      exact ⟨false, P5, Z9, o3, L, he, hs, F5.out.1.st, O5.out.1, O5.out.2, h1, F5.out.1.size, B9.out.1.trans (hb.mono B9.out.1.size), B9.out.2⟩
    · left
      refine ⟨_, ?_, he, (hx.below B9.out.1 B9.out.2).1⟩
      rcases tkE_vals P5 P5.bl.length (manyP P5.size (lenP L)) with h1 | h1 | h1
      · exact absurd h1 hne
      · exact Or.inl h1
      · exact Or.inr h1
    · right
      rw [F5.out.1.size] at hbl hfi hs
      have hbl' : bks.length = manyP sn (octP P5.oct L).length := by rw [hbl, O5.out.1, O5.out.2, List.length_append, List.length_drop, HLEN.out]
      obtain ⟨k1, k2, k3, k4, k5, k6⟩ := pk_pack (o4 := o6) SP9.out F5.out.1 hbl' hfi
      have e3 : (3 : Int).toNat = 3 := rfl
      rw [e3] at hs
      have el : (octP P5.oct L).length = (n - at0) + n := by rw [O5.out.1, List.length_append, List.length_drop, HLEN.out]
      have b10 := hx.below B9.out.1 B9.out.2
      exact ⟨true, _, Z', o6, _, he, hs, k5, by rw [k2, O5.out.1], by rw [k3, el], by rw [k1, el], k6, b10.1, b10.2⟩
  clear hp10
  rcases MERGE with ⟨ee, hee, rfl, hb10⟩ | ⟨d, P6, Z10, o6, L6, rfl, hs10, hst6, ho6, hl6, hbl6, hsz6, hb10, hz10⟩
  · have B10 := Lib.hid hb10
    clear hb10
    rcases hee with rfl | rfl
    · go_wp2_with fail
      go_ret
      exact ⟨by first | rfl | simp, B10.out⟩
    · go_wp2_with fail
      go_ret
      exact ⟨by first | rfl | simp, B10.out⟩
  · have SP10 := Lib.hid hs10
    have F6 := Lib.hid (And.intro hst6 (And.intro ho6 (And.intro hl6 (And.intro hbl6 hsz6))))
    have B10 := Lib.hid (And.intro hb10 hz10)
    clear hs10 hst6 ho6 hl6 hbl6 hsz6 hb10 hz10
    obtain ⟨N2, hN2⟩ : ∃ N2 : Nat, (n - at0) + n = N2 := ⟨_, rfl⟩
    have HN2 := Lib.hid hN2
    have hsub : (2 : Int) * (n : Int) - (at0 : Int) = (N2 : Int) := by omega
    have hN2b : N2 ≤ 200000 := by omega
    rw [hN2] at F6
    clear hN2
    have CP := Lib.hid (copyP_any SP10.out 3 0 (N2 : Int) (by omega))
    go_wp2_with fail
    refine CP.out.mono ?_
    clear CP
    rintro e w11 ⟨⟨hs11, hb11⟩, hp11⟩
    rw [show lookN P6.st 3 = some (o6, L6) by rw [F6.out.1]; rfl] at hp11
    simp only at hp11
    rw [if_pos (by rw [F6.out.2.2.1]; exact if_pos ⟨by omega, by omega, by omega, by omega⟩)] at hp11
    obtain ⟨v11, rfl, hr11⟩ := hp11
    have ezs : ((octP P6.oct L6).take ((N2 : Int)).toNat).drop ((0 : Int)).toNat = os.drop at0 ++ os := by
      rw [F6.out.2.1]
      simp only [Int.toNat_natCast, Int.toNat_zero, List.drop_zero]
      rw [List.take_of_length_le (by rw [List.length_append, List.length_drop, HLEN.out]; have := HN2.out; omega)]
    rw [ezs] at hr11
    have hlo : (os.drop at0 ++ os).length = N2 := by rw [List.length_append, List.length_drop, HLEN.out]; exact HN2.out
    rw [hlo] at hr11
    obtain ⟨a11, c11, rfl⟩ := wrow_sh hr11
    have B11 := Lib.hid (B10.out.1.trans (hb11.mono B10.out.1.size))
    have RD11 := Lib.hid (Reads.own (by rw [hlo]; exact hr11) (by rw [hlo]; omega) : Reads w11 .u8 (.slice a11 N2 c11) (os.drop at0 ++ os))
    have HLO := Lib.hid hlo
    have SP11 := Lib.hid hs11
    clear hs11 hb11 hr11 ezs hlo
    go_upto_region 25 with fail
    refine wp_normal ?_
    refine wp_region_plan 41 (fun _ => True) rfl ?_
    refine wpN_pure [0, 1, 2, 3, 4, 5, 6, 7] (by kernel_rfl) (by kernel_rfl) (by kernel_rfl) (fun _ _ _ _ _ h => h) (fun _ => trivial) ?_
    simp only [pick, List.map_cons, List.map_nil, List.getElem?_cons_succ, List.getElem?_cons_zero, Option.getD_some]
    repeat (go_big_quiet_step (fail))
    refine wpQuiet_nil ?_
    have RO := Lib.hid (HR.out.below B11.out rfl)
    obtain ⟨z, hz⟩ : ∃ z, (if c = at0 then a else Option.map (fun x => x.add at0) a) = z := ⟨_, rfl⟩
    have RZ := Lib.hid (reads_from RO.out (by omega : at0 ≤ n) HNC.out.1 (c - at0))
    rw [hz] at RZ ⊢
    clear hz
    have BD := Lib.hid (show Below w11.heap.size w11 w11.drew from (Below.refl _ w11).drew)
    have CC := Lib.hid (concat2 (RZ.out.below BD.out rfl) (RO.out.below BD.out rfl) (by rw [HLO.out]; omega))
    have BA := Lib.hid (show Below w11.heap.size w11 (w11.drew.alloc (.cells #[.slice z (n - at0) (c - at0), .slice a n c] 22)) from BD.out.alloc (Nat.le_refl _) _)
    refine wpN_one 8 _ (by kernel_rfl) rfl ?_
    refine NextAt.held ?_
    intro K hK
    go_simp
    refine hK _ _ trivial ?_
    clear hK K
    refine wpN_one 9 _ (by kernel_rfl) rfl ?_
    refine NextAt.held ?_
    intro K hK
    go_simp
    refine CC.out.mono ?_
    generalize w11.drew.alloc (.cells #[.slice z (n - at0) (c - at0), .slice a n c] 22) = W12 at *
    rintro e w13 ⟨v13, rfl, hr13, hb13⟩
    rw [HLO.out] at hr13
    obtain ⟨a13, c13, rfl⟩ := wrow_sh hr13
    have B13 := Lib.hid (BA.out.trans (hb13.mono BA.out.size))
    have EQ := Lib.hid (equal_pk (RD11.out.below B13.out rfl) HLO.out (Reads.own (by rw [HLO.out]; exact hr13) (by rw [HLO.out]; omega)) HLO.out)
    clear CC hr13 hb13
    go_simp
    refine hK _ _ trivial ?_
    clear hK K
    refine wpN_one 10 _ (by kernel_rfl) rfl ?_
    refine NextAt.held ?_
    intro K hK
    go_simp
    refine EQ.out.mono ?_
    rintro e w14 ⟨rfl, hw14⟩
    obtain rfl := hw14.symm
    clear hw14 EQ
    go_simp
    refine hK _ _ trivial ?_
    clear hK K
    refine wpN_one 11 _ (by kernel_rfl) rfl ?_
    refine NextAt.held ?_
    intro K hK
    go_simp
    refine hK _ _ trivial ?_
    clear hK K
    obtain ⟨M6, hM6⟩ : ∃ M6, manyP sn N2 = M6 := ⟨_, rfl⟩
    have HM6 := Lib.hid hM6
    have hdiv6 : ((N2 : Int) + (sn : Int) - 1) / (sn : Int) = (M6 : Int) := by
      rw [← hM6]
      unfold manyP
      have e : ((N2 : Int) + (sn : Int) - 1) = ((N2 + sn - 1 : Nat) : Int) := by omega
      rw [e]
      rfl
    have hM6b : M6 ≤ 200000 := by rw [← hM6]; exact Nat.le_trans (manyP_le hsn.1) hN2b
    have hmul6 : sn * M6 ≤ 4096 * 200000 := Nat.mul_le_mul hsn.2 hM6b
    have hmi6 : (sn : Int) * (M6 : Int) = ((sn * M6 : Nat) : Int) := by rw [Int.natCast_mul]
    have SP13 := Lib.hid (SP11.out.same B13.out)
    have RM := Lib.hid (roomP_any SP13.out)
    have ebl : P6.size * P6.bl.length = sn * M6 := by rw [F6.out.2.2.2.2, F6.out.2.2.2.1, hM6]
    rw [ebl] at RM
    clear hM6 ebl
    obtain ⟨R6, hR6⟩ : ∃ R6, sn * M6 = R6 := ⟨_, rfl⟩
    rw [hR6] at RM hmul6 hmi6
    clear hR6
    refine wpN_pure [12, 13, 15, 16, 17, 18, 19, 20, 21, 22] (by kernel_rfl) (by kernel_rfl) (by kernel_rfl) (fun _ _ _ _ _ h => h) (fun _ => trivial) ?_
    simp only [pick, List.map_cons, List.map_nil, List.getElem?_cons_succ, List.getElem?_cons_zero, Option.getD_some]
    repeat (go_big_quiet_step (fail))
    refine wpQuiet_nil ?_
    refine wpN_one 14 _ (by kernel_rfl) rfl ?_
    refine NextAt.held ?_
    intro K hK
    go_simp
    refine RM.out.mono ?_
    rintro e w15 ⟨rfl, q15, hq15⟩
    have B15 := Lib.hid (show Below w13.heap.size w13 w15 by rw [hq15]; exact bdrewN (Below.refl _ w13) q15)
    have DR := Lib.hid (drop_any (SP13.out.same B15.out) 3 (by omega))
    clear hq15 RM
    go_simp
    refine hK _ _ trivial ?_
    clear hK K
    refine wpN_pure [23] (by kernel_rfl) (by kernel_rfl) (by kernel_rfl) (fun _ _ _ _ _ h => h) (fun _ => trivial) ?_
    simp only [pick, List.map_cons, List.map_nil, List.getElem?_cons_succ, List.getElem?_cons_zero, Option.getD_some]
    repeat (go_big_quiet_step (fail))
    refine wpQuiet_nil ?_
    refine wpN_one 24 _ (by kernel_rfl) rfl ?_
    refine NextAt.held ?_
    intro K hK
    go_simp
    refine hK _ _ trivial ?_
    clear hK K
    refine wpN_pure [25, 26, 27] (by kernel_rfl) (by kernel_rfl) (by kernel_rfl) (fun _ _ _ _ _ h => h) (fun _ => trivial) ?_
    simp only [pick, List.map_cons, List.map_nil, List.getElem?_cons_succ, List.getElem?_cons_zero, Option.getD_some]
    repeat (go_big_quiet_step (fail))
    refine wpQuiet_nil ?_
    refine wpN_one 28 _ (by kernel_rfl) rfl ?_
    refine NextAt.held ?_
    intro K hK
    go_simp
    refine DR.out.mono ?_
    intro e w16 hp16
    unfold DrPost at hp16
    rw [show lookN P6.st 3 = some (o6, L6) by rw [F6.out.1]; rfl] at hp16
    simp only at hp16
    obtain ⟨rfl, Z16, hs16, hnx16⟩ := hp16
    have est : (P6.drop 3).st = [] := by
      show P6.st.filter _ = _
      rw [F6.out.1]
      simp
    have ebl : (P6.drop 3).swept.bl.length = 0 := by rw [swept_empty est]; rfl
    rw [ebl] at hs16
    have B16 := Lib.hid (hnx16.below (B11.out.trans ((B13.out.trans (B15.out.mono B13.out.size)).mono B11.out.size)) B10.out.2).1
    have RM2 := Lib.hid (roomP_any hs16)
    rw [ebl, Nat.mul_zero] at RM2
    have HD := Lib.hid (fun W (hW : Below w16.heap.size w16 W) => (hs16.same hW).held)
    simp only [Nat.mul_zero] at HD
    clear est ebl hs16 hnx16 DR
    go_simp
    refine hK _ _ trivial ?_
    clear hK K
    refine wpN_pure [29] (by kernel_rfl) (by kernel_rfl) (by kernel_rfl) (fun _ _ _ _ _ h => h) (fun _ => trivial) ?_
    simp only [pick, List.map_cons, List.map_nil, List.getElem?_cons_succ, List.getElem?_cons_zero, Option.getD_some]
    repeat (go_big_quiet_step (fail))
    refine wpQuiet_nil ?_
    refine wpN_one 30 _ (by kernel_rfl) rfl ?_
    refine NextAt.held ?_
    intro K hK
    go_simp
    refine hK _ _ trivial ?_
    clear hK K
    refine wpN_pure [31, 32] (by kernel_rfl) (by kernel_rfl) (by kernel_rfl) (fun _ _ _ _ _ h => h) (fun _ => trivial) ?_
    simp only [pick, List.map_cons, List.map_nil, List.getElem?_cons_succ, List.getElem?_cons_zero, Option.getD_some]
    repeat (go_big_quiet_step (fail))
    refine wpQuiet_nil ?_
    refine wpN_one 33 _ (by kernel_rfl) rfl ?_
    refine NextAt.held ?_
    intro K hK
    go_simp
    refine RM2.out.mono ?_
    rintro e w17 ⟨rfl, q17, hq17⟩
    have B17 := Lib.hid (show Below w16.heap.size w16 w17 by rw [hq17]; exact bdrewN (Below.refl _ w16) q17)
    clear hq17 RM2
    go_simp
    refine hK _ _ trivial ?_
    clear hK K
    refine wpN_pure [34] (by kernel_rfl) (by kernel_rfl) (by kernel_rfl) (fun _ _ _ _ _ h => h) (fun _ => trivial) ?_
    simp only [pick, List.map_cons, List.map_nil, List.getElem?_cons_succ, List.getElem?_cons_zero, Option.getD_some]
    repeat (go_big_quiet_step (fail))
    refine wpQuiet_nil ?_
    refine wpN_one 35 _ (by kernel_rfl) rfl ?_
    refine NextAt.held ?_
    intro K hK
    go_simp
    refine hK _ _ trivial ?_
    clear hK K
    refine wpN_pure [36, 37] (by kernel_rfl) (by kernel_rfl) (by kernel_rfl) (fun _ _ _ _ _ h => h) (fun _ => trivial) ?_
    simp only [pick, List.map_cons, List.map_nil, List.getElem?_cons_succ, List.getElem?_cons_zero, Option.getD_some]
    repeat (go_big_quiet_step (fail))
    refine wpQuiet_nil ?_
    refine wpN_one 38 _ (by kernel_rfl) rfl ?_
    refine NextAt.held ?_
    intro K hK
    go_simp
    refine (HD.out _ B17.out).mono ?_
    rintro e w18 ⟨rfl, hw18⟩
    obtain rfl := hw18.symm
    clear hw18 HD
    go_simp
    refine hK _ _ trivial ?_
    clear hK K
    refine wpN_pure [39] (by kernel_rfl) (by kernel_rfl) (by kernel_rfl) (fun _ _ _ _ _ h => h) (fun _ => trivial) ?_
    simp only [pick, List.map_cons, List.map_nil, List.getElem?_cons_succ, List.getElem?_cons_zero, Option.getD_some]
    repeat (go_big_quiet_step (fail))
    refine wpQuiet_nil ?_
    refine wpN_one 40 _ (by kernel_rfl) rfl ?_
    refine NextAt.held ?_
    intro K hK
    go_simp
    refine hK _ _ trivial ?_
    clear hK K
    refine wpN_one 41 _ (by kernel_rfl) rfl ?_
    refine NextAt.free (by kernel_rfl) ?_
    intro K hK
    go_simp
    refine hK _ _ ?_
    clear hK K
    refine wpN_done (by kernel_rfl) ?_
    go_wp2_with fail
    go_ret
    exact ⟨by first | rfl | simp, B16.out.trans (B17.out.mono B16.out.size)⟩

end Go.Proofs.Ytbndknbjjdoanaa
