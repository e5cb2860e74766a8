/-
  FairShares: its plain law and its walk. No conditions.
-/
import Derived.Test.YteeiohhoccgafaaFair2
namespace Go.Proofs.Yteeiohhoccgafaa
open Go.RowKit

/-- Arguments that are right. -/
def fairIn (b : Int) (zs : List Int) : Prop := (0 ≤ b ∧ b ≤ 10000000) ∧ zs.length ≤ 1000 ∧ ∀ z ∈ zs, 0 ≤ z ∧ z ≤ 10000000

theorem fair_bad (b : Int) (zs : List Int) (h : ¬ fairIn b zs) : ∃ err : Int, err ≠ 0 ∧ ∀ v w, Reads w .i64 v zs → Calls Try.prog 26 #[.int .i64 b, v] w (RetRowB err [] w) := by
  by_cases h1 : 0 ≤ b ∧ b ≤ 10000000
  · by_cases h2 : zs.length ≤ 1000
    · have h3 : ¬ ∀ z ∈ zs, 0 ≤ z ∧ z ≤ 10000000 := fun x => h ⟨h1, h2, x⟩
      exact ⟨2, by decide, fun v w hr => fair_want b v zs w hr h1.1 h1.2 h2 h3⟩
    · refine ⟨4, by decide, fun v w hr => ?_⟩
      obtain ⟨a, cap, rfl, hl, _⟩ := hr
      exact fair_large b a zs.length cap w h1.1 h1.2 (by omega) hl
  · refine ⟨2, by decide, fun v w hr => ?_⟩
    obtain ⟨a, cap, rfl, hl, _⟩ := hr
    exact fair_budget b a zs.length cap w h1

/-- The level is there. -/
theorem level_exists (b : Int) (zs : List Int) (h : fairIn b zs) : ∃ L, isLevel zs b 10000000 L := by
  obtain ⟨⟨h1, h2⟩, h3, h4⟩ := h
  have h0 : ∀ l : List Int, (∀ z ∈ l, 0 ≤ z) → sumAt l 0 = 0 := by
    intro l
    induction l with
    | nil => intro _; rfl
    | cons z l ih => intro h; rw [sumAt_cons, ih (fun x hx => h x (by simp [hx]))]; have := h z (by simp); omega
  have hz := h0 zs (fun z hz => (h4 z hz).1)
  have key : ∀ n : Nat, ∀ L : Int, 0 ≤ L → L + n = 10000000 → sumAt zs L ≤ b → ∃ L', isLevel zs b 10000000 L' := by
    intro n
    induction n with
    | zero => intro L hL hn hs; exact ⟨L, hL, by omega, hs, Or.inl (by omega)⟩
    | succ n ih =>
      intro L hL hn hs
      by_cases hc : sumAt zs (L + 1) ≤ b
      · exact ih (L + 1) (by omega) (by omega) hc
      · exact ⟨L, hL, by omega, hs, Or.inr (by omega)⟩
  exact key 10000000 0 (by omega) (by omega) (by omega)

theorem sum_take (zs : List Int) (k : Nat) (h : k < zs.length) : (zs.take (k + 1)).sum = (zs.take k).sum + zs.getD k 0 := by
  rw [take_succ_getD zs k h]; simp
theorem sum_bd (M : Int) (hM : 0 ≤ M) : ∀ zs : List Int, (∀ z ∈ zs, 0 ≤ z ∧ z ≤ M) → 0 ≤ zs.sum ∧ zs.sum ≤ M * zs.length
  | [], _ => by simp
  | z :: zs, h => by
    have ih := sum_bd M hM zs (fun x hx => h x (by simp [hx]))
    have hz := h z (by simp)
    rw [List.sum_cons, List.length_cons, Int.natCast_add, Int.mul_add]
    omega
theorem getD_mem {zs : List Int} {k : Nat} (h : k < zs.length) : zs.getD k 0 ∈ zs := by rw [List.getD_eq_getElem?_getD, List.getElem?_eq_getElem h]; simp

/-- What is given, for arguments that are right. -/
structure FairOut (b : Int) (zs out : List Int) (L : Int) : Prop where
  len : out.length = zs.length
  lev : 0 ≤ L ∧ L ≤ 10000000
  each : ∀ j, j < zs.length → 0 ≤ out.getD j 0 ∧ out.getD j 0 ≤ zs.getD j 0 ∧ out.getD j 0 ≤ L + 1 ∧ (out.getD j 0 < zs.getD j 0 → L ≤ out.getD j 0)
  sum : out.sum = min zs.sum b

theorem fairOut_of (b L : Int) (zs : List Int) (h : fairIn b zs) (hl : isLevel zs b 10000000 L) : FairOut b zs (dist zs L (b - sumAt zs L)) L := by
  obtain ⟨⟨h1, h2⟩, h3, h4⟩ := h
  have hl0 := hl
  obtain ⟨l1, l2, l3, l4⟩ := hl
  refine ⟨dist_len _ _ _, ⟨l1, l2⟩, fun j hj => dist_bd zs L _ l1 (fun z hz => (h4 z hz).1) j hj, ?_⟩
  have ht := sumAt_top 10000000 zs (fun z hz => (h4 z hz).2)
  by_cases hs : sumAt zs 10000000 ≤ b
  · have hL := level_top hl0 hs
    subst hL
    rw [dist_top 10000000 zs _ (fun z hz => (h4 z hz).2)]
    omega
  · rcases l4 with l4 | l4
    · subst l4; omega
    · rw [dist_sum zs L _ (by omega) (by omega)]
      omega

theorem awakeLedger_any (w : World) : Calls Try.prog 25 #[] w (LawPost w) := by
  go_enter Try.func25, Try.ntmps25
  go_wp2_with (first | (go_at_call 58; refine (within_ledger_no _ _ _ _ (by omega)).mono ?_; rintro e w' ⟨rfl, rfl⟩) | go_in)
  go_ret
  exact ⟨rfl, Below.refl _ _⟩

set_option maxHeartbeats 1000000 in
theorem shares_bad (b err : Int) (v : Value) (zs : List Int) (w : World) (hr : Reads w .i64 v zs) (he : err ≠ 0) (hF : ∀ v w, Reads w .i64 v zs → Calls Try.prog 26 #[.int .i64 b, v] w (RetRowB err [] w)) :
    Calls Try.prog 5 #[.int .i64 b, v] w (LawPost w) := by
  have HF := Lib.hid hF
  have HR := Lib.hid hr
  have e1 : (err != 0) = true := bne_iff_ne.2 he
  clear hF hr he
  go_enter Try.func5, Try.ntmps5
  go_wp2_with fail
  refine (awakeLedger_any _).mono ?_
  rintro e w1 ⟨rfl, hb1⟩
  have R1 := Lib.hid (HR.out.below hb1 rfl)
  go_wp2_with fail
  refine (HF.out _ _ R1.out).mono ?_
  rintro e w2 ⟨v2, rfl, hown, hb2⟩
  obtain ⟨a, cap, rfl, _, _⟩ := Reads.own hown (by simp)
  have hb := hb1.trans (hb2.mono hb1.size)
  clear hown hb1 hb2
  go_wp2
  go_ret
  exact ⟨rfl, hb⟩

set_option maxHeartbeats 4000000 in
set_option maxRecDepth 100000 in
theorem shares_ok (b L : Int) (v : Value) (zs out : List Int) (w : World) (hr : Reads w .i64 v zs) (hin : fairIn b zs) (hO : FairOut b zs out L) (hF : ∀ v w, Reads w .i64 v zs → Calls Try.prog 26 #[.int .i64 b, v] w (RetRowB 0 out w)) :
    Calls Try.prog 5 #[.int .i64 b, v] w (LawPost w) := by
  have HF := Lib.hid hF
  have HR := Lib.hid hr
  have HO := Lib.hid hO
  have HI := Lib.hid hin
  obtain ⟨l1, l2⟩ := hO.lev
  have hn := hin.2.1
  clear hF hr hO hin
  obtain ⟨a, cap, rfl, _, _⟩ := HR.out
  go_enter Try.func5, Try.ntmps5
  go_wp2_with fail
  refine (awakeLedger_any _).mono ?_
  rintro e w1 ⟨rfl, hb1⟩
  have R1 := Lib.hid (HR.out.below hb1 rfl)
  go_wp2_with fail
  refine (HF.out _ _ R1.out).mono ?_
  rintro e w2 ⟨v2, rfl, hown, hb2⟩
  have hb := hb1.trans (hb2.mono hb1.size)
  have R2 := Lib.hid (R1.out.below hb2 rfl)
  obtain ⟨a2, cap2, hv2, _, hc2⟩ := (Reads.own hown (by rw [HO.out.len]; omega)).open
  rw [HO.out.len] at hv2 hc2
  subst hv2
  have HC2 := Lib.hid hc2
  obtain ⟨a1, cap1, hv1, _, hc1⟩ := R2.out.open
  simp only [Value.slice.injEq] at hv1
  obtain ⟨rfl, _, rfl⟩ := hv1
  have HC1 := Lib.hid hc1
  clear hown hb1 hb2 R1 R2 hc1 hc2 HF
  go_wp2_with fail
  go_loopw [7, 8, 9, 34] (fun x y m i wr => ∃ (k q : Nat) (mo : Int), k ≤ zs.length ∧ i = .int .i64 k ∧ x = .int .i64 (out.take k).sum ∧ y = .int .i64 (zs.take k).sum ∧ m = .int .i64 mo ∧ 0 ≤ mo ∧ mo ≤ L + 1 ∧ wr = w2.drewN q) (fun _ _ _ i _ => zs.length - (intOf i).toNat)
  case atStart => exact ⟨0, 0, 0, Nat.zero_le _, rfl, rfl, rfl, rfl, by omega, by omega, rfl⟩
  case round =>
    obtain ⟨k, q, mo, hk, rfl, rfl, rfl, rfl, m1, m2, rfl⟩ := hrel
    by_cases hlt : k < zs.length
    · obtain ⟨b1, o1, rfl, g1⟩ := HC1.out k hlt
      obtain ⟨b2, o2, rfl, g2⟩ := HC2.out k hlt
      obtain ⟨e1, e2, e3, e4⟩ := HO.out.each k hlt
      have hz := HI.out.2.2 _ (getD_mem hlt)
      have S1 := Lib.hid (sum_take zs k hlt)
      have S2 := Lib.hid (sum_take out k (by rw [HO.out.len]; exact hlt))
      have sb1 := sum_bd 10000000 (by omega) (zs.take k) (fun z hz => HI.out.2.2 z (List.mem_of_mem_take hz))
      have sb2 := sum_bd 10000000 (by omega) (out.take k) (fun z hz => by
        have hm := List.mem_of_mem_take hz
        obtain ⟨i, hi, rfl⟩ := List.getElem_of_mem hm
        have hi' : i < zs.length := by rw [HO.out.len] at hi; exact hi
        have := HO.out.each i hi'
        rw [List.getD_eq_getElem?_getD, List.getElem?_eq_getElem hi] at this
        have h3 := HI.out.2.2 _ (getD_mem hi')
        simp at this h3
        omega)
      have tl1 : ((zs.take k).length : Int) ≤ 1000 := by have := List.length_take_le k zs; omega
      have tl2 : ((out.take k).length : Int) ≤ 1000 := by have := List.length_take_le k out; omega
      clear e4
      generalize zs.getD k 0 = z at *
      generalize out.getD k 0 = n at *
      generalize hs1 : (zs.take k).sum = s1 at *
      generalize hs2 : (out.take k).sum = s2 at *
      have HS1 := Lib.hid hs1
      have HS2 := Lib.hid hs2
      obtain ⟨s11, s12⟩ := sb1
      obtain ⟨s21, s22⟩ := sb2
      have s13 : s1 ≤ 10000000000 := by omega
      have s23 : s2 ≤ 10000000000 := by omega
      clear hs1 hs2 tl1 tl2 s12 s22
      obtain ⟨z1, z2⟩ := hz
      by_cases hm : mo < n
      · go_wp2_with fail
        go_region
        all_goals
          go_wp2
          go_roundw
          case rel => exact ⟨k + 1, q + 1, n, by omega, by go_num, by rw [S2.out], by rw [S1.out], rfl, by omega, by omega, rfl⟩
          case measure => simp [intOf]; omega
      · have hm' : n ≤ mo := by omega
        clear hm
        go_wp2_with fail
        go_region
        all_goals
          go_wp2
          go_roundw
          case rel => exact ⟨k + 1, q + 1, mo, by omega, by go_num, by rw [S2.out], by rw [S1.out], rfl, by omega, by omega, rfl⟩
          case measure => simp [intOf]; omega
    · obtain rfl : k = zs.length := by omega
      clear hlt hk
      have E1 : Hid (zs.take zs.length = zs) := List.take_length
      have E2 : Hid (out.take zs.length = out) := by rw [← HO.out.len]; exact List.take_length
      rw [E1.out, E2.out]
      go_wp2_with fail
      go_loop [64] (fun i => ∃ k : Nat, k ≤ zs.length ∧ i = .int .i64 k) (fun i => zs.length - (intOf i).toNat)
      case atStart => exact ⟨0, Nat.zero_le _, rfl⟩
      case round =>
        obtain ⟨k, hk, rfl⟩ := hrel
        by_cases hlt : k < zs.length
        · obtain ⟨b1, o1, rfl, g1⟩ := HC1.out k hlt
          obtain ⟨b2, o2, rfl, g2⟩ := HC2.out k hlt
          obtain ⟨e1, e2, e3, e4⟩ := HO.out.each k hlt
          have hz := HI.out.2.2 _ (getD_mem hlt)
          generalize zs.getD k 0 = z at *
          generalize out.getD k 0 = n at *
          obtain ⟨z1, z2⟩ := hz
          by_cases hnz : n < z
          · have e5 := e4 hnz
            clear e4
            go_wp2_with fail
            go_round
            case rel => exact ⟨k + 1, by omega, by go_num⟩
            case measure => simp [intOf]; omega
          · have e5 : z ≤ n := by omega
            clear e4 hnz
            go_wp2_with fail
            go_round
            case rel => exact ⟨k + 1, by omega, by go_num⟩
            case measure => simp [intOf]; omega
        · obtain rfl : k = zs.length := by omega
          clear hlt hk
          have S := Lib.hid HO.out.sum
          generalize out.sum = so at *
          generalize zs.sum = sz at *
          go_wp2
          all_goals
            go_ret
            exact ⟨ret_bool (by have := S.out; simp; omega), bdrewN hb q⟩

theorem fairShares_walk (b : Int) (v : Value) (zs : List Int) (w : World) (_ : -9223372036854775808 ≤ b ∧ b ≤ 9223372036854775807) (hv : RowIn w .i64 8 v zs) :
    Calls Try.prog 5 #[.int .i64 b, v] w (LawPost w) := by
  by_cases h : fairIn b zs
  · obtain ⟨L, hL⟩ := level_exists b zs h
    exact shares_ok b L v zs _ w hv.reads h (fairOut_of b L zs h hL) (fun v w hr => fair_ok b v zs _ w hr h.1.1 h.1.2 h.2.1 h.2.2 (fun L' hL' => by rw [level_unique hL' hL]))
  · obtain ⟨err, he, hF⟩ := fair_bad b zs h
    exact shares_bad b err v zs w hv.reads he hF

end Go.Proofs.Yteeiohhoccgafaa
