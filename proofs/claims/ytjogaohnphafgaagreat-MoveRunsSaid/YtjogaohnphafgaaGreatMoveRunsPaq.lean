/-
  The memory of a heap made anew: the book's Change, copy of what fits, renew. No conditions but bounds.
  RoomTurns: its plain law and its walk. No conditions.
  begins, fit, copied, Replace: what they give for a policy that is right. No conditions beyond the theorems' own.
  A ring in memory; cell and cells: what they give. Conditions: numbers in their bounds.
  Replace: what it gives for a policy that is right and a slice of the call's own. No conditions beyond the theorems' own.
-/
import Derived.Test.YtjogaohnphafgaaGreatMoveRunsPap
import Derived.Test.YtjogaohnphafgaaGreatMoveRunsPah
import Derived.Test.YtjogaohnphafgaaGreatMoveRunsPaf
import Derived.Test.YtjogaohnphafgaaGreatMoveRunsPag
import Derived.Deep.RegionLaw

namespace Go.Proofs.YtjogaohnphafgaaGreat
section
open Go.RowKit
set_option linter.unusedVariables false

theorem copy_min (w : World) (g len : Nat) (sp : Option Addr) (n sCap : Nat) (cur zs : List Int) (hg : byteRow w g cur) (hl : cur.length = len) (hr : Reads w .u8 (.slice sp n sCap) zs) (hn : zs.length = n) :
    ∃ w' r, (Builtin.copy_ #[38, 38] 3 #[.slice (some ⟨g, 0, none⟩) len len, .slice sp n sCap]).run Tryz.prog w = .ok r w' ∧ byteRow w' g (splice cur 0 (zs.take len)) ∧ Touch (fun k => k = g) w w' := by
  by_cases h0 : Nat.min n len = 0
  · have hz : zs.take len = [] := by
      refine List.eq_nil_of_length_eq_zero ?_
      rw [List.length_take, hn, Nat.min_comm]
      exact h0
    have hrun := run_copy_none (P := Tryz.prog) w 38 38 3 5 (some ⟨g, 0, none⟩) sp len len n sCap Tryz.underlying38 byteSize h0
    exact ⟨w, _, hrun, by rw [hz]; simpa [splice] using hg, Touch.refl _ _⟩
  · obtain ⟨a, cap, hv, _, hc⟩ := hr
    simp only [Value.slice.injEq] at hv
    obtain ⟨rfl, _, rfl⟩ := hv
    have hpos : 0 < n ∧ 0 < len := by
      have : Nat.min n len = min n len := rfl
      omega
    obtain ⟨b, o, rfl, hcell⟩ := hc (by intro e; rw [e] at hn; simp at hn; omega)
    have hg2 : w.heap[g]? = some (.cells (cur.map (Value.int .u8)).toArray 5 (0, 0)) := hg
    have htl : ((zs.take len).map (Value.int .u8)).length = Nat.min n len := by
      rw [List.length_map, List.length_take, hn]
      exact Nat.min_comm _ _
    have hrun := run_copy_row (P := Tryz.prog) w 38 38 3 5 g 0 len len ⟨b, o, none⟩ n sCap (cur.map (Value.int .u8)).toArray 5 ((zs.take len).map (Value.int .u8)) Tryz.underlying38 byteSize hg2 htl (fun j v hj => by
      rw [List.getElem?_map] at hj
      have ead : (⟨b, o, none⟩ : Addr).add j = ⟨b, o + j, none⟩ := by simp [Addr.add]
      rw [ead]
      cases hz : (zs.take len)[j]? with
      | none => rw [hz] at hj; cases hj
      | some u =>
        rw [hz] at hj
        cases hj
        have hj2 := (List.getElem?_eq_some_iff.1 hz).1
        rw [List.length_take] at hj2
        rw [List.getElem?_take_of_lt (by omega)] at hz
        rw [hcell j (by omega), List.getD_eq_getElem?_getD, hz]
        rfl) (by
      have : Nat.min n len ≤ len := Nat.min_le_right _ _
      rw [htl]
      simp
      omega) (by intro v hv; obtain ⟨z, _, rfl⟩ := List.mem_map.1 hv; rfl)
    refine ⟨w.setRow g ((cur.map (Value.int .u8)).toArray.toList.take 0 ++ (zs.take len).map (Value.int .u8) ++ (cur.map (Value.int .u8)).toArray.toList.drop (0 + ((zs.take len).map (Value.int .u8)).length)).toArray, _, hrun, ?_, ⟨rfl, rfl, rfl, by simp [World.setRow], fun k _ hk => setRow_other w g k _ hk⟩⟩
    have := setRow_heap w g _ ((cur.map (Value.int .u8)).toArray.toList.take 0 ++ (zs.take len).map (Value.int .u8) ++ (cur.map (Value.int .u8)).toArray.toList.drop (0 + ((zs.take len).map (Value.int .u8)).length)).toArray 5 _ hg2
    unfold byteRow
    rw [this]
    simp [splice, List.map_drop]
/-- So many octets: what was, then 0. -/
def reM (o : List Int) (z : Nat) : List Int := o.take z ++ zeros (z - o.length)
theorem reM_len (o : List Int) (z : Nat) : (reM o z).length = z := by
  unfold reM zeros
  rw [List.length_append, List.length_take, List.length_replicate]
  omega
theorem reM_splice (o : List Int) (z : Nat) : splice (zeros z) 0 (o.take z) = reM o z := by
  unfold splice reM zeros
  simp only [List.take_zero, List.nil_append, Nat.zero_add, List.drop_replicate, List.length_take]
  congr 2
  omega
theorem reM_at (o : List Int) (z j : Nat) (h1 : j < o.length) (h2 : j < z) : (reM o z)[j]? = o[j]? := by
  unfold reM
  rw [List.getElem?_append_left (by rw [List.length_take]; omega), List.getElem?_take_of_lt h2]
theorem reM_bytes {o : List Int} (h : bytes o) (z : Nat) : bytes (reM o z) := fun u hu => by
  unfold reM zeros at hu
  rcases List.mem_append.1 hu with h1 | h1
  · exact h u (List.mem_of_mem_take h1)
  · rw [List.mem_replicate] at h1
    omega

def ch1E (M z : Nat) : Int := if M < z then 12 else 0
def ch1N (M n z : Nat) : Nat := if M < z then n else z
set_option maxHeartbeats 1000000 in
theorem change1_any {w : World} {G : Nat → Prop} {bp M n : Nat} {b : BookSt} (h : BkIn w G bp M n b) (z : Nat) (hz : z ≤ 10000000) :
    Calls Tryz.prog 94 #[.pointer (some ⟨bp, 0, none⟩), .int .i64 1, .int .i64 (n : Int), .int .i64 (z : Int)] w (fun e w' => e = .returned (.int .i64 (ch1E M z)) ∧ ∃ G' b', BkIn w' G' bp M (ch1N M n z) b' ∧ (∀ k, G' k → G k ∨ w.heap.size ≤ k) ∧ Touch G w w') := by
  have hle := h.le
  refine (change_any bp 1 (n : Int) (z : Int) M n 0 w G b 1 h.bk h.acc (by omega) (by omega) (by omega) (by omega) (by omega) (by omega) (by rw [h.bud]; omega) (by rw [h.tot]; omega) h.ent).mono ?_
  rintro e w' ⟨rfl, hbk, ht⟩
  have hbk2 := narrowB hbk
  clear hbk
  by_cases hc : M < z
  · have hE : changeE b M n 0 n z = 12 := by
      unfold changeE
      rw [if_neg (by omega), if_pos (by rw [h.bud, h.tot]; omega)]
    have hS : changeSt b 1 M n 0 n z = b := by
      unfold changeSt
      rw [if_neg (by rw [hE]; rintro ⟨h, _⟩; cases h)]
    rw [hS] at hbk2
    have hN : ch1N M n z = n := by unfold ch1N; rw [if_pos hc]
    rw [hN]
    exact ⟨by rw [hE]; unfold ch1E; rw [if_pos hc], _, b, ⟨hbk2, h.acc, h.bud, h.tot, h.ent, h.le, fun k hk => hk.2⟩, fun k hk => hk.1, ht⟩
  · have hE : changeE b M n 0 n z = 0 := by
      unfold changeE
      rw [if_neg (by omega), if_neg (by rw [h.bud, h.tot]; omega)]
    have hN : ch1N M n z = z := by unfold ch1N; rw [if_neg hc]
    by_cases hnz : n = z
    · have hS : changeSt b 1 M n 0 n z = b := by
        unfold changeSt
        rw [if_neg (by rintro ⟨_, h⟩; omega)]
      rw [hS] at hbk2
      rw [hN]
      subst hnz
      exact ⟨by rw [hE]; unfold ch1E; rw [if_neg hc], _, b, ⟨hbk2, h.acc, h.bud, h.tot, h.ent, h.le, fun k hk => hk.2⟩, fun k hk => hk.1, ht⟩
    · have hS : changeSt b 1 M n 0 n z = { heldSt b 1 M n 0 ((z : Int) - (n : Int)) with entries := trimE (b.entries ++ [holdEnt 1 ((z : Int) - (n : Int))]) } := by
        unfold changeSt
        rw [if_pos ⟨hE, by omega⟩]
      rw [hS] at hbk2
      refine ⟨by rw [hE]; unfold ch1E; rw [if_neg hc], _, _, ⟨hbk2, ?_, h.bud, ?_, ?_, ?_, fun k hk => hk.2⟩, fun k hk => hk.1, ht⟩
      · rw [hN]
        show (heldSt b 1 M n 0 ((z : Int) - (n : Int))).acc 1 = _
        unfold heldSt
        simp
        omega
      · rw [hN]
        show (heldSt b 1 M n 0 ((z : Int) - (n : Int))).total = _
        unfold heldSt
        simp only [h.tot]
        omega
      · refine trimE_len _ ?_
        rw [List.length_append]
        have := h.ent
        simp
        omega
      · rw [hN]; omega

/-- A heap and its book. -/
structure HB (w : World) (hp bp : Nat) (S : HpSt) (vm vb vh : Value) (vhs : List Value) (F G : Nat → Prop) (M : Nat) (b : BookSt) : Prop where
  hm : HpMem w F hp bp S vm vb vh vhs
  bk : BkIn w G bp M S.mem.length b
  dis : ∀ k, F k → ¬ G k
  fl : ∀ k, F k → k < w.heap.size
theorem HB.below {w w' : World} {hp bp : Nat} {S : HpSt} {vm vb vh : Value} {vhs : List Value} {F G : Nat → Prop} {M : Nat} {b : BookSt} (h : HB w hp bp S vm vb vh vhs F G M b) (hb : Below w.heap.size w w') : HB w' hp bp S vm vb vh vhs F G M b :=
  ⟨h.hm.below hb, h.bk.below hb, h.dis, fun k hk => Nat.lt_of_lt_of_le (h.fl k hk) hb.size⟩
theorem HB.touch {w w' : World} {hp bp : Nat} {S : HpSt} {vm vb vh : Value} {vhs : List Value} {F G Z : Nat → Prop} {M : Nat} {b : BookSt} (h : HB w hp bp S vm vb vh vhs F G M b) (ht : Touch Z w w') (hF : ∀ k, Z k → ¬ F k) (hG : ∀ k, Z k → ¬ G k) : HB w' hp bp S vm vb vh vhs F G M b :=
  ⟨h.hm.same (fun k hk hl => ht.block k hl (fun e => hF k e hk)), h.bk.touch ht hG, h.dis, fun k hk => Nat.lt_of_lt_of_le (h.fl k hk) ht.size⟩
/-- The book was asked. -/
theorem HB.asked {w w' : World} {hp bp : Nat} {S : HpSt} {vm vb vh : Value} {vhs : List Value} {F G G' : Nat → Prop} {M : Nat} {b b' : BookSt} (h : HB w hp bp S vm vb vh vhs F G M b) (hb : BkIn w' G' bp M S.mem.length b') (hg : ∀ k, G' k → G k ∨ w.heap.size ≤ k) (ht : Touch G w w') : HB w' hp bp S vm vb vh vhs F G' M b' :=
  ⟨h.hm.same (fun k hk hl => ht.block k hl (fun e => h.dis k hk e)), hb, fun k hk hg' => by
    rcases hg k hg' with e | e
    · exact h.dis k hk e
    · have := h.fl k hk
      omega, fun k hk => Nat.lt_of_lt_of_le (h.fl k hk) ht.size⟩

def hpCells (bp : Nat) (S : HpSt) (vm vb vh : Value) : Array Value := #[.pointer (some ⟨bp, 0, none⟩), .int .i64 1, .int .i64 S.k, .int .i64 S.s, .int .i64 S.m, .bool S.closed, vm, vb, .int .i64 (S.last : Int), .int .i64 (S.count : Int), vh]
/-- What renew leaves. -/
def RnPost (w : World) (hp bp : Nat) (S : HpSt) (vb vh : Value) (F G : Nat → Prop) (M z : Nat) : Ending → World → Prop := fun e w' =>
  (z = S.mem.length ∧ e = .returned (.int .i64 0) ∧ w' = w) ∨
  (z ≠ S.mem.length ∧ M < z ∧ e = .returned (.int .i64 12) ∧ ∃ G' b', BkIn w' G' bp M S.mem.length b' ∧ (∀ k, G' k → G k ∨ w.heap.size ≤ k) ∧ Touch G w w') ∨
  (z ≠ S.mem.length ∧ z ≤ M ∧ e = .returned (.int .i64 0) ∧ ∃ G' b' g, BkIn w' G' bp M z b' ∧ (∀ k, G' k → G k ∨ w.heap.size ≤ k) ∧ w.heap.size ≤ g ∧ g < w'.heap.size ∧ ¬ G' g ∧ byteRow w' g (reM S.mem z) ∧ w'.heap[hp]? = some (.cells (hpCells bp S (.slice (some ⟨g, 0, none⟩) z z) vb vh) 75 (0, 0)) ∧ Touch (fun k => G k ∨ k = hp) w w')

set_option maxHeartbeats 4000000 in
set_option maxRecDepth 100000 in
theorem renew_any {w : World} {hp bp : Nat} {S : HpSt} {vm vb vh : Value} {vhs : List Value} {F G : Nat → Prop} {M : Nat} {b : BookSt} (h : HB w hp bp S vm vb vh vhs F G M b) (z : Nat) (hz : z ≤ 100000) :
    Calls Tryz.prog 56 #[.pointer (some ⟨hp, 0, none⟩), .int .i64 (z : Int)] w (RnPost w hp bp S vb vh F G M z) := by
  obtain ⟨c0, c1, c2, c3, c4, c5, c6, c7, c8, c9, c10⟩ := h.hm.cells
  obtain ⟨ma, mc, hvm, hcap, hcap2, hsh⟩ := h.hm.memory
  obtain ⟨n, hn⟩ : ∃ n, S.mem.length = n := ⟨_, rfl⟩
  have HN := Lib.hid hn
  have HVM := Lib.hid hvm
  rw [hvm, hn] at c6
  have hbig := h.hm.big.1
  rw [hn] at hbig
  have H := Lib.hid h
  clear c2 c3 c4 c5 c7 c8 c9 c10 hsh hvm hcap h
  by_cases hzn : z = n
  · have hzn' : ((z : Int) == (n : Int)) = true := by simp [hzn]
    have FIN : Hid (RnPost w hp bp S vb vh F G M z (.returned (.int .i64 0)) w) := Lib.hid (Or.inl ⟨by rw [hn]; exact hzn, rfl, rfl⟩)
    clear hn
    go_enter Tryz.func56, Tryz.ntmps56
    go_wp2_with fail
    go_ret
    exact FIN.out
  · have hzn' : ((z : Int) == (n : Int)) = false := beq_eq_false_iff_ne.2 (by omega)
    have S0 : BelM w w.drew := (Below.refl _ w).drew
    have CH := Lib.hid (change1_any (H.out.bk.below S0) z (by omega))
    rw [hn] at CH
    have g0 : ∀ y : WIn (BelM w), y.w.cell? ⟨hp, 0, none⟩ = some (.pointer (some ⟨bp, 0, none⟩)) := fun y => old_cell y.h c0
    have g1 : ∀ y : WIn (BelM w), y.w.cell? ⟨hp, 1, none⟩ = some (.int .i64 1) := fun y => old_cell y.h c1
    have g6 : ∀ y : WIn (BelM w), y.w.cell? ⟨hp, 6, none⟩ = some (.slice ma n mc) := fun y => old_cell y.h c6
    haveI ne : Nonempty (WIn (BelM w)) := ⟨⟨w.drew, S0⟩⟩
    have HZ : Hid (z ≠ S.mem.length) := Lib.hid (by rw [hn]; exact hzn)
    clear hn
    go_enter Tryz.func56, Tryz.ntmps56
    go_upto_region 3 with fail
    refine wp_normal ?_
    refine wp_region_plan 14 (BelM w) rfl ?_
    refine wpN_seg [0, 1, 2, 3, 4, 5, 6, 7, 8, 9, 10, 11, 12, 13] (by kernel_rfl) (by kernel_rfl) (by kernel_rfl) (by kernel_rfl) (by decide) (fun _ _ _ _ _ h => h) S0 ?_
    simp only [pick, List.map_cons, List.map_nil, List.getElem?_cons_succ, List.getElem?_cons_zero, Option.getD_some]
    repeat (go_big_quiet_step (fail))
    refine wpQuiet_nil ?_
    clear g0 g1 g6 ne
    refine wpN_one 14 _ (by kernel_rfl) rfl ?_
    refine NextAt.free (by kernel_rfl) ?_
    intro K hK
    go_simp
    refine CH.out.mono ?_
    rintro e w1 ⟨rfl, G', b', hb', hG', hT'⟩
    have hT : Touch G w w1 := (Touch.refl G w).drew.then hT'
    have hG' : ∀ k, G' k → G k ∨ w.heap.size ≤ k := hG'
    go_simp
    refine hK _ _ ?_
    clear hK K
    refine wpN_pure [15] (by kernel_rfl) (by kernel_rfl) (by kernel_rfl) (fun _ _ _ _ _ h => h) (fun h => by cases h) ?_
    simp only [pick, List.map_cons, List.map_nil, List.getElem?_cons_succ, List.getElem?_cons_zero, Option.getD_some]
    repeat (go_big_quiet_step (fail))
    refine wpQuiet_nil ?_
    refine wpN_done (by kernel_rfl) ?_
    by_cases hM : M < z
    · have e1 : ch1E M z = 12 := by unfold ch1E; rw [if_pos hM]
      have e2 : ch1N M n z = n := by unfold ch1N; rw [if_pos hM]
      rw [e1]
      rw [e2] at hb'
      have FIN : Hid (RnPost w hp bp S vb vh F G M z (.returned (.int .i64 12)) w1) := Lib.hid (Or.inr (Or.inl ⟨HZ.out, hM, rfl, G', b', by rw [HN.out]; exact hb', hG', hT⟩))
      clear hb' hG' hT hT' e1 e2
      go_wp2_with fail
      go_ret
      exact FIN.out
    · have e1 : ch1E M z = 0 := by unfold ch1E; rw [if_neg hM]
      have e2 : ch1N M n z = z := by unfold ch1N; rw [if_neg hM]
      rw [e1]
      rw [e2] at hb'
      have MD := Lib.hid (made_any (z : Int) (z : Int) w1)
      have HBK := Lib.hid hb'
      have HG := Lib.hid hG'
      have HT := Lib.hid hT
      clear hb' hG' hT hT' e1 e2 CH S0
      go_wp2_with fail
      refine MD.out.mono ?_
      rintro e w2 hmd
      have hme : madeE (z : Int) (z : Int) = 0 := by unfold madeE; rw [if_pos ⟨⟨by omega, by omega⟩, by omega, by omega⟩]
      rcases hmd with ⟨_, rfl, hw2⟩ | ⟨h2, _⟩
      · rw [Int.toNat_natCast] at hw2
        rw [Int.toNat_natCast]
        have B2 : Below w1.heap.size w1 w2 := by rw [hw2]; exact (Below.refl _ _).alloc (Nat.le_refl _) _
        have N2 : byteRow w2 w1.heap.size (zeros z) := by rw [hw2]; exact heap_alloc_new _ _
        have hm2 : HpMem w2 F hp bp S vm vb vh vhs := (H.out.hm.same (fun k hk hl => HT.out.block k hl (fun e => H.out.dis k hk e))).below B2
        have d6 := hm2.cells.2.2.2.2.2.2.1
        rw [HVM.out, HN.out] at d6
        have rd : Reads w2 .u8 (.slice ma n mc) S.mem := by
          have h1 := hm2.mem.1
          rw [HVM.out, HN.out] at h1
          rw [← HN.out]
          rw [← HN.out] at h1
          exact Reads.own h1 (by rw [HN.out]; omega)
        obtain ⟨w3, r, hcp, hrow, ht3⟩ := copy_min w2 w1.heap.size z ma n mc (zeros z) S.mem N2 (by simp [zeros]) rd HN.out
        rw [reM_splice] at hrow
        have h1l := H.out.fl hp H.out.hm.fh
        have hs1 := HT.out.size
        have nh : hp ≠ w1.heap.size := by omega
        have hself3 : w3.heap[hp]? = some (.cells (hpCells bp S vm vb vh) 75 (0, 0)) := (ht3.block _ (lt_of hm2.self) nh).trans hm2.self
        have hq3 : w3.cell? ⟨hp, 6, none⟩ = some vm := by rw [cell_of hself3]; rfl
        have fz3 := free_of hself3 6
        have bk3 : BkIn w3 G' bp M z b' := (HBK.out.below B2).touch ht3 (fun k hk hg => by have := HBK.out.gl k hg; omega)
        have FIN : Hid (RnPost w hp bp S vb vh F G M z (.returned (.int .i64 0)) (w3.setCell ⟨hp, 6, none⟩ (.slice (some ⟨w1.heap.size, 0, none⟩) z z))) := Lib.hid (Or.inr (Or.inr ⟨HZ.out, by omega, rfl, G', b', w1.heap.size, bk3.touch ((Touch.refl (fun k => k = hp) w3).setCell (p := ⟨hp, 6, none⟩) (Or.inl rfl) _) (fun k hk hg => by
            subst hk
            rcases HG.out _ hg with e | e
            · exact H.out.dis _ H.out.hm.fh e
            · omega), HG.out, hs1, by
              have := lt_of (show w3.heap[w1.heap.size]? = _ from hrow)
              simpa [World.setCell] using this, fun hg => by have := HBK.out.gl _ hg; omega, by
              have := hrow.other (g' := hp) (fun e => nh e.symm) 6 (.slice (some ⟨w1.heap.size, 0, none⟩) z z)
              exact this, by
              have := block_setCell hself3 6 (.slice (some ⟨w1.heap.size, 0, none⟩) z z)
              exact this, Touch.setCell (F := fun k => G k ∨ k = hp) (((HT.out.mono (fun k hk => Or.inl hk)).then (Touch.of_below B2)).trans ht3 (fun k hk => Or.inr (by omega))) (p := ⟨hp, 6, none⟩) (Or.inl (Or.inr rfl)) _⟩))
        clear hw2 B2 N2 hm2 rd hrow ht3 hself3 bk3 MD HBK HT HG
        generalize w1.heap.size = g1 at *
        go_wp2_with fail
        go_ret
        exact FIN.out
      · rw [hme] at h2
        cases h2

end
end Go.Proofs.YtjogaohnphafgaaGreat

namespace Go.Proofs.YtjogaohnphafgaaGreat
section
open Go.RowKit

theorem cfor_bd (n : Int) (h1 : 0 ≤ n) (h2 : n ≤ 100000) : n ≤ cfor n ∧ cfor n ≤ 100000 := by
  unfold cfor
  cases h : classes.find? (fun c => decide (n ≤ c)) with
  | none =>
    have := List.find?_eq_none.1 h 100000 (by unfold classes; simp)
    simp at this; omega
  | some c =>
    have h3 := List.find?_some h
    have h4 := List.mem_of_find?_eq_some h
    obtain ⟨i, hi, rfl⟩ := List.getElem_of_mem h4
    have h5 := classes_le i (by rw [classes_len] at hi; exact hi)
    rw [List.getD_eq_getElem?_getD, List.getElem?_eq_getElem hi] at h5
    simp at h3 h5 ⊢
    omega

theorem wish_ge (k s m room need : Int) (h : polErr k s m = 0) (_h1 : 0 ≤ room ∧ room ≤ 100000) (h2 : 0 ≤ need ∧ need ≤ 100000) : need ≤ wishI k s room need := by
  obtain ⟨p1, p2, p3⟩ := polOk_of h
  have hkk : k = 1 ∨ k = 2 ∨ k = 3 ∨ k = 4 ∨ k = 5 := by omega
  rcases hkk with rfl | rfl | rfl | rfl | rfl
  · simp [wishI]
  · have := mul_bd need s h2.1 h2.2 (p2 rfl).1 (p2 rfl).2
    simp [wishI]; omega
  · simp [wishI]; omega
  · simp [wishI]; omega
  · have := cfor_bd need h2.1 h2.2
    simp [wishI]; omega

theorem gV_facts (k s m room need : Int) (h : polErr k s m = 0) (h1 : 0 ≤ room ∧ room ≤ 100000) (h2 : 0 ≤ need ∧ need ≤ 100000) (he : gE m room need = 0) :
    need ≤ gV k s m room need ∧ room ≤ gV k s m room need ∧ gV k s m room need ≤ 100000 := by
  have hw := wish_ge k s m room need h h1 h2
  obtain ⟨p1, p2, p3⟩ := polOk_of h
  unfold gE at he
  unfold gV
  by_cases h3 : need ≤ room
  · rw [if_pos h3]; omega
  · rw [if_neg h3] at he ⊢
    by_cases h4 : m < need
    · rw [if_pos h4] at he; omega
    · rw [if_neg h4]; omega

theorem grow_facts (k s m room need : Int) : (growE k s m room need = 0 → need ≤ growV k s m room need ∧ room ≤ growV k s m room need) ∧ (growE k s m room need ≠ 0 → growV k s m room need = 0) := by
  unfold growE growV
  by_cases h : polErr k s m = 0
  · rw [if_pos h]
    by_cases hr : (0 ≤ room ∧ room ≤ 100000) ∧ (0 ≤ need ∧ need ≤ 100000)
    · rw [if_pos hr, if_pos ⟨h, hr⟩]
      refine ⟨fun he => ?_, fun he => ?_⟩
      · have := gV_facts k s m room need h hr.1 hr.2 he; exact ⟨this.1, this.2.1⟩
      · rcases gE_cases k s m room need with x | x
        · exact absurd x he
        · exact x.2
    · rw [if_neg hr, if_neg (fun x => hr x.2)]
      exact ⟨fun h => absurd h (by decide), fun _ => rfl⟩
  · rw [if_neg h, if_neg (fun x => h x.1)]
    exact ⟨fun x => absurd x h, fun _ => rfl⟩

theorem shrV_bd (k s m room used : Int) (h : polErr k s m = 0) (h1 : shrinkIn room used) : used ≤ shrV k room used (gV k s m 0 used) (gE m 0 used) ∧ shrV k room used (gV k s m 0 used) (gE m 0 used) ≤ room := by
  obtain ⟨a1, a2⟩ := h1
  unfold shrV
  split
  · next h3 =>
    have := gV_facts k s m 0 used h (by omega) (by omega) h3.1
    omega
  · omega

theorem shrink_facts (k s m room used : Int) : shrinkE k s m room used = 0 → used ≤ shrinkV k s m room used ∧ shrinkV k s m room used ≤ room := by
  unfold shrinkE shrinkV
  by_cases h : polErr k s m = 0
  · rw [if_pos h]
    by_cases hr : shrinkIn room used
    · rw [if_pos hr, if_pos ⟨h, hr⟩]
      exact fun _ => shrV_bd k s m room used h hr
    · rw [if_neg hr]; intro h; omega
  · rw [if_neg h]; intro x; exact absurd x h

theorem turns_facts (k s m need : Int) : growE k s m 0 need = 0 → shrinkE k s m (growV k s m 0 need) need = 0 ∧ shrinkV k s m (growV k s m 0 need) need = growV k s m 0 need := by
  intro he
  unfold growE at he
  by_cases h : polErr k s m = 0
  · rw [if_pos h] at he
    by_cases hr : (0 ≤ (0 : Int) ∧ (0 : Int) ≤ 100000) ∧ (0 ≤ need ∧ need ≤ 100000)
    · rw [if_pos hr] at he
      have hv : growV k s m 0 need = gV k s m 0 need := by unfold growV; rw [if_pos ⟨h, hr⟩]
      rw [hv]
      have hb := gV_facts k s m 0 need h hr.1 hr.2 he
      have hin : shrinkIn (gV k s m 0 need) need := ⟨by omega, by omega⟩
      unfold shrinkE shrinkV
      rw [if_pos h, if_pos hin, if_pos ⟨h, hin⟩, he]
      refine ⟨rfl, ?_⟩
      exact shrV_more (Int.le_refl _)
    · rw [if_neg hr] at he; omega
  · rw [if_neg h] at he; exact absurd he h

end
end Go.Proofs.YtjogaohnphafgaaGreat

namespace Go.Proofs.YtjogaohnphafgaaGreat
section
open Go.RowKit

theorem growV_has (k s m : Int) (cap N : Nat) (hp : polErr k s m = 0) (hc : cap ≤ 100000) (h : N ≤ cap) : growV k s m cap N = cap ∧ growE k s m cap N = 0 := by
  have h1 : (N : Int) ≤ cap := by omega
  have h2 : (0 ≤ (cap : Int) ∧ (cap : Int) ≤ 100000) ∧ (0 ≤ (N : Int) ∧ (N : Int) ≤ 100000) := by omega
  unfold growV growE gV gE
  exact ⟨by rw [if_pos ⟨hp, h2⟩, if_pos h1], by rw [if_pos hp, if_pos h2, if_pos h1]⟩
theorem growV_new (k s m : Int) (cap N : Nat) (hp : polErr k s m = 0) (hc : cap ≤ 100000) (hN : N ≤ 100000) (he : growE k s m cap N = 0) : (N : Int) ≤ growV k s m cap N ∧ (cap : Int) ≤ growV k s m cap N ∧ growV k s m cap N ≤ 100000 := by
  unfold growE at he
  rw [if_pos hp, if_pos ⟨by omega, by omega⟩] at he
  unfold growV
  rw [if_pos ⟨hp, by omega, by omega⟩]
  exact gV_facts k s m cap N hp (by omega) (by omega) he

def FitPost (k s m : Int) (g : Nat) (cs : List Int) (n cap N : Nat) (w : World) : Ending → World → Prop := fun e w' => Below w.heap.size w w' ∧
  ((N ≤ cap ∧ e = .returned (.tuple #[.slice (some ⟨g, 0, none⟩) N cap, .bool false, .int .i64 0])) ∨
   (cap < N ∧ ∃ g', w.heap.size ≤ g' ∧ e = .returned (.tuple #[.slice (some ⟨g', 0, none⟩) N (growV k s m cap N).toNat, .bool true, .int .i64 0]) ∧ byteRow w' g' (cs.take n ++ zeros ((growV k s m cap N).toNat - n))))

/-- 'copy' into a row that is known, as one step of a region that draws: of the other blocks none has turned. -/
theorem step_copy_at {P : Program} {ops : Array Oper} {o : Oper} {a : Act} {w : World} {K : Act → World → Prop} {Q : Exit → Act → World → Prop} {E : Prop} (hgd : o.guard = none) (d s : Operand) (dT sT : TypeId)
    (ho : o.op = .call { callee := .builtin .copy, args := #[d, s], argTypes := #[dT, sT] }) (elem : TypeId) (hu : P.underlying dT = some (.slice elem)) (hsz : (P.info? elem).map (·.size) = some 1)
    (dp sp : Option Addr) (dLen dCap sLen sCap : Nat) (hd : a.eval d = .slice dp dLen dCap) (hs : a.eval s = .slice sp sLen sCap)
    (g off : Nat) (cur : List Value) (t : TypeId) (hg : w.heap[g]? = some (.cells cur.toArray t (0, 0))) (cs : List Value) (hn : cs.length = Nat.min sLen dLen)
    (hpos : 0 < cs.length → dp = some ⟨g, off, none⟩ ∧ ∃ ad, sp = some ad ∧ ∀ j v, cs[j]? = some v → w.cell? (ad.add j) = some v)
    (hfit : off + cs.length ≤ cur.length) (h1 : ∀ v ∈ cs, v.oneCell' = true)
    (h : ∀ w', w'.heap[g]? = some (.cells (splice cur off cs).toArray t (0, 0)) → Touch (fun k => k = g) w w' → K (a.put o.dst (goInt cs.length)) w') :
    if Region.wanted o (yielded ops a.tmps) = true then Oper.wp P o a w K Q else E := by
  have hw : Region.wanted o (yielded ops a.tmps) = true := by simp [Region.wanted, hgd]
  rw [if_pos hw]
  by_cases h0 : cs.length = 0
  · obtain rfl : cs = [] := List.eq_nil_of_length_eq_zero h0
    have hrun := run_copy_none (P := P) w dT sT o.type elem dp sp dLen dCap sLen sCap hu hsz (by simpa using hn.symm)
    unfold Oper.wp
    simp [execOp, ho, resolve, invoke, builtin, hd, hs, hrun, Result.andThen]
    exact h w (by simpa [splice] using hg) (Touch.refl _ _)
  · obtain ⟨rfl, ad, rfl, hsrc⟩ := hpos (by omega)
    have hrun := run_copy_row (P := P) w dT sT o.type elem g off dLen dCap ad sLen sCap cur.toArray t cs hu hsz hg hn hsrc (by simpa using hfit) h1
    unfold Oper.wp
    simp [execOp, ho, resolve, invoke, builtin, hd, hs, hrun, Result.andThen]
    exact h _ (by simpa [splice] using setRow_heap w g _ _ t _ hg) ⟨rfl, rfl, rfl, by simp [World.setRow], fun k _ hk => setRow_other w g k _ hk⟩

end
end Go.Proofs.YtjogaohnphafgaaGreat

namespace Go.Proofs.YtjogaohnphafgaaGreat
section
open Go.RowKit

def ringCells (bp : Nat) (o k s m : Int) (mv : Value) (st len : Int) : Array Value :=
  #[.pointer (some ⟨bp, 0, none⟩), .int .i64 o, .int .i64 k, .int .i64 s, .int .i64 m, .bool false, mv, .int .i64 st, .int .i64 len]
/-- The ring's memory: nil, or a block. -/
def memOf (g : Option Nat) (R : Nat) : Value := match g with | none => .slice none R R | some b => .slice (some ⟨b, 0, none⟩) R R
theorem memOf_sh (g : Option Nat) (R : Nat) : ∃ a, memOf g R = .slice a R R ∧ (∀ b, g = some b → a = some ⟨b, 0, none⟩) ∧ (g = none → a = none) := by
  cases g with
  | none => exact ⟨none, rfl, fun b h => (by cases h), fun _ => rfl⟩
  | some b => exact ⟨_, rfl, fun c h => (by cases h; rfl), fun h => (by cases h)⟩

def CellsPost (g : Option Nat) (at' n R : Nat) (w : World) : Ending → World → Prop := fun e w' =>
  ∃ f1 f2, e = .returned (.tuple #[.slice f1 (min (at' + n) R - at') (min (at' + n) R - at'), .slice f2 (n - (min (at' + n) R - at')) (n - (min (at' + n) R - at'))]) ∧
    (∀ b, g = some b → (at' < min (at' + n) R → f1 = some ⟨b, at', none⟩) ∧ (0 < n - (min (at' + n) R - at') → f2 = some ⟨b, 0, none⟩)) ∧ ∃ q, w' = w.drewN q

theorem cells_mk {b at' n R q A B : Nat} {w : World} {f1 f2 : Option Addr} (hA : A = min (at' + n) R - at') (hB : B = n - A) (h1 : at' < min (at' + n) R → f1 = some ⟨b, at', none⟩) (h2 : 0 < B → f2 = some ⟨b, 0, none⟩) :
    CellsPost (some b) at' n R w (.returned (.tuple #[.slice f1 A A, .slice f2 B B])) (w.drewN q) := by
  subst hA hB
  refine ⟨f1, f2, rfl, fun b' hb' => ?_, q, rfl⟩
  obtain rfl : b = b' := by simpa using hb'
  exact ⟨h1, h2⟩

end
end Go.Proofs.YtjogaohnphafgaaGreat

namespace Go.Proofs.YtjogaohnphafgaaGreat
section
open Go.RowKit

theorem Reads.touch {F : Nat → Prop} {w w' : World} {k : IntKind} {v : Value} {zs : List Int} (h : Reads w k v zs) (ht : Touch F w w') (hF : ∀ b o n c, v = .slice (some ⟨b, o, none⟩) n c → ¬ F b) : Reads w' k v zs := by
  obtain ⟨a, cap, rfl, hl, hc⟩ := h
  refine ⟨a, cap, rfl, hl, fun hne => ?_⟩
  obtain ⟨b, o, rfl, h1⟩ := hc hne
  refine ⟨b, o, rfl, fun j hj => ?_⟩
  have h2 := h1 j hj
  have hb : b < w.heap.size := World.block_lt_of_cell? w ⟨b, o + j, none⟩ h2
  have h3 := ht.block b hb (hF b o _ _ rfl)
  unfold World.cell? at h2 ⊢
  rw [h3]
  exact h2

theorem Reads.take {w : World} {k : IntKind} {a : Option Addr} {n c : Nat} {zs : List Int} (h : Reads w k (.slice a n c) zs) (m : Nat) (hm : m ≤ zs.length) : Reads w k (.slice a m c) (zs.take m) := by
  obtain ⟨a', cap, e, hl, hc⟩ := h
  simp only [Value.slice.injEq] at e
  obtain ⟨rfl, rfl, rfl⟩ := e
  have hlm : (zs.take m).length = m := by rw [List.length_take]; omega
  refine ⟨a, c, by rw [hlm], by omega, fun hne => ?_⟩
  have h0 : 0 < m := by
    rcases Nat.eq_zero_or_pos m with h0 | h0
    · subst h0; simp at hne
    · exact h0
  obtain ⟨b, o, rfl, h1⟩ := hc (by intro e; subst e; simp at hm; omega)
  refine ⟨b, o, rfl, fun j hj => ?_⟩
  rw [hlm] at hj
  rw [h1 j (by omega)]
  simp [List.getD_eq_getElem?_getD, hj]

theorem Reads.dropZ {w : World} {k : IntKind} {b o n c : Nat} {zs : List Int} (h : Reads w k (.slice (some ⟨b, o, none⟩) n c) zs) (t : Nat) (ht : t ≤ zs.length) (z : Option Addr) (hz : t < zs.length → z = some ⟨b, o + t, none⟩) (m : Nat) : Reads w k (.slice z (n - t) m) (zs.drop t) := by
  obtain ⟨a', cap, e, hl, hc⟩ := h
  simp only [Value.slice.injEq] at e
  obtain ⟨rfl, rfl, rfl⟩ := e
  have hlm : (zs.drop t).length = zs.length - t := by rw [List.length_drop]
  refine ⟨z, m, by rw [hlm], by omega, fun hne => ?_⟩
  have h0 : t < zs.length := by
    rcases Nat.lt_or_ge t zs.length with h0 | h0
    · exact h0
    · exact absurd (List.drop_eq_nil_of_le h0) hne
  obtain ⟨b', o', e1, h1⟩ := hc (by intro e; subst e; simp at h0)
  simp only [Option.some.injEq, Addr.mk.injEq, and_true] at e1
  obtain ⟨rfl, rfl⟩ := e1
  refine ⟨b, o + t, hz h0, fun j hj => ?_⟩
  rw [hlm] at hj
  rw [Nat.add_assoc, h1 (t + j) (by omega)]
  simp [List.getD_eq_getElem?_getD]

theorem splice_mapF (cs zs : List Int) (F : Nat) : (splice cs F zs).map (Value.int .u8) = splice (cs.map (Value.int .u8)) F (zs.map (Value.int .u8)) := by simp [splice]

theorem bytes_spliceF {cs zs : List Int} {F : Nat} (h : bytes cs) (hz : bytes zs) : bytes (splice cs F zs) := by
  intro z hm
  simp only [splice, List.mem_append] at hm
  rcases hm with hm | hm | hm
  · exact h z (List.mem_of_mem_take hm)
  · exact hz z hm
  · exact h z (List.mem_of_mem_drop hm)

def ReplPost (k s m : Int) (g : Nat) (cs : List Int) (n cap f t : Nat) (zs : List Int) (N : Nat) (w : World) : Ending → World → Prop := fun e w' =>
  ∃ g' ds, e = .returned (.tuple #[.slice (some ⟨g', 0, none⟩) N (growV k s m cap N).toNat, .bool (decide (cap < N)), .int .i64 0]) ∧ byteRow w' g' ds ∧ ds.length = (growV k s m cap N).toNat ∧ bytes ds ∧
    ds.take N = cs.take f ++ zs ++ (cs.take n).drop t ∧ (g' = g ∨ w.heap.size ≤ g') ∧ Touch (fun k => k = g) w w'

end
end Go.Proofs.YtjogaohnphafgaaGreat
