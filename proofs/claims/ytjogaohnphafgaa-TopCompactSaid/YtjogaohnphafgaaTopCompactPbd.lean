/-
  The memory of a heap made anew: the book's Change, copy of what fits, renew. No conditions but bounds.
-/
import Derived.Test.YtjogaohnphafgaaTopCompactPbb
import Derived.Test.YtjogaohnphafgaaTopCompactPbc
import Derived.Test.YtjogaohnphafgaaTopCompactPao
namespace Go.Proofs.Ytjogaohnphafgaa
open Go.RowKit
set_option linter.unusedVariables false

theorem copy_min (w : World) (g len : Nat) (sp : Option Addr) (n sCap : Nat) (cur zs : List Int) (hg : byteRow w g cur) (hl : cur.length = len) (hr : Reads w .u8 (.slice sp n sCap) zs) (hn : zs.length = n) :
    ∃ w' r, (Builtin.copy_ #[34, 34] 3 #[.slice (some ⟨g, 0, none⟩) len len, .slice sp n sCap]).run Try.prog w = .ok r w' ∧ byteRow w' g (splice cur 0 (zs.take len)) ∧ Touch (fun k => k = g) w w' := by
  by_cases h0 : Nat.min n len = 0
  · have hz : zs.take len = [] := by
      refine List.eq_nil_of_length_eq_zero ?_
      rw [List.length_take, hn, Nat.min_comm]
      exact h0
    have hrun := run_copy_none (P := Try.prog) w 34 34 3 5 (some ⟨g, 0, none⟩) sp len len n sCap Try.underlying34 byteSize h0
    exact ⟨w, _, hrun, by rw [hz]; simpa [splice] using hg, Touch.refl _ _⟩
  · obtain ⟨a, cap, hv, _, hc⟩ := hr
    simp only [Value.slice.injEq] at hv
    obtain ⟨rfl, _, rfl⟩ := hv
    have hpos : 0 < n ∧ 0 < len := by
      have : Nat.min n len = min n len := rfl
      omega
    obtain ⟨b, o, rfl, hcell⟩ := hc (by intro e; rw [e] at hn; simp at hn; omega)
    have hg2 : w.heap[g]? = some (.cells (cur.map (Value.int .u8)).toArray 5 (0, 0)) := hg
    have htl : ((zs.take len).map (Value.int .u8)).length = Nat.min n len := by
      rw [List.length_map, List.length_take, hn]
      exact Nat.min_comm _ _
    have hrun := run_copy_row (P := Try.prog) w 34 34 3 5 g 0 len len ⟨b, o, none⟩ n sCap (cur.map (Value.int .u8)).toArray 5 ((zs.take len).map (Value.int .u8)) Try.underlying34 byteSize hg2 htl (fun j v hj => by
      rw [List.getElem?_map] at hj
      have ead : (⟨b, o, none⟩ : Addr).add j = ⟨b, o + j, none⟩ := by simp [Addr.add]
      rw [ead]
      cases hz : (zs.take len)[j]? with
      | none => rw [hz] at hj; cases hj
      | some u =>
        rw [hz] at hj
        cases hj
        have hj2 := (List.getElem?_eq_some_iff.1 hz).1
        rw [List.length_take] at hj2
        rw [List.getElem?_take_of_lt (by omega)] at hz
        rw [hcell j (by omega), List.getD_eq_getElem?_getD, hz]
        rfl) (by
      have : Nat.min n len ≤ len := Nat.min_le_right _ _
      rw [htl]
      simp
      omega) (by intro v hv; obtain ⟨z, _, rfl⟩ := List.mem_map.1 hv; rfl)
    refine ⟨w.setRow g ((cur.map (Value.int .u8)).toArray.toList.take 0 ++ (zs.take len).map (Value.int .u8) ++ (cur.map (Value.int .u8)).toArray.toList.drop (0 + ((zs.take len).map (Value.int .u8)).length)).toArray, _, hrun, ?_, ⟨rfl, rfl, rfl, by simp [World.setRow], fun k _ hk => setRow_other w g k _ hk⟩⟩
    have := setRow_heap w g _ ((cur.map (Value.int .u8)).toArray.toList.take 0 ++ (zs.take len).map (Value.int .u8) ++ (cur.map (Value.int .u8)).toArray.toList.drop (0 + ((zs.take len).map (Value.int .u8)).length)).toArray 5 _ hg2
    unfold byteRow
    rw [this]
    simp [splice, List.map_drop]
/-- So many octets: what was, then 0. -/
def reM (o : List Int) (z : Nat) : List Int := o.take z ++ zeros (z - o.length)
theorem reM_len (o : List Int) (z : Nat) : (reM o z).length = z := by
  unfold reM zeros
  rw [List.length_append, List.length_take, List.length_replicate]
  omega
theorem reM_splice (o : List Int) (z : Nat) : splice (zeros z) 0 (o.take z) = reM o z := by
  unfold splice reM zeros
  simp only [List.take_zero, List.nil_append, Nat.zero_add, List.drop_replicate, List.length_take]
  congr 2
  omega
theorem reM_at (o : List Int) (z j : Nat) (h1 : j < o.length) (h2 : j < z) : (reM o z)[j]? = o[j]? := by
  unfold reM
  rw [List.getElem?_append_left (by rw [List.length_take]; omega), List.getElem?_take_of_lt h2]
theorem reM_bytes {o : List Int} (h : bytes o) (z : Nat) : bytes (reM o z) := fun u hu => by
  unfold reM zeros at hu
  rcases List.mem_append.1 hu with h1 | h1
  · exact h u (List.mem_of_mem_take h1)
  · rw [List.mem_replicate] at h1
    omega

def ch1E (M z : Nat) : Int := if M < z then 12 else 0
def ch1N (M n z : Nat) : Nat := if M < z then n else z
set_option maxHeartbeats 1000000 in
theorem change1_any {w : World} {G : Nat → Prop} {bp M n : Nat} {b : BookSt} (h : BkIn w G bp M n b) (z : Nat) (hz : z ≤ 10000000) :
    Calls Try.prog 65 #[.pointer (some ⟨bp, 0, none⟩), .int .i64 1, .int .i64 (n : Int), .int .i64 (z : Int)] w (fun e w' => e = .returned (.int .i64 (ch1E M z)) ∧ ∃ G' b', BkIn w' G' bp M (ch1N M n z) b' ∧ (∀ k, G' k → G k ∨ w.heap.size ≤ k) ∧ Touch G w w') := by
  have hle := h.le
  refine (change_any bp 1 (n : Int) (z : Int) M n 0 w G b 1 h.bk h.acc (by omega) (by omega) (by omega) (by omega) (by omega) (by omega) (by rw [h.bud]; omega) (by rw [h.tot]; omega) h.ent).mono ?_
  rintro e w' ⟨rfl, hbk, ht⟩
  have hbk2 := narrowB hbk
  clear hbk
  by_cases hc : M < z
  · have hE : changeE b M n 0 n z = 12 := by
      unfold changeE
      rw [if_neg (by omega), if_pos (by rw [h.bud, h.tot]; omega)]
    have hS : changeSt b 1 M n 0 n z = b := by
      unfold changeSt
      rw [if_neg (by rw [hE]; rintro ⟨h, _⟩; cases h)]
    rw [hS] at hbk2
    have hN : ch1N M n z = n := by unfold ch1N; rw [if_pos hc]
    rw [hN]
    exact ⟨by rw [hE]; unfold ch1E; rw [if_pos hc], _, b, ⟨hbk2, h.acc, h.bud, h.tot, h.ent, h.le, fun k hk => hk.2⟩, fun k hk => hk.1, ht⟩
  · have hE : changeE b M n 0 n z = 0 := by
      unfold changeE
      rw [if_neg (by omega), if_neg (by rw [h.bud, h.tot]; omega)]
    have hN : ch1N M n z = z := by unfold ch1N; rw [if_neg hc]
    by_cases hnz : n = z
    · have hS : changeSt b 1 M n 0 n z = b := by
        unfold changeSt
        rw [if_neg (by rintro ⟨_, h⟩; omega)]
      rw [hS] at hbk2
      rw [hN]
      subst hnz
      exact ⟨by rw [hE]; unfold ch1E; rw [if_neg hc], _, b, ⟨hbk2, h.acc, h.bud, h.tot, h.ent, h.le, fun k hk => hk.2⟩, fun k hk => hk.1, ht⟩
    · have hS : changeSt b 1 M n 0 n z = { heldSt b 1 M n 0 ((z : Int) - (n : Int)) with entries := trimE (b.entries ++ [holdEnt 1 ((z : Int) - (n : Int))]) } := by
        unfold changeSt
        rw [if_pos ⟨hE, by omega⟩]
      rw [hS] at hbk2
      refine ⟨by rw [hE]; unfold ch1E; rw [if_neg hc], _, _, ⟨hbk2, ?_, h.bud, ?_, ?_, ?_, fun k hk => hk.2⟩, fun k hk => hk.1, ht⟩
      · rw [hN]
        show (heldSt b 1 M n 0 ((z : Int) - (n : Int))).acc 1 = _
        unfold heldSt
        simp
        omega
      · rw [hN]
        show (heldSt b 1 M n 0 ((z : Int) - (n : Int))).total = _
        unfold heldSt
        simp only [h.tot]
        omega
      · refine trimE_len _ ?_
        rw [List.length_append]
        have := h.ent
        simp
        omega
      · rw [hN]; omega

/-- A heap and its book. -/
structure HB (w : World) (hp bp : Nat) (S : HpSt) (vm vb vh : Value) (vhs : List Value) (F G : Nat → Prop) (M : Nat) (b : BookSt) : Prop where
  hm : HpMem w F hp bp S vm vb vh vhs
  bk : BkIn w G bp M S.mem.length b
  dis : ∀ k, F k → ¬ G k
  fl : ∀ k, F k → k < w.heap.size
theorem HB.below {w w' : World} {hp bp : Nat} {S : HpSt} {vm vb vh : Value} {vhs : List Value} {F G : Nat → Prop} {M : Nat} {b : BookSt} (h : HB w hp bp S vm vb vh vhs F G M b) (hb : Below w.heap.size w w') : HB w' hp bp S vm vb vh vhs F G M b :=
  ⟨h.hm.below hb, h.bk.below hb, h.dis, fun k hk => Nat.lt_of_lt_of_le (h.fl k hk) hb.size⟩
theorem HB.touch {w w' : World} {hp bp : Nat} {S : HpSt} {vm vb vh : Value} {vhs : List Value} {F G Z : Nat → Prop} {M : Nat} {b : BookSt} (h : HB w hp bp S vm vb vh vhs F G M b) (ht : Touch Z w w') (hF : ∀ k, Z k → ¬ F k) (hG : ∀ k, Z k → ¬ G k) : HB w' hp bp S vm vb vh vhs F G M b :=
  ⟨h.hm.same (fun k hk hl => ht.block k hl (fun e => hF k e hk)), h.bk.touch ht hG, h.dis, fun k hk => Nat.lt_of_lt_of_le (h.fl k hk) ht.size⟩
/-- The book was asked. -/
theorem HB.asked {w w' : World} {hp bp : Nat} {S : HpSt} {vm vb vh : Value} {vhs : List Value} {F G G' : Nat → Prop} {M : Nat} {b b' : BookSt} (h : HB w hp bp S vm vb vh vhs F G M b) (hb : BkIn w' G' bp M S.mem.length b') (hg : ∀ k, G' k → G k ∨ w.heap.size ≤ k) (ht : Touch G w w') : HB w' hp bp S vm vb vh vhs F G' M b' :=
  ⟨h.hm.same (fun k hk hl => ht.block k hl (fun e => h.dis k hk e)), hb, fun k hk hg' => by
    rcases hg k hg' with e | e
    · exact h.dis k hk e
    · have := h.fl k hk
      omega, fun k hk => Nat.lt_of_lt_of_le (h.fl k hk) ht.size⟩

def hpCells (bp : Nat) (S : HpSt) (vm vb vh : Value) : Array Value := #[.pointer (some ⟨bp, 0, none⟩), .int .i64 1, .int .i64 S.k, .int .i64 S.s, .int .i64 S.m, .bool S.closed, vm, vb, .int .i64 (S.last : Int), .int .i64 (S.count : Int), vh]
/-- What renew leaves. -/
def RnPost (w : World) (hp bp : Nat) (S : HpSt) (vb vh : Value) (F G : Nat → Prop) (M z : Nat) : Ending → World → Prop := fun e w' =>
  (z = S.mem.length ∧ e = .returned (.int .i64 0) ∧ w' = w) ∨
  (z ≠ S.mem.length ∧ M < z ∧ e = .returned (.int .i64 12) ∧ ∃ G' b', BkIn w' G' bp M S.mem.length b' ∧ (∀ k, G' k → G k ∨ w.heap.size ≤ k) ∧ Touch G w w') ∨
  (z ≠ S.mem.length ∧ z ≤ M ∧ e = .returned (.int .i64 0) ∧ ∃ G' b' g, BkIn w' G' bp M z b' ∧ (∀ k, G' k → G k ∨ w.heap.size ≤ k) ∧ w.heap.size ≤ g ∧ g < w'.heap.size ∧ ¬ G' g ∧ byteRow w' g (reM S.mem z) ∧ w'.heap[hp]? = some (.cells (hpCells bp S (.slice (some ⟨g, 0, none⟩) z z) vb vh) 70 (0, 0)) ∧ Touch (fun k => G k ∨ k = hp) w w')

set_option maxHeartbeats 4000000 in
set_option maxRecDepth 100000 in
theorem renew_any {w : World} {hp bp : Nat} {S : HpSt} {vm vb vh : Value} {vhs : List Value} {F G : Nat → Prop} {M : Nat} {b : BookSt} (h : HB w hp bp S vm vb vh vhs F G M b) (z : Nat) (hz : z ≤ 100000) :
    Calls Try.prog 50 #[.pointer (some ⟨hp, 0, none⟩), .int .i64 (z : Int)] w (RnPost w hp bp S vb vh F G M z) := by
  obtain ⟨c0, c1, c2, c3, c4, c5, c6, c7, c8, c9, c10⟩ := h.hm.cells
  obtain ⟨ma, mc, hvm, hcap, hcap2, hsh⟩ := h.hm.memory
  obtain ⟨n, hn⟩ : ∃ n, S.mem.length = n := ⟨_, rfl⟩
  have HN := Lib.hid hn
  have HVM := Lib.hid hvm
  rw [hvm, hn] at c6
  have hbig := h.hm.big.1
  rw [hn] at hbig
  have H := Lib.hid h
  clear c2 c3 c4 c5 c7 c8 c9 c10 hsh hvm hcap h
  by_cases hzn : z = n
  · have hzn' : ((z : Int) == (n : Int)) = true := by simp [hzn]
    have FIN : Hid (RnPost w hp bp S vb vh F G M z (.returned (.int .i64 0)) w) := Lib.hid (Or.inl ⟨by rw [hn]; exact hzn, rfl, rfl⟩)
    clear hn
    go_enter Try.func50, Try.ntmps50
    go_wp2_with fail
    go_ret
    exact FIN.out
  · have hzn' : ((z : Int) == (n : Int)) = false := beq_eq_false_iff_ne.2 (by omega)
    have S0 : BelM w w.drew := (Below.refl _ w).drew
    have CH := Lib.hid (change1_any (H.out.bk.below S0) z (by omega))
    rw [hn] at CH
    have g0 : ∀ y : WIn (BelM w), y.w.cell? ⟨hp, 0, none⟩ = some (.pointer (some ⟨bp, 0, none⟩)) := fun y => old_cell y.h c0
    have g1 : ∀ y : WIn (BelM w), y.w.cell? ⟨hp, 1, none⟩ = some (.int .i64 1) := fun y => old_cell y.h c1
    have g6 : ∀ y : WIn (BelM w), y.w.cell? ⟨hp, 6, none⟩ = some (.slice ma n mc) := fun y => old_cell y.h c6
    haveI ne : Nonempty (WIn (BelM w)) := ⟨⟨w.drew, S0⟩⟩
    have HZ : Hid (z ≠ S.mem.length) := Lib.hid (by rw [hn]; exact hzn)
    clear hn
    go_enter Try.func50, Try.ntmps50
    go_upto_region 3 with fail
    refine wp_normal ?_
    refine wp_region_plan 14 (BelM w) rfl ?_
    refine wpN_seg [0, 1, 2, 3, 4, 5, 6, 7, 8, 9, 10, 11, 12, 13] (by kernel_rfl) (by kernel_rfl) (by kernel_rfl) (by kernel_rfl) (by decide) (fun _ _ _ _ _ h => h) S0 ?_
    simp only [pick, List.map_cons, List.map_nil, List.getElem?_cons_succ, List.getElem?_cons_zero, Option.getD_some]
    repeat (go_big_quiet_step (fail))
    refine wpQuiet_nil ?_
    clear g0 g1 g6 ne
    refine wpN_one 14 _ (by kernel_rfl) rfl ?_
    refine NextAt.free (by kernel_rfl) ?_
    intro K hK
    go_simp
    refine CH.out.mono ?_
    rintro e w1 ⟨rfl, G', b', hb', hG', hT'⟩
    have hT : Touch G w w1 := (Touch.refl G w).drew.then hT'
    have hG' : ∀ k, G' k → G k ∨ w.heap.size ≤ k := hG'
    go_simp
    refine hK _ _ ?_
    clear hK K
    refine wpN_pure [15] (by kernel_rfl) (by kernel_rfl) (by kernel_rfl) (fun _ _ _ _ _ h => h) (fun h => by cases h) ?_
    simp only [pick, List.map_cons, List.map_nil, List.getElem?_cons_succ, List.getElem?_cons_zero, Option.getD_some]
    repeat (go_big_quiet_step (fail))
    refine wpQuiet_nil ?_
    refine wpN_done (by kernel_rfl) ?_
    by_cases hM : M < z
    · have e1 : ch1E M z = 12 := by unfold ch1E; rw [if_pos hM]
      have e2 : ch1N M n z = n := by unfold ch1N; rw [if_pos hM]
      rw [e1]
      rw [e2] at hb'
      have FIN : Hid (RnPost w hp bp S vb vh F G M z (.returned (.int .i64 12)) w1) := Lib.hid (Or.inr (Or.inl ⟨HZ.out, hM, rfl, G', b', by rw [HN.out]; exact hb', hG', hT⟩))
      clear hb' hG' hT hT' e1 e2
      go_wp2_with fail
      go_ret
      exact FIN.out
    · have e1 : ch1E M z = 0 := by unfold ch1E; rw [if_neg hM]
      have e2 : ch1N M n z = z := by unfold ch1N; rw [if_neg hM]
      rw [e1]
      rw [e2] at hb'
      have MD := Lib.hid (made_any (z : Int) (z : Int) w1)
      have HBK := Lib.hid hb'
      have HG := Lib.hid hG'
      have HT := Lib.hid hT
      clear hb' hG' hT hT' e1 e2 CH S0
      go_wp2_with fail
      refine MD.out.mono ?_
      rintro e w2 hmd
      have hme : madeE (z : Int) (z : Int) = 0 := by unfold madeE; rw [if_pos ⟨⟨by omega, by omega⟩, by omega, by omega⟩]
      rcases hmd with ⟨_, rfl, hw2⟩ | ⟨h2, _⟩
      · rw [Int.toNat_natCast] at hw2
        rw [Int.toNat_natCast]
        have B2 : Below w1.heap.size w1 w2 := by rw [hw2]; exact (Below.refl _ _).alloc (Nat.le_refl _) _
        have N2 : byteRow w2 w1.heap.size (zeros z) := by rw [hw2]; exact heap_alloc_new _ _
        have hm2 : HpMem w2 F hp bp S vm vb vh vhs := (H.out.hm.same (fun k hk hl => HT.out.block k hl (fun e => H.out.dis k hk e))).below B2
        have d6 := hm2.cells.2.2.2.2.2.2.1
        rw [HVM.out, HN.out] at d6
        have rd : Reads w2 .u8 (.slice ma n mc) S.mem := by
          have h1 := hm2.mem.1
          rw [HVM.out, HN.out] at h1
          rw [← HN.out]
          rw [← HN.out] at h1
          exact Reads.own h1 (by rw [HN.out]; omega)
        obtain ⟨w3, r, hcp, hrow, ht3⟩ := copy_min w2 w1.heap.size z ma n mc (zeros z) S.mem N2 (by simp [zeros]) rd HN.out
        rw [reM_splice] at hrow
        have h1l := H.out.fl hp H.out.hm.fh
        have hs1 := HT.out.size
        have nh : hp ≠ w1.heap.size := by omega
        have hself3 : w3.heap[hp]? = some (.cells (hpCells bp S vm vb vh) 70 (0, 0)) := (ht3.block _ (lt_of hm2.self) nh).trans hm2.self
        have hq3 : w3.cell? ⟨hp, 6, none⟩ = some vm := by rw [cell_of hself3]; rfl
        have fz3 := free_of hself3 6
        have bk3 : BkIn w3 G' bp M z b' := (HBK.out.below B2).touch ht3 (fun k hk hg => by have := HBK.out.gl k hg; omega)
        have FIN : Hid (RnPost w hp bp S vb vh F G M z (.returned (.int .i64 0)) (w3.setCell ⟨hp, 6, none⟩ (.slice (some ⟨w1.heap.size, 0, none⟩) z z))) := Lib.hid (Or.inr (Or.inr ⟨HZ.out, by omega, rfl, G', b', w1.heap.size, bk3.touch ((Touch.refl (fun k => k = hp) w3).setCell (p := ⟨hp, 6, none⟩) (Or.inl rfl) _) (fun k hk hg => by
            subst hk
            rcases HG.out _ hg with e | e
            · exact H.out.dis _ H.out.hm.fh e
            · omega), HG.out, hs1, by
              have := lt_of (show w3.heap[w1.heap.size]? = _ from hrow)
              simpa [World.setCell] using this, fun hg => by have := HBK.out.gl _ hg; omega, by
              have := hrow.other (g' := hp) (fun e => nh e.symm) 6 (.slice (some ⟨w1.heap.size, 0, none⟩) z z)
              exact this, by
              have := block_setCell hself3 6 (.slice (some ⟨w1.heap.size, 0, none⟩) z z)
              exact this, Touch.setCell (F := fun k => G k ∨ k = hp) (((HT.out.mono (fun k hk => Or.inl hk)).then (Touch.of_below B2)).trans ht3 (fun k hk => Or.inr (by omega))) (p := ⟨hp, 6, none⟩) (Or.inl (Or.inr rfl)) _⟩))
        clear hw2 B2 N2 hm2 rd hrow ht3 hself3 bk3 MD HBK HT HG
        generalize w1.heap.size = g1 at *
        go_wp2_with fail
        go_ret
        exact FIN.out
      · rw [hme] at h2
        cases h2

end Go.Proofs.Ytjogaohnphafgaa
