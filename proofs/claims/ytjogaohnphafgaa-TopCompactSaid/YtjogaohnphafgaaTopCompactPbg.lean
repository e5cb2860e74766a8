/-
  A place for some octets of a heap. No conditions but bounds.
-/
import Derived.Test.YtjogaohnphafgaaTopCompactPbd
import Derived.Test.YtjogaohnphafgaaTopCompactPai
import Derived.Test.YtjogaohnphafgaaTopCompactPbf
namespace Go.Proofs.Ytjogaohnphafgaa
open Go.RowKit
set_option linter.unusedVariables false

/-- The heap with a memory made anew. -/
def HpSt.mem' (S : HpSt) (z : Nat) : HpSt := { S with mem := reM S.mem z }
theorem HB.renewed {w w1 w' : World} {hp bp : Nat} {S : HpSt} {vm vb vh : Value} {vhs : List Value} {F G G' : Nat → Prop} {M z g : Nat} {b b' : BookSt} (h : HB w hp bp S vm vb vh vhs F G M b) (hw : Below w.heap.size w w1)
    (hb : BkIn w' G' bp M z b') (hg : ∀ k, G' k → G k ∨ w1.heap.size ≤ k) (hgs : w1.heap.size ≤ g) (hgl : g < w'.heap.size) (hgG : ¬ G' g) (hrow : byteRow w' g (reM S.mem z)) (hself : w'.heap[hp]? = some (.cells (hpCells bp S (.slice (some ⟨g, 0, none⟩) z z) vb vh) 70 (0, 0)))
    (ht : Touch (fun k => G k ∨ k = hp) w1 w') (hz : z ≤ 100000) (hin : ∀ x ∈ S.bl, x.at' + x.len ≤ z) (hvb : ∀ k, vb.ownBlock = some k → k ≠ hp) (hvh : ∀ k, vh.ownBlock = some k → k ≠ hp) (hvs : ∀ (i : Nat) (v : Value), vhs[i]? = some v → ∀ k, v.ownBlock = some k → k ≠ hp) :
    HB w' hp bp (S.mem' z) (.slice (some ⟨g, 0, none⟩) z z) vb vh vhs (fun k => F k ∨ k = g) G' M b' := by
  have m := h.hm.below hw
  have s1 := hw.size
  have keep : ∀ k, F k → k ≠ hp → w'.heap[k]? = w1.heap[k]? := fun k hk hne => ht.block k (by have := h.fl k hk; omega) (fun e => e.elim (h.dis k hk) hne)
  have hlen := reM_len S.mem z
  refine ⟨⟨hself, Or.inl m.fh, ⟨⟨by rw [List.length_map]; simp [HpSt.mem'], Or.inr ⟨g, z, _, by rw [show (S.mem' z).mem.length = z from hlen], Nat.zero_le _, hrow, by rw [show (S.mem' z).mem.length = z from hlen]; exact Nat.le_refl _, by unfold maxLen; omega, by simp [hlen], ?_⟩⟩, fun k hk => ?_⟩, reM_bytes m.mb z, Or.inr ⟨g, by rw [show (S.mem' z).mem.length = z from hlen]⟩, ⟨ownsRow_same m.row.1 (fun k hk => keep k (m.row.2 k hk) (hvb k hk)), fun k hk => Or.inl (m.row.2 k hk)⟩, ⟨ownsRow_same m.hrow.1 (fun k hk => keep k (m.hrow.2 k hk) (hvh k hk)), fun k hk => Or.inl (m.hrow.2 k hk)⟩,
    ⟨m.hs.1, fun i v l h1 h2 => ⟨ownsRow_same (m.hs.2 i v l h1 h2).1 (fun k hk => keep k ((m.hs.2 i v l h1 h2).2 k hk).1 (hvs i v h1 k hk)), fun k hk => ⟨Or.inl ((m.hs.2 i v l h1 h2).2 k hk).1, ((m.hs.2 i v l h1 h2).2 k hk).2⟩⟩⟩, m.ord, fun x hx => ⟨(m.hb x hx).1, (m.hb x hx).2.1, by rw [show (S.mem' z).mem.length = z from hlen]; exact hin x hx⟩, ⟨by rw [show (S.mem' z).mem.length = z from hlen]; exact hz, m.big.2⟩⟩, by rw [show (S.mem' z).mem.length = z from hlen]; exact hb, ?_, ?_⟩
  · show List.take ((S.mem' z).mem.length * 1) ((reM S.mem z).map (Value.int .u8)).toArray.toList = (reM S.mem z).map (Value.int .u8)
    rw [show (S.mem' z).mem.length = z from hlen, List.toList_toArray, List.take_of_length_le (by rw [List.length_map, hlen]; omega)]
  · simp only [Value.ownBlock, Option.some.injEq] at hk
    exact Or.inr hk.symm
  · intro k hk hgk
    rcases hk with hk | rfl
    · rcases hg k hgk with e | e
      · exact h.dis k hk e
      · have := h.fl k hk; omega
    · exact hgG hgk
  · intro k hk
    rcases hk with hk | rfl
    · have := h.fl k hk
      have := ht.size
      omega
    · exact hgl
theorem HpMem.apart {w : World} {F : Nat → Prop} {hp bp : Nat} {S : HpSt} {vm vb vh : Value} {vhs : List Value} (m : HpMem w F hp bp S vm vb vh vhs) :
    (∀ k, vb.ownBlock = some k → k ≠ hp) ∧ (∀ k, vh.ownBlock = some k → k ≠ hp) ∧ (∀ (i : Nat) (v : Value), vhs[i]? = some v → ∀ k, v.ownBlock = some k → k ≠ hp) ∧ (∀ k, vm.ownBlock = some k → k ≠ hp) := by
  have key : ∀ {e size n : Nat} {v : Value} {xs : List Value} {k : Nat}, w.ownsRow 0 e size v n xs → v.ownBlock = some k → e ≠ 70 → k ≠ hp := fun h hk he hkh => by
    obtain ⟨cur, hc⟩ := row_block h hk
    rw [hkh, m.self] at hc
    simp at hc
    exact he hc.2.symm
  refine ⟨fun k hk => key m.row.1 hk (by decide), fun k hk => key m.hrow.1 hk (by decide), fun i v hv k hk => ?_, fun k hk => key m.mem.1 hk (by decide)⟩
  have hi : i < S.hist.length := by rw [← m.hs.1]; exact (List.getElem?_eq_some_iff.1 hv).1
  exact key (m.hs.2 i v _ hv (List.getElem?_eq_getElem hi)).1 hk (by decide)

/-- What place finds. -/
def PlPost (w : World) (hp bp : Nat) (S : HpSt) (vb vh : Value) (F G : Nat → Prop) (M n : Nat) (way : Int) : Ending → World → Prop := fun e w' => ∃ L L', SortedL (lieL S.bl) L ∧ SortedL (lieL S.bl) L' ∧
  ((∃ g, gapSel S.mem.length L n way = some g ∧ e = .returned (.tuple #[.int .i64 (g.at' : Int), .int .i64 0]) ∧ Below w.heap.size w w') ∨
   (gapSel S.mem.length L n way = none ∧ 100000 < endL L' + n ∧ e = .returned (.tuple #[.int .i64 0, .int .i64 4]) ∧ Below w.heap.size w w') ∨
   (gapSel S.mem.length L n way = none ∧ endL L' + n ≤ 100000 ∧ growE S.k S.s S.m S.mem.length (endL L' + n : Nat) ≠ 0 ∧ e = .returned (.tuple #[.int .i64 0, .int .i64 (growE S.k S.s S.m S.mem.length (endL L' + n : Nat))]) ∧ Below w.heap.size w w') ∨
   (gapSel S.mem.length L n way = none ∧ endL L' + n ≤ 100000 ∧ growE S.k S.s S.m S.mem.length (endL L' + n : Nat) = 0 ∧ ∃ (z : Nat) (er : Int) (w1 : World), growV S.k S.s S.m S.mem.length (endL L' + n : Nat) = (z : Int) ∧ endL L' + n ≤ z ∧ S.mem.length ≤ z ∧ z ≤ 100000 ∧ e = .returned (.tuple #[.int .i64 (endL L' : Int), .int .i64 er]) ∧ Below w.heap.size w w1 ∧ RnPost w1 hp bp S vb vh F G M z (.returned (.int .i64 er)) w'))

theorem endL_le {l L : List Blk} {N : Nat} (h : SortedL (lieL l) L) (hin : ∀ x ∈ l, x.at' + x.len ≤ N) : endL L ≤ N := by
  unfold endL
  cases hg : L.getLast? with
  | none => exact Nat.zero_le _
  | some x => exact hin x (h.mem (List.mem_of_getLast? hg)).1

set_option maxHeartbeats 4000000 in
set_option maxRecDepth 100000 in
theorem placeM_any {w : World} {hp bp : Nat} {S : HpSt} {vm vb vh : Value} {vhs : List Value} {F G : Nat → Prop} {M : Nat} {b : BookSt} (h : HB w hp bp S vm vb vh vhs F G M b) (hpol : polErr S.k S.s S.m = 0) (n : Nat) (hn : n ≤ 100000) (way : Int) :
    Calls Try.prog 27 #[.pointer (some ⟨hp, 0, none⟩), .int .i64 (n : Int), .int .i64 way] w (PlPost w hp bp S vb vh F G M n way) := by
  have GA := Lib.hid (gapM_any h.hm n way)
  have H := Lib.hid h
  have HPO := Lib.hid hpol
  clear h hpol
  go_enter Try.func27, Try.ntmps27
  go_wp2_with fail
  refine GA.out.mono ?_
  rintro e w1 ⟨hb1, L, hs, hsel⟩
  have HB1 := Lib.hid hb1
  have HS := Lib.hid hs
  clear GA hs
  cases hg : gapSel S.mem.length L n way with
  | some g =>
    rw [hg] at hsel
    subst hsel
    have FIN : Hid (∀ w', Below w.heap.size w w' → PlPost w hp bp S vb vh F G M n way (.returned (.tuple #[.int .i64 (g.at' : Int), .int .i64 0])) w') := Lib.hid (fun w' hb => ⟨L, L, HS.out, HS.out, Or.inl ⟨g, hg, rfl, hb⟩⟩)
    have B2 := Lib.hid (HB1.out.trans (((Below.refl _ w1).alloc (Nat.le_refl _) (.cells #[.int .i64 (g.at' : Int), .int .i64 (g.len : Int)] 58)).mono HB1.out.size))
    clear hg hb1
    go_wp2_with fail
    go_ret2
    exact FIN.out _ B2.out
  | none =>
    rw [hg] at hsel
    subst hsel
    have B2 : Below w.heap.size w (w1.alloc (.cells #[.int .i64 0, .int .i64 0] 58)) := HB1.out.trans (((Below.refl _ w1).alloc (Nat.le_refl _) _).mono HB1.out.size)
    have HB2 := Lib.hid B2
    have EN := Lib.hid (endM_any (H.out.hm.below B2))
    have HG := Lib.hid hg
    clear hg hb1 B2
    go_wp2_with fail
    generalize w1.alloc (.cells #[.int .i64 0, .int .i64 0] 58) = w2 at *
    refine EN.out.mono ?_
    rintro e w3 ⟨L', hs', rfl, hb3⟩
    have HS' := Lib.hid hs'
    have B3 : Below w.heap.size w w3 := HB2.out.trans (hb3.mono HB2.out.size)
    have HB3 := Lib.hid B3
    have hel : endL L' ≤ S.mem.length := endL_le hs' (fun x hx => (H.out.hm.hb x hx).2.2)
    have hbig := H.out.hm.big.1
    obtain ⟨E, hE⟩ : ∃ E, endL L' = E := ⟨_, rfl⟩
    have HE := Lib.hid hE
    rw [hE] at hel ⊢
    have hE1 : E ≤ 100000 := by omega
    obtain ⟨N, hN⟩ : ∃ N, S.mem.length = N := ⟨_, rfl⟩
    have HN := Lib.hid hN
    rw [hN] at hbig hel
    clear hb3 EN hs' hE
    by_cases hlg : 100000 < E + n
    · have hlg' : (100000 : Int) - (E : Int) < (n : Int) := by omega
      have FIN : Hid (PlPost w hp bp S vb vh F G M n way (.returned (.tuple #[.int .i64 0, .int .i64 4])) w3) := Lib.hid ⟨L, L', HS.out, HS'.out, Or.inr (Or.inl ⟨HG.out, by rw [HE.out]; exact hlg, rfl, HB3.out⟩)⟩
      clear hN B3
      go_wp2_with fail
      go_ret2
      exact FIN.out
    · have hlg' : ¬ ((100000 : Int) - (E : Int) < (n : Int)) := by omega
      obtain ⟨ma, mc, hvm, _⟩ := H.out.hm.memory
      have m3 := H.out.hm.below B3
      obtain ⟨c0, c1, c2, c3, c4, c5, c6, _⟩ := m3.cells
      rw [hvm, hN] at c6
      have S0 : BelM w3 w3.drew := (Below.refl _ w3).drew
      have g2 : ∀ y : WIn (BelM w3), y.w.cell? ⟨hp, 2, none⟩ = some (.int .i64 S.k) := fun y => old_cell y.h c2
      have g3 : ∀ y : WIn (BelM w3), y.w.cell? ⟨hp, 3, none⟩ = some (.int .i64 S.s) := fun y => old_cell y.h c3
      have g4 : ∀ y : WIn (BelM w3), y.w.cell? ⟨hp, 4, none⟩ = some (.int .i64 S.m) := fun y => old_cell y.h c4
      have g6 : ∀ y : WIn (BelM w3), y.w.cell? ⟨hp, 6, none⟩ = some (.slice ma N mc) := fun y => old_cell y.h c6
      haveI ne : Nonempty (WIn (BelM w3)) := ⟨⟨w3.drew, S0⟩⟩
      have GR := Lib.hid (grow_any S.k S.s S.m (N : Int) ((E + n : Nat) : Int) w3.drew)
      have eEn : ((E + n : Nat) : Int) = (E : Int) + (n : Int) := by omega
      have HEN := Lib.hid eEn
      rw [eEn] at GR
      have GV := Lib.hid (fun h0 => growV_new S.k S.s S.m N (E + n) HPO.out hbig (by omega) h0)
      have PL : Hid (∀ e w', ((growE S.k S.s S.m N (E + n : Nat) ≠ 0 ∧ e = .returned (.tuple #[.int .i64 0, .int .i64 (growE S.k S.s S.m N (E + n : Nat))]) ∧ Below w.heap.size w w') ∨
          (growE S.k S.s S.m N (E + n : Nat) = 0 ∧ ∃ (z : Nat) (er : Int) (w1 : World), growV S.k S.s S.m N (E + n : Nat) = (z : Int) ∧ E + n ≤ z ∧ N ≤ z ∧ z ≤ 100000 ∧ e = .returned (.tuple #[.int .i64 (E : Int), .int .i64 er]) ∧ Below w.heap.size w w1 ∧ RnPost w1 hp bp S vb vh F G M z (.returned (.int .i64 er)) w')) → PlPost w hp bp S vb vh F G M n way e w') := Lib.hid (fun e w' hx => by
        refine ⟨L, L', HS.out, HS'.out, Or.inr (Or.inr ?_)⟩
        rw [HE.out, HN.out]
        rcases hx with ⟨h1, h2⟩ | ⟨h1, h2⟩
        · exact Or.inl ⟨by rw [← HN.out]; exact HG.out, by omega, h1, h2⟩
        · exact Or.inr ⟨by rw [← HN.out]; exact HG.out, by omega, h1, h2⟩)
      rw [eEn] at GV PL
      clear hN B3 eEn c0 c1 c2 c3 c4 c5 c6 hvm m3
      go_upto_region 7 with fail
      generalize growV S.k S.s S.m (N : Int) ((E : Int) + (n : Int)) = V at *
      generalize growE S.k S.s S.m (N : Int) ((E : Int) + (n : Int)) = er0 at *
      refine wp_normal ?_
      refine wp_region_plan 12 (BelM w3) rfl ?_
      refine wpN_seg [0, 1, 2, 3, 4, 5, 6, 7, 8, 9, 10, 11] (by kernel_rfl) (by kernel_rfl) (by kernel_rfl) (by kernel_rfl) (by decide) (fun _ _ _ _ _ h => h) S0 ?_
      simp only [pick, List.map_cons, List.map_nil, List.getElem?_cons_succ, List.getElem?_cons_zero, Option.getD_some]
      repeat (go_big_quiet_step (fail))
      refine wpQuiet_nil ?_
      clear g2 g3 g4 g6 ne
      refine wpN_one 12 _ (by kernel_rfl) rfl ?_
      refine NextAt.free (by kernel_rfl) ?_
      intro K hK
      go_simp
      refine GR.out.mono ?_
      rintro e w4 ⟨rfl, hb4⟩
      have B4 : Below w.heap.size w w4 := HB3.out.trans (Below.trans (a := w3) S0 hb4 |>.mono HB3.out.size)
      have HB4 := Lib.hid B4
      go_simp
      refine hK _ _ ?_
      clear hK K hb4 B4
      refine wpN_pure [13, 14, 15, 16, 17] (by kernel_rfl) (by kernel_rfl) (by kernel_rfl) (fun _ _ _ _ _ h => h) (fun h => by cases h) ?_
      simp only [pick, List.map_cons, List.map_nil, List.getElem?_cons_succ, List.getElem?_cons_zero, Option.getD_some]
      repeat (go_big_quiet_step (fail))
      refine wpQuiet_nil ?_
      refine wpN_done (by kernel_rfl) ?_
      by_cases h0 : er0 = 0
      · have h0' : (er0 != 0) = false := by simp [h0]
        obtain ⟨v1, v2, v3⟩ := GV.out h0
        obtain ⟨z, rfl⟩ : ∃ z : Nat, V = (z : Int) := ⟨V.toNat, by omega⟩
        have RN := Lib.hid (renew_any (H.out.below HB4.out) z (by omega))
        subst h0
        go_wp2_with fail
        refine RN.out.mono ?_
        intro e w5 hr
        obtain ⟨er, rfl⟩ : ∃ er, e = .returned (.int .i64 er) := by
          rcases hr with ⟨_, h, _⟩ | ⟨_, _, h, _⟩ | ⟨_, _, h, _⟩ <;> exact ⟨_, h⟩
        have FIN := Lib.hid (PL.out (.returned (.tuple #[.int .i64 (E : Int), .int .i64 er])) w5 (Or.inr ⟨by trivial, z, er, w4, by first | rfl | trivial, by omega, by omega, by omega, rfl, HB4.out, hr⟩))
        clear hr PL RN GV
        go_wp2_with fail
        go_ret2
        exact FIN.out
      · have h0' : (er0 != 0) = true := by simpa using h0
        have FIN := Lib.hid (PL.out (.returned (.tuple #[.int .i64 0, .int .i64 er0])) w4 (Or.inl ⟨h0, rfl, HB4.out⟩))
        clear PL GV
        go_wp2_with fail
        go_ret2
        exact FIN.out

end Go.Proofs.Ytjogaohnphafgaa
