/-
  appends: what it gives. No conditions.
-/
import Derived.Test.YteeiohhoccgafaaSame
import Derived.ArgAppend
namespace Go.Proofs.Yteeiohhoccgafaa
open Go.RowKit

def KeepPost (w : World) : Ending → World → Prop := fun e w' => e = .returned (.bool true) ∧ Below w.heap.size w w'

theorem byteInfo0 : (Try.prog.info? 5).map (fun i => (i.zero, i.size, i.bytes)) = some (some (.int .u8 0), 1, 1) := by kernel_rfl

/-- The cells of a slice, as the law on append wants them. -/
theorem Reads.cells {w : World} {p : Option Addr} {n m : Nat} {zs : List Int} (h : Reads w .u8 (.slice p n m) zs) (hn : zs.length = n) : ∀ b, p = some b → ∀ j u, (zs.map (Value.int .u8))[j]? = some u → w.cell? (b.add j) = some u := by
  intro b hb j u hj
  subst hb
  obtain ⟨a, cap, e, hl, hc⟩ := h
  simp only [Value.slice.injEq] at e
  obtain ⟨rfl, _, _⟩ := e
  rw [List.getElem?_map] at hj
  obtain ⟨z, hz, rfl⟩ := Option.map_eq_some_iff.1 hj
  have hlt : j < zs.length := (List.getElem?_eq_some_iff.1 hz).1
  obtain ⟨b', o, e, hcell⟩ := hc (by intro e; subst e; simp at hlt)
  cases e
  have e1 : (⟨b', o, none⟩ : Addr).add j = ⟨b', o + j, none⟩ := by unfold Addr.add; split <;> simp_all
  rw [e1, hcell j hlt]
  rw [List.getD_eq_getElem?_getD, hz]
  rfl

theorem new_cells (w : World) (us : List Value) (t : TypeId) : ∀ j u, us[j]? = some u → (w.alloc (.cells us.toArray t)).cell? ((⟨w.heap.size, 0, none⟩ : Addr).add j) = some u := by
  intro j u hj
  have e1 : (⟨w.heap.size, 0, none⟩ : Addr).add j = ⟨w.heap.size, j, none⟩ := by unfold Addr.add; split <;> simp_all
  rw [e1, cell_of_row _ _ _ _ _ _ (heap_alloc_new w _)]
  simpa using hj

set_option maxHeartbeats 4000000 in
set_option maxRecDepth 100000 in
theorem appends_any (c : Nat) (B : Nat) (R : Rel) (prs : List (Value × Value)) (w : World) (hc : CellsAt w B c prs) (ht : Twins w B R) (hp : ∀ xy ∈ prs, Pr R xy) :
    Calls Try.prog 56 #[.pointer (some ⟨c, 0, none⟩)] w (KeepPost w) := by
  obtain ⟨i0, hi, hz0, hz1, hz2⟩ := info_parts byteInfo0
  have HC := Lib.hid hc
  have HT := Lib.hid ht
  have HP := Lib.hid hp
  obtain ⟨a, ca, a', ca', hcb, hrow⟩ := hc.open
  have HCB := Lib.hid hcb
  have c0 : w.cell? ⟨c, 0, none⟩ = some (.slice a prs.length ca) := by rw [cell_of hcb]; rfl
  have HR := Lib.hid hrow
  have len := hc.len
  clear hc ht hp hcb hrow
  go_enter Try.func56, Try.ntmps56
  go_wp2_with fail
  go_loopw [11] (fun i wr => ∃ k : Nat, k ≤ prs.length ∧ i = .int .i64 k ∧ Below w.heap.size w wr) (fun i _ => prs.length - (intOf i).toNat)
  case atStart => exact ⟨0, Nat.zero_le _, rfl, Below.refl _ _⟩
  case round =>
    obtain ⟨k, hk, rfl, hb⟩ := hrel
    have hbs := hb.size
    by_cases hlt : k < prs.length
    · obtain ⟨g, g', rfl, rfl, h1, h2⟩ := HR.out k hlt
      have c1 : wr.cell? ⟨c, 1, none⟩ = some (.slice (some ⟨g', 0, none⟩) prs.length ca') := old_cell hb (by rw [cell_of HCB.out]; rfl)
      have hpr := HP.out _ (List.getElem_mem hlt)
      obtain ⟨p1, q1, len1, cap1, e, hl1, hm1, hcp⟩ := id hpr
      have hprs : Pr R (.slice p1 len1 cap1, .slice q1 len1 cap1) := e ▸ hpr
      have RD := Lib.hid (hprs.reads (HT.out.below hb) len1 hl1)
      have g1 := old_cell hb h1
      have g2 := old_cell hb h2
      rw [e] at g1 g2
      simp only at g1 g2
      have PN : p1 = none → len1 = 0 ∧ cap1 = 0 := fun h => by
        rcases Nat.eq_zero_or_pos cap1 with h0 | h0
        · omega
        · obtain ⟨b, o, _, _, h', _⟩ := hcp h0; rw [h] at h'; cases h'
      have QN : q1 = none → len1 = 0 ∧ cap1 = 0 := fun h => by
        rcases Nat.eq_zero_or_pos cap1 with h0 | h0
        · omega
        · obtain ⟨_, _, b, o, _, h', _⟩ := hcp h0; rw [h] at h'; cases h'
      have HPN := Lib.hid PN
      have HQN := Lib.hid QN
      clear e hpr hcp h1 h2 hprs PN QN
      have hm1' : cap1 ≤ 9223372036854775807 := by omega
      by_cases hfc : len1 = cap1
      · subst hfc
        obtain ⟨zs, hzl, hzr, hzb⟩ := RD.out
        obtain ⟨r1, r2⟩ := hzr len1
        go_wp2_with (at_builtin; go_must (refine wpList_append_grows (wr.alloc (.cells #[.int .u8 1, .int .u8 2, .int .u8 3] 5)) rfl _ _ 28 rfl 5 i0 (.int .u8 0) 1 1 Try.underlying28 hi hz0 hz1 hz2 rfl (by decide) p1 len1 len1 (zs.map (Value.int .u8)) rfl (by exact HPN.out) (by simp [hzl]) ?holds ⟨wr.heap.size, 0, none⟩ 3 3 [.int .u8 1, .int .u8 2, .int .u8 3] (by simp [Act.eval]) rfl (new_cells wr [.int .u8 1, .int .u8 2, .int .u8 3] 5) (by simp [Value.oneCell']) (by omega) (by unfold maxLen; omega) (by omega) ?_))
        case holds => exact (r1.below (w' := wr.alloc (.cells #[.int .u8 1, .int .u8 2, .int .u8 3] 5)) (by go_grown) rfl).cells hzl
        intro v1 w1 hown1 hgr1
        have bel1 : Below wr.heap.size wr w1 := Below.grown (by go_grown) hgr1 (by simp) (fun k hk => by cases hk)
        have hs1 : wr.heap.size + 1 ≤ w1.heap.size := by have := hgr1.size; simpa using this
        clear hgr1
        go_wp2_with (at_builtin; go_must (refine wpList_append_grows (w1.alloc (.cells #[.int .u8 1, .int .u8 2, .int .u8 3] 5)) rfl _ _ 28 rfl 5 i0 (.int .u8 0) 1 1 Try.underlying28 hi hz0 hz1 hz2 rfl (by decide) q1 len1 len1 (zs.map (Value.int .u8)) rfl (by exact HQN.out) (by simp [hzl]) ?holds ⟨w1.heap.size, 0, none⟩ 3 3 [.int .u8 1, .int .u8 2, .int .u8 3] (by simp [Act.eval]) rfl (new_cells w1 [.int .u8 1, .int .u8 2, .int .u8 3] 5) (by simp [Value.oneCell']) (by omega) (by unfold maxLen; omega) (by omega) ?_))
        case holds => exact ((r2.below bel1 rfl).below (w' := w1.alloc (.cells #[.int .u8 1, .int .u8 2, .int .u8 3] 5)) (by go_grown) rfl).cells hzl
        intro v2 w2 hown2 hgr2
        have bel2 : Below w1.heap.size w1 w2 := Below.grown (by go_grown) hgr2 (by simp) (fun k hk => by cases hk)
        clear hgr2
        have e3 : ∀ zs : List Int, zs.map (Value.int .u8) ++ [.int .u8 1, .int .u8 2, .int .u8 3] = (zs ++ [1, 2, 3]).map (Value.int .u8) := by simp
        have r1' : Reads w2 .u8 v1 (zs ++ [1, 2, 3]) := by
          refine Reads.below (w := w1) ?_ bel2 rfl
          exact Reads.own (B := _) (t := 5) (by rw [e3] at hown1; simpa [hzl] using hown1) (by simp; omega)
        have r2' : Reads w2 .u8 v2 (zs ++ [1, 2, 3]) := Reads.own (by rw [e3] at hown2; simpa [hzl] using hown2) (by simp; omega)
        have R1 := Lib.hid r1'
        have R2 := Lib.hid r2'
        have belw : Below w.heap.size w w2 := (hb.trans (bel1.mono hbs)).trans (bel2.mono (Nat.le_trans hbs bel1.size))
        clear r1 r2 r1' r2' hown1 hown2 e3 hzr hzb
        go_wp2_with fail
        refine (equal_same R1.out R2.out).mono ?_
        rintro e w3 ⟨rfl, m, rfl⟩
        go_wp2_with fail
        refine (same_any c B R prs _ (HC.out.below (bdrewN belw m)) (HT.out.below (bdrewN belw m)) HP.out).mono ?_
        rintro e w3 ⟨rfl, m2, rfl⟩
        go_wp2_with fail
        go_roundw
        case rel => exact ⟨k + 1, by omega, by go_num, bdrewN belw _⟩
        case measure => simp [intOf]; omega
      · have hfc' : len1 < cap1 := by omega
        clear hfc
        go_wp2_with fail
        go_roundw
        case rel => exact ⟨k + 1, by omega, by go_num, hb⟩
        case measure => simp [intOf]; omega
    · have hkn : k = prs.length := by omega
      go_wp2_with fail
      go_ret
      exact ⟨rfl, hb⟩

end Go.Proofs.Yteeiohhoccgafaa
