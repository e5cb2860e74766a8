/-
  WriteString once more: the blocks of integers stay. Conditions: the builder is the caller's own.
-/
import Derived.Test.YtljjndifmfhffaaGreatDoorLedgerChecksPbu
import Derived.Test.YtljjndifmfhffaaGreatDoorLedgerChecksPaa
namespace Go.Proofs.YtljjndifmfhffaaGreatDoor
open Go.RowKit
set_option linter.unusedVariables false

theorem row_blk {w : World} {B e size n : Nat} {v : Value} {xs : List Value} {k : Nat} (h : w.ownsRow B e size v n xs) (hk : v.ownBlock = some k) : ∃ cur, w.heap[k]? = some (.cells cur e (0, 0)) := by
  rcases h.2 with ⟨hv, _⟩ | ⟨g, cap, cur, hv, _, hg, _⟩
  · subst hv; simp [Value.ownBlock] at hk
  · subst hv
    simp only [Value.ownBlock, Option.some.injEq] at hk
    subst hk
    exact ⟨cur, hg⟩

/-- Every block stays that holds neither a builder nor octets. -/
def IntsStay (w w' : World) : Prop := ∀ (k : Nat) (xs : Array Value) (t : TypeId), t ≠ 53 → t ≠ 5 → w.heap[k]? = some (.cells xs t (0, 0)) → w'.heap[k]? = some (.cells xs t (0, 0))
theorem IntsStay.refl (w : World) : IntsStay w w := fun _ _ _ _ _ h => h
theorem IntsStay.trans {a b c : World} (h : IntsStay a b) (g : IntsStay b c) : IntsStay a c := fun k xs t h1 h2 x => g k xs t h1 h2 (h k xs t h1 h2 x)
theorem IntsStay.below {w w' : World} (h : Below w.heap.size w w') : IntsStay w w' := fun k xs t _ _ x => (h.block k (lt_of x)).trans x
def UsedB (w : World) (B b : Nat) (l : List UInt8) : Prop := Lib.BuilderAt 53 5 B b (.pointer (some ⟨b, 0, none⟩)) (Lib.byteCells l) w
theorem IsB.below {w w' : World} {B b : Nat} {l : List UInt8} (h : IsB w B b l) (hb : Below w.heap.size w w') : IsB w' B b l :=
  h.elim (fun ⟨hB, v, hv, hown, hne⟩ => Or.inl ⟨hB, v, (hb.block b (lt_of hv)).trans hv, hown.kept (row := none) ⟨hb.os, hb.tape, hb.output, hb.size, fun k hk _ => hb.block k hk⟩ (Classical.em _), hne⟩)
    (fun ⟨hB, v, hv, hown, hne⟩ => Or.inr ⟨hB, v, (hb.block b (lt_of hv)).trans hv, hown.kept (row := none) ⟨hb.os, hb.tape, hb.output, hb.size, fun k hk _ => hb.block k hk⟩ (Classical.em _), hne⟩)
theorem UsedB.isB {w : World} {B b : Nat} {l : List UInt8} (h : UsedB w B b l) : IsB w B b l := Or.inr h
theorem stay_builder {w : World} {b : Nat} {cs : Array Value} (h : w.heap[b]? = some (.cells cs 53 (0, 0))) (j : Nat) (v : Value) : IntsStay w (w.setCell ⟨b, j, none⟩ v) := fun k xs t ht _ hk => by
  have hne : k ≠ b := by
    intro e
    subst e
    rw [h] at hk
    simp only [Option.some.injEq, Obj.cells.injEq] at hk
    exact ht hk.2.1.symm
  exact (Below.heap_setCell _ _ _ k hne).trans hk

set_option maxHeartbeats 1000000 in
set_option maxRecDepth 100000 in
theorem copyCheck_keep (B b : Nat) (l : List UInt8) (w : World) (h : IsB w B b l) :
    Calls Tryz.prog 47 #[.pointer (some ⟨b, 0, none⟩)] w (fun e w' => e = .returned (.tuple #[]) ∧ UsedB w' B b l ∧ IntsStay w w' ∧ Below B w w') := by
  obtain ⟨j, hj, hjs⟩ := Option.map_eq_some_iff.1 builderSize
  rcases h with h | h
  · have h0 := h.cell0
    have hf := h.frozen0
    have HH : Hid (IntsStay w (w.setCell ⟨b, 0, none⟩ (.pointer (some ⟨b, 0, none⟩)))) := Lib.hid (by obtain ⟨_, v, hb, _⟩ := h; exact stay_builder hb 0 _)
    go_enter Tryz.func47, Tryz.ntmps47
    go_wp2
    rw [Lib.run_to_unsafe w ⟨b, 0, none⟩ Tryz.underlying50 Tryz.underlying101 hj (by rw [hjs]; decide) h.shape (Nat.zero_lt_succ 1)]
    simp only [Result.andThen]
    rw [Oper.upon_value]
    go_wp2
    rw [run_callFunc_extern Tryz.func75 (by kernel_rfl) (by kernel_rfl) (by kernel_rfl) (e := Extern.AbiNoEscape.same) (by kernel_rfl)]
    rw [Lib.run_noEscape]
    simp only [Result.andThen]
    rw [Oper.upon_value]
    go_wp2
    rw [Lib.run_from_unsafe w ⟨b, 0, none⟩ Tryz.underlying101 Tryz.underlying50 hj h.shape builderLies]
    simp only [Result.andThen]
    rw [Oper.upon_value]
    go_wp2
    go_end0
    exact ⟨rfl, h.used _, HH.out, (Below.refl B w).setCell (p := ⟨b, 0, none⟩) h.1 _⟩
  · have h0 := h.cell0
    go_enter Tryz.func47, Tryz.ntmps47
    go_wp2
    rw [Lib.run_neq_ptr_same w _ Tryz.underlying50 hj]
    go_wp2
    go_end0
    exact ⟨rfl, h, IntsStay.refl w, Below.refl B _⟩

set_option maxHeartbeats 2000000 in
set_option maxRecDepth 100000 in
theorem writeString_keep (B b : Nat) (l : List UInt8) (s : ByteArray) (w : World) (h : IsB w B b l) (hlen : l.length + s.size ≤ 140737488355328) (hBw : B ≤ w.heap.size) :
    Calls Tryz.prog 16 #[.pointer (some ⟨b, 0, none⟩), .string s] w (fun e w' => e = .returned (.tuple #[.int .i64 s.size, .nilIface]) ∧ UsedB w' B b (l ++ s.data.toList) ∧ IntsStay w w' ∧ Below B w w') := by
  obtain ⟨i0, hi, hz0, hz1, hz2⟩ := info_parts byteInfo
  have CC := Lib.hid (copyCheck_keep B b l w h)
  clear h
  go_enter Tryz.func16, Tryz.ntmps16
  go_wp2_with fail
  refine CC.out.mono ?_
  rintro e w1 ⟨rfl, h1, hst1, hb1⟩
  have ST1 := Lib.hid hst1
  clear hst1
  obtain ⟨hB, v, hbk, hown, hne⟩ := h1
  have c0 : w1.cell? ⟨b, 0, none⟩ = some (.pointer (some ⟨b, 0, none⟩)) := by rw [Lib.cell_of_heap hbk]; rfl
  have c1 : w1.cell? ⟨b, 1, none⟩ = some v := by rw [Lib.cell_of_heap hbk]; rfl
  rw [Lib.byteCells_length] at hown
  go_wp2_with (at_builtin; refine Lib.wpList_append_own_string _ rfl _ _ 51 9 rfl B 5 i0 Tryz.underlying51 Tryz.underlying9 hi hz0 hz1 hz2 _ _ _ rfl hown s rfl ?c3 ?c4 ?c5 ?_)
  case c3 => unfold maxLen; omega
  case c4 => omega
  case c5 => have := hb1.size; omega
  intro v' w2 hown' hgrow _
  have hlt : b < w1.heap.size := lt_of hbk
  have hb2 : w2.heap[b]? = some (.cells #[.pointer (some ⟨b, 0, none⟩), v] 53 (0, 0)) := by
    rw [hgrow.block b hlt (fun e => hne e.symm)]
    exact hbk
  have ST2 : Hid (IntsStay w1 w2) := Lib.hid (fun k xs t _ ht hk => by
    refine (hgrow.block k (lt_of hk) (fun e => ?_)).trans hk
    obtain ⟨cur, hcur⟩ := row_blk hown e.symm
    rw [hk] at hcur
    simp only [Option.some.injEq, Obj.cells.injEq] at hcur
    exact ht hcur.2.1)
  have ST3 : Hid (∀ x, IntsStay w2 (w2.setCell ⟨b, 1, none⟩ x)) := Lib.hid (fun x => stay_builder hb2 1 x)
  have d0 : w2.cell? ⟨b, 0, none⟩ = some (.pointer (some ⟨b, 0, none⟩)) := by rw [Lib.cell_of_heap hb2]; rfl
  have d1 : w2.cell? ⟨b, 1, none⟩ = some v := by rw [Lib.cell_of_heap hb2]; rfl
  have f1 : w2.frozen? ⟨b, 1, none⟩ = false := Lib.frozen_of_heap hb2 1
  obtain ⟨ao, n', cap, rfl⟩ : ∃ ao n' cap, v' = .slice ao n' cap := by
    rcases hown'.2 with ⟨hv, _⟩ | ⟨g, cap, cur, hv, _⟩
    · exact ⟨_, _, _, hv⟩
    · exact ⟨_, _, _, hv⟩
  go_wp2_with fail
  go_ret2
  refine ⟨rfl, ?_, (ST1.out.trans ST2.out).trans (ST3.out _), ?_⟩
  · exact Lib.BuilderAt.put (T := 53) (e := 5) hB hb2 (bs' := Lib.byteCells (l ++ s.data.toList)) (by rw [Lib.byteCells_append, ← Lib.strCells_eq, List.length_append, Lib.byteCells_length, Lib.strCells_length]; exact hown') (by decide)
  · exact (hb1.grown hgrow (by have := hb1.size; omega) (fun k hk => (hown.lt k hk).1)).setCell (p := ⟨b, 1, none⟩) hB _

end Go.Proofs.YtljjndifmfhffaaGreatDoor
