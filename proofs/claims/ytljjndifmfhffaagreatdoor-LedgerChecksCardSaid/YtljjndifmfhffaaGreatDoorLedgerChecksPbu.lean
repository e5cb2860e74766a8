/-
  The reference's entriesFault. No conditions.
  RoomPieces: Pieces and PiecesOf give one list and one error, for all arguments. No conditions.
  strings.Builder at this program: WriteByte, WriteString, String over a list of bytes. 'layS', 'layX': written by the kit's lay-plain.mjs. No conditions.
-/
import Derived.Test.YtljjndifmfhffaaGreatDoorLedgerChecksPbt
import Derived.Test.YtljjndifmfhffaaGreatDoorLedgerChecksPaa
import Derived.Test.YtljjndifmfhffaaGreatDoorLedgerChecksPbr
import Derived.Shelf.Strings.Builder1

namespace Go.Proofs.YtljjndifmfhffaaGreatDoor
section
open Go.RowKit
set_option linter.unusedVariables false

def FaultPost (L : List En) (w : World) : Ending → World → Prop := fun e w' => e = .returned (.int .i64 (listErr L)) ∧ Below w.heap.size w w'

theorem nums_cell {w : World} {A : Nat} {e : En} (h : w.heap[A]? = some (.cells #[.int .i64 e.o, .int .i64 e.p, .int .i64 e.a, .int .i64 e.l, .int .i64 e.u] 3 (0, 0))) (m : Nat) (hm : m < 5) :
    w.cell? ⟨A, m, none⟩ = some (.int .i64 (e.nums.getD m 0)) := by
  rw [cell_of h]
  rcases (show m = 0 ∨ m = 1 ∨ m = 2 ∨ m = 3 ∨ m = 4 by omega) with rfl | rfl | rfl | rfl | rfl <;> rfl

set_option maxHeartbeats 4000000 in
set_option maxRecDepth 100000 in
theorem entriesFault_any (v : Value) (L : List En) (w : World) (hr : EnsIn w v L) :
    Calls Tryz.prog 22 #[v] w (FaultPost L w) := by
  obtain ⟨a, cap, rfl, hl, hc⟩ := hr
  have HC := Lib.hid hc
  clear hc
  by_cases hn : 5000 < L.length
  · have E := Lib.hid (show listErr L = 4 by unfold listErr; rw [if_pos hn])
    have hn' : 5000 < (L.length : Int) := by omega
    go_enter Tryz.func22, Tryz.ntmps22
    go_wp2_with fail
    go_ret
    exact ⟨ret_int E.out.symm, Below.refl _ _⟩
  · have E := Lib.hid (show listErr L = ensErr L by unfold listErr; rw [if_neg hn])
    have hn' : (L.length : Int) ≤ 5000 := by omega
    go_enter Tryz.func22, Tryz.ntmps22
    go_wp2_with fail
    go_loopw [12] (fun i wr => ∃ k : Nat, k ≤ L.length ∧ i = .int .i64 k ∧ ensErr (L.drop k) = ensErr L ∧ Below w.heap.size w wr) (fun i _ => L.length - (intOf i).toNat)
    case atStart => exact ⟨0, Nat.zero_le _, rfl, rfl, Below.refl _ _⟩
    case round =>
      obtain ⟨k, hk, rfl, hp, hbel⟩ := hrel
      have HP := Lib.hid hp
      have BL := Lib.hid hbel
      clear hp
      have hsz := hbel.size
      by_cases hlt : k < L.length
      · obtain ⟨b1, o1, rfl, hc6⟩ := HC.out k hlt
        have hlb : b1 < w.heap.size := World.block_lt_of_cell? w _ hc6.1
        have hc7 : cells6 wr b1 (o1 + k * 6) (L.getD k En.zero) := by
          have f : ∀ j, wr.cell? ⟨b1, j, none⟩ = w.cell? ⟨b1, j, none⟩ := fun j => BL.out.cell (p := ⟨b1, j, none⟩) hlb
          obtain ⟨h0, h1, h2, h3, h4, h5⟩ := hc6
          exact ⟨(f _).trans h0, (f _).trans h1, (f _).trans h2, (f _).trans h3, (f _).trans h4, (f _).trans h5⟩
        have ST := Lib.hid ((ensErr_step L k hlt).symm.trans HP.out)
        clear hc6 hbel
        generalize L.getD k En.zero = e at *
        obtain ⟨g0, g1, g2, g3, g4, g5⟩ := hc7
        by_cases hk1 : 1 ≤ e.k
        · by_cases hk2 : e.k ≤ 11
          · have EK := Lib.hid (show enErr e = numsErr e.nums by unfold enErr; rw [if_pos ⟨hk1, hk2⟩])
            have n1 : ¬ e.k < 1 := by omega
            have n2 : ¬ 11 < e.k := by omega
            obtain ⟨t1, t2, t3, t4, t5⟩ := tower2 wr (.cells #[.int .i64 e.k, .int .i64 e.o, .int .i64 e.p, .int .i64 e.a, .int .i64 e.l, .int .i64 e.u] 33) (.cells #[.int .i64 e.o, .int .i64 e.p, .int .i64 e.a, .int .i64 e.l, .int .i64 e.u] 3)
            have AB := Lib.hid t2
            have BL2 := Lib.hid (t5 BL.out hsz)
            clear t1 t2 t3 t4 t5
            go_wp2_with fail
            generalize (wr.alloc (.cells #[.int .i64 e.k, .int .i64 e.o, .int .i64 e.p, .int .i64 e.a, .int .i64 e.l, .int .i64 e.u] 33)).alloc (.cells #[.int .i64 e.o, .int .i64 e.p, .int .i64 e.a, .int .i64 e.l, .int .i64 e.u] 3) = W1 at *
            go_loop [36] (fun i => ∃ m : Nat, m ≤ 5 ∧ i = .int .i64 m ∧ numsErr (e.nums.drop m) = numsErr e.nums) (fun i => 5 - (intOf i).toNat)
            case atStart => exact ⟨0, by omega, rfl, rfl⟩
            case round =>
              obtain ⟨m, hm, rfl, hq⟩ := hrel
              have HQ := Lib.hid hq
              clear hq
              by_cases hm5 : m < 5
              · have NC := nums_cell (e := e) AB.out m hm5
                have ST2 := Lib.hid ((numsErr_step e.nums m hm5).symm.trans HQ.out)
                generalize e.nums.getD m 0 = z at *
                by_cases hz : inB z
                · have ST3 := Lib.hid ((if_pos hz).symm.trans ST2.out)
                  obtain ⟨z1, z2⟩ := hz
                  clear ST2
                  go_wp2_with fail
                  refine (inBudget_yes _ _ z1 z2).mono ?_
                  rintro e' w' ⟨rfl, rfl⟩
                  go_wp2_with fail
                  go_round
                  case rel => exact ⟨m + 1, by omega, by go_num, ST3.out⟩
                  case measure => simp [intOf]; omega
                · have ST3 := Lib.hid ((if_neg hz).symm.trans ST2.out)
                  have HZ := Lib.hid hz
                  clear ST2 hz
                  go_wp2_with fail
                  refine (inBudget_no _ _ HZ.out).mono ?_
                  rintro e' w' ⟨rfl, rfl⟩
                  go_wp2_with fail
                  go_ret
                  exact ⟨ret_int (by rw [E.out, ← ST.out, EK.out, ← ST3.out]; rfl), BL2.out⟩
              · obtain rfl : m = 5 := by omega
                have ST3 := Lib.hid (show enErr e = 0 from EK.out.trans HQ.out.symm)
                have ST4 := Lib.hid ((if_pos ST3.out).symm.trans ST.out)
                clear hm hm5
                go_wp2_with fail
                go_round
                case rel => exact ⟨k + 1, by omega, by go_num, ST4.out, BL2.out⟩
                case measure => simp [intOf]; omega
          · have EK := Lib.hid (show enErr e = 10 by unfold enErr; rw [if_neg (by omega)])
            have n1 : ¬ e.k < 1 := by omega
            have n2 : 11 < e.k := by omega
            have B2 := Lib.hid (BL.out.alloc hsz (.cells #[.int .i64 e.k, .int .i64 e.o, .int .i64 e.p, .int .i64 e.a, .int .i64 e.l, .int .i64 e.u] 33))
            go_wp2_with fail
            go_ret
            exact ⟨ret_int (by rw [E.out, ← ST.out, EK.out]; rfl), B2.out⟩
        · have EK := Lib.hid (show enErr e = 10 by unfold enErr; rw [if_neg (by omega)])
          have n1 : e.k < 1 := by omega
          have B2 := Lib.hid (BL.out.alloc hsz (.cells #[.int .i64 e.k, .int .i64 e.o, .int .i64 e.p, .int .i64 e.a, .int .i64 e.l, .int .i64 e.u] 33))
          go_wp2_with fail
          go_ret
          exact ⟨ret_int (by rw [E.out, ← ST.out, EK.out]; rfl), B2.out⟩
      · obtain rfl : k = L.length := by omega
        have H0 := Lib.hid (show listErr L = 0 by rw [E.out, ← HP.out, List.drop_length]; rfl)
        clear hlt hk
        go_wp2_with fail
        go_ret
        exact ⟨ret_int H0.out.symm, BL.out⟩

end
end Go.Proofs.YtljjndifmfhffaaGreatDoor

namespace Go.Proofs.YtljjndifmfhffaaGreatDoor
section
open Go.RowKit

/-- The sizes of the first k pieces, when n octets are divided into M. -/
def pcs (n M : Int) (k : Nat) : List Int := (List.range k).map fun (i : Nat) => n / M + if (i : Int) < n % M then 1 else 0

theorem pcs_len (n M : Int) (k : Nat) : (pcs n M k).length = k := by simp [pcs]
theorem pcs_succ_lt (n M : Int) (k : Nat) (h : (k : Int) < n % M) : pcs n M (k + 1) = pcs n M k ++ [n / M + 1] := by
  simp [pcs, List.range_succ, h]
theorem pcs_succ_ge (n M : Int) (k : Nat) (h : n % M ≤ (k : Int)) : pcs n M (k + 1) = pcs n M k ++ [n / M] := by
  have h' : ¬ (k : Int) < n % M := by omega
  simp [pcs, List.range_succ, h']

/-- A call that gives back a new list of integers and an error. -/
def RetRow (err : Int) (zs : List Int) (w : World) : Ending → World → Prop := fun e w' =>
  ∃ v, e = .returned (.tuple #[v, .int .i64 err]) ∧ w'.ownsRow w.heap.size 3 1 v zs.length (zs.map (Value.int .i64)) ∧ Below w.heap.size w w'

theorem div_bd (n M : Int) (h1 : 0 ≤ n) (h2 : n ≤ 100000) (h3 : 1 ≤ M) : 0 ≤ n / M ∧ n / M ≤ 100000 := by
  refine ⟨Int.ediv_nonneg h1 (by omega), ?_⟩
  have := Int.ediv_le_self M h1
  omega
theorem many_bd (n most : Int) (h1 : 0 ≤ n) (h2 : n ≤ 100000) (h3 : 1 ≤ most) (h4 : most ≤ 100000) : 0 ≤ (n + most - 1) / most ∧ (n + most - 1) / most ≤ 200000 := by
  refine ⟨Int.ediv_nonneg (by omega) (by omega), ?_⟩
  have := Int.ediv_le_self most (a := n + most - 1) (by omega)
  omega

end
end Go.Proofs.YtljjndifmfhffaaGreatDoor

namespace Go.Proofs.YtljjndifmfhffaaGreatDoor
section
open Go.RowKit Go.Shelf

def layS_ren : Go.Shelf.Ren := ⟨fun | 169 => 21 | n => n, fun | 70 => 50 | 9 => 9 | 0 => 0 | 72 => 53 | 37 => 51 | 127 => 77 | 3 => 3 | 5 => 5 | n => n, fun | n => n⟩
theorem layS : Go.Proofs.Lays.n169 Tryz.prog layS_ren := {
  mixed := by kernel_rfl
  f169 := Tryz.func21.trans (congrArg some (by kernel_rfl))
  t0 := Tryz.underlying0
  a0 := Tryz.isAgg0
  z0 := Tryz.sizeOf0
  v0 := Tryz.zeroValue0
  t3 := Tryz.underlying3
  a3 := Tryz.isAgg3
  z3 := Tryz.sizeOf3
  v3 := Tryz.zeroValue3
  t9 := Tryz.underlying9
  a9 := Tryz.isAgg9
  z9 := Tryz.sizeOf9
  v9 := Tryz.zeroValue9
  t37 := Tryz.underlying51
  a37 := Tryz.isAgg51
  z37 := Tryz.sizeOf51
  v37 := Tryz.zeroValue51
  t70 := Tryz.underlying50
  a70 := Tryz.isAgg50
  z70 := Tryz.sizeOf50
  v70 := Tryz.zeroValue50
  t72 := Tryz.underlying53
  a72 := Tryz.isAgg53
  z72 := Tryz.sizeOf53
  v72 := Tryz.zeroValue53
  t127 := Tryz.underlying77
  a127 := Tryz.isAgg77
  z127 := Tryz.sizeOf77
  v127 := Tryz.zeroValue77 }
theorem layX : Builder.Extra Tryz.prog layS_ren := {
  sizeBuilder := by kernel_rfl
  liesBuilder := by kernel_rfl
  t5 := Tryz.underlying5
  a5 := Tryz.isAgg5
  z5 := Tryz.sizeOf5
  v5 := Tryz.zeroValue5
  infoByte := by kernel_rfl
  cellsByte := by kernel_rfl
  sizeByte := by kernel_rfl
  neB5 := by decide }

/-- A builder of the call's own (block b) that holds the bytes l. -/
def IsB (w : World) (B b : Nat) (l : List UInt8) : Prop := Lib.IsBuilder 53 5 B b (Lib.byteCells l) w

theorem string_any (B b : Nat) (l : List UInt8) (w : World) (h : IsB w B b l) (h0 : l ≠ []) :
    Calls Tryz.prog 21 #[.pointer (some ⟨b, 0, none⟩)] w (fun e w' => e = .returned (.string ⟨l.toArray⟩) ∧ Below B w w') :=
  Any.Builder_String layS layX B b l w h h0

theorem IsB.new (w : World) {B : Nat} (hB : B ≤ w.heap.size) : IsB (w.alloc (.cells #[.pointer none, .slice none 0 0] 53)) B w.heap.size [] :=
  Or.inl ⟨hB, _, heap_alloc_new w _, ⟨by simp [Lib.byteCells], Or.inl ⟨rfl, rfl⟩⟩, by simp [Value.ownBlock]⟩

set_option maxRecDepth 100000 in
theorem builderSize : (Tryz.prog.info? 53).map (·.size) = some 2 := layX.sizeBuilder
set_option maxRecDepth 100000 in
theorem builderLies : liesAt Tryz.prog Tryz.prog.depth 53 (2 / Tryz.prog.cellsOf 53) 0 53 1 = true := by kernel_rfl
set_option maxRecDepth 100000 in
theorem byteInfo : (Tryz.prog.info? 5).map (fun i => (i.zero, i.size, i.bytes)) = some (some (.int .u8 0), 1, 1) := layX.infoByte

set_option maxHeartbeats 1000000 in
set_option maxRecDepth 100000 in
theorem copyCheck_any (B b : Nat) (l : List UInt8) (w : World) (h : IsB w B b l) :
    Calls Tryz.prog 47 #[.pointer (some ⟨b, 0, none⟩)] w (fun e w' => e = .returned (.tuple #[]) ∧ Lib.BuilderAt 53 5 B b (.pointer (some ⟨b, 0, none⟩)) (Lib.byteCells l) w' ∧ Below B w w') := by
  obtain ⟨j, hj, hjs⟩ := Option.map_eq_some_iff.1 builderSize
  rcases h with h | h
  · have h0 := h.cell0
    have hf := h.frozen0
    go_enter Tryz.func47, Tryz.ntmps47
    go_wp2
    rw [Lib.run_to_unsafe w ⟨b, 0, none⟩ Tryz.underlying50 Tryz.underlying101 hj (by rw [hjs]; decide) h.shape (Nat.zero_lt_succ 1)]
    simp only [Result.andThen]
    rw [Oper.upon_value]
    go_wp2
    rw [run_callFunc_extern Tryz.func75 (by kernel_rfl) (by kernel_rfl) (by kernel_rfl) (e := Extern.AbiNoEscape.same) (by kernel_rfl)]
    rw [Lib.run_noEscape]
    simp only [Result.andThen]
    rw [Oper.upon_value]
    go_wp2
    rw [Lib.run_from_unsafe w ⟨b, 0, none⟩ Tryz.underlying101 Tryz.underlying50 hj h.shape builderLies]
    simp only [Result.andThen]
    rw [Oper.upon_value]
    go_wp2
    go_end0
    exact ⟨rfl, h.used _, (Below.refl B w).setCell (p := ⟨b, 0, none⟩) h.1 _⟩
  · have h0 := h.cell0
    go_enter Tryz.func47, Tryz.ntmps47
    go_wp2
    rw [Lib.run_neq_ptr_same w _ Tryz.underlying50 hj]
    go_wp2
    go_end0
    exact ⟨rfl, h, Below.refl B _⟩

set_option maxHeartbeats 2000000 in
set_option maxRecDepth 100000 in
theorem writeByte_any (B b : Nat) (l : List UInt8) (c : UInt8) (n : Int) (w : World) (hn : n = c.toNat) (h : IsB w B b l) (hlen : l.length + 1 ≤ 140737488355328) (hBw : B ≤ w.heap.size) :
    Calls Tryz.prog 20 #[.pointer (some ⟨b, 0, none⟩), .int .u8 n] w (fun e w' => e = .returned .nilIface ∧ IsB w' B b (l ++ [c]) ∧ Below B w w') := by
  subst hn
  obtain ⟨i0, hi, hz0, hz1, hz2⟩ := info_parts byteInfo
  have CC := Lib.hid (copyCheck_any B b l w h)
  clear h
  go_enter Tryz.func20, Tryz.ntmps20
  go_wp2_with fail
  refine CC.out.mono ?_
  rintro e w1 ⟨rfl, h1, hb1⟩
  obtain ⟨hB, v, hbk, hown, hne⟩ := h1
  have c0 : w1.cell? ⟨b, 0, none⟩ = some (.pointer (some ⟨b, 0, none⟩)) := by rw [Lib.cell_of_heap hbk]; rfl
  have c1 : w1.cell? ⟨b, 1, none⟩ = some v := by rw [Lib.cell_of_heap hbk]; rfl
  rw [Lib.byteCells_length] at hown
  go_wp2_with (at_builtin; refine wpList_append_own _ rfl _ _ 51 rfl B 5 i0 (.int .u8 0) 1 1 Tryz.underlying51 hi hz0 hz1 hz2 rfl (by decide) _ _ _ rfl (hown.alloc _) ⟨w1.heap.size, 0, none⟩ 1 1 [.int .u8 c.toNat] rfl rfl ?c1 ?c2 ?c3 ?c4 ?c5 ?_)
  case c1 =>
    intro j u hj
    match j, hj with
    | 0, hj => simp at hj; subst hj; simp [Addr.add]
  case c2 => intro u hu; simp at hu; subst hu; rfl
  case c3 => unfold maxLen; omega
  case c4 => omega
  case c5 => have := hb1.size; simp; omega
  intro v' w2 hown' hgrow _
  have hlt : b < w1.heap.size := lt_of hbk
  have hb2 : w2.heap[b]? = some (.cells #[.pointer (some ⟨b, 0, none⟩), v] 53 (0, 0)) := by
    rw [hgrow.block b (by simp; omega) (fun e => hne e.symm), Lib.alloc_old w1 _ b hlt]
    exact hbk
  have d0 : w2.cell? ⟨b, 0, none⟩ = some (.pointer (some ⟨b, 0, none⟩)) := by rw [Lib.cell_of_heap hb2]; rfl
  have d1 : w2.cell? ⟨b, 1, none⟩ = some v := by rw [Lib.cell_of_heap hb2]; rfl
  have f1 : w2.frozen? ⟨b, 1, none⟩ = false := Lib.frozen_of_heap hb2 1
  obtain ⟨g, cap, rfl⟩ : ∃ g cap, v' = .slice (some ⟨g, 0, none⟩) (l.length + 1) cap := by
    rcases hown'.2 with ⟨_, h0⟩ | ⟨g, cap, cur, hv, _⟩
    · omega
    · exact ⟨g, cap, hv⟩
  go_wp2_with fail
  go_ret
  refine ⟨rfl, Or.inr ?_, ?_⟩
  · exact Lib.BuilderAt.put (T := 53) (e := 5) hB hb2 (bs' := Lib.byteCells (l ++ [c])) (by simpa [Lib.byteCells] using hown') (by decide)
  · exact ((hb1.alloc (by have := hb1.size; omega) _).grown hgrow (by have := hb1.size; simp; omega) (fun k hk => (hown.lt k hk).1)).setCell (p := ⟨b, 1, none⟩) hB _

set_option maxHeartbeats 2000000 in
set_option maxRecDepth 100000 in
theorem writeString_any (B b : Nat) (l : List UInt8) (s : ByteArray) (w : World) (h : IsB w B b l) (hlen : l.length + s.size ≤ 140737488355328) (hBw : B ≤ w.heap.size) :
    Calls Tryz.prog 16 #[.pointer (some ⟨b, 0, none⟩), .string s] w (fun e w' => e = .returned (.tuple #[.int .i64 s.size, .nilIface]) ∧ IsB w' B b (l ++ s.data.toList) ∧ Below B w w') := by
  obtain ⟨i0, hi, hz0, hz1, hz2⟩ := info_parts byteInfo
  have CC := Lib.hid (copyCheck_any B b l w h)
  clear h
  go_enter Tryz.func16, Tryz.ntmps16
  go_wp2_with fail
  refine CC.out.mono ?_
  rintro e w1 ⟨rfl, h1, hb1⟩
  obtain ⟨hB, v, hbk, hown, hne⟩ := h1
  have c0 : w1.cell? ⟨b, 0, none⟩ = some (.pointer (some ⟨b, 0, none⟩)) := by rw [Lib.cell_of_heap hbk]; rfl
  have c1 : w1.cell? ⟨b, 1, none⟩ = some v := by rw [Lib.cell_of_heap hbk]; rfl
  rw [Lib.byteCells_length] at hown
  go_wp2_with (at_builtin; refine Lib.wpList_append_own_string _ rfl _ _ 51 9 rfl B 5 i0 Tryz.underlying51 Tryz.underlying9 hi hz0 hz1 hz2 _ _ _ rfl hown s rfl ?c3 ?c4 ?c5 ?_)
  case c3 => unfold maxLen; omega
  case c4 => omega
  case c5 => have := hb1.size; omega
  intro v' w2 hown' hgrow _
  have hlt : b < w1.heap.size := lt_of hbk
  have hb2 : w2.heap[b]? = some (.cells #[.pointer (some ⟨b, 0, none⟩), v] 53 (0, 0)) := by
    rw [hgrow.block b hlt (fun e => hne e.symm)]
    exact hbk
  have d0 : w2.cell? ⟨b, 0, none⟩ = some (.pointer (some ⟨b, 0, none⟩)) := by rw [Lib.cell_of_heap hb2]; rfl
  have d1 : w2.cell? ⟨b, 1, none⟩ = some v := by rw [Lib.cell_of_heap hb2]; rfl
  have f1 : w2.frozen? ⟨b, 1, none⟩ = false := Lib.frozen_of_heap hb2 1
  obtain ⟨ao, n', cap, rfl⟩ : ∃ ao n' cap, v' = .slice ao n' cap := by
    rcases hown'.2 with ⟨hv, _⟩ | ⟨g, cap, cur, hv, _⟩
    · exact ⟨_, _, _, hv⟩
    · exact ⟨_, _, _, hv⟩
  go_wp2_with fail
  go_ret2
  refine ⟨rfl, Or.inr ?_, ?_⟩
  · exact Lib.BuilderAt.put (T := 53) (e := 5) hB hb2 (bs' := Lib.byteCells (l ++ s.data.toList)) (by rw [Lib.byteCells_append, ← Lib.strCells_eq, List.length_append, Lib.byteCells_length, Lib.strCells_length]; exact hown') (by decide)
  · exact (hb1.grown hgrow (by have := hb1.size; omega) (fun k hk => (hown.lt k hk).1)).setCell (p := ⟨b, 1, none⟩) hB _

end
end Go.Proofs.YtljjndifmfhffaaGreatDoor
