/-
  The walk of the reference's reader of octets. Conditions: Go's own ErrSyntax is laid.
-/
import Derived.Test.YtifibhaalepmgaaDoorParseU
import Derived.Deep.CutRange
import Derived.Deep.DeepCutAuto
namespace Go.Proofs.YtifibhaalepmgaaDoor
open Go Go.RowKit
set_option linter.unusedVariables false

def QdPost (s : ByteArray) (w : World) : Ending → World → Prop := fun e w' => ∃ v rest ok, e = .returned (.tuple #[v, .string rest, .bool ok]) ∧ Below w.heap.size w w' ∧
  ((ok = true ∧ ∃ bs : List UInt8, s.data.toList = quoteL bs ++ rest.data.toList ∧ bs.length ≤ s.size ∧ w'.ownsRow w.heap.size 5 1 v bs.length (Lib.byteCells bs)) ∨ (ok = false ∧ NotQ s.data.toList))
theorem ext_take (s : ByteArray) (k : Nat) : (s.extract 0 k).data.toList = s.data.toList.take k := by simp
theorem ext_drop (s : ByteArray) (k : Nat) : (s.extract k s.size).data.toList = s.data.toList.drop k := by
  have e : s.data.toList.length = s.size := Array.length_toList
  have h : (s.extract k s.size).data.toList = (s.data.toList.drop k).take (s.size - k) := by simp
  rw [h, List.take_of_length_le (by rw [List.length_drop]; omega)]
theorem ext_two (s : ByteArray) (k : Nat) (h : k + 2 ≤ s.size) : s.extract k (k + 2) = ⟨#[s.data.toList.getD k 0, s.data.toList.getD (k + 1) 0]⟩ := by
  have e : s.data.toList.length = s.size := Array.length_toList
  apply bytes_eq
  have h0 : k < s.data.toList.length := by omega
  have h1 : k + 1 < s.data.toList.length := by omega
  have hx : (s.extract k (k + 2)).data.toList = (s.data.toList.drop k).take 2 := by simp
  rw [hx, List.drop_eq_getElem_cons h0, List.drop_eq_getElem_cons h1]
  simp only [List.getD_eq_getElem?_getD, List.getElem?_eq_getElem h0, List.getElem?_eq_getElem h1, Option.getD_some, List.take_succ_cons, List.take_zero]
theorem qdNone {s : ByteArray} {w w' : World} (h : NotQ s.data.toList) (hb : Below w.heap.size w w') : QdPost s w (.returned (.tuple #[.slice none 0 0, .string ⟨#[]⟩, .bool false])) w' :=
  ⟨_, _, _, rfl, hb, Or.inr ⟨rfl, h⟩⟩

set_option maxHeartbeats 8000000 in
set_option maxRecDepth 100000 in
theorem quoted_any (s : ByteArray) (w : World) (hs : s.size ≤ 200000) (he : ErrAt w) :
    Calls Tryd.prog 31 #[.string s] w (QdPost s w) := by
  obtain ⟨i0, hi, hz0, hz1, hz2⟩ := info_parts byteInfo
  have EE : Hid (∀ {w' : World}, Below w.heap.size w w' → ErrAt w') := Lib.hid (fun h => he.below h)
  have N : Hid (s.data.toList.length = s.size) := Lib.hid (str_size s).symm
  clear he
  by_cases hz : s.size = 0
  · have NQ : Hid (NotQ s.data.toList) := Lib.hid (fun bs0 tail e => by
      have := congrArg List.length e
      rw [N.out, hz] at this
      simp [quoteL] at this)
    have e : s = ⟨#[]⟩ := by
      obtain ⟨d⟩ := s
      congr 1
      exact Array.eq_empty_of_size_eq_zero hz
    have e0 : s.toList = [] := by rw [e, ByteArray.toList_eq]
    go_enter Tryd.func31, Tryd.ntmps31
    go_wp2_with fail
    go_ret3
    exact qdNone NQ.out (Below.refl _ _)
  have e0 : s.toList.isEmpty = false := by
    cases hh : s.toList.isEmpty with
    | false => rfl
    | true =>
      exfalso
      have hl : s.toList = [] := List.isEmpty_iff.1 hh
      rw [ByteArray.toList_eq] at hl
      apply hz
      rw [str_size, hl]
      rfl
  have hx0 := str_at s 0 (by omega)
  obtain ⟨x, hx⟩ : ∃ x : UInt8, x = s.data.toList.getD 0 0 := ⟨_, rfl⟩
  rw [← hx] at hx0
  have ix : ∀ h : 0 < s.data.size, ((s.data[0]'h).toNat : Int) = (x.toNat : Int) := fun _ => hx0
  have ix2 : ∀ h : 0 < s.size, ((s[0]'h).toNat : Int) = (x.toNat : Int) := fun _ => hx0
  have hp : 0 < s.size := by omega
  have hp' : 0 < (s.size : Int) := by omega
  have HX := Lib.hid hx
  clear hx hx0
  by_cases hq : x = 34
  case neg =>
    have NQ : Hid (NotQ s.data.toList) := Lib.hid (first_not (by rw [← HX.out]; exact hq))
    have d1 : ((x.toNat : Int) == 34) = false := by
      simp
      intro e
      exact hq (u8_of (n := 34) (by omega) (by decide))
    clear hq
    go_enter Tryd.func31, Tryd.ntmps31
    go_wp2_with fail
    go_ret3
    exact qdNone NQ.out (Below.refl _ _)
  case pos =>
    have d1 : ((x.toNat : Int) == 34) = true := by rw [hq]; rfl
    have dn : ((x.toNat : Int) != 34) = false := by rw [hq]; rfl
    clear hq
    go_enter Tryd.func31, Tryd.ntmps31
    go_wp2_with fail
    clear ix ix2 d1 dn
    go_loopw [2, 5] (fun v i wr => ∃ (k : Nat) (bs : List UInt8), i = .int .i64 k ∧ 1 ≤ k ∧ k ≤ s.size ∧ bs.length ≤ k ∧ At s.data.toList k bs ∧ wr.ownsRow w.heap.size 5 1 v bs.length (Lib.byteCells bs) ∧ Below w.heap.size w wr) (fun _ i _ => s.size - (intOf i).toNat)
    case atStart => exact ⟨1, [], rfl, by omega, by omega, by simp, At.zero _, World.ownsRow_nil _ _ _ _, Below.refl _ _⟩
    case round =>
      obtain ⟨k, bs, rfl, hk1, hk, hbl, hat, how, hbr⟩ := hrel
      have AT := Lib.hid hat
      have OW := Lib.hid how
      have BX := Lib.hid hbr
      have hsx := hbr.size
      clear hat how hbr
      by_cases hlt : k < s.size
      case neg =>
        have NQ := Lib.hid (AT.out.over (by rw [N.out]; omega))
        have hlt' : ¬ (k : Int) < (s.size : Int) := by omega
        go_wp2_with fail
        go_ret3
        exact qdNone NQ.out BX.out
      case pos =>
        have hx0 := str_at s k hlt
        obtain ⟨x, hx⟩ : ∃ x : UInt8, x = s.data.toList.getD k 0 := ⟨_, rfl⟩
        rw [← hx] at hx0
        have ix : ∀ h : k < s.size, ((s[k]'h).toNat : Int) = (x.toNat : Int) := fun _ => hx0
        have ix2 : ∀ h : ((k : Int)).toNat < s.size, ((s[((k : Int)).toNat]'h).toNat : Int) = (x.toNat : Int) := fun _ => hx0
        have HX := Lib.hid hx
        clear hx hx0
        by_cases h34 : x = 34
        · have d1 : ((x.toNat : Int) == 34) = true := by rw [h34]; rfl
          have H34 := Lib.hid h34
          clear h34
          have RD : Hid (Reads wr .u8 u2 (ints bs)) := Lib.hid (Reads.own (by rw [ints_len]; simpa [ints, Lib.byteCells, Function.comp_def] using OW.out) (by rw [ints_len]; omega))
          have QO : Hid (∀ W, Below wr.heap.size wr W → Calls Tryd.prog 17 #[u2] W (QuotePost bs W)) := Lib.hid (fun W hW => quoteOf_any u2 bs W (RD.out.below hW rfl) (by omega))
          have hk1' : (k : Int) + 1 ≤ (s.size : Int) := by omega
          have hk0' : 0 ≤ (k : Int) + 1 := by omega
          have hw1 : IntKind.i64.wrap ((k : Int) + 1) = (k : Int) + 1 := IntWalk.i64_in _ (by omega)
          go_upto_region 8 with fail
          go_region_with (go_at_call 17; refine (QO.out _ (by first | exact Below.refl _ _ | exact (Below.refl _ _).drew | go_grown)).mono ?_; rintro e w3 ⟨rfl, hb3⟩)
          have B3 := Lib.hid (BX.out.trans (by first | exact hb3.mono hsx | exact ((Below.refl wr.heap.size wr).drew.trans hb3).mono hsx))
          have OW3 := Lib.hid (ownsRow_keep OW.out (by first | exact hb3 | exact ((Below.refl wr.heap.size wr).drew.trans hb3)))
          clear hb3
          by_cases hq : quoteL bs = s.data.toList.take (k + 1)
          · have cq : quoteL bs = (s.extract 0 (k + 1)).toList := by rw [ByteArray.toList_eq, ext_take]; exact hq
            have c2 : (quoteL bs != (s.extract 0 (k + 1)).toList) = false := by rw [← cq]; simp
            have c3 : (quoteL bs == (s.extract 0 (k + 1)).toList) = true := by rw [← cq]; simp
            have c4 : (!(quoteL bs == (s.extract 0 (k + 1)).toList)) = false := by rw [c3]; rfl
            have HQ := Lib.hid (show s.data.toList = quoteL bs ++ (s.extract (k + 1) s.size).data.toList by rw [ext_drop, hq]; exact (List.take_append_drop _ _).symm)
            clear hq
            clear cq c2
            go_wp2_with fail
            · exact absurd (show (!(quoteL bs == (s.extract 0 (k + 1)).toList)) = true by assumption) (by rw [c4]; decide)
            · go_still (by kernel_rfl)
              go_wp2_with fail
              go_ret3
              exact ⟨u2, s.extract (k + 1) s.size, true, rfl, B3.out.drew, Or.inl ⟨rfl, bs, HQ.out, by omega, ownsRow_keep OW3.out (Below.refl _ _).drew⟩⟩
          · have NQ := Lib.hid (AT.out.close (by rw [← HX.out]; exact H34.out) hq)
            have cq : ¬ quoteL bs = (s.extract 0 (k + 1)).toList := by rw [ByteArray.toList_eq, ext_take]; exact hq
            have c2 : (quoteL bs != (s.extract 0 (k + 1)).toList) = true := by simp [bne, cq]
            have c3 : (quoteL bs == (s.extract 0 (k + 1)).toList) = false := by simp [cq]
            have c4 : (!(quoteL bs == (s.extract 0 (k + 1)).toList)) = true := by rw [c3]; rfl
            clear cq c2
            clear hq
            go_wp2_with fail
            · go_ret3
              exact qdNone NQ.out B3.out
            · exact absurd (show (!(quoteL bs == (s.extract 0 (k + 1)).toList)) = false by assumption) (by rw [c4]; decide)
        have d1 : ((x.toNat : Int) == 34) = false := by
          simp
          intro e
          exact h34 (u8_of (n := 34) (by omega) (by decide))
        by_cases h92 : x = 92
        case neg =>
          have d2 : ((x.toNat : Int) != 92) = true := by
            simp
            intro e
            exact h92 (u8_of (n := 92) (by omega) (by decide))
          have d3 : ((x.toNat : Int) == 92) = false := by
            simp
            intro e
            exact h92 (u8_of (n := 92) (by omega) (by decide))
          have AT2 := Lib.hid (AT.out.plain (by rw [← HX.out]; exact h34) (by rw [← HX.out]; exact h92))
          rw [← HX.out] at AT2
          have hown := OW.out
          clear h34 h92
          go_wp2_with (at_builtin; go_must (refine wpList_append_new rfl _ _ 29 rfl w.heap.size 5 i0 (.int .u8 0) 1 Tryd.underlying29 hi hz0 hz1 hz2 rfl _ _ _ wr _ (.int .u8 x.toNat) rfl (by exact hown) rfl rfl (by unfold maxLen; omega) (by omega) (by omega) ?_))
          intro v' w8 hown' hgr hb8
          have OW8 : Hid (w8.ownsRow w.heap.size 5 1 v' (bs ++ [x]).length (Lib.byteCells (bs ++ [x]))) := Lib.hid (by rw [Lib.byteCells_append, List.length_append]; exact hown')
          have B8 := Lib.hid (BX.out.trans hb8)
          clear hown' hgr hb8 hown
          go_wp2_with fail
          go_round
          case rel => exact ⟨k + 1, bs ++ [x], by go_num, by omega, by omega, by simp; omega, AT2.out, OW8.out, B8.out⟩
          case measure => simp [intOf]; omega
        case pos =>
          have d2 : ((x.toNat : Int) != 92) = false := by rw [h92]; rfl
          have d3 : ((x.toNat : Int) == 92) = true := by rw [h92]; rfl
          have H92 := Lib.hid h92
          have hw1 : IntKind.i64.wrap ((k : Int) + 1) = (k : Int) + 1 := IntWalk.i64_in _ (by omega)
          have hw2 : IntKind.i64.wrap ((k : Int) + 2) = (k : Int) + 2 := IntWalk.i64_in _ (by omega)
          have hw3 : IntKind.i64.wrap ((k : Int) + 3) = (k : Int) + 3 := IntWalk.i64_in _ (by omega)
          have hw4 : IntKind.i64.wrap ((k : Int) + 4) = (k : Int) + 4 := IntWalk.i64_in _ (by omega)
          clear h92 h34
          by_cases hk2 : k + 1 < s.size
          case neg =>
            have NQ := Lib.hid (AT.out.default (by rw [← HX.out]; exact H92.out) (fun h => hk2 (by have := h.1; rw [N.out] at this; exact this)) (fun h => hk2 (by have := h.1; rw [N.out] at this; omega)))
            have n1 : ¬ (k : Int) + 1 < (s.size : Int) := by omega
            have n3 : ¬ (k : Int) + 3 < (s.size : Int) := by omega
            go_wp2_with fail
            go_ret3
            exact qdNone NQ.out BX.out
          case pos =>
            have hy0 := str_at s (k + 1) hk2
            obtain ⟨y, hy⟩ : ∃ y : UInt8, y = s.data.toList.getD (k + 1) 0 := ⟨_, rfl⟩
            rw [← hy] at hy0
            have iy : ∀ h : k + 1 < s.size, ((s[k + 1]'h).toNat : Int) = (y.toNat : Int) := fun _ => hy0
            have iy2 : ∀ h : ((k : Int) + 1).toNat < s.size, ((s[((k : Int) + 1).toNat]'h).toNat : Int) = (y.toNat : Int) := fun _ => hy0
            have HY := Lib.hid hy
            have n1 : (k : Int) + 1 < (s.size : Int) := by omega
            clear hy hy0
            by_cases hy2 : y = 34 ∨ y = 92
            case pos =>
              have AT2 := Lib.hid (AT.out.two (by rw [← HX.out]; exact H92.out) (by rw [← HY.out]; exact hy2))
              rw [← HY.out] at AT2
              have hown := OW.out
              rcases hy2 with hy2 | hy2
              · have e1 : ((y.toNat : Int) == 34) = true := by rw [hy2]; rfl
                clear hy2
                go_wp2_with (at_builtin; go_must (refine wpList_append_new rfl _ _ 29 rfl w.heap.size 5 i0 (.int .u8 0) 1 Tryd.underlying29 hi hz0 hz1 hz2 rfl _ _ _ wr _ (.int .u8 y.toNat) rfl (by exact hown) rfl rfl (by unfold maxLen; omega) (by omega) (by omega) ?_))
                intro v' w8 hown' hgr hb8
                have OW8 : Hid (w8.ownsRow w.heap.size 5 1 v' (bs ++ [y]).length (Lib.byteCells (bs ++ [y]))) := Lib.hid (by rw [Lib.byteCells_append, List.length_append]; exact hown')
                have B8 := Lib.hid (BX.out.trans hb8)
                clear hown' hgr hb8 hown
                go_wp2_with fail
                go_round
                case rel => exact ⟨k + 2, bs ++ [y], by go_num, by omega, by omega, by simp; omega, AT2.out, OW8.out, B8.out⟩
                case measure => simp [intOf]; omega
              · have e1 : ((y.toNat : Int) == 34) = false := by rw [hy2]; rfl
                have e2 : ((y.toNat : Int) == 92) = true := by rw [hy2]; rfl
                clear hy2
                go_wp2_with (at_builtin; go_must (refine wpList_append_new rfl _ _ 29 rfl w.heap.size 5 i0 (.int .u8 0) 1 Tryd.underlying29 hi hz0 hz1 hz2 rfl _ _ _ wr _ (.int .u8 y.toNat) rfl (by exact hown) rfl rfl (by unfold maxLen; omega) (by omega) (by omega) ?_))
                intro v' w8 hown' hgr hb8
                have OW8 : Hid (w8.ownsRow w.heap.size 5 1 v' (bs ++ [y]).length (Lib.byteCells (bs ++ [y]))) := Lib.hid (by rw [Lib.byteCells_append, List.length_append]; exact hown')
                have B8 := Lib.hid (BX.out.trans hb8)
                clear hown' hgr hb8 hown
                go_wp2_with fail
                go_round
                case rel => exact ⟨k + 2, bs ++ [y], by go_num, by omega, by omega, by simp; omega, AT2.out, OW8.out, B8.out⟩
                case measure => simp [intOf]; omega
            case neg =>
              have e1 : ((y.toNat : Int) == 34) = false := by
                simp
                intro e
                exact hy2 (Or.inl (u8_of (n := 34) (by omega) (by decide)))
              have e2 : ((y.toNat : Int) == 92) = false := by
                simp
                intro e
                exact hy2 (Or.inr (u8_of (n := 92) (by omega) (by decide)))
              by_cases hh : k + 3 < s.size ∧ y = 120
              case neg =>
                have NQ := Lib.hid (AT.out.default (by rw [← HX.out]; exact H92.out) (fun h => hy2 (by rw [HY.out]; exact h.2)) (fun h => hh ⟨by have := h.1; rw [N.out] at this; exact this, by rw [HY.out]; exact h.2⟩))
                by_cases hk4 : k + 3 < s.size
                · have e3 : ((y.toNat : Int) == 120) = false := by
                    simp
                    intro e
                    exact hh ⟨hk4, u8_of (n := 120) (by omega) (by decide)⟩
                  have n3 : (k : Int) + 3 < (s.size : Int) := by omega
                  clear hy2 hh
                  go_wp2_with fail
                  go_ret3
                  exact qdNone NQ.out BX.out
                · have n3 : ¬ (k : Int) + 3 < (s.size : Int) := by omega
                  clear hy2 hh
                  go_wp2_with fail
                  go_ret3
                  exact qdNone NQ.out BX.out
              case pos =>
                obtain ⟨hk4, hy120⟩ := hh
                have e3 : ((y.toNat : Int) == 120) = true := by rw [hy120]; rfl
                have n3 : (k : Int) + 3 < (s.size : Int) := by omega
                have PU0 := parseU_any (s.data.toList.getD (k + 2) 0) (s.data.toList.getD (k + 3) 0) wr (EE.out BX.out)
                have ex : s.extract (k + 2) (k + 4) = ⟨#[s.data.toList.getD (k + 2) 0, s.data.toList.getD (k + 3) 0]⟩ := ext_two s (k + 2) (by omega)
                rw [← ex] at PU0
                have PU := Lib.hid PU0
                have A4 := Lib.hid (fun n hn => AT.out.four (n := n) (by rw [← HX.out]; exact H92.out) (by rw [← HY.out]; exact hy120) hn)
                have A5 := Lib.hid (fun hn => AT.out.noHex (by rw [← HX.out]; exact H92.out) (by rw [← HY.out]; exact hy120) hn)
                clear hy2 hy120 ex PU0
                go_wp2_with fail
                refine PU.out.mono ?_
                rintro e w5 ⟨hb5, ⟨n, rfl, n0, nx, hn⟩ | ⟨hbad, m, ty, pp, rfl⟩⟩
                · have AT2 := Lib.hid (A4.out n hn)
                  have B5 := Lib.hid (BX.out.trans (hb5.mono hsx))
                  have OW5 := Lib.hid (ownsRow_keep OW.out hb5)
                  have hs5 := B5.out.size
                  have hown := OW5.out
                  clear hn hb5
                  go_wp2_with (at_builtin; go_must (refine wpList_append_new rfl _ _ 29 rfl w.heap.size 5 i0 (.int .u8 0) 1 Tryd.underlying29 hi hz0 hz1 hz2 rfl _ _ _ w5 _ (.int .u8 n) rfl (by exact hown) rfl rfl (by unfold maxLen; omega) (by omega) (by omega) ?_))
                  intro v' w8 hown' hgr hb8
                  have en : ((UInt8.ofNat n.toNat).toNat : Int) = n := by rw [UInt8.toNat_ofNat']; omega
                  have OW8 : Hid (w8.ownsRow w.heap.size 5 1 v' (bs ++ [UInt8.ofNat n.toNat]).length (Lib.byteCells (bs ++ [UInt8.ofNat n.toNat]))) := Lib.hid (by
                    rw [Lib.byteCells_append, List.length_append]
                    have : Lib.byteCells [UInt8.ofNat n.toNat] = [Value.int .u8 n] := by simp only [Lib.byteCells, List.map_cons, List.map_nil, en]
                    rw [this]
                    exact hown')
                  have B8 := Lib.hid (B5.out.trans hb8)
                  clear hown' hgr hb8 hown en
                  go_wp2_with fail
                  go_round
                  case rel => exact ⟨k + 4, bs ++ [UInt8.ofNat n.toNat], by go_num, by omega, by omega, by simp; omega, AT2.out, OW8.out, B8.out⟩
                  case measure => simp [intOf]; omega
                · have NQ := Lib.hid (A5.out hbad)
                  have B5 := Lib.hid (BX.out.trans (hb5.mono hsx))
                  clear hbad hb5
                  go_wp2_with fail
                  go_ret3
                  exact qdNone NQ.out B5.out

end Go.Proofs.YtifibhaalepmgaaDoor
