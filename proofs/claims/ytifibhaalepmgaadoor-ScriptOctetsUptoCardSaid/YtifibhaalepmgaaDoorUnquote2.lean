/-
  unquote: what it gives. No conditions but the length's.
-/
import Derived.Test.YtifibhaalepmgaaDoorUnquote
import Derived.Deep.QuietTactic
import Derived.BigQuiet
namespace Go.Proofs.YtifibhaalepmgaaDoor
open Go.RowKit Go.Shelf

def layI_ren : Go.Shelf.Ren := ⟨fun | 137 => 51 | 217 => 68 | 266 => 92 | n => n, fun | 3 => 3 | 5 => 5 | 9 => 9 | n => n, fun | n => n⟩
theorem layI : Go.Proofs.Lays.n137 Tryd.prog layI_ren := {
  mixed := by kernel_rfl
  f137 := Tryd.func51.trans (congrArg some (by kernel_rfl))
  f217 := Tryd.func68.trans (congrArg some (by kernel_rfl))
  f266 := Tryd.func92.trans (congrArg some (by kernel_rfl))
  t3 := Tryd.underlying3
  a3 := Tryd.isAgg3
  z3 := Tryd.sizeOf3
  v3 := Tryd.zeroValue3
  t5 := Tryd.underlying5
  a5 := Tryd.isAgg5
  z5 := Tryd.sizeOf5
  v5 := Tryd.zeroValue5
  t9 := Tryd.underlying9
  a9 := Tryd.isAgg9
  z9 := Tryd.sizeOf9
  v9 := Tryd.zeroValue9 }

theorem indexByte_any (x : UInt8) (w : World) : Calls Tryd.prog 51 #[.string ⟨#[48, 49, 50, 51, 52, 53, 54, 55, 56, 57, 97, 98, 99, 100, 101, 102]⟩, .int .u8 (x.toNat : Int)] w (fun e w' => e = .returned (.int .i64 (hexv x)) ∧ w' = w) := by
  have h : Calls Tryd.prog 51 #[.string ⟨#[48, 49, 50, 51, 52, 53, 54, 55, 56, 57, 97, 98, 99, 100, 101, 102]⟩, .int .u8 (x.toNat : Int)] w _ := Any.strings_IndexByte layI ⟨#[48, 49, 50, 51, 52, 53, 54, 55, 56, 57, 97, 98, 99, 100, 101, 102]⟩ (x.toNat : Int) w
  simpa [hexv, hexs] using h

theorem hexv_bd (x : UInt8) : -1 ≤ hexv x ∧ hexv x ≤ 15 := by
  refine ⟨Lib.indexByte_ge _ _, ?_⟩
  have : ∀ (l : List UInt8), Lib.indexByte l x < (l.length : Int) := by
    intro l
    induction l with
    | nil => unfold Lib.indexByte; simp
    | cons b l ih =>
      unfold Lib.indexByte
      simp only [List.length_cons]
      have := Lib.indexByte_ge l x
      split
      · omega
      · split <;> omega
  have := this hexs
  simp only [hexs, List.length_cons, List.length_nil] at this
  unfold hexv hexs
  omega

theorem or_byte0 : ∀ a b : Fin 17, bits .or .i64 (((a.val : Int) - 1) * 16) ((b.val : Int) - 1) % 256 = if (b.val : Int) - 1 = -1 then 255 else (16 * ((a.val : Int) - 1) + ((b.val : Int) - 1)) % 256 := by decide +kernel
theorem or_byte (x y : UInt8) : bits .or .i64 (hexv x * 16) (hexv y) % 256 = ((hexByte x y).toNat : Int) := by
  obtain ⟨a1, a2⟩ := hexv_bd x
  obtain ⟨b1, b2⟩ := hexv_bd y
  have h := or_byte0 ⟨(hexv x + 1).toNat, by omega⟩ ⟨(hexv y + 1).toNat, by omega⟩
  simp only [show (((hexv x + 1).toNat : Nat) : Int) - 1 = hexv x from by omega, show (((hexv y + 1).toNat : Nat) : Int) - 1 = hexv y from by omega] at h
  rw [h]
  unfold hexByte
  by_cases e : hexv y = -1
  · rw [if_pos e, if_pos e]; rfl
  · rw [if_neg e, if_neg e]
    generalize hm : (16 * hexv x + hexv y) % 256 = m
    have m1 : 0 ≤ m := by omega
    have m2 : m < 256 := by omega
    have : (m.toNat.toUInt8).toNat = m.toNat := by simp; omega
    rw [this]; omega

def UnqPost (out : List UInt8) (w : World) : Ending → World → Prop := fun e w' =>
  ∃ v, e = .returned v ∧ w'.ownsRow w.heap.size 5 1 v out.length (Lib.byteCells out) ∧ Below w.heap.size w w'

set_option maxHeartbeats 2000000 in
set_option maxRecDepth 100000 in
theorem unquote_any (s : ByteArray) (w : World) (hlen : s.size ≤ 1000000000000) :
    Calls Tryd.prog 30 #[.string s] w (UnqPost (unq s.size s.data.toList 1) w) := by
  obtain ⟨i0, hi, hz0, hz1, hz2⟩ := info_parts byteInfo
  have N := Lib.hid (str_size s)
  generalize hr : unq s.size s.data.toList 1 = r
  have HR := Lib.hid hr
  clear hr
  go_enter Tryd.func30, Tryd.ntmps30
  go_wp2
  go_loopw [3, 4] (fun v i wr => ∃ (k f : Nat) (out : List UInt8), i = .int .i64 k ∧ 1 ≤ k ∧ k ≤ s.size + 4 ∧ s.size < f + k ∧ out.length ≤ k ∧ Hid (out ++ unq f s.data.toList k = r) ∧ wr.ownsRow w.heap.size 5 1 v out.length (Lib.byteCells out) ∧ Below w.heap.size w wr) (fun _ i _ => s.size + 4 - (intOf i).toNat)
  case atStart => exact ⟨1, s.size, [], rfl, by omega, by omega, by omega, by simp, HR, World.ownsRow_nil _ _ _ _, Below.refl _ _⟩
  case round =>
    obtain ⟨k, f, out, rfl, hk1, hk, hf, ho, hq, hown, hb⟩ := hrel
    have hbs := hb.size
    by_cases hlt : k + 1 < s.size
    · obtain ⟨f, rfl⟩ : ∃ g, f = g + 1 := ⟨f - 1, by omega⟩
      have hq1 := hq.out
      unfold unq at hq1
      rw [if_pos (by have := N.out; omega)] at hq1
      have hx0 := str_at s k (by omega)
      obtain ⟨x, hx⟩ : ∃ x : UInt8, x = (s.data.toList.getD k 0) := ⟨_, rfl⟩
      rw [← hx] at hx0 hq1
      have ix : ∀ h : k < s.size, ((s[k]'h).toNat : Int) = (x.toNat : Int) := fun _ => hx0
      have ix2 : ∀ h : ((k : Int)).toNat < s.size, ((s[((k : Int)).toNat]'h).toNat : Int) = (x.toNat : Int) := fun _ => hx0
      clear hx hx0 hq
      by_cases h1 : x.toNat = 92
      · rw [if_pos h1] at hq1
        have hy0 := str_at s (k + 1) hlt
        obtain ⟨y, hy⟩ : ∃ y : UInt8, y = (s.data.toList.getD (k + 1) 0) := ⟨_, rfl⟩
        rw [← hy] at hy0 hq1
        have iy : ∀ h : k + 1 < s.size, ((s[k + 1]'h).toNat : Int) = (y.toNat : Int) := fun _ => hy0
        have iy2 : ∀ h : ((k : Int) + 1).toNat < s.size, ((s[((k : Int) + 1).toNat]'h).toNat : Int) = (y.toNat : Int) := fun _ => hy0
        have d1 : ((x.toNat : Int) != 92) = false := by simp; omega
        clear hy hy0 h1
        by_cases h2 : y.toNat = 120 ∧ k + 3 < s.size
        · rw [if_pos (show y.toNat = 120 ∧ k + 3 < s.data.toList.length from h2)] at hq1
          obtain ⟨h2, h3⟩ := h2
          have d2 : ((y.toNat : Int) != 120) = false := by simp; omega
          have ha0 := str_at s (k + 2) (by omega)
          have hb0 := str_at s (k + 3) (by omega)
          generalize s.data.toList.getD (k + 2) 0 = p at *
          generalize s.data.toList.getD (k + 3) 0 = q at *
          have ip : ∀ h : ((k : Int) + 1 + 1).toNat < s.size, ((s[((k : Int) + 1 + 1).toNat]'h).toNat : Int) = (p.toNat : Int) := fun _ => ha0
          have ip2 : ∀ h : ((k : Int) + 2).toNat < s.size, ((s[((k : Int) + 2).toNat]'h).toNat : Int) = (p.toNat : Int) := fun _ => ha0
          have iq : ∀ h : ((k : Int) + 1 + 2).toNat < s.size, ((s[((k : Int) + 1 + 2).toNat]'h).toNat : Int) = (q.toNat : Int) := fun _ => hb0
          have iq2 : ∀ h : ((k : Int) + 3).toNat < s.size, ((s[((k : Int) + 3).toNat]'h).toNat : Int) = (q.toNat : Int) := fun _ => hb0
          have HQ := Lib.hid hq1
          clear hq1 ha0 hb0 h2
          go_wp2_with fail
          go_quiet ((go_at_call 51; exact Calls.quiet_of_same (indexByte_any _ _)))
          obtain ⟨p1, p2⟩ := hexv_bd p
          obtain ⟨q1, q2⟩ := hexv_bd q
          have OB := or_byte p q
          generalize hexv p = hp at *
          generalize hexv q = hv at *
          generalize hexByte p q = z at *
          go_wp2_with (at_builtin; go_must (refine wpList_append_new rfl _ _ 29 rfl w.heap.size 5 i0 (.int .u8 0) 1 Tryd.underlying29 hi hz0 hz1 hz2 rfl _ _ _ (wr.drewN nq) _ (.int .u8 z.toNat) rfl (by exact hown) rfl rfl (by unfold maxLen; omega) (by omega) (by exact hbs) ?_))
          intro v' w1 hown' _ hb'
          have hb1 : Below w.heap.size w w1 := (bdrewN hb nq).trans hb'
          have hown1 : w1.ownsRow w.heap.size 5 1 v' (out ++ [z]).length (Lib.byteCells (out ++ [z])) := by
            rw [Lib.byteCells_append, List.length_append]; exact hown'
          clear hown' hown
          go_wp2
          go_roundw
          case rel => exact ⟨k + 4, f, out ++ [z], by go_num, by omega, by omega, by omega, by simp; omega, Lib.hid (by simpa using HQ.out), hown1, hb1⟩
          case measure => simp [intOf]; omega
        · rw [if_neg (show ¬ (y.toNat = 120 ∧ k + 3 < s.data.toList.length) from h2)] at hq1
          have HQ := Lib.hid hq1
          clear hq1
          rcases (show y.toNat ≠ 120 ∨ (y.toNat = 120 ∧ s.size ≤ k + 3) from by omega) with h3 | ⟨h3, h4⟩
          · have d2 : ((y.toNat : Int) != 120) = true := by simp; omega
            clear h2 h3
            go_wp2_with (at_builtin; go_must (refine wpList_append_new rfl _ _ 29 rfl w.heap.size 5 i0 (.int .u8 0) 1 Tryd.underlying29 hi hz0 hz1 hz2 rfl _ _ _ wr _ (.int .u8 y.toNat) rfl (by exact hown) rfl rfl (by unfold maxLen; omega) (by omega) (by omega) ?_))
            intro v' w1 hown' _ hb'
            have hb1 : Below w.heap.size w w1 := hb.trans hb'
            have hown1 : w1.ownsRow w.heap.size 5 1 v' (out ++ [y]).length (Lib.byteCells (out ++ [y])) := by
              rw [Lib.byteCells_append, List.length_append]; exact hown'
            clear hown' hown
            go_wp2
            go_roundw
            case rel => exact ⟨k + 2, f, out ++ [y], by go_num, by omega, by omega, by omega, by simp; omega, Lib.hid (by simpa using HQ.out), hown1, hb1⟩
            case measure => simp [intOf]; omega
          · have d2 : ((y.toNat : Int) != 120) = false := by simp; omega
            clear h2 h3
            go_wp2_with (at_builtin; go_must (refine wpList_append_new rfl _ _ 29 rfl w.heap.size 5 i0 (.int .u8 0) 1 Tryd.underlying29 hi hz0 hz1 hz2 rfl _ _ _ wr _ (.int .u8 y.toNat) rfl (by exact hown) rfl rfl (by unfold maxLen; omega) (by omega) (by omega) ?_))
            intro v' w1 hown' _ hb'
            have hb1 : Below w.heap.size w w1 := hb.trans hb'
            have hown1 : w1.ownsRow w.heap.size 5 1 v' (out ++ [y]).length (Lib.byteCells (out ++ [y])) := by
              rw [Lib.byteCells_append, List.length_append]; exact hown'
            clear hown' hown
            go_wp2
            go_roundw
            case rel => exact ⟨k + 2, f, out ++ [y], by go_num, by omega, by omega, by omega, by simp; omega, Lib.hid (by simpa using HQ.out), hown1, hb1⟩
            case measure => simp [intOf]; omega
      · rw [if_neg h1] at hq1
        have d1 : ((x.toNat : Int) != 92) = true := by simp; omega
        have HQ := Lib.hid hq1
        clear hq1
        go_wp2_with (at_builtin; go_must (refine wpList_append_new rfl _ _ 29 rfl w.heap.size 5 i0 (.int .u8 0) 1 Tryd.underlying29 hi hz0 hz1 hz2 rfl _ _ _ wr _ (.int .u8 x.toNat) rfl (by exact hown) rfl rfl (by unfold maxLen; omega) (by omega) (by omega) ?_))
        intro v' w1 hown' _ hb'
        have hb1 : Below w.heap.size w w1 := hb.trans hb'
        have hown1 : w1.ownsRow w.heap.size 5 1 v' (out ++ [x]).length (Lib.byteCells (out ++ [x])) := by
          rw [Lib.byteCells_append, List.length_append]; exact hown'
        clear hown' hown
        go_wp2
        go_roundw
        case rel => exact ⟨k + 1, f, out ++ [x], by go_num, by omega, by omega, by omega, by simp; omega, Lib.hid (by simpa using HQ.out), hown1, hb1⟩
        case measure => simp [intOf]; omega
    · have HQ : Hid (out = r) := by
        have h := hq.out
        have e : unq f s.data.toList k = [] := by
          cases f with
          | zero => rfl
          | succ f => unfold unq; rw [if_neg (by have := N.out; omega)]
        rw [e, List.append_nil] at h
        exact Lib.hid h
      go_wp2
      go_ret
      exact ⟨_, rfl, by rw [← HQ.out]; exact hown, hb⟩

end Go.Proofs.YtifibhaalepmgaaDoor
