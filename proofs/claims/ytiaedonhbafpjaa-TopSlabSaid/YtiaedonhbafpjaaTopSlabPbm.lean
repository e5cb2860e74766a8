/-
  The stable sort of slots. No conditions but bounds.
-/
import Derived.Test.YtiaedonhbafpjaaTopSlabPbl
namespace Go.Proofs.Ytiaedonhbafpjaa
open Go.RowKit Go.Shelf Go.Sort Go.Lib
set_option linter.unusedVariables false

theorem symM_any {w : World} {blk N : Nat} (h : SwIn w blk N) (cap : Nat) : ∀ (g a mm b m : Nat) (d : Array Sq) (os : Array Obj), b - a ≤ g → d.size = N → a < mm → mm < b → b ≤ N →
    Calls Try.prog 69 #[.slice (some ⟨blk, 0, none⟩) N cap, .int .i64 (a : Int), .int .i64 (mm : Int), .int .i64 (b : Int), .func (.func 40) #[] #[]] (SW w blk m d os) (SwPost w blk N)
  | 0, a, mm, b, m, d, os, hg, hd, ha, hb, hbN => by omega
  | g + 1, a, mm, b, m, d, os, hg, hd, ha, hb, hbN => by
    by_cases h1 : mm - a = 1
    · exact symM1_any h cap a mm b m d os hd ha hb hbN h1
    · by_cases h2 : b - mm = 1
      · exact symM2_any h cap a mm b m d os hd ha hb hbN h1 h2
      · exact symM3_any h cap a mm b m d os hd ha hb hbN h1 h2 (fun a1 m1 b1 m' d' os' hlt hd' h3 h4 h5 => symM_any h cap g a1 m1 b1 m' d' os' (by omega) hd' h3 h4 h5)

set_option maxHeartbeats 8000000 in
set_option maxRecDepth 1000000 in
theorem stable_any {w : World} {blk N : Nat} (h : SwIn w blk N) (cap m : Nat) (d : Array Sq) (os : Array Obj) (hd : d.size = N) :
    Calls Try.prog 59 #[.slice (some ⟨blk, 0, none⟩) N cap, .int .i64 (N : Int), .func (.func 40) #[] #[]] (SW w blk m d os) (SwPost w blk N) := by
  have INS := Lib.hid (fun (a b m : Nat) (d : Array Sq) (os : Array Obj) (hd : d.size = N) (ha : a ≤ b) (hb : b ≤ N) => insS_any h cap a b m d os hd ha hb)
  have SYM := Lib.hid (fun (a mm b m : Nat) (d : Array Sq) (os : Array Obj) (hd : d.size = N) (ha : a < mm) (hb : mm < b) (hbN : b ≤ N) => symM_any h cap (b - a) a mm b m d os (Nat.le_refl _) hd ha hb hbN)
  have hsz := h.sz
  clear h
  go_enter Try.func59, Try.ntmps59
  go_wp2_with fail
  go_loopw [7, 8] (fun u v wr => ∃ (x m : Nat) (d : Array Sq) (os : Array Obj), u = .int .i64 (x : Int) ∧ v = .int .i64 ((x : Int) + 20) ∧ x ≤ N ∧ d.size = N ∧ wr = SW w blk m d os) (fun u _ _ => N + 40 - (intOf u).toNat)
  case atStart => exact ⟨0, m, d, os, rfl, rfl, Nat.zero_le _, hd, rfl⟩
  case round =>
    obtain ⟨x, m, d, os, rfl, rfl, hx, hd, rfl⟩ := hrel
    by_cases hlt : x + 20 ≤ N
    · have hlt' : (x : Int) + 20 ≤ (N : Int) := by omega
      have C := Lib.hid (INS.out x (x + 20) m d os hd (by omega) hlt)
      have e20 : ((x + 20 : Nat) : Int) = (x : Int) + 20 := by omega
      rw [e20] at C
      go_wp2_with fail
      refine C.out.mono ?_
      rintro e w2 ⟨rfl, m2, d2, os2, hd2, rfl⟩
      clear C e20
      go_wp2_with fail
      go_roundw
      case measure => simp only [intOf]; omega
      case rel => exact ⟨x + 20, m2, d2, os2, by go_num, by go_num, hlt, hd2, rfl⟩
    · have hlt' : ¬ (x : Int) + 20 ≤ (N : Int) := by omega
      have C := Lib.hid (INS.out x N m d os hd hx (Nat.le_refl _))
      go_wp2_with fail
      refine C.out.mono ?_
      rintro e w2 ⟨rfl, m2, d2, os2, hd2, rfl⟩
      clear C hd
      go_wp2_with fail
      go_loopw [6, 7, 8, 9] (fun u6 _ _ _ wr => ∃ (bs m : Nat) (d : Array Sq) (os : Array Obj), u6 = .int .i64 (bs : Int) ∧ 1 ≤ bs ∧ bs ≤ 2 * N + 20 ∧ d.size = N ∧ wr = SW w blk m d os) (fun u6 _ _ _ _ => 2 * N + 20 - (intOf u6).toNat)
      case atStart => exact ⟨20, m2, d2, os2, rfl, by decide, by omega, hd2, rfl⟩
      case round =>
        obtain ⟨bs, m, d, os, rfl, hb1, hb2, hd, rfl⟩ := hrel
        by_cases hlb : bs < N
        · have hlb' : (bs : Int) < (N : Int) := by omega
          go_wp2_with fail
          go_loopw [7, 8] (fun u v wr => ∃ (x m : Nat) (d : Array Sq) (os : Array Obj), u = .int .i64 (x : Int) ∧ v = .int .i64 ((x : Int) + 2 * (bs : Int)) ∧ x ≤ N ∧ d.size = N ∧ wr = SW w blk m d os) (fun u _ _ => N + 2 * N - (intOf u).toNat)
          case atStart => exact ⟨0, m, d, os, rfl, by go_num, Nat.zero_le _, hd, rfl⟩
          case round =>
            obtain ⟨x, m, d, os, rfl, rfl, hx, hd, rfl⟩ := hrel
            by_cases hly : x + 2 * bs ≤ N
            · have hly' : (x : Int) + 2 * (bs : Int) ≤ (N : Int) := by omega
              have C := Lib.hid (SYM.out x (x + bs) (x + 2 * bs) m d os hd (by omega) (by omega) hly)
              have e1 : ((x + bs : Nat) : Int) = (x : Int) + (bs : Int) := by omega
              have e2 : ((x + 2 * bs : Nat) : Int) = (x : Int) + 2 * (bs : Int) := by omega
              rw [e1, e2] at C
              clear e1 e2
              go_wp2_with fail
              refine C.out.mono ?_
              rintro e w2 ⟨rfl, m2, d2, os2, hd2, rfl⟩
              clear C
              go_wp2_with fail
              go_roundw
              case measure => simp only [intOf]; omega
              case rel => exact ⟨x + 2 * bs, m2, d2, os2, by go_num, by go_num, hly, hd2, rfl⟩
            · have hly' : ¬ (x : Int) + 2 * (bs : Int) ≤ (N : Int) := by omega
              by_cases hlm : x + bs < N
              · have hlm' : (x : Int) + (bs : Int) < (N : Int) := by omega
                have C := Lib.hid (SYM.out x (x + bs) N m d os hd (by omega) hlm (Nat.le_refl _))
                have e1 : ((x + bs : Nat) : Int) = (x : Int) + (bs : Int) := by omega
                rw [e1] at C
                clear e1
                go_wp2_with fail
                refine C.out.mono ?_
                rintro e w2 ⟨rfl, m2, d2, os2, hd2, rfl⟩
                clear C
                go_wp2_with fail
                go_roundw
                case measure => simp only [intOf]; omega
                case rel => exact ⟨bs * 2, m2, d2, os2, by go_num, by omega, by omega, hd2, rfl⟩
              · have hlm' : ¬ (x : Int) + (bs : Int) < (N : Int) := by omega
                go_wp2_with fail
                go_roundw
                case measure => simp only [intOf]; omega
                case rel => exact ⟨bs * 2, m, d, os, by go_num, by omega, by omega, hd, rfl⟩
        · have hlb' : ¬ (bs : Int) < (N : Int) := by omega
          go_wp2_with fail
          go_end0
          exact ⟨rfl, m, d, os, hd, rfl⟩

set_option maxHeartbeats 1000000 in
set_option maxRecDepth 100000 in
theorem sortSt_any {w : World} {blk N : Nat} (h : SwIn w blk N) (cap m : Nat) (d : Array Sq) (os : Array Obj) (hd : d.size = N) :
    Calls Try.prog 39 #[.slice (some ⟨blk, 0, none⟩) N cap, .func (.func 40) #[] #[]] (SW w blk m d os) (SwPost w blk N) := by
  have C := Lib.hid (stable_any h cap m d os hd)
  clear h hd
  go_enter Try.func39, Try.ntmps39
  go_wp2_with fail
  refine C.out.mono ?_
  rintro e w2 ⟨rfl, hp⟩
  have HP := Lib.hid hp
  clear C hp
  go_wp2_with fail
  go_end0
  exact ⟨rfl, HP.out⟩

/-! nil. -/
set_option maxHeartbeats 1000000 in
set_option maxRecDepth 100000 in
theorem insN_any (w : World) (fv : Value) : Calls Try.prog 68 #[.slice none 0 0, .int .i64 0, .int .i64 0, fv] w (fun e w' => e = .returned (.tuple #[]) ∧ w' = w) := by
  go_enter Try.func68, Try.ntmps68
  go_wp2_with fail
  go_loopw [8] (fun u wr => u = .int .i64 1 ∧ wr = w) (fun _ _ => 0)
  case atStart => exact ⟨rfl, rfl⟩
  case round =>
    obtain ⟨rfl, hwr⟩ := hrel
    obtain rfl := hwr.symm
    clear hwr
    go_wp2_with fail
    go_end0
    exact ⟨rfl, by trivial⟩
set_option maxHeartbeats 1000000 in
set_option maxRecDepth 100000 in
theorem stableN_any (w : World) (fv : Value) : Calls Try.prog 59 #[.slice none 0 0, .int .i64 0, fv] w (fun e w' => e = .returned (.tuple #[]) ∧ w' = w) := by
  have C := Lib.hid (insN_any w fv)
  go_enter Try.func59, Try.ntmps59
  go_wp2_with fail
  go_loopw [7, 8] (fun u v wr => u = .int .i64 0 ∧ v = .int .i64 20 ∧ wr = w) (fun _ _ _ => 0)
  case atStart => exact ⟨rfl, rfl, rfl⟩
  case round =>
    obtain ⟨rfl, rfl, hwr⟩ := hrel
    obtain rfl := hwr.symm
    clear hwr
    go_wp2_with fail
    refine C.out.mono ?_
    rintro e w2 ⟨rfl, hw⟩
    obtain rfl := hw.symm
    clear hw
    go_wp2_with fail
    go_loopw [6, 7, 8, 9] (fun u6 _ _ _ wr2 => u6 = .int .i64 20 ∧ wr2 = w) (fun _ _ _ _ _ => 0)
    case atStart => exact ⟨rfl, rfl⟩
    case round =>
      obtain ⟨rfl, hwr⟩ := hrel
      obtain rfl := hwr.symm
      clear hwr
      go_wp2_with fail
      go_end0
      exact ⟨rfl, by trivial⟩
set_option maxHeartbeats 1000000 in
set_option maxRecDepth 100000 in
theorem sortStN_any (w : World) (fv : Value) : Calls Try.prog 39 #[.slice none 0 0, fv] w (fun e w' => e = .returned (.tuple #[]) ∧ w' = w) := by
  have C := Lib.hid (stableN_any w fv)
  go_enter Try.func39, Try.ntmps39
  go_wp2_with fail
  refine C.out.mono ?_
  rintro e w2 ⟨rfl, hw⟩
  obtain rfl := hw.symm
  clear hw
  go_wp2_with fail
  go_end0
  exact ⟨rfl, by trivial⟩

end Go.Proofs.Ytiaedonhbafpjaa
