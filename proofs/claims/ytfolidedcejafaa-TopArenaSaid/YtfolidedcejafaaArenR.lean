/-
  Len, Room, Chunks, Regions, living, memory, Look, Where, Copy and Lost of an arena: what they give. Conditions: numbers in their bounds.
-/
import Derived.Test.YtfolidedcejafaaAren
namespace Go.Proofs.Ytfolidedcejafaa
open Go.RowKit
set_option linter.unusedVariables false

def sumN {α : Type} (f : α → Nat) (L : List α) : Nat := (L.map f).sum
theorem sumN_take {α : Type} (f : α → Nat) (z : α) : ∀ (L : List α) (k : Nat), k < L.length → sumN f (L.take (k + 1)) = sumN f (L.take k) + f (L.getD k z)
  | [], k, h => by simp at h
  | x :: l, 0, _ => by simp [sumN]
  | x :: l, k + 1, h => by
    have := sumN_take f z l k (by simpa using h)
    simp only [sumN, List.take_succ_cons, List.map_cons, List.sum_cons, List.getD_cons_succ] at this ⊢
    omega
theorem sumN_le {α : Type} (f : α → Nat) (B : Nat) : ∀ (L : List α), (∀ x ∈ L, f x ≤ B) → sumN f L ≤ L.length * B
  | [], _ => by simp [sumN]
  | x :: l, h => by
    have := sumN_le f B l (fun y hy => h y (by simp [hy]))
    have := h x (by simp)
    simp only [sumN, List.map_cons, List.sum_cons, List.length_cons, Nat.add_mul] at *
    omega
theorem sumN_app {α : Type} (f : α → Nat) (L M : List α) : sumN f (L ++ M) = sumN f L + sumN f M := by simp [sumN]
theorem take_snoc {α β : Type} (f : α → β) (z : α) : ∀ (L : List α) (k : Nat), k < L.length → (L.map f).take (k + 1) = (L.map f).take k ++ [f (L.getD k z)]
  | [], k, h => by simp at h
  | x :: l, 0, _ => by simp
  | x :: l, k + 1, h => by
    have := take_snoc f z l k (by simpa using h)
    simp only [List.take_succ_cons, List.map_cons, List.getD_cons_succ, List.cons_append, this]
theorem getD_in {α : Type} {L : List α} {k : Nat} (z : α) (h : k < L.length) : L.getD k z ∈ L := by rw [List.getD_eq_getElem?_getD, List.getElem?_eq_getElem h]; simp

def Reg.len (x : Reg) : Nat := x.to - x.fr
def Chk.len (c : Chk) : Nat := c.os.length
/-- The regions' numbers are in their bounds. -/
def RegsOk (L : List Reg) : Prop := L.length ≤ 2000 ∧ ∀ x ∈ L, x.fr ≤ x.to ∧ x.to ≤ 100000
def ChksOk (L : List Chk) : Prop := L.length ≤ 200 ∧ ∀ c ∈ L, c.os.length ≤ 100000
theorem RegsOk.sum {L : List Reg} (h : RegsOk L) (k : Nat) : sumN Reg.len (L.take k) ≤ 200000000 := by
  have h1 := sumN_le Reg.len 100000 (L.take k) (fun x hx => by have := h.2 x (List.mem_of_mem_take hx); unfold Reg.len; omega)
  have h2 := List.length_take_le k L
  have h3 := h.1
  have h4 : (L.take k).length ≤ 2000 := by rw [List.length_take]; omega
  have := Nat.mul_le_mul_right 100000 h4
  omega
theorem ChksOk.sum {L : List Chk} (h : ChksOk L) (k : Nat) : sumN Chk.len (L.take k) ≤ 20000000 := by
  have h1 := sumN_le Chk.len 100000 (L.take k) (fun x hx => h.2 x (List.mem_of_mem_take hx))
  have h3 := h.1
  have h4 : (L.take k).length ≤ 200 := by rw [List.length_take]; omega
  have := Nat.mul_le_mul_right 100000 h4
  omega

def IntPost (n : Int) (w : World) : Ending → World → Prop := fun e w' => e = .returned (.int .i64 n) ∧ Below w.heap.size w w'

set_option maxHeartbeats 1000000 in
set_option maxRecDepth 100000 in
theorem arLen_any (I : ArId) (F : Nat → Prop) (st : ArSt) (cv rv mv : Value) (w : World) (h : ArMem w F I st cv rv mv) (hok : RegsOk st.regs) :
    Calls Try.prog 11 #[.pointer (some ⟨I.r, 0, none⟩)] w (IntPost (sumN Reg.len st.regs : Nat) w) := by
  have c8 : w.cell? ⟨I.r, 8, none⟩ = some rv := by rw [cell_of h.self]; rfl
  obtain ⟨a, cap, rfl, h1, h2, hc⟩ := h.regs
  have HC := Lib.hid hc
  have OK := Lib.hid hok
  generalize I.r = r at *
  generalize hL : st.regs = L at *
  clear hc h hok hL
  have b63 : L.length ≤ 2000 := OK.out.1
  go_enter Try.func11, Try.ntmps11
  go_wp2_with fail
  go_loopw [3, 11] (fun n i wr => ∃ k : Nat, k ≤ L.length ∧ i = .int .i64 k ∧ n = .int .i64 (sumN Reg.len (L.take k) : Nat) ∧ Below w.heap.size w wr) (fun _ i _ => L.length - (intOf i).toNat)
  case atStart => exact ⟨0, Nat.zero_le _, rfl, by simp [sumN], Below.refl _ _⟩
  case round =>
    obtain ⟨k, hk, rfl, rfl, hb⟩ := hrel
    have hs := OK.out.sum k
    have hsz := hb.size
    have BL := Lib.hid hb
    by_cases hlt : k < L.length
    · obtain ⟨b, o, rfl, d0, d1, d2, d3⟩ := HC.out k hlt
      have e0 := old_cell hb d0
      have e1 := old_cell hb d1
      have e2 := old_cell hb d2
      have e3 := old_cell hb d3
      have S := Lib.hid (sumN_take Reg.len Reg.zero L k hlt)
      obtain ⟨q1, q2⟩ := OK.out.2 _ (getD_in Reg.zero hlt)
      clear d0 d1 d2 d3 hb
      generalize L.getD k Reg.zero = x at *
      generalize sumN Reg.len (L.take k) = N at *
      go_wp2_with fail
      go_round
      case rel => exact ⟨k + 1, by omega, by go_num, by rw [S.out]; unfold Reg.len; congr 1; omega, BL.out.alloc hsz _⟩
      case measure => simp [intOf]; omega
    · obtain rfl : k = L.length := by omega
      clear hlt hk hb
      rw [List.take_length] at hs ⊢
      go_wp2_with fail
      go_ret
      exact ⟨rfl, BL.out⟩

set_option maxHeartbeats 1000000 in
set_option maxRecDepth 100000 in
theorem arRoom_any (I : ArId) (F : Nat → Prop) (st : ArSt) (cv rv mv : Value) (w : World) (h : ArMem w F I st cv rv mv) (hok : ChksOk st.chunks) :
    Calls Try.prog 22 #[.pointer (some ⟨I.r, 0, none⟩)] w (fun e w' => e = .returned (.int .i64 (sumN Chk.len st.chunks : Nat)) ∧ w = w') := by
  have c7 : w.cell? ⟨I.r, 7, none⟩ = some cv := by rw [cell_of h.self]; rfl
  obtain ⟨a, cap, rfl, h1, h2, hc⟩ := h.chks
  have HC := Lib.hid hc
  have OK := Lib.hid hok
  generalize I.r = r at *
  generalize hL : st.chunks = L at *
  clear hc h hok hL
  have b63 : L.length ≤ 200 := OK.out.1
  go_enter Try.func22, Try.ntmps22
  go_wp2_with fail
  go_loop [3, 11] (fun n i => ∃ k : Nat, k ≤ L.length ∧ i = .int .i64 k ∧ n = .int .i64 (sumN Chk.len (L.take k) : Nat)) (fun _ i => L.length - (intOf i).toNat)
  case atStart => exact ⟨0, Nat.zero_le _, rfl, by simp [sumN]⟩
  case round =>
    obtain ⟨k, hk, rfl, rfl⟩ := hrel
    have hs := OK.out.sum k
    by_cases hlt : k < L.length
    · obtain ⟨b, o, rfl, d0⟩ := HC.out k hlt
      have S := Lib.hid (sumN_take Chk.len Chk.zero L k hlt)
      have q1 := OK.out.2 _ (getD_in Chk.zero hlt)
      unfold Chk.val at d0
      generalize hx : L.getD k Chk.zero = x at *
      have S2 : Hid (sumN Chk.len (L.take (k + 1)) = sumN Chk.len (L.take k) + x.os.length) := Lib.hid S.out
      clear S hx
      generalize x.os.length = n at *
      generalize sumN Chk.len (L.take k) = N at *
      go_wp2_with fail
      go_round
      case rel => exact ⟨k + 1, by omega, by go_num, by rw [S2.out]; congr 1⟩
      case measure => simp [intOf]; omega
    · obtain rfl : k = L.length := by omega
      clear hlt hk
      rw [List.take_length] at hs ⊢
      go_wp2_with fail
      go_ret
      exact ⟨rfl, rfl⟩

/-- A new list of integers. -/
def RowPost (zs : List Int) (w : World) : Ending → World → Prop := fun e w' => ∃ v, e = .returned v ∧ w'.ownsRow w.heap.size 3 1 v zs.length (zs.map (Value.int .i64)) ∧ Below w.heap.size w w'

set_option maxHeartbeats 1000000 in
set_option maxRecDepth 100000 in
theorem arChunks_any (I : ArId) (F : Nat → Prop) (st : ArSt) (cv rv mv : Value) (w : World) (h : ArMem w F I st cv rv mv) (hok : ChksOk st.chunks) :
    Calls Try.prog 46 #[.pointer (some ⟨I.r, 0, none⟩)] w (RowPost (st.chunks.map (fun c => ((c.len : Nat) : Int))) w) := by
  obtain ⟨i0, hi0, hz0, hz1, hz2⟩ := info_parts infoInt
  have c7 : w.cell? ⟨I.r, 7, none⟩ = some cv := by rw [cell_of h.self]; rfl
  obtain ⟨a, cap, rfl, h1, h2, hc⟩ := h.chks
  have HC := Lib.hid hc
  have OK := Lib.hid hok
  generalize I.r = r at *
  generalize hL : st.chunks = L at *
  clear hc h hok hL
  have b63 : L.length ≤ 200 := OK.out.1
  go_enter Try.func46, Try.ntmps46
  go_wp2_with fail
  go_loopw [3, 5, 11] (fun v _ i wr => ∃ k : Nat, k ≤ L.length ∧ i = .int .i64 k ∧ wr.ownsRow w.heap.size 3 1 v k ((L.map (fun c => Value.int .i64 (c.len : Nat))).take k) ∧ Below w.heap.size w wr) (fun _ _ i _ => L.length - (intOf i).toNat)
  case atStart => exact ⟨0, Nat.zero_le _, rfl, World.ownsRow_nil _ _ _ _, Below.refl _ _⟩
  case round =>
    obtain ⟨k, hk, rfl, how, hb⟩ := hrel
    have hsz := hb.size
    have BL := Lib.hid hb
    have OW := Lib.hid how
    clear how
    by_cases hlt : k < L.length
    · obtain ⟨b, o, rfl, d0⟩ := HC.out k hlt
      have q1 := OK.out.2 _ (getD_in Chk.zero hlt)
      have e0 := old_cell hb d0
      have T : Hid ((L.map (fun c => Value.int .i64 (c.len : Nat))).take (k + 1) = (L.map (fun c => Value.int .i64 (c.len : Nat))).take k ++ [Value.int .i64 ((L.getD k Chk.zero).os.length : Nat)]) := Lib.hid (take_snoc (fun c : Chk => Value.int .i64 (c.len : Nat)) Chk.zero L k hlt)
      unfold Chk.val at e0
      clear d0 hb
      generalize hx : L.getD k Chk.zero = x at *
      clear hx
      generalize x.os.length = n at *
      go_wp2_with (at_builtin; go_must (refine wpList_append_new rfl (.tmp 15) (.tmp 18) 25 rfl w.heap.size 3 i0 (.int .i64 0) 8 Try.underlying25 hi0 hz0 hz1 hz2 rfl _ _ _ wr _ (.int .i64 n) rfl (by exact OW.out) rfl rfl (by unfold maxLen; omega) (by omega) hsz ?_))
      intro v' w1 hown hg hbel
      have B1 := Lib.hid (BL.out.trans hbel)
      have OW1 := Lib.hid hown
      clear hown hg hbel
      go_wp2_with fail
      go_round
      case rel => exact ⟨k + 1, by omega, by go_num, by rw [T.out]; exact OW1.out, B1.out⟩
      case measure => simp [intOf]; omega
    · obtain rfl : k = L.length := by omega
      have OW1 : Hid (wr.ownsRow w.heap.size 3 1 u3 (L.map (fun c => ((c.len : Nat) : Int))).length ((L.map (fun c => ((c.len : Nat) : Int))).map (Value.int .i64))) := Lib.hid (by
        have := OW.out
        rw [List.take_of_length_le (by simp)] at this
        rw [List.map_map, List.length_map]; exact this)
      clear hlt hk hb OW
      go_wp2_with fail
      go_ret
      exact ⟨_, rfl, OW1.out, BL.out⟩

set_option maxHeartbeats 1000000 in
set_option maxRecDepth 100000 in
theorem arRegions_any (I : ArId) (F : Nat → Prop) (st : ArSt) (cv rv mv : Value) (w : World) (h : ArMem w F I st cv rv mv) (hok : RegsOk st.regs) :
    Calls Try.prog 13 #[.pointer (some ⟨I.r, 0, none⟩)] w (RowPost (st.regs.map Reg.no) w) := by
  obtain ⟨i0, hi0, hz0, hz1, hz2⟩ := info_parts infoInt
  have c8 : w.cell? ⟨I.r, 8, none⟩ = some rv := by rw [cell_of h.self]; rfl
  obtain ⟨a, cap, rfl, h1, h2, hc⟩ := h.regs
  have HC := Lib.hid hc
  have OK := Lib.hid hok
  generalize I.r = r at *
  generalize hL : st.regs = L at *
  clear hc h hok hL
  have b63 : L.length ≤ 2000 := OK.out.1
  go_enter Try.func13, Try.ntmps13
  go_wp2_with fail
  go_loopw [3, 11] (fun v i wr => ∃ k : Nat, k ≤ L.length ∧ i = .int .i64 k ∧ wr.ownsRow w.heap.size 3 1 v k ((L.map (fun c => Value.int .i64 c.no)).take k) ∧ Below w.heap.size w wr) (fun _ i _ => L.length - (intOf i).toNat)
  case atStart => exact ⟨0, Nat.zero_le _, rfl, World.ownsRow_nil _ _ _ _, Below.refl _ _⟩
  case round =>
    obtain ⟨k, hk, rfl, how, hb⟩ := hrel
    have hsz := hb.size
    have BL := Lib.hid hb
    have OW := Lib.hid how
    clear how
    by_cases hlt : k < L.length
    · obtain ⟨b, o, rfl, d0, d1, d2, d3⟩ := HC.out k hlt
      have e0 := old_cell hb d0
      have e1 := old_cell hb d1
      have e2 := old_cell hb d2
      have e3 := old_cell hb d3
      have T : Hid ((L.map (fun c => Value.int .i64 c.no)).take (k + 1) = (L.map (fun c => Value.int .i64 c.no)).take k ++ [Value.int .i64 (L.getD k Reg.zero).no]) := Lib.hid (take_snoc (fun c : Reg => Value.int .i64 c.no) Reg.zero L k hlt)
      clear d0 d1 d2 d3 hb
      generalize L.getD k Reg.zero = x at *
      have B0 := Lib.hid (BL.out.alloc hsz (.cells #[.int .i64 x.no, .int .i64 x.ch, .int .i64 x.fr, .int .i64 x.to] 94))
      have hsz0 : w.heap.size ≤ (wr.alloc (.cells #[.int .i64 x.no, .int .i64 x.ch, .int .i64 x.fr, .int .i64 x.to] 94)).heap.size := by simp; omega
      have OW0 := Lib.hid (OW.out.alloc (.cells #[.int .i64 x.no, .int .i64 x.ch, .int .i64 x.fr, .int .i64 x.to] 94))
      go_wp2_with (at_builtin; go_must (refine wpList_append_new rfl (.tmp 15) (.tmp 18) 25 rfl w.heap.size 3 i0 (.int .i64 0) 8 Try.underlying25 hi0 hz0 hz1 hz2 rfl _ _ _ (wr.alloc (.cells #[.int .i64 x.no, .int .i64 x.ch, .int .i64 x.fr, .int .i64 x.to] 94)) _ (.int .i64 x.no) rfl (by exact OW0.out) (by simp [Act.eval]) rfl (by unfold maxLen; omega) (by omega) hsz0 ?_))
      intro v' w1 hown hg hbel
      have B1 := Lib.hid (B0.out.trans hbel)
      have OW1 := Lib.hid hown
      clear hown hg hbel
      go_wp2_with fail
      go_round
      case rel => exact ⟨k + 1, by omega, by go_num, by rw [T.out]; exact OW1.out, B1.out⟩
      case measure => simp [intOf]; omega
    · obtain rfl : k = L.length := by omega
      have OW1 : Hid (wr.ownsRow w.heap.size 3 1 u3 (L.map Reg.no).length ((L.map Reg.no).map (Value.int .i64))) := Lib.hid (by
        have := OW.out
        rw [List.take_of_length_le (by simp)] at this
        rw [List.map_map, List.length_map]; exact this)
      clear hlt hk hb OW
      go_wp2_with fail
      go_ret
      exact ⟨_, rfl, OW1.out, BL.out⟩

end Go.Proofs.Ytfolidedcejafaa
