/-
  Room, has, Peek, New of a ring: what they give where nothing is refused. Conditions: numbers in their bounds.
-/
import Derived.Test.YtmapdgpdpojjjaaRingWrite
namespace Go.Proofs.Ytmapdgpdpojjjaa
open Go.RowKit

theorem room_any (r bp : Nat) (o k s m : Int) (g : Option Nat) (R : Nat) (st len : Int) (w : World) (h : ringAt w r bp o k s m (memOf g R) st len) :
    Calls Try.prog 11 #[.pointer (some ⟨r, 0, none⟩)] w (fun e w' => e = .returned (.int .i64 R) ∧ w = w') := by
  obtain ⟨a, ha, _, _⟩ := memOf_sh g R
  have c6 : w.cell? ⟨r, 6, none⟩ = some (.slice a R R) := by rw [cell_of h]; rw [← ha]; rfl
  clear h ha
  go_enter Try.func11, Try.ntmps11
  go_wp2_with fail
  go_ret
  exact ⟨rfl, rfl⟩

set_option maxHeartbeats 1000000 in
set_option maxRecDepth 100000 in
theorem has_ok (r bp : Nat) (o k s m : Int) (mv : Value) (st : Int) (len at' n : Nat) (w : World) (h : ringAt w r bp o k s m mv st len) (hl : len ≤ 1000000) (h1 : at' + n ≤ len) :
    Calls Try.prog 29 #[.pointer (some ⟨r, 0, none⟩), .int .i64 at', .int .i64 n] w (fun e w' => e = .returned (.int .i64 0) ∧ w = w') := by
  have c5 : w.cell? ⟨r, 5, none⟩ = some (.bool false) := by rw [cell_of h]; rfl
  have c8 : w.cell? ⟨r, 8, none⟩ = some (.int .i64 len) := by rw [cell_of h]; rfl
  have d1 : ¬ ((n : Int) < 0) := by omega
  have d2 : ¬ ((at' : Int) < 0) := by omega
  have d3 : ¬ (len < n) := by omega
  have d4 : ¬ ((len : Int) - n < at') := by omega
  clear h
  go_enter Try.func29, Try.ntmps29
  go_wp2_with fail
  go_ret
  exact ⟨rfl, rfl⟩

set_option maxHeartbeats 1000000 in
set_option maxRecDepth 100000 in
theorem peek_ok (r bp : Nat) (o k s m : Int) (g : Option Nat) (R : Nat) (cs : List Int) (st len at' n : Nat) (w : World) (h : ringAt w r bp o k s m (memOf g R) st len) (hm : memRow w g R cs) (hR : R ≤ 1000000) (hst : st ≤ 1000000) (hl : len ≤ R) (h1 : at' + n ≤ len) :
    Calls Try.prog 12 #[.pointer (some ⟨r, 0, none⟩), .int .i64 at', .int .i64 n] w (fun e w' =>
      ∃ v, e = .returned (.tuple #[v, .int .i64 0]) ∧ w'.ownsRow (w.heap.size + 1) 5 1 v n ((octL cs (cellN st R at') n).map (Value.int .u8)) ∧ Below w.heap.size w w') := by
  have HH := Lib.hid (has_ok r bp o k s m (memOf g R) st len at' n w h (by omega) h1)
  have HO := Lib.hid (octets_ring r bp o k s m g R cs st len at' n w h hm hR hst (by omega) (by omega))
  clear h hm
  go_enter Try.func12, Try.ntmps12
  go_wp2_with fail
  refine HH.out.mono ?_
  rintro e w1 ⟨rfl, rfl⟩
  go_wp2_with fail
  refine HO.out.mono ?_
  rintro e w1 ⟨v, rfl, po, hb⟩
  have PO := Lib.hid po
  have HB := Lib.hid hb
  clear po hb
  go_wp2_with fail
  go_ret2
  exact ⟨_, rfl, PO.out, HB.out⟩

set_option maxHeartbeats 1000000 in
set_option maxRecDepth 100000 in
theorem set_ok (r bp : Nat) (o k s m : Int) (b R : Nat) (cs : List Int) (st len at' : Nat) (v : Value) (zs : List Int) (w : World) (h : ringAt w r bp o k s m (memOf (some b) R) st len) (hm : byteRow w b cs) (hcl : cs.length = R) (hR : R ≤ 100000) (hst : st ≤ 1000000) (hl : len ≤ R)
    (hv : Reads w .u8 v zs) (h1 : at' + zs.length ≤ len) :
    Calls Try.prog 13 #[.pointer (some ⟨r, 0, none⟩), .int .i64 at', v] w (fun e w' => e = .returned (.int .i64 0) ∧ byteRow w' b (putL cs (cellN st R at') zs) ∧ Touch (fun k => k = b) w w') := by
  have HH := Lib.hid (has_ok r bp o k s m (memOf (some b) R) st len at' zs.length w h (by omega) h1)
  have HCE := Lib.hid (cell_any r bp o k s m (some b) R st len at' w h (by omega) (by omega) (by omega))
  have hcn : (if R = 0 then (0 : Int) else ((st : Int) + at') % R) = (cellN st R at' : Int) := by
    unfold cellN; split <;> simp
  have HCN := Lib.hid hcn
  have hle := cellN_le st R at'
  have HR := Lib.hid h
  have HM := Lib.hid hm
  have HV := Lib.hid hv
  have HCL := Lib.hid hcl
  have blt := lt_of hm
  obtain ⟨a0, c0, rfl, _, _⟩ := hv
  clear h hm hcl hcn
  generalize cellN st R at' = c at *
  go_enter Try.func13, Try.ntmps13
  go_wp2_with fail
  refine HH.out.mono ?_
  rintro e w1 ⟨rfl, rfl⟩
  go_wp2_with fail
  refine HCE.out.mono ?_
  rintro e w1 ⟨rfl, q, rfl⟩
  rw [HCN.out]
  go_wp2_with fail
  refine (clone_byte _ zs (w.drewN q) (HV.out.drewN q) (by omega)).mono ?_
  rintro e w2 ⟨pv, rfl, po, hb2⟩
  have B2 := Lib.hid ((bdrewN (Below.refl w.heap.size w) q).trans hb2)
  have OA := Lib.hid (OwnAt.of po blt)
  have RV := Lib.hid (Reads.own po (by omega))
  obtain ⟨pa, pc, rfl, _, _⟩ := ownsRow_lt2 po
  have R2 : ringAt w2 r bp o k s m (memOf (some b) R) st len := (B2.out.block r (lt_of HR.out)).trans HR.out
  have M2 : byteRow w2 b cs := (B2.out.block b blt).trans HM.out
  have HP := Lib.hid (put_any r bp o k s m b R cs st len c _ zs w2 R2 M2 HCL.out (by omega) hle RV.out (by omega) OA.out)
  clear po hb2 R2 M2
  go_wp2_with fail
  refine HP.out.mono ?_
  rintro e w3 ⟨rfl, hrow, ht⟩
  have HROW := Lib.hid hrow
  have HT := Lib.hid ((Touch.of_below (F := fun k => k = b) B2.out).then ht)
  clear hrow ht
  go_wp2_with fail
  go_ret
  exact ⟨rfl, HROW.out, HT.out⟩

end Go.Proofs.Ytmapdgpdpojjjaa
