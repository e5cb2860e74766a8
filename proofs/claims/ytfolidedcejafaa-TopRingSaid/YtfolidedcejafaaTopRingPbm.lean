/-
  Room, has, Peek, New of a ring: what they give where nothing is refused. Conditions: numbers in their bounds.
  Drop and Read of a ring: what they give where nothing is refused. Conditions: numbers in their bounds; not more than there is.
-/
import Derived.Test.YtfolidedcejafaaTopRingPbl

namespace Go.Proofs.Ytfolidedcejafaa
section
open Go.RowKit

theorem room_any (r bp : Nat) (o k s m : Int) (g : Option Nat) (R : Nat) (st len : Int) (w : World) (h : ringAt w r bp o k s m (memOf g R) st len) :
    Calls Try.prog 32 #[.pointer (some ⟨r, 0, none⟩)] w (fun e w' => e = .returned (.int .i64 R) ∧ w = w') := by
  obtain ⟨a, ha, _, _⟩ := memOf_sh g R
  have c6 : w.cell? ⟨r, 6, none⟩ = some (.slice a R R) := by rw [cell_of h]; rw [← ha]; rfl
  clear h ha
  go_enter Try.func32, Try.ntmps32
  go_wp2_with fail
  go_ret
  exact ⟨rfl, rfl⟩

set_option maxHeartbeats 1000000 in
set_option maxRecDepth 100000 in
theorem has_ok (r bp : Nat) (o k s m : Int) (mv : Value) (st : Int) (len at' n : Nat) (w : World) (h : ringAt w r bp o k s m mv st len) (hl : len ≤ 1000000) (h1 : at' + n ≤ len) :
    Calls Try.prog 61 #[.pointer (some ⟨r, 0, none⟩), .int .i64 at', .int .i64 n] w (fun e w' => e = .returned (.int .i64 0) ∧ w = w') := by
  have c5 : w.cell? ⟨r, 5, none⟩ = some (.bool false) := by rw [cell_of h]; rfl
  have c8 : w.cell? ⟨r, 8, none⟩ = some (.int .i64 len) := by rw [cell_of h]; rfl
  have d1 : ¬ ((n : Int) < 0) := by omega
  have d2 : ¬ ((at' : Int) < 0) := by omega
  have d3 : ¬ (len < n) := by omega
  have d4 : ¬ ((len : Int) - n < at') := by omega
  clear h
  go_enter Try.func61, Try.ntmps61
  go_wp2_with fail
  go_ret
  exact ⟨rfl, rfl⟩

end
end Go.Proofs.Ytfolidedcejafaa

namespace Go.Proofs.Ytfolidedcejafaa
section
open Go.RowKit
set_option linter.unusedVariables false

theorem ring_upd {w : World} {r bp : Nat} {o k s m : Int} {mv : Value} {st len st' len' : Int} (h : ringAt w r bp o k s m mv st len) (q : Nat) :
    ringAt (((w.drewN q).setCell ⟨r, 7, none⟩ (.int .i64 st')).setCell ⟨r, 8, none⟩ (.int .i64 len')) r bp o k s m mv st' len' := by
  have h1 : (w.drewN q).heap[r]? = _ := h
  unfold ringAt
  rw [block_setCell (block_setCell h1 7 _) 8 _]
  rfl

set_option maxHeartbeats 1000000 in
set_option maxRecDepth 100000 in
theorem dropRing_any (r bp : Nat) (o k s m : Int) (g : Option Nat) (R : Nat) (st len n : Nat) (w : World) (h : ringAt w r bp o k s m (memOf g R) st len) (hR : R ≤ 1000000) (hst : st ≤ 1000000) (hl : len ≤ R) (h1 : n ≤ len) :
    Calls Try.prog 63 #[.pointer (some ⟨r, 0, none⟩), .int .i64 n] w (fun e w' => e = .returned (.int .i64 0) ∧ ringAt w' r bp o k s m (memOf g R) (cellN st R n : Nat) ((len - n : Nat) : Int) ∧ Touch (fun k => k = r) w w') := by
  have HH := Lib.hid (has_ok r bp o k s m (memOf g R) st len 0 n w h (by omega) (by omega))
  have HC := Lib.hid (cell_any r bp o k s m g R st len n w h hR (by omega) (by omega))
  have hcn : (if R = 0 then (0 : Int) else ((st : Int) + n) % R) = (cellN st R n : Int) := by
    unfold cellN; split <;> simp
  have H := Lib.hid h
  have eN : ((len - n : Nat) : Int) = (len : Int) - n := by omega
  have HE := Lib.hid eN
  have c8 : ∀ q v, ((w.drewN q).setCell ⟨r, 7, none⟩ v).cell? ⟨r, 8, none⟩ = some (.int .i64 len) := fun q v => by
    have h1 : (w.drewN q).heap[r]? = _ := h
    rw [cell_of (block_setCell h1 7 v)]; rfl
  have c7 : ∀ q, (w.drewN q).cell? ⟨r, 7, none⟩ = some (.int .i64 st) := fun q => by
    have h1 : (w.drewN q).heap[r]? = _ := h
    rw [cell_of h1]; rfl
  have f7 : ∀ q j, (w.drewN q).frozen? ⟨r, j, none⟩ = false := fun q j => by
    have h1 : (w.drewN q).heap[r]? = _ := h
    exact free_of h1 j
  have FIN := Lib.hid (fun (q : Nat) (st' len' : Int) => And.intro (ring_upd (st' := st') (len' := len') h q) ((((Touch.refl (fun k => k = r) w).drewN q).setCell (p := ⟨r, 7, none⟩) (Or.inl rfl) (.int .i64 st')).setCell (p := ⟨r, 8, none⟩) (Or.inl rfl) (.int .i64 len')))
  clear h eN
  go_enter Try.func63, Try.ntmps63
  go_wp2_with fail
  refine HH.out.mono ?_
  rintro e w1 ⟨rfl, rfl⟩
  go_wp2_with fail
  refine HC.out.mono ?_
  rintro e w2 ⟨rfl, q, rfl⟩
  rw [hcn]
  have f8 : ∀ v, ((w.drewN q).setCell ⟨r, 7, none⟩ v).frozen? ⟨r, 8, none⟩ = false := fun v => by rw [World.frozen?_setCell]; exact f7 q 8
  have d7 := c7 q
  have d8 := c8 q (.int .i64 (cellN st R n : Nat))
  have g7 := f7 q 7
  have g8 := f8 (.int .i64 (cellN st R n : Nat))
  generalize hC : cellN st R n = C at *
  clear c7 c8 f7 f8 hcn
  go_wp2_with fail
  go_ret
  have := FIN.out q C ((len : Int) - n)
  rw [HE.out, hC]
  exact ⟨rfl, this.1, this.2⟩

def ReadPost (r bp : Nat) (o k s m : Int) (g : Option Nat) (R : Nat) (cs : List Int) (st len n : Nat) (w : World) : Ending → World → Prop := fun e w' =>
  ∃ v, e = .returned (.tuple #[v, .int .i64 0]) ∧ w'.ownsRow w.heap.size 5 1 v n ((octL cs (cellN st R 0) n).map (Value.int .u8)) ∧ ringAt w' r bp o k s m (memOf g R) (cellN st R n : Nat) ((len - n : Nat) : Int) ∧ Touch (fun k => k = r) w w'

set_option maxHeartbeats 1000000 in
set_option maxRecDepth 100000 in
theorem readRing_any (r bp : Nat) (o k s m : Int) (g : Option Nat) (R : Nat) (cs : List Int) (st len n : Nat) (w : World) (h : ringAt w r bp o k s m (memOf g R) st len) (hm : memRow w g R cs) (hR : R ≤ 1000000) (hst : st ≤ 1000000) (hl : len ≤ R) (h1 : n ≤ len) :
    Calls Try.prog 27 #[.pointer (some ⟨r, 0, none⟩), .int .i64 n] w (ReadPost r bp o k s m g R cs st len n w) := by
  have HH := Lib.hid (has_ok r bp o k s m (memOf g R) st len 0 n w h (by omega) (by omega))
  have HO := Lib.hid (octets_ring r bp o k s m g R cs st len 0 n w h hm hR hst (by omega) (by omega))
  have H := Lib.hid h
  have HD := Lib.hid (fun (w' : World) (h' : ringAt w' r bp o k s m (memOf g R) st len) => dropRing_any r bp o k s m g R st len n w' h' hR hst hl h1)
  clear h hm
  go_enter Try.func27, Try.ntmps27
  go_wp2_with fail
  refine HH.out.mono ?_
  rintro e w1 ⟨rfl, rfl⟩
  go_wp2_with fail
  refine HO.out.mono ?_
  rintro e w1 ⟨v, rfl, po, hb⟩
  have PO := Lib.hid po
  have HB := Lib.hid hb
  have DD := Lib.hid (HD.out w1 ((hb.block r (lt_of H.out)).trans H.out))
  have hs := hb.size
  have rl := lt_of H.out
  clear po hb
  go_wp2_with fail
  refine DD.out.mono ?_
  rintro e w2 ⟨rfl, hr2, ht2⟩
  have R2 := Lib.hid hr2
  have T2 := Lib.hid ht2
  clear hr2 ht2
  go_wp2_with fail
  go_ret2
  refine ⟨_, rfl, ?_, R2.out, (Touch.of_below HB.out).then T2.out⟩
  have h3 := ownsRow_same PO.out (fun j hj => T2.out.block j (PO.out.lt j hj).2 (fun x => by have := (PO.out.lt j hj).1; omega))
  refine ⟨h3.1, h3.2.imp id ?_⟩
  rintro ⟨g, cap, cur, a1, a2, a3⟩
  exact ⟨g, cap, cur, a1, by omega, a3⟩

end
end Go.Proofs.Ytfolidedcejafaa
