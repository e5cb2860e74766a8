/-
  form, again, the leases and the entries that a book tells. No conditions but those of the book's own state.
  The book's again: it makes the call that an entry tells. No conditions but those of the book's own state.
-/
import Derived.Test.YtljjndifmfhffaaGreatDoorLedgerChecksPbj

namespace Go.Proofs.YtljjndifmfhffaaGreatDoor
section
open Go.RowKit
set_option linter.unusedVariables false

def FormPost (b : Bool) (w : World) : Ending → World → Prop := fun e w' => e = .returned (.bool b) ∧ Below w.heap.size w w'

set_option maxHeartbeats 4000000 in
set_option maxRecDepth 100000 in
theorem form_any (e : Ent) (w : World) (hk : 1 ≤ e.kind ∧ e.kind ≤ 11) :
    Calls Tryz.prog 10 #[.agg #[.int .i64 e.kind, .int .i64 e.owner, .int .i64 e.other, .int .i64 e.amount, .int .i64 e.lease, .int .i64 e.untl]] w (FormPost (formE e) w) := by
  obtain ⟨k, o, t, a, l, u⟩ := e
  have h : k = 1 ∨ k = 2 ∨ k = 3 ∨ k = 4 ∨ k = 5 ∨ k = 6 ∨ k = 7 ∨ k = 8 ∨ k = 9 ∨ k = 10 ∨ k = 11 := by simp at hk; omega
  clear hk
  rcases h with rfl | rfl | rfl | rfl | rfl | rfl | rfl | rfl | rfl | rfl | rfl
  all_goals
    go_enter Tryz.func10, Tryz.ntmps10
    go_wp2_with fail
    all_goals
      go_ret
      exact ⟨ret_bool (by simp_all [formE, useOwner, useOther, useAmount, useLease, useUntl]), (Below.refl _ _).alloc (Nat.le_refl _) _⟩

def DoPost (err : Int) (F : Nat → Prop) (p : Nat) (st : BookSt) (N : Nat) (w : World) : Ending → World → Prop := OpPost err F p st N w

end
end Go.Proofs.YtljjndifmfhffaaGreatDoor

namespace Go.Proofs.YtljjndifmfhffaaGreatDoor
section
open Go.RowKit
set_option linter.unusedVariables false

theorem OpPost.lift {err : Int} {F : Nat → Prop} {p : Nat} {st : BookSt} {N : Nat} {w w1 w2 : World} (h1 : Touch F w w1) {e : Ending} (h : OpPost err F p st N w1 e w2) : OpPost err F p st N w e w2 :=
  ⟨h.1, h.2.1.wider (fun k hk => hk.imp id (fun x => Nat.le_trans h1.size x)), h1.then h.2.2⟩

set_option maxHeartbeats 2000000 in
set_option maxRecDepth 100000 in
theorem again_1 (p : Nat) (o t a l u : Int) (w : World) (F : Nat → Prop) (st : BookSt) (N : Nat) (hb : BookAt w F p st N) (g : Good st) (hN : N < maxLen) (hlast : st.last < 9223372036854775807) :
    Calls Tryz.prog 11 #[.pointer (some ⟨p, 0, none⟩), .agg #[.int .i64 1, .int .i64 o, .int .i64 t, .int .i64 a, .int .i64 l, .int .i64 u]] w (OpPost (openR st o a).1 F p (openR st o a).2 (N + 1) w) := by
  have B1 : Below w.heap.size w (w.alloc (.cells #[.int .i64 1, .int .i64 o, .int .i64 t, .int .i64 a, .int .i64 l, .int .i64 u] 33)) := (Below.refl _ _).alloc (Nat.le_refl _) _
  have hb1 := hb.same (Below.same_on B1)
  have T1 := Lib.hid (Touch.of_below (F := F) B1)
  have HC := Lib.hid (open_all p o a (w.alloc (.cells #[.int .i64 1, .int .i64 o, .int .i64 t, .int .i64 a, .int .i64 l, .int .i64 u] 33)) F st N hb1 g hN)
  generalize openR st o a = r at *
  clear B1 hb1 hb g hN hlast
  go_enter Tryz.func11, Tryz.ntmps11
  go_wp2_with fail
  refine HC.out.mono ?_
  rintro e w2 ⟨rfl, hb2, ht2⟩
  have HP := Lib.hid (OpPost.lift T1.out (show OpPost r.1 F p r.2 (N + 1) _ (.returned (.int .i64 r.1)) w2 from ⟨rfl, hb2, ht2⟩))
  clear hb2 ht2
  go_wp2_with fail
  go_ret
  exact HP.out

set_option maxHeartbeats 2000000 in
set_option maxRecDepth 100000 in
theorem again_2 (p : Nat) (o t a l u : Int) (w : World) (F : Nat → Prop) (st : BookSt) (N : Nat) (hb : BookAt w F p st N) (g : Good st) (hN : N < maxLen) (hlast : st.last < 9223372036854775807) :
    Calls Tryz.prog 11 #[.pointer (some ⟨p, 0, none⟩), .agg #[.int .i64 2, .int .i64 o, .int .i64 t, .int .i64 a, .int .i64 l, .int .i64 u]] w (OpPost (shutR st o).1 F p (shutR st o).2 (N + 1) w) := by
  have B1 : Below w.heap.size w (w.alloc (.cells #[.int .i64 2, .int .i64 o, .int .i64 t, .int .i64 a, .int .i64 l, .int .i64 u] 33)) := (Below.refl _ _).alloc (Nat.le_refl _) _
  have hb1 := hb.same (Below.same_on B1)
  have T1 := Lib.hid (Touch.of_below (F := F) B1)
  have HC := Lib.hid (shut_all p o (w.alloc (.cells #[.int .i64 2, .int .i64 o, .int .i64 t, .int .i64 a, .int .i64 l, .int .i64 u] 33)) F st N hb1 g)
  generalize shutR st o = r at *
  clear B1 hb1 hb g hN hlast
  go_enter Tryz.func11, Tryz.ntmps11
  go_wp2_with fail
  refine HC.out.mono ?_
  rintro e w2 ⟨rfl, hb2, ht2⟩
  have HP := Lib.hid (OpPost.lift T1.out (show OpPost r.1 F p r.2 N _ (.returned (.int .i64 r.1)) w2 from ⟨rfl, hb2, ht2⟩))
  clear hb2 ht2
  go_wp2_with fail
  go_ret
  exact HP.out.more (Nat.le_succ _)

set_option maxHeartbeats 2000000 in
set_option maxRecDepth 100000 in
theorem again_3 (p : Nat) (o t a l u : Int) (w : World) (F : Nat → Prop) (st : BookSt) (N : Nat) (hb : BookAt w F p st N) (g : Good st) (hN : N < maxLen) (hlast : st.last < 9223372036854775807) :
    Calls Tryz.prog 11 #[.pointer (some ⟨p, 0, none⟩), .agg #[.int .i64 3, .int .i64 o, .int .i64 t, .int .i64 a, .int .i64 l, .int .i64 u]] w (OpPost (takeR st o a).1 F p (takeR st o a).2 (N + 1) w) := by
  have B1 : Below w.heap.size w (w.alloc (.cells #[.int .i64 3, .int .i64 o, .int .i64 t, .int .i64 a, .int .i64 l, .int .i64 u] 33)) := (Below.refl _ _).alloc (Nat.le_refl _) _
  have hb1 := hb.same (Below.same_on B1)
  have T1 := Lib.hid (Touch.of_below (F := F) B1)
  have HC := Lib.hid (take_all p o a (w.alloc (.cells #[.int .i64 3, .int .i64 o, .int .i64 t, .int .i64 a, .int .i64 l, .int .i64 u] 33)) F st N hb1 g)
  generalize takeR st o a = r at *
  clear B1 hb1 hb g hN hlast
  go_enter Tryz.func11, Tryz.ntmps11
  go_wp2_with fail
  refine HC.out.mono ?_
  rintro e w2 ⟨rfl, hb2, ht2⟩
  have HP := Lib.hid (OpPost.lift T1.out (show OpPost r.1 F p r.2 N _ (.returned (.int .i64 r.1)) w2 from ⟨rfl, hb2, ht2⟩))
  clear hb2 ht2
  go_wp2_with fail
  go_ret
  exact HP.out.more (Nat.le_succ _)

set_option maxHeartbeats 2000000 in
set_option maxRecDepth 100000 in
theorem again_4 (p : Nat) (o t a l u : Int) (w : World) (F : Nat → Prop) (st : BookSt) (N : Nat) (hb : BookAt w F p st N) (g : Good st) (hN : N < maxLen) (hlast : st.last < 9223372036854775807) :
    Calls Tryz.prog 11 #[.pointer (some ⟨p, 0, none⟩), .agg #[.int .i64 4, .int .i64 o, .int .i64 t, .int .i64 a, .int .i64 l, .int .i64 u]] w (OpPost (giveR st o a).1 F p (giveR st o a).2 (N + 1) w) := by
  have B1 : Below w.heap.size w (w.alloc (.cells #[.int .i64 4, .int .i64 o, .int .i64 t, .int .i64 a, .int .i64 l, .int .i64 u] 33)) := (Below.refl _ _).alloc (Nat.le_refl _) _
  have hb1 := hb.same (Below.same_on B1)
  have T1 := Lib.hid (Touch.of_below (F := F) B1)
  have HC := Lib.hid (give_all p o a (w.alloc (.cells #[.int .i64 4, .int .i64 o, .int .i64 t, .int .i64 a, .int .i64 l, .int .i64 u] 33)) F st N hb1 g)
  generalize giveR st o a = r at *
  clear B1 hb1 hb g hN hlast
  go_enter Tryz.func11, Tryz.ntmps11
  go_wp2_with fail
  refine HC.out.mono ?_
  rintro e w2 ⟨rfl, hb2, ht2⟩
  have HP := Lib.hid (OpPost.lift T1.out (show OpPost r.1 F p r.2 N _ (.returned (.int .i64 r.1)) w2 from ⟨rfl, hb2, ht2⟩))
  clear hb2 ht2
  go_wp2_with fail
  go_ret
  exact HP.out.more (Nat.le_succ _)

set_option maxHeartbeats 2000000 in
set_option maxRecDepth 100000 in
theorem again_5 (p : Nat) (o t a l u : Int) (w : World) (F : Nat → Prop) (st : BookSt) (N : Nat) (hb : BookAt w F p st N) (g : Good st) (hN : N < maxLen) (hlast : st.last < 9223372036854775807) :
    Calls Tryz.prog 11 #[.pointer (some ⟨p, 0, none⟩), .agg #[.int .i64 5, .int .i64 o, .int .i64 t, .int .i64 a, .int .i64 l, .int .i64 u]] w (OpPost (payR st o t a).1 F p (payR st o t a).2 (N + 1) w) := by
  have B1 : Below w.heap.size w (w.alloc (.cells #[.int .i64 5, .int .i64 o, .int .i64 t, .int .i64 a, .int .i64 l, .int .i64 u] 33)) := (Below.refl _ _).alloc (Nat.le_refl _) _
  have hb1 := hb.same (Below.same_on B1)
  have T1 := Lib.hid (Touch.of_below (F := F) B1)
  have HC := Lib.hid (pay_all p o t a (w.alloc (.cells #[.int .i64 5, .int .i64 o, .int .i64 t, .int .i64 a, .int .i64 l, .int .i64 u] 33)) F st N hb1 g)
  generalize payR st o t a = r at *
  clear B1 hb1 hb g hN hlast
  go_enter Tryz.func11, Tryz.ntmps11
  go_wp2_with fail
  refine HC.out.mono ?_
  rintro e w2 ⟨rfl, hb2, ht2⟩
  have HP := Lib.hid (OpPost.lift T1.out (show OpPost r.1 F p r.2 N _ (.returned (.int .i64 r.1)) w2 from ⟨rfl, hb2, ht2⟩))
  clear hb2 ht2
  go_wp2_with fail
  go_ret
  exact HP.out.more (Nat.le_succ _)

set_option maxHeartbeats 2000000 in
set_option maxRecDepth 100000 in
theorem again_6 (p : Nat) (o t a l u : Int) (w : World) (F : Nat → Prop) (st : BookSt) (N : Nat) (hb : BookAt w F p st N) (g : Good st) (hN : N < maxLen) (hlast : st.last < 9223372036854775807) :
    Calls Tryz.prog 11 #[.pointer (some ⟨p, 0, none⟩), .agg #[.int .i64 6, .int .i64 o, .int .i64 t, .int .i64 a, .int .i64 l, .int .i64 u]] w (OpPost (limR st o a).1 F p (limR st o a).2 (N + 1) w) := by
  have B1 : Below w.heap.size w (w.alloc (.cells #[.int .i64 6, .int .i64 o, .int .i64 t, .int .i64 a, .int .i64 l, .int .i64 u] 33)) := (Below.refl _ _).alloc (Nat.le_refl _) _
  have hb1 := hb.same (Below.same_on B1)
  have T1 := Lib.hid (Touch.of_below (F := F) B1)
  have HC := Lib.hid (limit_all p o a (w.alloc (.cells #[.int .i64 6, .int .i64 o, .int .i64 t, .int .i64 a, .int .i64 l, .int .i64 u] 33)) F st N hb1 g)
  generalize limR st o a = r at *
  clear B1 hb1 hb g hN hlast
  go_enter Tryz.func11, Tryz.ntmps11
  go_wp2_with fail
  refine HC.out.mono ?_
  rintro e w2 ⟨rfl, hb2, ht2⟩
  have HP := Lib.hid (OpPost.lift T1.out (show OpPost r.1 F p r.2 N _ (.returned (.int .i64 r.1)) w2 from ⟨rfl, hb2, ht2⟩))
  clear hb2 ht2
  go_wp2_with fail
  go_ret
  exact HP.out.more (Nat.le_succ _)

set_option maxHeartbeats 2000000 in
set_option maxRecDepth 100000 in
theorem again_7 (p : Nat) (o t a l u : Int) (w : World) (F : Nat → Prop) (st : BookSt) (N : Nat) (hb : BookAt w F p st N) (g : Good st) (hN : N < maxLen) (hlast : st.last < 9223372036854775807) :
    Calls Tryz.prog 11 #[.pointer (some ⟨p, 0, none⟩), .agg #[.int .i64 7, .int .i64 o, .int .i64 t, .int .i64 a, .int .i64 l, .int .i64 u]] w (OpPost (budR st a).1 F p (budR st a).2 (N + 1) w) := by
  have B1 : Below w.heap.size w (w.alloc (.cells #[.int .i64 7, .int .i64 o, .int .i64 t, .int .i64 a, .int .i64 l, .int .i64 u] 33)) := (Below.refl _ _).alloc (Nat.le_refl _) _
  have hb1 := hb.same (Below.same_on B1)
  have T1 := Lib.hid (Touch.of_below (F := F) B1)
  have HC := Lib.hid (budget_all p a (w.alloc (.cells #[.int .i64 7, .int .i64 o, .int .i64 t, .int .i64 a, .int .i64 l, .int .i64 u] 33)) F st N hb1 g)
  generalize budR st a = r at *
  clear B1 hb1 hb g hN hlast
  go_enter Tryz.func11, Tryz.ntmps11
  go_wp2_with fail
  refine HC.out.mono ?_
  rintro e w2 ⟨rfl, hb2, ht2⟩
  have HP := Lib.hid (OpPost.lift T1.out (show OpPost r.1 F p r.2 N _ (.returned (.int .i64 r.1)) w2 from ⟨rfl, hb2, ht2⟩))
  clear hb2 ht2
  go_wp2_with fail
  go_ret
  exact HP.out.more (Nat.le_succ _)

set_option maxHeartbeats 2000000 in
set_option maxRecDepth 100000 in
theorem again_8 (p : Nat) (o t a l u : Int) (w : World) (F : Nat → Prop) (st : BookSt) (N : Nat) (hb : BookAt w F p st N) (g : Good st) (hN : N < maxLen) (hlast : st.last < 9223372036854775807) :
    Calls Tryz.prog 11 #[.pointer (some ⟨p, 0, none⟩), .agg #[.int .i64 8, .int .i64 o, .int .i64 t, .int .i64 a, .int .i64 l, .int .i64 u]] w (OpPost (leaseR st o a u).1 F p (leaseR st o a u).2 (N + 1) w) := by
  have B1 : Below w.heap.size w (w.alloc (.cells #[.int .i64 8, .int .i64 o, .int .i64 t, .int .i64 a, .int .i64 l, .int .i64 u] 33)) := (Below.refl _ _).alloc (Nat.le_refl _) _
  have hb1 := hb.same (Below.same_on B1)
  have T1 := Lib.hid (Touch.of_below (F := F) B1)
  have HC := Lib.hid (lease_all p o a u (w.alloc (.cells #[.int .i64 8, .int .i64 o, .int .i64 t, .int .i64 a, .int .i64 l, .int .i64 u] 33)) F st N hb1 g hlast)
  generalize leaseR st o a u = r at *
  clear B1 hb1 hb g hN hlast
  go_enter Tryz.func11, Tryz.ntmps11
  go_wp2_with fail
  refine HC.out.mono ?_
  rintro e w2 ⟨rfl, hb2, ht2⟩
  have HP := Lib.hid (OpPost.lift T1.out (show OpPost r.1 F p r.2 N _ (.returned (.int .i64 r.1)) w2 from ⟨rfl, hb2, ht2⟩))
  clear hb2 ht2
  go_wp2_with fail
  go_ret
  exact HP.out.more (Nat.le_succ _)

set_option maxHeartbeats 2000000 in
set_option maxRecDepth 100000 in
theorem again_9 (p : Nat) (o t a l u : Int) (w : World) (F : Nat → Prop) (st : BookSt) (N : Nat) (hb : BookAt w F p st N) (g : Good st) (hN : N < maxLen) (hlast : st.last < 9223372036854775807) :
    Calls Tryz.prog 11 #[.pointer (some ⟨p, 0, none⟩), .agg #[.int .i64 9, .int .i64 o, .int .i64 t, .int .i64 a, .int .i64 l, .int .i64 u]] w (OpPost (renewR st l u).1 F p (renewR st l u).2 (N + 1) w) := by
  have B1 : Below w.heap.size w (w.alloc (.cells #[.int .i64 9, .int .i64 o, .int .i64 t, .int .i64 a, .int .i64 l, .int .i64 u] 33)) := (Below.refl _ _).alloc (Nat.le_refl _) _
  have hb1 := hb.same (Below.same_on B1)
  have T1 := Lib.hid (Touch.of_below (F := F) B1)
  have HC := Lib.hid (renew_all p l u (w.alloc (.cells #[.int .i64 9, .int .i64 o, .int .i64 t, .int .i64 a, .int .i64 l, .int .i64 u] 33)) F st N hb1 g)
  generalize renewR st l u = r at *
  clear B1 hb1 hb g hN hlast
  go_enter Tryz.func11, Tryz.ntmps11
  go_wp2_with fail
  refine HC.out.mono ?_
  rintro e w2 ⟨rfl, hb2, ht2⟩
  have HP := Lib.hid (OpPost.lift T1.out (show OpPost r.1 F p r.2 N _ (.returned (.int .i64 r.1)) w2 from ⟨rfl, hb2, ht2⟩))
  clear hb2 ht2
  go_wp2_with fail
  go_ret
  exact HP.out.more (Nat.le_succ _)

set_option maxHeartbeats 2000000 in
set_option maxRecDepth 100000 in
theorem again_10 (p : Nat) (o t a l u : Int) (w : World) (F : Nat → Prop) (st : BookSt) (N : Nat) (hb : BookAt w F p st N) (g : Good st) (hN : N < maxLen) (hlast : st.last < 9223372036854775807) :
    Calls Tryz.prog 11 #[.pointer (some ⟨p, 0, none⟩), .agg #[.int .i64 10, .int .i64 o, .int .i64 t, .int .i64 a, .int .i64 l, .int .i64 u]] w (OpPost (endR st l).1 F p (endR st l).2 (N + 1) w) := by
  have B1 : Below w.heap.size w (w.alloc (.cells #[.int .i64 10, .int .i64 o, .int .i64 t, .int .i64 a, .int .i64 l, .int .i64 u] 33)) := (Below.refl _ _).alloc (Nat.le_refl _) _
  have hb1 := hb.same (Below.same_on B1)
  have T1 := Lib.hid (Touch.of_below (F := F) B1)
  have HC := Lib.hid (end_all p l (w.alloc (.cells #[.int .i64 10, .int .i64 o, .int .i64 t, .int .i64 a, .int .i64 l, .int .i64 u] 33)) F st N hb1 g.e)
  generalize endR st l = r at *
  clear B1 hb1 hb g hN hlast
  go_enter Tryz.func11, Tryz.ntmps11
  go_wp2_with fail
  refine HC.out.mono ?_
  rintro e w2 ⟨rfl, hb2, ht2⟩
  have HP := Lib.hid (OpPost.lift T1.out (show OpPost r.1 F p r.2 N _ (.returned (.int .i64 r.1)) w2 from ⟨rfl, hb2, ht2⟩))
  clear hb2 ht2
  go_wp2_with fail
  go_ret
  exact HP.out.more (Nat.le_succ _)

set_option maxHeartbeats 2000000 in
set_option maxRecDepth 100000 in
theorem again_11 (p : Nat) (o t a l u : Int) (w : World) (F : Nat → Prop) (st : BookSt) (N : Nat) (hb : BookAt w F p st N) (g : Good st) (hN : N < maxLen) (hlast : st.last < 9223372036854775807) :
    Calls Tryz.prog 11 #[.pointer (some ⟨p, 0, none⟩), .agg #[.int .i64 11, .int .i64 o, .int .i64 t, .int .i64 a, .int .i64 l, .int .i64 u]] w (OpPost (passR st u).1 F p (passR st u).2 (N + 1) w) := by
  have B1 : Below w.heap.size w (w.alloc (.cells #[.int .i64 11, .int .i64 o, .int .i64 t, .int .i64 a, .int .i64 l, .int .i64 u] 33)) := (Below.refl _ _).alloc (Nat.le_refl _) _
  have hb1 := hb.same (Below.same_on B1)
  have T1 := Lib.hid (Touch.of_below (F := F) B1)
  have HC := Lib.hid (pass_all p u (w.alloc (.cells #[.int .i64 11, .int .i64 o, .int .i64 t, .int .i64 a, .int .i64 l, .int .i64 u] 33)) F st N hb1 g)
  generalize passR st u = r at *
  clear B1 hb1 hb g hN hlast
  go_enter Tryz.func11, Tryz.ntmps11
  go_wp2_with fail
  refine HC.out.mono ?_
  rintro e w2 ⟨v, rfl, _, _, hb2, ht2⟩
  have HP := Lib.hid (OpPost.lift T1.out (show OpPost r.1 F p r.2 N _ (.returned (.int .i64 r.1)) w2 from ⟨rfl, hb2, ht2⟩))
  clear hb2 ht2
  go_wp2_with fail
  go_ret
  exact HP.out.more (Nat.le_succ _)

theorem again_any (p : Nat) (e : Ent) (w : World) (F : Nat → Prop) (st : BookSt) (N : Nat) (hb : BookAt w F p st N) (g : Good st) (hN : N < maxLen) (hlast : st.last < 9223372036854775807) (hk : 1 ≤ e.kind ∧ e.kind ≤ 11) :
    Calls Tryz.prog 11 #[.pointer (some ⟨p, 0, none⟩), .agg #[.int .i64 e.kind, .int .i64 e.owner, .int .i64 e.other, .int .i64 e.amount, .int .i64 e.lease, .int .i64 e.untl]] w (OpPost (againR st e).1 F p (againR st e).2 (N + 1) w) := by
  obtain ⟨k, o, t, a, l, u⟩ := e
  have h : k = 1 ∨ k = 2 ∨ k = 3 ∨ k = 4 ∨ k = 5 ∨ k = 6 ∨ k = 7 ∨ k = 8 ∨ k = 9 ∨ k = 10 ∨ k = 11 := by simp at hk; omega
  rcases h with rfl | rfl | rfl | rfl | rfl | rfl | rfl | rfl | rfl | rfl | rfl
  · exact again_1 p o t a l u w F st N hb g hN hlast
  · exact again_2 p o t a l u w F st N hb g hN hlast
  · exact again_3 p o t a l u w F st N hb g hN hlast
  · exact again_4 p o t a l u w F st N hb g hN hlast
  · exact again_5 p o t a l u w F st N hb g hN hlast
  · exact again_6 p o t a l u w F st N hb g hN hlast
  · exact again_7 p o t a l u w F st N hb g hN hlast
  · exact again_8 p o t a l u w F st N hb g hN hlast
  · exact again_9 p o t a l u w F st N hb g hN hlast
  · exact again_10 p o t a l u w F st N hb g hN hlast
  · exact again_11 p o t a l u w F st N hb g hN hlast

end
end Go.Proofs.YtljjndifmfhffaaGreatDoor
