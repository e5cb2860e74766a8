/-
  The reference's again and plain. No conditions but those of the book's own state.
-/
import Derived.Test.YtljjndifmfhffaaGreatDoorLedgerChecksPbl
import Derived.Test.YtljjndifmfhffaaGreatDoorLedgerChecksPbn
import Derived.Laws.ResultCell
namespace Go.Proofs.YtljjndifmfhffaaGreatDoor
open Go.RowKit
set_option linter.unusedVariables false

theorem RP.lift {err : Int} {F : Nat → Prop} {p : Nat} {st : BookSt} {wh : Bool} {w w1 w2 : World} (h1 : Touch F w w1) {e : Ending} (h : RP err F p st wh w1 e w2) : RP err F p st wh w e w2 :=
  ⟨h.1, RefAt.wider h.2.1 (fun k hk => hk.imp id (fun x => Nat.le_trans h1.size x)), h1.then h.2.2⟩

set_option maxHeartbeats 2000000 in
set_option maxRecDepth 100000 in
theorem again_ref_1 (p : Nat) (o t a l u : Int) (w : World) (F : Nat → Prop) (st : BookSt) (wh : Bool) (hb : RB w F p st wh) (g : Good st) (hw : wh = true → st.entries.length + st.leases.length + 1 ≤ 9999) (hlast : st.last < 9223372036854775807) :
    Calls Tryz.prog 14 #[.pointer (some ⟨p, 0, none⟩), .agg #[.int .i64 1, .int .i64 o, .int .i64 t, .int .i64 a, .int .i64 l, .int .i64 u]] w (RP (openR st o a).1 F p (openR st o a).2 wh w) := by
  have B1 : Below w.heap.size w (w.alloc (.cells #[.int .i64 1, .int .i64 o, .int .i64 t, .int .i64 a, .int .i64 l, .int .i64 u] 33)) := (Below.refl _ _).alloc (Nat.le_refl _) _
  have hb1 := hb.below B1
  have hw1 : wh = true → st.entries.length ≤ 9999 := fun h => by have := hw h; omega
  have T1 := Lib.hid (Touch.of_below (F := F) B1)
  have HC := Lib.hid (openR_all p o a (w.alloc (.cells #[.int .i64 1, .int .i64 o, .int .i64 t, .int .i64 a, .int .i64 l, .int .i64 u] 33)) F st wh hb1 hw1)
  generalize openR st o a = r at *
  clear B1 hb1 hb g hw hw1 hlast
  go_enter Tryz.func14, Tryz.ntmps14
  go_wp2_with fail
  refine HC.out.mono ?_
  rintro e w2 ⟨rfl, hb2, ht2⟩
  have HP := Lib.hid (RP.lift T1.out (show RP r.1 F p r.2 wh _ (.returned (.int .i64 r.1)) w2 from ⟨rfl, hb2, ht2⟩))
  clear hb2 ht2
  go_wp2_with fail
  go_ret
  exact HP.out

set_option maxHeartbeats 2000000 in
set_option maxRecDepth 100000 in
theorem again_ref_2 (p : Nat) (o t a l u : Int) (w : World) (F : Nat → Prop) (st : BookSt) (wh : Bool) (hb : RB w F p st wh) (g : Good st) (hw : wh = true → st.entries.length + st.leases.length + 1 ≤ 9999) (hlast : st.last < 9223372036854775807) :
    Calls Tryz.prog 14 #[.pointer (some ⟨p, 0, none⟩), .agg #[.int .i64 2, .int .i64 o, .int .i64 t, .int .i64 a, .int .i64 l, .int .i64 u]] w (RP (shutR st o).1 F p (shutR st o).2 wh w) := by
  have B1 : Below w.heap.size w (w.alloc (.cells #[.int .i64 2, .int .i64 o, .int .i64 t, .int .i64 a, .int .i64 l, .int .i64 u] 33)) := (Below.refl _ _).alloc (Nat.le_refl _) _
  have hb1 := hb.below B1
  have hw1 : wh = true → st.entries.length ≤ 9999 := fun h => by have := hw h; omega
  have T1 := Lib.hid (Touch.of_below (F := F) B1)
  have HC := Lib.hid (shutR_all p o (w.alloc (.cells #[.int .i64 2, .int .i64 o, .int .i64 t, .int .i64 a, .int .i64 l, .int .i64 u] 33)) F st wh hb1 g.e hw1)
  generalize shutR st o = r at *
  clear B1 hb1 hb g hw hw1 hlast
  go_enter Tryz.func14, Tryz.ntmps14
  go_wp2_with fail
  refine HC.out.mono ?_
  rintro e w2 ⟨rfl, hb2, ht2⟩
  have HP := Lib.hid (RP.lift T1.out (show RP r.1 F p r.2 wh _ (.returned (.int .i64 r.1)) w2 from ⟨rfl, hb2, ht2⟩))
  clear hb2 ht2
  go_wp2_with fail
  go_ret
  exact HP.out

set_option maxHeartbeats 2000000 in
set_option maxRecDepth 100000 in
theorem again_ref_3 (p : Nat) (o t a l u : Int) (w : World) (F : Nat → Prop) (st : BookSt) (wh : Bool) (hb : RB w F p st wh) (g : Good st) (hw : wh = true → st.entries.length + st.leases.length + 1 ≤ 9999) (hlast : st.last < 9223372036854775807) :
    Calls Tryz.prog 14 #[.pointer (some ⟨p, 0, none⟩), .agg #[.int .i64 3, .int .i64 o, .int .i64 t, .int .i64 a, .int .i64 l, .int .i64 u]] w (RP (takeR st o a).1 F p (takeR st o a).2 wh w) := by
  have B1 : Below w.heap.size w (w.alloc (.cells #[.int .i64 3, .int .i64 o, .int .i64 t, .int .i64 a, .int .i64 l, .int .i64 u] 33)) := (Below.refl _ _).alloc (Nat.le_refl _) _
  have hb1 := hb.below B1
  have hw1 : wh = true → st.entries.length ≤ 9999 := fun h => by have := hw h; omega
  have T1 := Lib.hid (Touch.of_below (F := F) B1)
  have HC := Lib.hid (takeR_all p o a (w.alloc (.cells #[.int .i64 3, .int .i64 o, .int .i64 t, .int .i64 a, .int .i64 l, .int .i64 u] 33)) F st wh hb1 g.e hw1)
  generalize takeR st o a = r at *
  clear B1 hb1 hb g hw hw1 hlast
  go_enter Tryz.func14, Tryz.ntmps14
  go_wp2_with fail
  refine HC.out.mono ?_
  rintro e w2 ⟨rfl, hb2, ht2⟩
  have HP := Lib.hid (RP.lift T1.out (show RP r.1 F p r.2 wh _ (.returned (.int .i64 r.1)) w2 from ⟨rfl, hb2, ht2⟩))
  clear hb2 ht2
  go_wp2_with fail
  go_ret
  exact HP.out

set_option maxHeartbeats 2000000 in
set_option maxRecDepth 100000 in
theorem again_ref_4 (p : Nat) (o t a l u : Int) (w : World) (F : Nat → Prop) (st : BookSt) (wh : Bool) (hb : RB w F p st wh) (g : Good st) (hw : wh = true → st.entries.length + st.leases.length + 1 ≤ 9999) (hlast : st.last < 9223372036854775807) :
    Calls Tryz.prog 14 #[.pointer (some ⟨p, 0, none⟩), .agg #[.int .i64 4, .int .i64 o, .int .i64 t, .int .i64 a, .int .i64 l, .int .i64 u]] w (RP (giveR st o a).1 F p (giveR st o a).2 wh w) := by
  have B1 : Below w.heap.size w (w.alloc (.cells #[.int .i64 4, .int .i64 o, .int .i64 t, .int .i64 a, .int .i64 l, .int .i64 u] 33)) := (Below.refl _ _).alloc (Nat.le_refl _) _
  have hb1 := hb.below B1
  have hw1 : wh = true → st.entries.length ≤ 9999 := fun h => by have := hw h; omega
  have T1 := Lib.hid (Touch.of_below (F := F) B1)
  have HC := Lib.hid (giveR_all p o a (w.alloc (.cells #[.int .i64 4, .int .i64 o, .int .i64 t, .int .i64 a, .int .i64 l, .int .i64 u] 33)) F st wh hb1 g.e hw1)
  generalize giveR st o a = r at *
  clear B1 hb1 hb g hw hw1 hlast
  go_enter Tryz.func14, Tryz.ntmps14
  go_wp2_with fail
  refine HC.out.mono ?_
  rintro e w2 ⟨rfl, hb2, ht2⟩
  have HP := Lib.hid (RP.lift T1.out (show RP r.1 F p r.2 wh _ (.returned (.int .i64 r.1)) w2 from ⟨rfl, hb2, ht2⟩))
  clear hb2 ht2
  go_wp2_with fail
  go_ret
  exact HP.out

set_option maxHeartbeats 2000000 in
set_option maxRecDepth 100000 in
theorem again_ref_5 (p : Nat) (o t a l u : Int) (w : World) (F : Nat → Prop) (st : BookSt) (wh : Bool) (hb : RB w F p st wh) (g : Good st) (hw : wh = true → st.entries.length + st.leases.length + 1 ≤ 9999) (hlast : st.last < 9223372036854775807) :
    Calls Tryz.prog 14 #[.pointer (some ⟨p, 0, none⟩), .agg #[.int .i64 5, .int .i64 o, .int .i64 t, .int .i64 a, .int .i64 l, .int .i64 u]] w (RP (payR st o t a).1 F p (payR st o t a).2 wh w) := by
  have B1 : Below w.heap.size w (w.alloc (.cells #[.int .i64 5, .int .i64 o, .int .i64 t, .int .i64 a, .int .i64 l, .int .i64 u] 33)) := (Below.refl _ _).alloc (Nat.le_refl _) _
  have hb1 := hb.below B1
  have hw1 : wh = true → st.entries.length ≤ 9999 := fun h => by have := hw h; omega
  have T1 := Lib.hid (Touch.of_below (F := F) B1)
  have HC := Lib.hid (payR_all p o t a (w.alloc (.cells #[.int .i64 5, .int .i64 o, .int .i64 t, .int .i64 a, .int .i64 l, .int .i64 u] 33)) F st wh hb1 g.e hw1)
  generalize payR st o t a = r at *
  clear B1 hb1 hb g hw hw1 hlast
  go_enter Tryz.func14, Tryz.ntmps14
  go_wp2_with fail
  refine HC.out.mono ?_
  rintro e w2 ⟨rfl, hb2, ht2⟩
  have HP := Lib.hid (RP.lift T1.out (show RP r.1 F p r.2 wh _ (.returned (.int .i64 r.1)) w2 from ⟨rfl, hb2, ht2⟩))
  clear hb2 ht2
  go_wp2_with fail
  go_ret
  exact HP.out

set_option maxHeartbeats 2000000 in
set_option maxRecDepth 100000 in
theorem again_ref_6 (p : Nat) (o t a l u : Int) (w : World) (F : Nat → Prop) (st : BookSt) (wh : Bool) (hb : RB w F p st wh) (g : Good st) (hw : wh = true → st.entries.length + st.leases.length + 1 ≤ 9999) (hlast : st.last < 9223372036854775807) :
    Calls Tryz.prog 14 #[.pointer (some ⟨p, 0, none⟩), .agg #[.int .i64 6, .int .i64 o, .int .i64 t, .int .i64 a, .int .i64 l, .int .i64 u]] w (RP (limR st o a).1 F p (limR st o a).2 wh w) := by
  have B1 : Below w.heap.size w (w.alloc (.cells #[.int .i64 6, .int .i64 o, .int .i64 t, .int .i64 a, .int .i64 l, .int .i64 u] 33)) := (Below.refl _ _).alloc (Nat.le_refl _) _
  have hb1 := hb.below B1
  have hw1 : wh = true → st.entries.length ≤ 9999 := fun h => by have := hw h; omega
  have T1 := Lib.hid (Touch.of_below (F := F) B1)
  have HC := Lib.hid (limR_all p o a (w.alloc (.cells #[.int .i64 6, .int .i64 o, .int .i64 t, .int .i64 a, .int .i64 l, .int .i64 u] 33)) F st wh hb1 g.e hw1)
  generalize limR st o a = r at *
  clear B1 hb1 hb g hw hw1 hlast
  go_enter Tryz.func14, Tryz.ntmps14
  go_wp2_with fail
  refine HC.out.mono ?_
  rintro e w2 ⟨rfl, hb2, ht2⟩
  have HP := Lib.hid (RP.lift T1.out (show RP r.1 F p r.2 wh _ (.returned (.int .i64 r.1)) w2 from ⟨rfl, hb2, ht2⟩))
  clear hb2 ht2
  go_wp2_with fail
  go_ret
  exact HP.out

set_option maxHeartbeats 2000000 in
set_option maxRecDepth 100000 in
theorem again_ref_7 (p : Nat) (o t a l u : Int) (w : World) (F : Nat → Prop) (st : BookSt) (wh : Bool) (hb : RB w F p st wh) (g : Good st) (hw : wh = true → st.entries.length + st.leases.length + 1 ≤ 9999) (hlast : st.last < 9223372036854775807) :
    Calls Tryz.prog 14 #[.pointer (some ⟨p, 0, none⟩), .agg #[.int .i64 7, .int .i64 o, .int .i64 t, .int .i64 a, .int .i64 l, .int .i64 u]] w (RP (budR st a).1 F p (budR st a).2 wh w) := by
  have B1 : Below w.heap.size w (w.alloc (.cells #[.int .i64 7, .int .i64 o, .int .i64 t, .int .i64 a, .int .i64 l, .int .i64 u] 33)) := (Below.refl _ _).alloc (Nat.le_refl _) _
  have hb1 := hb.below B1
  have hw1 : wh = true → st.entries.length ≤ 9999 := fun h => by have := hw h; omega
  have T1 := Lib.hid (Touch.of_below (F := F) B1)
  have HC := Lib.hid (budR_all p a (w.alloc (.cells #[.int .i64 7, .int .i64 o, .int .i64 t, .int .i64 a, .int .i64 l, .int .i64 u] 33)) F st wh hb1 g.e hw1)
  generalize budR st a = r at *
  clear B1 hb1 hb g hw hw1 hlast
  go_enter Tryz.func14, Tryz.ntmps14
  go_wp2_with fail
  refine HC.out.mono ?_
  rintro e w2 ⟨rfl, hb2, ht2⟩
  have HP := Lib.hid (RP.lift T1.out (show RP r.1 F p r.2 wh _ (.returned (.int .i64 r.1)) w2 from ⟨rfl, hb2, ht2⟩))
  clear hb2 ht2
  go_wp2_with fail
  go_ret
  exact HP.out

set_option maxHeartbeats 2000000 in
set_option maxRecDepth 100000 in
theorem again_ref_8 (p : Nat) (o t a l u : Int) (w : World) (F : Nat → Prop) (st : BookSt) (wh : Bool) (hb : RB w F p st wh) (g : Good st) (hw : wh = true → st.entries.length + st.leases.length + 1 ≤ 9999) (hlast : st.last < 9223372036854775807) :
    Calls Tryz.prog 14 #[.pointer (some ⟨p, 0, none⟩), .agg #[.int .i64 8, .int .i64 o, .int .i64 t, .int .i64 a, .int .i64 l, .int .i64 u]] w (RP (leaseR st o a u).1 F p (leaseR st o a u).2 wh w) := by
  have B1 : Below w.heap.size w (w.alloc (.cells #[.int .i64 8, .int .i64 o, .int .i64 t, .int .i64 a, .int .i64 l, .int .i64 u] 33)) := (Below.refl _ _).alloc (Nat.le_refl _) _
  have hb1 := hb.below B1
  have hw1 : wh = true → st.entries.length ≤ 9999 := fun h => by have := hw h; omega
  have T1 := Lib.hid (Touch.of_below (F := F) B1)
  have HC := Lib.hid (leaseRR_all p o a u (w.alloc (.cells #[.int .i64 8, .int .i64 o, .int .i64 t, .int .i64 a, .int .i64 l, .int .i64 u] 33)) F st wh hb1 g.e hw1 hlast)
  generalize leaseR st o a u = r at *
  clear B1 hb1 hb g hw hw1 hlast
  go_enter Tryz.func14, Tryz.ntmps14
  go_wp2_with fail
  refine HC.out.mono ?_
  rintro e w2 ⟨rfl, hb2, ht2⟩
  have HP := Lib.hid (RP.lift T1.out (show RP r.1 F p r.2 wh _ (.returned (.int .i64 r.1)) w2 from ⟨rfl, hb2, ht2⟩))
  clear hb2 ht2
  go_wp2_with fail
  go_ret
  exact HP.out

set_option maxHeartbeats 2000000 in
set_option maxRecDepth 100000 in
theorem again_ref_9 (p : Nat) (o t a l u : Int) (w : World) (F : Nat → Prop) (st : BookSt) (wh : Bool) (hb : RB w F p st wh) (g : Good st) (hw : wh = true → st.entries.length + st.leases.length + 1 ≤ 9999) (hlast : st.last < 9223372036854775807) :
    Calls Tryz.prog 14 #[.pointer (some ⟨p, 0, none⟩), .agg #[.int .i64 9, .int .i64 o, .int .i64 t, .int .i64 a, .int .i64 l, .int .i64 u]] w (RP (renewR st l u).1 F p (renewR st l u).2 wh w) := by
  have B1 : Below w.heap.size w (w.alloc (.cells #[.int .i64 9, .int .i64 o, .int .i64 t, .int .i64 a, .int .i64 l, .int .i64 u] 33)) := (Below.refl _ _).alloc (Nat.le_refl _) _
  have hb1 := hb.below B1
  have hw1 : wh = true → st.entries.length ≤ 9999 := fun h => by have := hw h; omega
  have T1 := Lib.hid (Touch.of_below (F := F) B1)
  have HC := Lib.hid (renewRR_all p l u (w.alloc (.cells #[.int .i64 9, .int .i64 o, .int .i64 t, .int .i64 a, .int .i64 l, .int .i64 u] 33)) F st wh hb1 g.e hw1)
  generalize renewR st l u = r at *
  clear B1 hb1 hb g hw hw1 hlast
  go_enter Tryz.func14, Tryz.ntmps14
  go_wp2_with fail
  refine HC.out.mono ?_
  rintro e w2 ⟨rfl, hb2, ht2⟩
  have HP := Lib.hid (RP.lift T1.out (show RP r.1 F p r.2 wh _ (.returned (.int .i64 r.1)) w2 from ⟨rfl, hb2, ht2⟩))
  clear hb2 ht2
  go_wp2_with fail
  go_ret
  exact HP.out

set_option maxHeartbeats 2000000 in
set_option maxRecDepth 100000 in
theorem again_ref_10 (p : Nat) (o t a l u : Int) (w : World) (F : Nat → Prop) (st : BookSt) (wh : Bool) (hb : RB w F p st wh) (g : Good st) (hw : wh = true → st.entries.length + st.leases.length + 1 ≤ 9999) (hlast : st.last < 9223372036854775807) :
    Calls Tryz.prog 14 #[.pointer (some ⟨p, 0, none⟩), .agg #[.int .i64 10, .int .i64 o, .int .i64 t, .int .i64 a, .int .i64 l, .int .i64 u]] w (RP (endR st l).1 F p (endR st l).2 wh w) := by
  have B1 : Below w.heap.size w (w.alloc (.cells #[.int .i64 10, .int .i64 o, .int .i64 t, .int .i64 a, .int .i64 l, .int .i64 u] 33)) := (Below.refl _ _).alloc (Nat.le_refl _) _
  have hb1 := hb.below B1
  have hw1 : wh = true → st.entries.length ≤ 9999 := fun h => by have := hw h; omega
  have T1 := Lib.hid (Touch.of_below (F := F) B1)
  have HC := Lib.hid (endRR_all p l (w.alloc (.cells #[.int .i64 10, .int .i64 o, .int .i64 t, .int .i64 a, .int .i64 l, .int .i64 u] 33)) F st wh hb1 g.e hw1)
  generalize endR st l = r at *
  clear B1 hb1 hb g hw hw1 hlast
  go_enter Tryz.func14, Tryz.ntmps14
  go_wp2_with fail
  refine HC.out.mono ?_
  rintro e w2 ⟨rfl, hb2, ht2⟩
  have HP := Lib.hid (RP.lift T1.out (show RP r.1 F p r.2 wh _ (.returned (.int .i64 r.1)) w2 from ⟨rfl, hb2, ht2⟩))
  clear hb2 ht2
  go_wp2_with fail
  go_ret
  exact HP.out

set_option maxHeartbeats 2000000 in
set_option maxRecDepth 100000 in
theorem again_ref_11 (p : Nat) (o t a l u : Int) (w : World) (F : Nat → Prop) (st : BookSt) (wh : Bool) (hb : RB w F p st wh) (g : Good st) (hw : wh = true → st.entries.length + st.leases.length + 1 ≤ 9999) (hlast : st.last < 9223372036854775807) :
    Calls Tryz.prog 14 #[.pointer (some ⟨p, 0, none⟩), .agg #[.int .i64 11, .int .i64 o, .int .i64 t, .int .i64 a, .int .i64 l, .int .i64 u]] w (RP (passR st u).1 F p (passR st u).2 wh w) := by
  have B1 : Below w.heap.size w (w.alloc (.cells #[.int .i64 11, .int .i64 o, .int .i64 t, .int .i64 a, .int .i64 l, .int .i64 u] 33)) := (Below.refl _ _).alloc (Nat.le_refl _) _
  have hb1 := hb.below B1
  have hw1 : wh = true → st.entries.length ≤ 9999 := fun h => by have := hw h; omega
  have T1 := Lib.hid (Touch.of_below (F := F) B1)
  have HC := Lib.hid (passRR_all p u (w.alloc (.cells #[.int .i64 11, .int .i64 o, .int .i64 t, .int .i64 a, .int .i64 l, .int .i64 u] 33)) F st wh hb1 g hw)
  generalize passR st u = r at *
  clear B1 hb1 hb g hw hw1 hlast
  go_enter Tryz.func14, Tryz.ntmps14
  go_wp2_with fail
  refine HC.out.mono ?_
  rintro e w2 ⟨v, rfl, _, _, hb2, ht2⟩
  have HP := Lib.hid (RP.lift T1.out (show RP r.1 F p r.2 wh _ (.returned (.int .i64 r.1)) w2 from ⟨rfl, hb2, ht2⟩))
  clear hb2 ht2
  go_wp2_with fail
  go_ret
  exact HP.out

theorem again_ref (p : Nat) (e : Ent) (w : World) (F : Nat → Prop) (st : BookSt) (wh : Bool) (hb : RB w F p st wh) (g : Good st) (hw : wh = true → st.entries.length + st.leases.length + 1 ≤ 9999) (hlast : st.last < 9223372036854775807) (hk : 1 ≤ e.kind ∧ e.kind ≤ 11) :
    Calls Tryz.prog 14 #[.pointer (some ⟨p, 0, none⟩), .agg #[.int .i64 e.kind, .int .i64 e.owner, .int .i64 e.other, .int .i64 e.amount, .int .i64 e.lease, .int .i64 e.untl]] w (RP (againR st e).1 F p (againR st e).2 wh w) := by
  obtain ⟨k, o, t, a, l, u⟩ := e
  have h : k = 1 ∨ k = 2 ∨ k = 3 ∨ k = 4 ∨ k = 5 ∨ k = 6 ∨ k = 7 ∨ k = 8 ∨ k = 9 ∨ k = 10 ∨ k = 11 := by simp at hk; omega
  rcases h with rfl | rfl | rfl | rfl | rfl | rfl | rfl | rfl | rfl | rfl | rfl
  · exact again_ref_1 p o t a l u w F st wh hb g hw hlast
  · exact again_ref_2 p o t a l u w F st wh hb g hw hlast
  · exact again_ref_3 p o t a l u w F st wh hb g hw hlast
  · exact again_ref_4 p o t a l u w F st wh hb g hw hlast
  · exact again_ref_5 p o t a l u w F st wh hb g hw hlast
  · exact again_ref_6 p o t a l u w F st wh hb g hw hlast
  · exact again_ref_7 p o t a l u w F st wh hb g hw hlast
  · exact again_ref_8 p o t a l u w F st wh hb g hw hlast
  · exact again_ref_9 p o t a l u w F st wh hb g hw hlast
  · exact again_ref_10 p o t a l u w F st wh hb g hw hlast
  · exact again_ref_11 p o t a l u w F st wh hb g hw hlast

/-! plain. -/
theorem plain_side (b : Bool) (x : Int) : (b = true ∨ x = 0) ↔ (if b = true then x else 0) = x := by
  cases b
  · simp
    exact eq_comm
  · simp
def plainE (e : Ent) : Ent := ⟨e.kind, if useOwner e.kind then e.owner else 0, if useOther e.kind then e.other else 0, if useAmount e.kind then e.amount else 0, if useLease e.kind then e.lease else 0, if useUntl e.kind then e.untl else 0⟩
theorem plainE_form (e : Ent) : formE e = true ↔ plainE e = e := by
  obtain ⟨k, o, t, a, l, u⟩ := e
  unfold formE plainE
  simp only [Bool.and_eq_true, Bool.or_eq_true, beq_iff_eq, Ent.mk.injEq, true_and, and_assoc]
  exact and_congr (plain_side _ _) (and_congr (plain_side _ _) (and_congr (plain_side _ _) (and_congr (plain_side _ _) (plain_side _ _))))

def PlainPost (y : Ent) (b : Bool) (w : World) : Ending → World → Prop := fun e w' => e = .returned (.tuple #[.agg #[.int .i64 y.kind, .int .i64 y.owner, .int .i64 y.other, .int .i64 y.amount, .int .i64 y.lease, .int .i64 y.untl], .bool b]) ∧ Below w.heap.size w w'
set_option maxHeartbeats 4000000 in
set_option maxRecDepth 100000 in
theorem plain_any (e : Ent) (w : World) (hk : 1 ≤ e.kind ∧ e.kind ≤ 11) :
    Calls Tryz.prog 13 #[.agg #[.int .i64 e.kind, .int .i64 e.owner, .int .i64 e.other, .int .i64 e.amount, .int .i64 e.lease, .int .i64 e.untl]] w (PlainPost (plainE e) true w) := by
  obtain ⟨k, o, t, a, l, u⟩ := e
  have h : k = 1 ∨ k = 2 ∨ k = 3 ∨ k = 4 ∨ k = 5 ∨ k = 6 ∨ k = 7 ∨ k = 8 ∨ k = 9 ∨ k = 10 ∨ k = 11 := by simp at hk; omega
  clear hk
  rcases h with rfl | rfl | rfl | rfl | rfl | rfl | rfl | rfl | rfl | rfl | rfl
  · go_enter Tryz.func13, Tryz.ntmps13
    go_wp2_with fail
    (try simp only [Exit.inBlock, Exit.then])
    refine bodyPost_ret (v := .tuple #[.agg #[.int .i64 1, .int .i64 o, .int .i64 0, .int .i64 a, .int .i64 0, .int .i64 0], .bool true]) ?_ rfl ⟨rfl, ?_⟩
    · rw [results_cell_tmp rfl]
      go_simp
    · (repeat' (first | exact Below.refl _ _ | refine Below.alloc ?_ (by simp <;> omega) _))
  · go_enter Tryz.func13, Tryz.ntmps13
    go_wp2_with fail
    (try simp only [Exit.inBlock, Exit.then])
    refine bodyPost_ret (v := .tuple #[.agg #[.int .i64 2, .int .i64 o, .int .i64 0, .int .i64 0, .int .i64 0, .int .i64 0], .bool true]) ?_ rfl ⟨rfl, ?_⟩
    · rw [results_cell_tmp rfl]
      go_simp
    · (repeat' (first | exact Below.refl _ _ | refine Below.alloc ?_ (by simp <;> omega) _))
  · go_enter Tryz.func13, Tryz.ntmps13
    go_wp2_with fail
    (try simp only [Exit.inBlock, Exit.then])
    refine bodyPost_ret (v := .tuple #[.agg #[.int .i64 3, .int .i64 o, .int .i64 0, .int .i64 a, .int .i64 0, .int .i64 0], .bool true]) ?_ rfl ⟨rfl, ?_⟩
    · rw [results_cell_tmp rfl]
      go_simp
    · (repeat' (first | exact Below.refl _ _ | refine Below.alloc ?_ (by simp <;> omega) _))
  · go_enter Tryz.func13, Tryz.ntmps13
    go_wp2_with fail
    (try simp only [Exit.inBlock, Exit.then])
    refine bodyPost_ret (v := .tuple #[.agg #[.int .i64 4, .int .i64 o, .int .i64 0, .int .i64 a, .int .i64 0, .int .i64 0], .bool true]) ?_ rfl ⟨rfl, ?_⟩
    · rw [results_cell_tmp rfl]
      go_simp
    · (repeat' (first | exact Below.refl _ _ | refine Below.alloc ?_ (by simp <;> omega) _))
  · go_enter Tryz.func13, Tryz.ntmps13
    go_wp2_with fail
    (try simp only [Exit.inBlock, Exit.then])
    refine bodyPost_ret (v := .tuple #[.agg #[.int .i64 5, .int .i64 o, .int .i64 t, .int .i64 a, .int .i64 0, .int .i64 0], .bool true]) ?_ rfl ⟨rfl, ?_⟩
    · rw [results_cell_tmp rfl]
      go_simp
    · (repeat' (first | exact Below.refl _ _ | refine Below.alloc ?_ (by simp <;> omega) _))
  · go_enter Tryz.func13, Tryz.ntmps13
    go_wp2_with fail
    (try simp only [Exit.inBlock, Exit.then])
    refine bodyPost_ret (v := .tuple #[.agg #[.int .i64 6, .int .i64 o, .int .i64 0, .int .i64 a, .int .i64 0, .int .i64 0], .bool true]) ?_ rfl ⟨rfl, ?_⟩
    · rw [results_cell_tmp rfl]
      go_simp
    · (repeat' (first | exact Below.refl _ _ | refine Below.alloc ?_ (by simp <;> omega) _))
  · go_enter Tryz.func13, Tryz.ntmps13
    go_wp2_with fail
    (try simp only [Exit.inBlock, Exit.then])
    refine bodyPost_ret (v := .tuple #[.agg #[.int .i64 7, .int .i64 0, .int .i64 0, .int .i64 a, .int .i64 0, .int .i64 0], .bool true]) ?_ rfl ⟨rfl, ?_⟩
    · rw [results_cell_tmp rfl]
      go_simp
    · (repeat' (first | exact Below.refl _ _ | refine Below.alloc ?_ (by simp <;> omega) _))
  · go_enter Tryz.func13, Tryz.ntmps13
    go_wp2_with fail
    (try simp only [Exit.inBlock, Exit.then])
    refine bodyPost_ret (v := .tuple #[.agg #[.int .i64 8, .int .i64 o, .int .i64 0, .int .i64 a, .int .i64 l, .int .i64 u], .bool true]) ?_ rfl ⟨rfl, ?_⟩
    · rw [results_cell_tmp rfl]
      go_simp
    · (repeat' (first | exact Below.refl _ _ | refine Below.alloc ?_ (by simp <;> omega) _))
  · go_enter Tryz.func13, Tryz.ntmps13
    go_wp2_with fail
    (try simp only [Exit.inBlock, Exit.then])
    refine bodyPost_ret (v := .tuple #[.agg #[.int .i64 9, .int .i64 0, .int .i64 0, .int .i64 0, .int .i64 l, .int .i64 u], .bool true]) ?_ rfl ⟨rfl, ?_⟩
    · rw [results_cell_tmp rfl]
      go_simp
    · (repeat' (first | exact Below.refl _ _ | refine Below.alloc ?_ (by simp <;> omega) _))
  · go_enter Tryz.func13, Tryz.ntmps13
    go_wp2_with fail
    (try simp only [Exit.inBlock, Exit.then])
    refine bodyPost_ret (v := .tuple #[.agg #[.int .i64 10, .int .i64 0, .int .i64 0, .int .i64 0, .int .i64 l, .int .i64 0], .bool true]) ?_ rfl ⟨rfl, ?_⟩
    · rw [results_cell_tmp rfl]
      go_simp
    · (repeat' (first | exact Below.refl _ _ | refine Below.alloc ?_ (by simp <;> omega) _))
  · go_enter Tryz.func13, Tryz.ntmps13
    go_wp2_with fail
    (try simp only [Exit.inBlock, Exit.then])
    refine bodyPost_ret (v := .tuple #[.agg #[.int .i64 11, .int .i64 0, .int .i64 0, .int .i64 0, .int .i64 0, .int .i64 u], .bool true]) ?_ rfl ⟨rfl, ?_⟩
    · rw [results_cell_tmp rfl]
      go_simp
    · (repeat' (first | exact Below.refl _ _ | refine Below.alloc ?_ (by simp <;> omega) _))
set_option maxHeartbeats 4000000 in
set_option maxRecDepth 100000 in
theorem plain_none (e : Ent) (w : World) (hk : ¬ (1 ≤ e.kind ∧ e.kind ≤ 11)) :
    Calls Tryz.prog 13 #[.agg #[.int .i64 e.kind, .int .i64 e.owner, .int .i64 e.other, .int .i64 e.amount, .int .i64 e.lease, .int .i64 e.untl]] w (PlainPost ⟨0, 0, 0, 0, 0, 0⟩ false w) := by
  obtain ⟨k, o, t, a, l, u⟩ := e
  simp only at hk
  have d1 : (k == 1) = false := by simp; omega
  have d2 : (k == 2) = false := by simp; omega
  have d3 : (k == 3) = false := by simp; omega
  have d4 : (k == 4) = false := by simp; omega
  have d5 : (k == 5) = false := by simp; omega
  have d6 : (k == 6) = false := by simp; omega
  have d7 : (k == 7) = false := by simp; omega
  have d8 : (k == 8) = false := by simp; omega
  have d9 : (k == 9) = false := by simp; omega
  have d10 : (k == 10) = false := by simp; omega
  have d11 : (k == 11) = false := by simp; omega
  clear hk
  go_enter Tryz.func13, Tryz.ntmps13
  go_wp2_with fail
  (try simp only [Exit.inBlock, Exit.then])
  refine bodyPost_ret (v := .tuple #[.agg #[.int .i64 0, .int .i64 0, .int .i64 0, .int .i64 0, .int .i64 0, .int .i64 0], .bool false]) ?_ rfl ⟨rfl, ?_⟩
  · rw [results_cell_tmp rfl]
    go_simp
  · (repeat' (first | exact Below.refl _ _ | refine Below.alloc ?_ (by simp <;> omega) _))

end Go.Proofs.YtljjndifmfhffaaGreatDoor
