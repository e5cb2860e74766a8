/-
  Shrink and ShrinkOf: both are one function; the walks of RoomGrows and RoomTurns. No conditions.
  ShrinkOf beside Shrink; the walks of RoomGrows and RoomTurns. No conditions.
  book, stranger, NewHeap, and the walk of MoveMade. No conditions.
  Fair for arguments that are right: the greatest level, and what is left given out from the first one on. No conditions.
  FairShares: its plain law and its walk. No conditions.
  FairOf beside Fair: the sum, and what is refused. No conditions.
  slices.Clone at []int, and FairOf for arguments that are right; the walk of LedgerFair. No conditions.
-/
import Derived.Test.YtiaedonhbafpjaaTopSlabPag
import Derived.Test.YtiaedonhbafpjaaTopSlabPaf
import Derived.Test.YtiaedonhbafpjaaTopSlabPab

namespace Go.Proofs.Ytiaedonhbafpjaa
section
open Go.RowKit

/-- The room that is left, for arguments that are right: g, e: what Grow gives for a room 0. -/
def shrV (k room used g e : Int) : Int := if e = 0 ∧ g < room ∧ ¬ ((k = 3 ∨ k = 4) ∧ room < 4 * used) then g else room
def shrinkIn (room used : Int) : Prop := (0 ≤ room ∧ room ≤ 100000) ∧ (0 ≤ used ∧ used ≤ room)
instance (room used : Int) : Decidable (shrinkIn room used) := by unfold shrinkIn; exact inferInstance
def shrinkV (k s m room used : Int) : Int := if polErr k s m = 0 ∧ shrinkIn room used then shrV k room used (gV k s m 0 used) (gE m 0 used) else 0
def shrinkE (k s m room used : Int) : Int := if polErr k s m = 0 then (if shrinkIn room used then 0 else 2) else polErr k s m

theorem shrV_full {k room used g : Int} : shrV k room used g 12 = room := by unfold shrV; rw [if_neg (by omega)]
theorem shrV_more {k room used g : Int} (h : room ≤ g) : shrV k room used g 0 = room := by unfold shrV; rw [if_neg (by omega)]
theorem shrV_loose {k room used g : Int} (hk : k = 3 ∨ k = 4) (h : room < 4 * used) : shrV k room used g 0 = room := by unfold shrV; rw [if_neg (fun x => x.2.2 ⟨hk, h⟩)]
theorem shrV_less {k room used g : Int} (h : g < room) (h2 : ¬ ((k = 3 ∨ k = 4) ∧ room < 4 * used)) : shrV k room used g 0 = g := by unfold shrV; rw [if_pos ⟨rfl, h, h2⟩]

end
end Go.Proofs.Ytiaedonhbafpjaa

namespace Go.Proofs.Ytiaedonhbafpjaa
section
open Go.RowKit

/-- A policy's box. -/
def BoxAt (w : World) (b : Nat) (k s m : Int) : Prop :=
  b < w.heap.size ∧ w.cell? ⟨b, 0, none⟩ = some (.int .i64 k) ∧ w.cell? ⟨b, 1, none⟩ = some (.int .i64 s) ∧ w.cell? ⟨b, 2, none⟩ = some (.int .i64 m)
theorem BoxAt.new (w : World) (k s m : Int) (t : TypeId) : BoxAt (w.alloc (.cells #[.int .i64 k, .int .i64 s, .int .i64 m] t)) w.heap.size k s m := by
  refine ⟨by simp, ?_, ?_, ?_⟩ <;> (rw [cell_of_row _ _ _ _ _ _ (heap_alloc_new w _)]; rfl)
theorem BoxAt.below {w w' : World} {b : Nat} {k s m : Int} (h : BoxAt w b k s m) (hb : Below w.heap.size w w') : BoxAt w' b k s m :=
  ⟨Nat.lt_of_lt_of_le h.1 hb.size, (hb.cell (p := ⟨b, 0, none⟩) h.1).trans h.2.1, (hb.cell (p := ⟨b, 1, none⟩) h.1).trans h.2.2.1, (hb.cell (p := ⟨b, 2, none⟩) h.1).trans h.2.2.2⟩

end
end Go.Proofs.Ytiaedonhbafpjaa

namespace Go.Proofs.Ytiaedonhbafpjaa
section
open Go.RowKit

/-- The book of the statements: one account, number 1. -/
def oneSt (l : Int) : BookSt := openSt (newSt 10000000) 1 l

def BookPost (l : Int) (w : World) : Ending → World → Prop := fun e w' =>
  ∃ p, e = .returned (.pointer (some ⟨p, 0, none⟩)) ∧ BookAt w' (fun k => w.heap.size ≤ k) p (oneSt l) 1 ∧ Below w.heap.size w w'

def strangerE (o : Int) : Int := if o < 1 ∨ 40 < o then 2 else 7
theorem heldE_one (l o : Int) : heldE (oneSt l) o = if o = 1 then 0 else strangerE o := by
  unfold heldE strangerE oneSt openSt newSt
  by_cases h : o = 1
  · subst h; simp
  · by_cases h2 : 1 ≤ o ∧ o ≤ 40
    · rw [if_pos h2]; simp [h]; omega
    · rw [if_neg h2, if_neg h, if_pos (by omega)]

/-- A constructor's result: an object in a new block, or an error. -/
def PtrPost (cs : Array Value) (t : TypeId) (err : Int) (w : World) : Ending → World → Prop := fun e w' =>
  Below w.heap.size w w' ∧ ((err ≠ 0 ∧ e = .returned (.tuple #[.pointer none, .int .i64 err])) ∨
    (err = 0 ∧ ∃ h, e = .returned (.tuple #[.pointer (some ⟨h, 0, none⟩), .int .i64 0]) ∧ w.heap.size ≤ h ∧ w'.heap[h]? = some (.cells cs t (0, 0))))

def heapCells (p : Nat) (o k s m : Int) : Array Value :=
  #[.pointer (some ⟨p, 0, none⟩), .int .i64 o, .int .i64 k, .int .i64 s, .int .i64 m, .bool false, .slice none 0 0, .slice none 0 0, .int .i64 0, .int .i64 0, .slice none 0 0]

def newErr (st : BookSt) (k s m o : Int) : Int := if polErr k s m = 0 then heldE st o else polErr k s m

/-- The error that the statements expect of a constructor with a policy and an owner. -/
def wantErr (k s m o : Int) : Int := if polErr k s m = 0 then (if o = 1 then 0 else strangerE o) else polErr k s m

theorem newErr_one (l k s m o : Int) : newErr (oneSt l) k s m o = wantErr k s m o := by unfold newErr wantErr; rw [heldE_one]
theorem strangerE_ne (o : Int) : strangerE o ≠ 0 := by unfold strangerE; split <;> decide

end
end Go.Proofs.Ytiaedonhbafpjaa

namespace Go.Proofs.Ytiaedonhbafpjaa
section
open Go.RowKit

end
end Go.Proofs.Ytiaedonhbafpjaa

namespace Go.Proofs.Ytiaedonhbafpjaa
section
open Go.RowKit

/-- Arguments that are right. -/
def fairIn (b : Int) (zs : List Int) : Prop := (0 ≤ b ∧ b ≤ 10000000) ∧ zs.length ≤ 1000 ∧ ∀ z ∈ zs, 0 ≤ z ∧ z ≤ 10000000

/-- The level is there. -/
theorem level_exists (b : Int) (zs : List Int) (h : fairIn b zs) : ∃ L, isLevel zs b 10000000 L := by
  obtain ⟨⟨h1, h2⟩, h3, h4⟩ := h
  have h0 : ∀ l : List Int, (∀ z ∈ l, 0 ≤ z) → sumAt l 0 = 0 := by
    intro l
    induction l with
    | nil => intro _; rfl
    | cons z l ih => intro h; rw [sumAt_cons, ih (fun x hx => h x (by simp [hx]))]; have := h z (by simp); omega
  have hz := h0 zs (fun z hz => (h4 z hz).1)
  have key : ∀ n : Nat, ∀ L : Int, 0 ≤ L → L + n = 10000000 → sumAt zs L ≤ b → ∃ L', isLevel zs b 10000000 L' := by
    intro n
    induction n with
    | zero => intro L hL hn hs; exact ⟨L, hL, by omega, hs, Or.inl (by omega)⟩
    | succ n ih =>
      intro L hL hn hs
      by_cases hc : sumAt zs (L + 1) ≤ b
      · exact ih (L + 1) (by omega) (by omega) hc
      · exact ⟨L, hL, by omega, hs, Or.inr (by omega)⟩
  exact key 10000000 0 (by omega) (by omega) (by omega)

theorem sum_take (zs : List Int) (k : Nat) (h : k < zs.length) : (zs.take (k + 1)).sum = (zs.take k).sum + zs.getD k 0 := by
  rw [take_succ_getD zs k h]; simp
theorem sum_bd (M : Int) (hM : 0 ≤ M) : ∀ zs : List Int, (∀ z ∈ zs, 0 ≤ z ∧ z ≤ M) → 0 ≤ zs.sum ∧ zs.sum ≤ M * zs.length
  | [], _ => by simp
  | z :: zs, h => by
    have ih := sum_bd M hM zs (fun x hx => h x (by simp [hx]))
    have hz := h z (by simp)
    rw [List.sum_cons, List.length_cons, Int.natCast_add, Int.mul_add]
    omega
theorem getD_mem {zs : List Int} {k : Nat} (h : k < zs.length) : zs.getD k 0 ∈ zs := by rw [List.getD_eq_getElem?_getD, List.getElem?_eq_getElem h]; simp

/-- What is given, for arguments that are right. -/
structure FairOut (b : Int) (zs out : List Int) (L : Int) : Prop where
  len : out.length = zs.length
  lev : 0 ≤ L ∧ L ≤ 10000000
  each : ∀ j, j < zs.length → 0 ≤ out.getD j 0 ∧ out.getD j 0 ≤ zs.getD j 0 ∧ out.getD j 0 ≤ L + 1 ∧ (out.getD j 0 < zs.getD j 0 → L ≤ out.getD j 0)
  sum : out.sum = min zs.sum b

theorem fairOut_of (b L : Int) (zs : List Int) (h : fairIn b zs) (hl : isLevel zs b 10000000 L) : FairOut b zs (dist zs L (b - sumAt zs L)) L := by
  obtain ⟨⟨h1, h2⟩, h3, h4⟩ := h
  have hl0 := hl
  obtain ⟨l1, l2, l3, l4⟩ := hl
  refine ⟨dist_len _ _ _, ⟨l1, l2⟩, fun j hj => dist_bd zs L _ l1 (fun z hz => (h4 z hz).1) j hj, ?_⟩
  have ht := sumAt_top 10000000 zs (fun z hz => (h4 z hz).2)
  by_cases hs : sumAt zs 10000000 ≤ b
  · have hL := level_top hl0 hs
    subst hL
    rw [dist_top 10000000 zs _ (fun z hz => (h4 z hz).2)]
    omega
  · rcases l4 with l4 | l4
    · subst l4; omega
    · rw [dist_sum zs L _ (by omega) (by omega)]
      omega

end
end Go.Proofs.Ytiaedonhbafpjaa

namespace Go.Proofs.Ytiaedonhbafpjaa
section
open Go.RowKit

end
end Go.Proofs.Ytiaedonhbafpjaa

namespace Go.Proofs.Ytiaedonhbafpjaa
section
open Go.RowKit

def OwnList (zs : List Int) (w : World) : Ending → World → Prop := fun e w' =>
  ∃ v, e = .returned v ∧ w'.ownsRow w.heap.size 3 1 v zs.length (zs.map (Value.int .i64)) ∧ Below w.heap.size w w'

set_option maxHeartbeats 1000000 in
set_option maxRecDepth 100000 in
theorem clone_int (v : Value) (zs : List Int) (w : World) (hr : Reads w .i64 v zs) (hreach : zs.length ≤ 10000000) :
    Calls Try.prog 27 #[v] w (OwnList zs w) := by
  obtain ⟨i0, hi0, hz0, hz1, hz2⟩ := info_parts infoInt
  obtain ⟨a, cap, rfl, hl, hc⟩ := hr
  have hq := fun (w : World) (a : Option Addr) (n c : Nat) => Lib.run_eql_slice_nil (P := Try.prog) w 22 3 a n c 0 0 Try.underlying22
  cases a with
  | none =>
    have hz : zs = [] := by
      rcases List.eq_nil_or_concat zs with h | ⟨l, x, h⟩
      · exact h
      · obtain ⟨b, o, h1, _⟩ := hc (by rw [h]; simp)
        cases h1
    subst hz
    clear hc
    go_enter Try.func27, Try.ntmps27
    go_wp2
    go_ret
    exact ⟨_, rfl, World.ownsRow_nil _ _ _ _, Below.refl _ _⟩
  | some ad =>
    have hn : ∀ j u, (zs.map (Value.int .i64))[j]? = some u → (w.alloc (.cells #[] 3)).cell? (ad.add j) = some u := by
      intro j u hj
      have hj' : j < zs.length := by
        have := (List.getElem?_eq_some_iff.1 hj).1
        simpa using this
      obtain ⟨b, o, h1, h2⟩ := hc (by intro e; subst e; simp at hj')
      simp only [Option.some.injEq] at h1
      subst h1
      have e1 : (⟨b, o, none⟩ : Addr).add j = ⟨b, o + j, none⟩ := by unfold Addr.add; split <;> simp_all
      rw [e1]
      have h3 := old_cell ((Below.refl w.heap.size w).alloc (Nat.le_refl _) (.cells #[] 3)) (h2 j hj')
      rw [h3]
      rw [List.getElem?_map, List.getElem?_eq_getElem hj'] at hj
      simp at hj
      subst hj
      simp [hj']
    have HN := Lib.hid hn
    have HM : Hid (World.ownsRow (w.alloc (.cells #[] 3)) w.heap.size 3 1 (.slice (some ⟨w.heap.size, 0, none⟩) 0 0) 0 []) := World.ownsRow_made w #[] 0 (Nat.le_refl _) (by unfold maxLen; omega) rfl
    clear hc hn
    go_enter Try.func27, Try.ntmps27
    go_wp2_with (at_builtin; go_must (refine wpList_append_own _ rfl _ _ 22 rfl w.heap.size 3 i0 (.int .i64 0) 1 8 Try.underlying22 hi0 hz0 hz1 hz2 rfl (by decide) _ 0 [] rfl HM.out ad zs.length cap (zs.map (Value.int .i64)) rfl (by simp) HN.out ?c2 ?c3 ?c4 ?c5 ?_))
    case c2 => intro u hu; obtain ⟨x, _, rfl⟩ := List.mem_map.1 hu; rfl
    case c3 => unfold maxLen; omega
    case c4 => omega
    case c5 => simp
    intro v' w1 hown hg _
    have hb : Below w.heap.size w w1 := ((Below.refl w.heap.size w).alloc (Nat.le_refl _) _).grown hg (by simp) (fun q hq => by simp [Value.ownBlock] at hq; omega)
    have ho : w1.ownsRow w.heap.size 3 1 v' zs.length (zs.map (Value.int .i64)) := by simpa using hown
    clear hown hg
    go_wp2
    go_ret
    exact ⟨_, rfl, ho, hb⟩

end
end Go.Proofs.Ytiaedonhbafpjaa
