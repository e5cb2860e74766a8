/-
  wants, move, Reserve of a ring: what they give. Conditions: numbers in their bounds.
  Reserve of a ring: what it gives. Conditions: numbers in their bounds; the ring's blocks are not the book's.
-/
import Derived.Test.YtfolidedcejafaaTopRingPav
import Derived.Deep.RegionWith
import Derived.Test.YtfolidedcejafaaTopRingPaw

namespace Go.Proofs.Ytfolidedcejafaa
section
open Go.RowKit

def wantsV (k s m : Int) (R : Nat) (len n : Int) : Int := if 100000 - len < n then 0 else growV k s m R (len + n)
def wantsE (k s m : Int) (R : Nat) (len n : Int) : Int := if 100000 - len < n then 4 else growE k s m R (len + n)

set_option maxHeartbeats 2000000 in
set_option maxRecDepth 100000 in
theorem wants_any (r bp : Nat) (o k s m : Int) (g : Option Nat) (R : Nat) (st len n : Int) (w : World) (h : ringAt w r bp o k s m (memOf g R) st len) (_ : R ≤ 1000000) (h1 : 0 ≤ len ∧ len ≤ 100000) (h2 : 0 ≤ n ∧ n ≤ 200000000000000) :
    Calls Try.prog 71 #[.pointer (some ⟨r, 0, none⟩), .int .i64 n] w (RetInt (wantsV k s m R len n) (wantsE k s m R len n) w) := by
  obtain ⟨a, ha, _, _⟩ := memOf_sh g R
  have c2 : w.cell? ⟨r, 2, none⟩ = some (.int .i64 k) := by rw [cell_of h]; rfl
  have c3 : w.cell? ⟨r, 3, none⟩ = some (.int .i64 s) := by rw [cell_of h]; rfl
  have c4 : w.cell? ⟨r, 4, none⟩ = some (.int .i64 m) := by rw [cell_of h]; rfl
  have c5 : w.cell? ⟨r, 5, none⟩ = some (.bool false) := by rw [cell_of h]; rfl
  have c6 : w.cell? ⟨r, 6, none⟩ = some (.slice a R R) := by rw [cell_of h]; rw [← ha]; rfl
  have c8 : w.cell? ⟨r, 8, none⟩ = some (.int .i64 len) := by rw [cell_of h]; rfl
  obtain ⟨h1a, h1b⟩ := h1
  obtain ⟨h2a, h2b⟩ := h2
  clear h ha
  by_cases e1 : 100000 - len < n
  · have E1 := Lib.hid (show wantsV k s m R len n = 0 by unfold wantsV; rw [if_pos e1])
    have E2 := Lib.hid (show wantsE k s m R len n = 4 by unfold wantsE; rw [if_pos e1])
    rw [E1.out, E2.out]
    go_enter Try.func71, Try.ntmps71
    go_wp2_with fail
    go_ret2
    exact ⟨rfl, Below.refl _ _⟩
  · have E1 := Lib.hid (show wantsV k s m R len n = growV k s m R (len + n) by unfold wantsV; rw [if_neg e1])
    have E2 := Lib.hid (show wantsE k s m R len n = growE k s m R (len + n) by unfold wantsE; rw [if_neg e1])
    rw [E1.out, E2.out]
    go_enter Try.func71, Try.ntmps71
    go_wp2_with fail
    have SUM : IntKind.i64.wrap (len + n) = len + n := by rw [IntKind.wrap_i64]; omega
    go_region_with ((go_at_call 57; refine (grow_any k s m R (len + n) _).mono ?_; rintro e w1 ⟨rfl, hb⟩; have HBG := Lib.hid hb; clear hb))
    all_goals
      go_wp2_with fail
      go_ret2
      exact ⟨rfl, (show Below w.heap.size w w.drew from (Below.refl _ _).drew).trans HBG.out⟩

end
end Go.Proofs.Ytfolidedcejafaa

namespace Go.Proofs.Ytfolidedcejafaa
section
open Go.RowKit

theorem MovePost.back {F F' : Nat → Prop} {r bp : Nat} {o k s m : Int} {g : Option Nat} {R : Nat} {rst rlen : Int} {bst : BookSt} {l h ls : Int} {N size : Nat} {zs : List Int} {w w3 : World} {e : Ending} {w' : World}
    (hp : MovePost F' r bp o k s m g R rst rlen bst l h ls N size zs w3 e w') (hb : Below w.heap.size w w3) (hF : ∀ k, F' k → F k) : MovePost F r bp o k s m g R rst rlen bst l h ls N size zs w e w' := by
  obtain ⟨he, G, h1, h2, h3, h4⟩ := hp
  have hs := hb.size
  refine ⟨he, G, h1, fun k hk => (h2 k hk).imp (hF k) (fun x => Nat.le_trans hs x), h3, ?_⟩
  rcases h4 with ⟨e0, h5, h6⟩ | ⟨e0, g', hg', hG, h5, h6, h7⟩
  · exact Or.inl ⟨e0, h5, (Touch.of_below hb).then (h6.mono hF)⟩
  · exact Or.inr ⟨e0, g', Nat.le_trans hs hg', hG, h5, h6, (Touch.of_below hb).then (h7.mono (fun k hk => hk.imp (hF k) id))⟩

theorem wants_ok {k s m : Int} {R rlen n : Nat} (hp : polErr k s m = 0) (hR : R ≤ 100000) (h : wantsE k s m R rlen n = 0) : rlen + n ≤ 100000 ∧ ∃ V : Nat, wantsV k s m R rlen n = (V : Int) ∧ R ≤ V ∧ rlen + n ≤ V ∧ V ≤ 100000 := by
  unfold wantsE at h
  by_cases h1 : (100000 : Int) - rlen < n
  · rw [if_pos h1] at h; omega
  · rw [if_neg h1] at h
    have h2 : rlen + n ≤ 100000 := by omega
    have e : (rlen : Int) + n = ((rlen + n : Nat) : Int) := by simp
    rw [e] at h
    have := growV_new k s m R (rlen + n) hp hR h2 h
    refine ⟨h2, (growV k s m R ((rlen + n : Nat) : Int)).toNat, ?_, by omega, by omega, by omega⟩
    unfold wantsV
    rw [if_neg h1, e]
    omega

def ReservePost (F : Nat → Prop) (r bp : Nat) (o k s m : Int) (g : Option Nat) (R : Nat) (cs : List Int) (rst rlen : Nat) (bst : BookSt) (l h ls : Int) (N n : Nat) (w : World) : Ending → World → Prop := fun e w' =>
  ((wantsE k s m R rlen n ≠ 0 ∨ wantsV k s m R rlen n = R) ∧ e = .returned (.tuple #[.bool false, .int .i64 (wantsE k s m R rlen n)]) ∧ Below w.heap.size w w') ∨
  (wantsE k s m R rlen n = 0 ∧ ∃ V : Nat, wantsV k s m R rlen n = (V : Int) ∧ V ≠ R ∧ e = .returned (.tuple #[.bool (decide (changeE bst l h ls R V = 0)), .int .i64 (changeE bst l h ls R V)]) ∧
    MovePost F r bp o k s m g R rst rlen bst l h ls N V (octL cs (cellN rst R 0) rlen) w (.returned (.int .i64 (changeE bst l h ls R V))) w')

set_option maxHeartbeats 2000000 in
set_option maxRecDepth 100000 in
theorem reserve_any (r bp : Nat) (o k s m : Int) (g : Option Nat) (R : Nat) (cs : List Int) (rst rlen n : Nat) (w : World) (F : Nat → Prop) (bst : BookSt) (N : Nat) (l h ls : Int)
    (hr : ringAt w r bp o k s m (memOf g R) rst rlen) (hm : memRow w g R cs) (hR : R ≤ 100000) (hst : rst ≤ 100000) (hrl : rlen ≤ R) (hp : polErr k s m = 0) (hn : n ≤ 200000000000000) (hb : BookAt w F bp bst N) (hs : Sound bst o l h ls) (hF : ¬ F r) :
    Calls Try.prog 54 #[.pointer (some ⟨r, 0, none⟩), .int .i64 n] w (ReservePost F r bp o k s m g R cs rst rlen bst l h ls N n w) := by
  obtain ⟨a, ha, _, _⟩ := memOf_sh g R
  have HW := Lib.hid (wants_any r bp o k s m g R rst rlen n w hr (by omega) (by omega) (by omega))
  have rlt := lt_of hr
  have HR := Lib.hid hr
  have HM := Lib.hid hm
  have HB := Lib.hid hb
  have HS := Lib.hid hs
  have HF := Lib.hid hF
  have HPO := Lib.hid hp
  have HA := Lib.hid ha
  clear hr hm hb hs hF hp ha
  by_cases e1 : wantsE k s m R rlen n = 0
  case neg =>
    have HE1 := Lib.hid e1
    have e1' : (wantsE k s m R rlen n == 0) = false := by simpa using e1
    generalize hE : wantsE k s m R rlen n = E at *
    have HEq := Lib.hid hE
    clear hE
    go_enter Try.func54, Try.ntmps54
    go_wp2_with fail
    refine HW.out.mono ?_
    rintro e w1 ⟨rfl, hb1⟩
    have HB1 := Lib.hid hb1
    clear hb1
    go_wp2_with fail
    go_ret2
    exact Or.inl ⟨Or.inl (by rw [HEq.out]; exact HE1.out), by rw [HEq.out]; rfl, HB1.out⟩
  case pos =>
    obtain ⟨hrn, V, hV, hRV, hNV, hV2⟩ := wants_ok HPO.out hR e1
    have HE1 := Lib.hid e1
    have HVV := Lib.hid hV
    rw [hV, e1] at HW
    clear e1 hV
    by_cases hVR : V = R
    · subst hVR
      go_enter Try.func54, Try.ntmps54
      go_wp2_with fail
      refine HW.out.mono ?_
      rintro e w1 ⟨rfl, hb1⟩
      have HB1 := Lib.hid hb1
      have c6 : w1.cell? ⟨r, 6, none⟩ = some (.slice a V V) := by rw [cell_of ((hb1.block r rlt).trans HR.out), ← HA.out]; rfl
      clear hb1
      go_wp2_with fail
      go_ret2
      exact Or.inl ⟨Or.inr HVV.out, by rw [HE1.out]; rfl, HB1.out⟩
    · have hVR' : ¬ ((V : Int) = R) := by omega
      have HVR := Lib.hid hVR
      go_enter Try.func54, Try.ntmps54
      go_wp2_with fail
      refine HW.out.mono ?_
      rintro e w1 ⟨rfl, hb1⟩
      have HB1 := Lib.hid hb1
      have R1 : Hid (ringAt w1 r bp o k s m (memOf g R) rst rlen) := Lib.hid ((hb1.block r rlt).trans HR.out)
      have M1 : Hid (memRow w1 g R cs) := Lib.hid (HM.out.keep (fun b hb => hb1.block b (by have := HM.out.2; rw [hb] at this; exact lt_of this)))
      have c6 : w1.cell? ⟨r, 6, none⟩ = some (.slice a R R) := by rw [cell_of R1.out, ← HA.out]; rfl
      have c8 : w1.cell? ⟨r, 8, none⟩ = some (.int .i64 rlen) := by rw [cell_of R1.out]; rfl
      have O := octets_ring r bp o k s m g R cs rst rlen 0 rlen w1 R1.out M1.out (by omega) (by omega) (by omega) hrl
      have HO := Lib.hid O
      clear hb1 O
      go_wp2_with fail
      refine HO.out.mono ?_
      rintro e w2 ⟨v, rfl, po, hb2⟩
      have B2 := Lib.hid (HB1.out.trans (hb2.mono HB1.out.size))
      have s1 := HB1.out.size
      have s2 := hb2.size
      have R2 : ringAt w2 r bp o k s m (memOf g R) rst rlen := (B2.out.block r rlt).trans HR.out
      have ol : (octL cs (cellN rst R 0) rlen).length = rlen := octL_len _ _ _ (by rw [HM.out.1]; exact cellN_le _ _ _) (by rw [HM.out.1]; exact hrl)
      have rv : Reads w2 .u8 v (octL cs (cellN rst R 0) rlen) := Reads.own (by rw [ol]; exact po) (by omega)
      have bk : BookAt w2 (fun k => F k ∧ k < w.heap.size) bp bst N := HB.out.narrow.same (fun k hk _ => B2.out.block k hk.2)
      have MV := move_any r bp o k s m g R rst rlen V v (octL cs (cellN rst R 0) rlen) w2 (fun k => F k ∧ k < w.heap.size) bst N l h ls R2 hR hV2 bk HS.out (fun x => HF.out x.1) rv (fun b o' n' c e => by
        subst e
        have hb := row_base2 po (k := b)
        by_cases h0 : rlen = 0
        · rcases po.2 with ⟨x, _⟩ | ⟨g2, _, _, x, hx, _⟩
          · cases x
          · simp only [Value.slice.injEq, Option.some.injEq, Addr.mk.injEq] at x
            exact ⟨fun y => by have := y.2; omega, by omega⟩
        · rcases po.2 with ⟨x, _⟩ | ⟨g2, _, _, x, hx, _⟩
          · cases x
          · simp only [Value.slice.injEq, Option.some.injEq, Addr.mk.injEq] at x
            exact ⟨fun y => by have := y.2; omega, by omega⟩) (by rw [ol]; omega)
      have HMV := Lib.hid MV
      clear MV bk rv R2 hb2 po
      go_wp2_with fail
      refine HMV.out.mono ?_
      intro e w3 hp3
      have hp4 := hp3.back (F := F) (w := w) B2.out (fun _ x => x.1)
      obtain ⟨rfl, _⟩ := hp3
      have HP4 := Lib.hid hp4
      clear hp4
      go_wp2_with fail
      go_ret2
      exact Or.inr ⟨HE1.out, V, HVV.out, HVR.out, by simp; rfl, HP4.out⟩

end
end Go.Proofs.Ytfolidedcejafaa
