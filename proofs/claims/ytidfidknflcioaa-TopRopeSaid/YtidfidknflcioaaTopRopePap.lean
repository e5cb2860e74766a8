/-
  ShrinkOf beside Shrink; the walks of RoomGrows and RoomTurns. No conditions.
  RoomTurns: its plain law and its walk. No conditions.
  begins, fit, copied, Replace: what they give for a policy that is right. No conditions beyond the theorems' own.
-/
import Derived.Test.YtidfidknflcioaaTopRopePao
import Derived.Test.YtidfidknflcioaaTopRopePan
import Derived.Deep.RegionLaw

namespace Go.Proofs.Ytidfidknflcioaa
section
open Go.RowKit

theorem shrink_any (k s m room used : Int) (w : World) :
    Calls Try.prog 53 #[.agg #[.int .i64 k, .int .i64 s, .int .i64 m], .int .i64 room, .int .i64 used] w (RetInt (shrinkV k s m room used) (shrinkE k s m room used) w) := by
  unfold shrinkV shrinkE
  by_cases h : polErr k s m = 0
  · by_cases hr : shrinkIn room used
    · rw [if_pos ⟨h, hr⟩, if_pos h, if_pos hr]
      exact shrink_core k s m room used _ _ w h hr.1.1 hr.1.2 hr.2.1 hr.2.2 (by rcases gE_cases k s m 0 used with x | x <;> omega) (fun w => grow_valid k s m 0 used w h (by omega) ⟨hr.2.1, by have := hr.1.2; have := hr.2.2; omega⟩)
    · rw [if_neg (fun x => hr x.2), if_pos h, if_neg hr]; exact shrink_range k s m room used w h hr
  · rw [if_neg (fun x => h x.1), if_neg h]; exact shrink_pol k s m room used w h

/-- A policy's box. -/
def BoxAt (w : World) (b : Nat) (k s m : Int) : Prop :=
  b < w.heap.size ∧ w.cell? ⟨b, 0, none⟩ = some (.int .i64 k) ∧ w.cell? ⟨b, 1, none⟩ = some (.int .i64 s) ∧ w.cell? ⟨b, 2, none⟩ = some (.int .i64 m)
theorem BoxAt.new (w : World) (k s m : Int) (t : TypeId) : BoxAt (w.alloc (.cells #[.int .i64 k, .int .i64 s, .int .i64 m] t)) w.heap.size k s m := by
  refine ⟨by simp, ?_, ?_, ?_⟩ <;> (rw [cell_of_row _ _ _ _ _ _ (heap_alloc_new w _)]; rfl)
theorem BoxAt.below {w w' : World} {b : Nat} {k s m : Int} (h : BoxAt w b k s m) (hb : Below w.heap.size w w') : BoxAt w' b k s m :=
  ⟨Nat.lt_of_lt_of_le h.1 hb.size, (hb.cell (p := ⟨b, 0, none⟩) h.1).trans h.2.1, (hb.cell (p := ⟨b, 1, none⟩) h.1).trans h.2.2.1, (hb.cell (p := ⟨b, 2, none⟩) h.1).trans h.2.2.2⟩

end
end Go.Proofs.Ytidfidknflcioaa

namespace Go.Proofs.Ytidfidknflcioaa
section
open Go.RowKit

theorem cfor_bd (n : Int) (h1 : 0 ≤ n) (h2 : n ≤ 100000) : n ≤ cfor n ∧ cfor n ≤ 100000 := by
  unfold cfor
  cases h : classes.find? (fun c => decide (n ≤ c)) with
  | none =>
    have := List.find?_eq_none.1 h 100000 (by unfold classes; simp)
    simp at this; omega
  | some c =>
    have h3 := List.find?_some h
    have h4 := List.mem_of_find?_eq_some h
    obtain ⟨i, hi, rfl⟩ := List.getElem_of_mem h4
    have h5 := classes_le i (by rw [classes_len] at hi; exact hi)
    rw [List.getD_eq_getElem?_getD, List.getElem?_eq_getElem hi] at h5
    simp at h3 h5 ⊢
    omega

theorem wish_ge (k s m room need : Int) (h : polErr k s m = 0) (_h1 : 0 ≤ room ∧ room ≤ 100000) (h2 : 0 ≤ need ∧ need ≤ 100000) : need ≤ wishI k s room need := by
  obtain ⟨p1, p2, p3⟩ := polOk_of h
  have hkk : k = 1 ∨ k = 2 ∨ k = 3 ∨ k = 4 ∨ k = 5 := by omega
  rcases hkk with rfl | rfl | rfl | rfl | rfl
  · simp [wishI]
  · have := mul_bd need s h2.1 h2.2 (p2 rfl).1 (p2 rfl).2
    simp [wishI]; omega
  · simp [wishI]; omega
  · simp [wishI]; omega
  · have := cfor_bd need h2.1 h2.2
    simp [wishI]; omega

theorem gV_facts (k s m room need : Int) (h : polErr k s m = 0) (h1 : 0 ≤ room ∧ room ≤ 100000) (h2 : 0 ≤ need ∧ need ≤ 100000) (he : gE m room need = 0) :
    need ≤ gV k s m room need ∧ room ≤ gV k s m room need ∧ gV k s m room need ≤ 100000 := by
  have hw := wish_ge k s m room need h h1 h2
  obtain ⟨p1, p2, p3⟩ := polOk_of h
  unfold gE at he
  unfold gV
  by_cases h3 : need ≤ room
  · rw [if_pos h3]; omega
  · rw [if_neg h3] at he ⊢
    by_cases h4 : m < need
    · rw [if_pos h4] at he; omega
    · rw [if_neg h4]; omega

theorem grow_facts (k s m room need : Int) : (growE k s m room need = 0 → need ≤ growV k s m room need ∧ room ≤ growV k s m room need) ∧ (growE k s m room need ≠ 0 → growV k s m room need = 0) := by
  unfold growE growV
  by_cases h : polErr k s m = 0
  · rw [if_pos h]
    by_cases hr : (0 ≤ room ∧ room ≤ 100000) ∧ (0 ≤ need ∧ need ≤ 100000)
    · rw [if_pos hr, if_pos ⟨h, hr⟩]
      refine ⟨fun he => ?_, fun he => ?_⟩
      · have := gV_facts k s m room need h hr.1 hr.2 he; exact ⟨this.1, this.2.1⟩
      · rcases gE_cases k s m room need with x | x
        · exact absurd x he
        · exact x.2
    · rw [if_neg hr, if_neg (fun x => hr x.2)]
      exact ⟨fun h => absurd h (by decide), fun _ => rfl⟩
  · rw [if_neg h, if_neg (fun x => h x.1)]
    exact ⟨fun x => absurd x h, fun _ => rfl⟩

theorem shrV_bd (k s m room used : Int) (h : polErr k s m = 0) (h1 : shrinkIn room used) : used ≤ shrV k room used (gV k s m 0 used) (gE m 0 used) ∧ shrV k room used (gV k s m 0 used) (gE m 0 used) ≤ room := by
  obtain ⟨a1, a2⟩ := h1
  unfold shrV
  split
  · next h3 =>
    have := gV_facts k s m 0 used h (by omega) (by omega) h3.1
    omega
  · omega

theorem shrink_facts (k s m room used : Int) : shrinkE k s m room used = 0 → used ≤ shrinkV k s m room used ∧ shrinkV k s m room used ≤ room := by
  unfold shrinkE shrinkV
  by_cases h : polErr k s m = 0
  · rw [if_pos h]
    by_cases hr : shrinkIn room used
    · rw [if_pos hr, if_pos ⟨h, hr⟩]
      exact fun _ => shrV_bd k s m room used h hr
    · rw [if_neg hr]; intro h; omega
  · rw [if_neg h]; intro x; exact absurd x h

theorem turns_facts (k s m need : Int) : growE k s m 0 need = 0 → shrinkE k s m (growV k s m 0 need) need = 0 ∧ shrinkV k s m (growV k s m 0 need) need = growV k s m 0 need := by
  intro he
  unfold growE at he
  by_cases h : polErr k s m = 0
  · rw [if_pos h] at he
    by_cases hr : (0 ≤ (0 : Int) ∧ (0 : Int) ≤ 100000) ∧ (0 ≤ need ∧ need ≤ 100000)
    · rw [if_pos hr] at he
      have hv : growV k s m 0 need = gV k s m 0 need := by unfold growV; rw [if_pos ⟨h, hr⟩]
      rw [hv]
      have hb := gV_facts k s m 0 need h hr.1 hr.2 he
      have hin : shrinkIn (gV k s m 0 need) need := ⟨by omega, by omega⟩
      unfold shrinkE shrinkV
      rw [if_pos h, if_pos hin, if_pos ⟨h, hin⟩, he]
      refine ⟨rfl, ?_⟩
      exact shrV_more (Int.le_refl _)
    · rw [if_neg hr] at he; omega
  · rw [if_neg h] at he; exact absurd he h

end
end Go.Proofs.Ytidfidknflcioaa

namespace Go.Proofs.Ytidfidknflcioaa
section
open Go.RowKit

theorem begins_any (k s m : Int) (p : Option Addr) (n cap : Nat) (v : Value) (zs : List Int) (w : World) (hp : polErr k s m = 0) (hc : cap ≤ 100000) (hr : Reads w .u8 v zs) (hz : zs.length ≤ 100000) :
    Calls Try.prog 80 #[.agg #[.int .i64 k, .int .i64 s, .int .i64 m], .slice p n cap, v] w (fun e w' => e = .returned (.int .i64 0) ∧ Below w.heap.size w w') := by
  obtain ⟨a, c, rfl, _, _⟩ := hr
  have HP := Lib.hid hp
  clear hp
  go_enter Try.func80, Try.ntmps80
  go_wp2_with fail
  refine (checkPolicy_any k s m _).mono ?_
  rintro e w1 ⟨rfl, rfl, _⟩
  rw [HP.out]
  go_wp2_with fail
  go_ret
  exact ⟨rfl, by go_grown⟩

set_option maxHeartbeats 1000000 in
set_option maxRecDepth 100000 in
theorem copiedN_any (v : Value) (zs : List Int) (n h : Int) (w : World) (hr : Reads w .u8 v zs) (h0 : (zs.length : Int) ≤ n) (h1 : n ≤ h) (h2 : h ≤ 100000) :
    Calls Try.prog 81 #[v, .int .i64 n, .int .i64 h] w (fun e w' => ∃ g, w.heap.size ≤ g ∧ e = .returned (.slice (some ⟨g, 0, none⟩) n.toNat h.toNat) ∧ byteRow w' g (zs ++ zeros (h.toNat - zs.length)) ∧ Below w.heap.size w w') := by
  have HR := Lib.hid hr
  obtain ⟨a, cap, rfl, hl, _⟩ := hr
  have MK := fun w => run_makeBytes w n h (by omega) h1 (by omega)
  have HG := Lib.hid (heap_alloc_new w (.cells ((zeros h.toNat).map (Value.int .u8)).toArray 5))
  have HN : Hid ((zs.map (Value.int .u8)).length = Nat.min zs.length n.toNat) := Lib.hid (by rw [List.length_map]; exact (Nat.min_eq_left (by omega)).symm)
  have HFI : Hid (0 + (zs.map (Value.int .u8)).length ≤ ((zeros h.toNat).map (Value.int .u8)).length) := Lib.hid (by simp [zeros]; omega)
  have H1 : Hid (∀ v ∈ zs.map (Value.int .u8), v.oneCell' = true) := Lib.hid (by intro v hv; obtain ⟨z, _, rfl⟩ := List.mem_map.1 hv; rfl)
  have HPO : Hid (0 < (zs.map (Value.int .u8)).length → (some (⟨w.heap.size, 0, none⟩ : Addr) = some ⟨w.heap.size, 0, none⟩) ∧ ∃ ad, a = some ad ∧ ∀ j v, (zs.map (Value.int .u8))[j]? = some v → (w.alloc (.cells ((zeros h.toNat).map (Value.int .u8)).toArray 5)).cell? (ad.add j) = some v) :=
    Lib.hid (fun h0 => ⟨rfl, (HR.out.below (w' := w.alloc (.cells ((zeros h.toNat).map (Value.int .u8)).toArray 5)) (by go_grown) rfl).src rfl h0⟩)
  go_enter Try.func81, Try.ntmps81
  go_wp2_with (with_reducible refine wpList_copy_at rfl (.tmp 11) (.tmp 12) 32 32 rfl 5 Try.underlying32 byteSize (some ⟨w.heap.size, 0, none⟩) a n.toNat h.toNat zs.length cap rfl rfl w.heap.size 0 ((zeros h.toNat).map (Value.int .u8)) 5 HG.out (zs.map (Value.int .u8)) HN.out HPO.out HFI.out H1.out ?_)
  intro w' hg ht
  rw [splice_zeros] at hg
  have bel : Below w.heap.size w w' := Below.trans (by go_grown) (ht.below (by simp) (fun k hk => by omega))
  go_wp2_with fail
  go_ret
  exact ⟨w.heap.size, Nat.le_refl _, rfl, hg, bel⟩


theorem growV_has (k s m : Int) (cap N : Nat) (hp : polErr k s m = 0) (hc : cap ≤ 100000) (h : N ≤ cap) : growV k s m cap N = cap ∧ growE k s m cap N = 0 := by
  have h1 : (N : Int) ≤ cap := by omega
  have h2 : (0 ≤ (cap : Int) ∧ (cap : Int) ≤ 100000) ∧ (0 ≤ (N : Int) ∧ (N : Int) ≤ 100000) := by omega
  unfold growV growE gV gE
  exact ⟨by rw [if_pos ⟨hp, h2⟩, if_pos h1], by rw [if_pos hp, if_pos h2, if_pos h1]⟩
theorem growV_new (k s m : Int) (cap N : Nat) (hp : polErr k s m = 0) (hc : cap ≤ 100000) (hN : N ≤ 100000) (he : growE k s m cap N = 0) : (N : Int) ≤ growV k s m cap N ∧ (cap : Int) ≤ growV k s m cap N ∧ growV k s m cap N ≤ 100000 := by
  unfold growE at he
  rw [if_pos hp, if_pos ⟨by omega, by omega⟩] at he
  unfold growV
  rw [if_pos ⟨hp, by omega, by omega⟩]
  exact gV_facts k s m cap N hp (by omega) (by omega) he

def FitPost (k s m : Int) (g : Nat) (cs : List Int) (n cap N : Nat) (w : World) : Ending → World → Prop := fun e w' => Below w.heap.size w w' ∧
  ((N ≤ cap ∧ e = .returned (.tuple #[.slice (some ⟨g, 0, none⟩) N cap, .bool false, .int .i64 0])) ∨
   (cap < N ∧ ∃ g', w.heap.size ≤ g' ∧ e = .returned (.tuple #[.slice (some ⟨g', 0, none⟩) N (growV k s m cap N).toNat, .bool true, .int .i64 0]) ∧ byteRow w' g' (cs.take n ++ zeros ((growV k s m cap N).toNat - n))))

set_option maxHeartbeats 1000000 in
set_option maxRecDepth 100000 in
theorem fit_any (k s m : Int) (g : Nat) (cs : List Int) (n cap N : Nat) (w : World) (hp : polErr k s m = 0) (hr : byteRow w g cs) (hcl : cs.length = cap) (hc : cap ≤ 100000) (hn : n ≤ cap) (hN : N ≤ 100000) (he : growE k s m cap N = 0) :
    Calls Try.prog 92 #[.agg #[.int .i64 k, .int .i64 s, .int .i64 m], .slice (some ⟨g, 0, none⟩) n cap, .int .i64 N] w (FitPost k s m g cs n cap N w) := by
  have hlt := lt_of hr
  have rd : Reads w .u8 (.slice (some ⟨g, 0, none⟩) n cap) (cs.take n) := by
    have hl : (cs.take n).length = n := by rw [List.length_take]; omega
    refine ⟨some ⟨g, 0, none⟩, cap, by rw [hl], by omega, fun _ => ⟨g, 0, rfl, fun j hj => ?_⟩⟩
    rw [hl] at hj
    have := hr.cell j (by omega)
    simp only [Nat.zero_add]
    rw [this]
    simp [List.getD_eq_getElem?_getD, hj]
  have RD := Lib.hid rd
  have HE := Lib.hid he
  have hlen : (cs.take n).length = n := by rw [List.length_take]; omega
  have LEN := Lib.hid hlen
  by_cases h : N ≤ cap
  · have GV := Lib.hid (growV_has k s m cap N hp hc h).1
    clear rd hr he hlen
    go_enter Try.func92, Try.ntmps92
    go_wp2_with fail
    refine (grow_any k s m cap N _).mono ?_
    rintro e w1 ⟨rfl, hb⟩
    rw [GV.out, HE.out]
    have hb1 : Below w.heap.size w w1 := Below.trans (by go_grown) (hb.mono (by simp))
    go_wp2_with fail
    go_ret3
    exact ⟨hb1, Or.inl ⟨h, rfl⟩⟩
  · obtain ⟨v1, v2, v3⟩ := growV_new k s m cap N hp hc hN he
    generalize hV : growV k s m cap N = V at *
    have HV := Lib.hid hV
    clear rd hr he hlen hV
    go_enter Try.func92, Try.ntmps92
    go_wp2_with fail
    refine (grow_any k s m cap N _).mono ?_
    rintro e w1 ⟨rfl, hb⟩
    rw [HV.out, HE.out]
    have hb1 : Below w.heap.size w w1 := Below.trans (by go_grown) (hb.mono (by simp))
    clear hb
    go_wp2_with fail
    refine (copiedN_any _ (cs.take n) N V w1 (RD.out.below hb1 rfl) (by rw [LEN.out]; omega) v1 v3).mono ?_
    rintro e w2 ⟨g', hg', rfl, r2, hb2⟩
    have hs1 := hb1.size
    have B2 := Lib.hid (hb1.trans (hb2.mono hs1))
    have G2 := Lib.hid r2
    clear r2 hb2
    go_wp2_with fail
    go_ret3
    refine ⟨B2.out, Or.inr ⟨by omega, g', by omega, ?_, ?_⟩⟩
    · simp [HV.out]
    · rw [HV.out, ← LEN.out]; simpa [LEN.out] using G2.out

/-- 'copy' into a row that is known, as one step of a region that draws: of the other blocks none has turned. -/
theorem step_copy_at {P : Program} {ops : Array Oper} {o : Oper} {a : Act} {w : World} {K : Act → World → Prop} {Q : Exit → Act → World → Prop} {E : Prop} (hgd : o.guard = none) (d s : Operand) (dT sT : TypeId)
    (ho : o.op = .call { callee := .builtin .copy, args := #[d, s], argTypes := #[dT, sT] }) (elem : TypeId) (hu : P.underlying dT = some (.slice elem)) (hsz : (P.info? elem).map (·.size) = some 1)
    (dp sp : Option Addr) (dLen dCap sLen sCap : Nat) (hd : a.eval d = .slice dp dLen dCap) (hs : a.eval s = .slice sp sLen sCap)
    (g off : Nat) (cur : List Value) (t : TypeId) (hg : w.heap[g]? = some (.cells cur.toArray t (0, 0))) (cs : List Value) (hn : cs.length = Nat.min sLen dLen)
    (hpos : 0 < cs.length → dp = some ⟨g, off, none⟩ ∧ ∃ ad, sp = some ad ∧ ∀ j v, cs[j]? = some v → w.cell? (ad.add j) = some v)
    (hfit : off + cs.length ≤ cur.length) (h1 : ∀ v ∈ cs, v.oneCell' = true)
    (h : ∀ w', w'.heap[g]? = some (.cells (splice cur off cs).toArray t (0, 0)) → Touch (fun k => k = g) w w' → K (a.put o.dst (goInt cs.length)) w') :
    if Region.wanted o (yielded ops a.tmps) = true then Oper.wp P o a w K Q else E := by
  have hw : Region.wanted o (yielded ops a.tmps) = true := by simp [Region.wanted, hgd]
  rw [if_pos hw]
  by_cases h0 : cs.length = 0
  · obtain rfl : cs = [] := List.eq_nil_of_length_eq_zero h0
    have hrun := run_copy_none (P := P) w dT sT o.type elem dp sp dLen dCap sLen sCap hu hsz (by simpa using hn.symm)
    unfold Oper.wp
    simp [execOp, ho, resolve, invoke, builtin, hd, hs, hrun, Result.andThen]
    exact h w (by simpa [splice] using hg) (Touch.refl _ _)
  · obtain ⟨rfl, ad, rfl, hsrc⟩ := hpos (by omega)
    have hrun := run_copy_row (P := P) w dT sT o.type elem g off dLen dCap ad sLen sCap cur.toArray t cs hu hsz hg hn hsrc (by simpa using hfit) h1
    unfold Oper.wp
    simp [execOp, ho, resolve, invoke, builtin, hd, hs, hrun, Result.andThen]
    exact h _ (by simpa [splice] using setRow_heap w g _ _ t _ hg) ⟨rfl, rfl, rfl, by simp [World.setRow], fun k _ hk => setRow_other w g k _ hk⟩

end
end Go.Proofs.Ytidfidknflcioaa
