/-
  RoomTurns: its plain law and its walk. No conditions.
  begins, fit, copied, Replace: what they give for a policy that is right. No conditions beyond the theorems' own.
  A ring in memory; cell and cells: what they give. Conditions: numbers in their bounds.
  Replace: what it gives for a policy that is right and a slice of the call's own. No conditions beyond the theorems' own.
-/
import Derived.Test.YtjogaohnphafgaaTopCompactPai
import Derived.Test.YtjogaohnphafgaaTopCompactPal
import Derived.Deep.RegionLaw
import Derived.Test.YtjogaohnphafgaaTopCompactPao

namespace Go.Proofs.Ytjogaohnphafgaa
section
open Go.RowKit

theorem cfor_bd (n : Int) (h1 : 0 ≤ n) (h2 : n ≤ 100000) : n ≤ cfor n ∧ cfor n ≤ 100000 := by
  unfold cfor
  cases h : classes.find? (fun c => decide (n ≤ c)) with
  | none =>
    have := List.find?_eq_none.1 h 100000 (by unfold classes; simp)
    simp at this; omega
  | some c =>
    have h3 := List.find?_some h
    have h4 := List.mem_of_find?_eq_some h
    obtain ⟨i, hi, rfl⟩ := List.getElem_of_mem h4
    have h5 := classes_le i (by rw [classes_len] at hi; exact hi)
    rw [List.getD_eq_getElem?_getD, List.getElem?_eq_getElem hi] at h5
    simp at h3 h5 ⊢
    omega

theorem wish_ge (k s m room need : Int) (h : polErr k s m = 0) (_h1 : 0 ≤ room ∧ room ≤ 100000) (h2 : 0 ≤ need ∧ need ≤ 100000) : need ≤ wishI k s room need := by
  obtain ⟨p1, p2, p3⟩ := polOk_of h
  have hkk : k = 1 ∨ k = 2 ∨ k = 3 ∨ k = 4 ∨ k = 5 := by omega
  rcases hkk with rfl | rfl | rfl | rfl | rfl
  · simp [wishI]
  · have := mul_bd need s h2.1 h2.2 (p2 rfl).1 (p2 rfl).2
    simp [wishI]; omega
  · simp [wishI]; omega
  · simp [wishI]; omega
  · have := cfor_bd need h2.1 h2.2
    simp [wishI]; omega

theorem gV_facts (k s m room need : Int) (h : polErr k s m = 0) (h1 : 0 ≤ room ∧ room ≤ 100000) (h2 : 0 ≤ need ∧ need ≤ 100000) (he : gE m room need = 0) :
    need ≤ gV k s m room need ∧ room ≤ gV k s m room need ∧ gV k s m room need ≤ 100000 := by
  have hw := wish_ge k s m room need h h1 h2
  obtain ⟨p1, p2, p3⟩ := polOk_of h
  unfold gE at he
  unfold gV
  by_cases h3 : need ≤ room
  · rw [if_pos h3]; omega
  · rw [if_neg h3] at he ⊢
    by_cases h4 : m < need
    · rw [if_pos h4] at he; omega
    · rw [if_neg h4]; omega

theorem grow_facts (k s m room need : Int) : (growE k s m room need = 0 → need ≤ growV k s m room need ∧ room ≤ growV k s m room need) ∧ (growE k s m room need ≠ 0 → growV k s m room need = 0) := by
  unfold growE growV
  by_cases h : polErr k s m = 0
  · rw [if_pos h]
    by_cases hr : (0 ≤ room ∧ room ≤ 100000) ∧ (0 ≤ need ∧ need ≤ 100000)
    · rw [if_pos hr, if_pos ⟨h, hr⟩]
      refine ⟨fun he => ?_, fun he => ?_⟩
      · have := gV_facts k s m room need h hr.1 hr.2 he; exact ⟨this.1, this.2.1⟩
      · rcases gE_cases k s m room need with x | x
        · exact absurd x he
        · exact x.2
    · rw [if_neg hr, if_neg (fun x => hr x.2)]
      exact ⟨fun h => absurd h (by decide), fun _ => rfl⟩
  · rw [if_neg h, if_neg (fun x => h x.1)]
    exact ⟨fun x => absurd x h, fun _ => rfl⟩

theorem shrV_bd (k s m room used : Int) (h : polErr k s m = 0) (h1 : shrinkIn room used) : used ≤ shrV k room used (gV k s m 0 used) (gE m 0 used) ∧ shrV k room used (gV k s m 0 used) (gE m 0 used) ≤ room := by
  obtain ⟨a1, a2⟩ := h1
  unfold shrV
  split
  · next h3 =>
    have := gV_facts k s m 0 used h (by omega) (by omega) h3.1
    omega
  · omega

theorem shrink_facts (k s m room used : Int) : shrinkE k s m room used = 0 → used ≤ shrinkV k s m room used ∧ shrinkV k s m room used ≤ room := by
  unfold shrinkE shrinkV
  by_cases h : polErr k s m = 0
  · rw [if_pos h]
    by_cases hr : shrinkIn room used
    · rw [if_pos hr, if_pos ⟨h, hr⟩]
      exact fun _ => shrV_bd k s m room used h hr
    · rw [if_neg hr]; intro h; omega
  · rw [if_neg h]; intro x; exact absurd x h

theorem turns_facts (k s m need : Int) : growE k s m 0 need = 0 → shrinkE k s m (growV k s m 0 need) need = 0 ∧ shrinkV k s m (growV k s m 0 need) need = growV k s m 0 need := by
  intro he
  unfold growE at he
  by_cases h : polErr k s m = 0
  · rw [if_pos h] at he
    by_cases hr : (0 ≤ (0 : Int) ∧ (0 : Int) ≤ 100000) ∧ (0 ≤ need ∧ need ≤ 100000)
    · rw [if_pos hr] at he
      have hv : growV k s m 0 need = gV k s m 0 need := by unfold growV; rw [if_pos ⟨h, hr⟩]
      rw [hv]
      have hb := gV_facts k s m 0 need h hr.1 hr.2 he
      have hin : shrinkIn (gV k s m 0 need) need := ⟨by omega, by omega⟩
      unfold shrinkE shrinkV
      rw [if_pos h, if_pos hin, if_pos ⟨h, hin⟩, he]
      refine ⟨rfl, ?_⟩
      exact shrV_more (Int.le_refl _)
    · rw [if_neg hr] at he; omega
  · rw [if_neg h] at he; exact absurd he h

end
end Go.Proofs.Ytjogaohnphafgaa

namespace Go.Proofs.Ytjogaohnphafgaa
section
open Go.RowKit

theorem growV_has (k s m : Int) (cap N : Nat) (hp : polErr k s m = 0) (hc : cap ≤ 100000) (h : N ≤ cap) : growV k s m cap N = cap ∧ growE k s m cap N = 0 := by
  have h1 : (N : Int) ≤ cap := by omega
  have h2 : (0 ≤ (cap : Int) ∧ (cap : Int) ≤ 100000) ∧ (0 ≤ (N : Int) ∧ (N : Int) ≤ 100000) := by omega
  unfold growV growE gV gE
  exact ⟨by rw [if_pos ⟨hp, h2⟩, if_pos h1], by rw [if_pos hp, if_pos h2, if_pos h1]⟩
theorem growV_new (k s m : Int) (cap N : Nat) (hp : polErr k s m = 0) (hc : cap ≤ 100000) (hN : N ≤ 100000) (he : growE k s m cap N = 0) : (N : Int) ≤ growV k s m cap N ∧ (cap : Int) ≤ growV k s m cap N ∧ growV k s m cap N ≤ 100000 := by
  unfold growE at he
  rw [if_pos hp, if_pos ⟨by omega, by omega⟩] at he
  unfold growV
  rw [if_pos ⟨hp, by omega, by omega⟩]
  exact gV_facts k s m cap N hp (by omega) (by omega) he

def FitPost (k s m : Int) (g : Nat) (cs : List Int) (n cap N : Nat) (w : World) : Ending → World → Prop := fun e w' => Below w.heap.size w w' ∧
  ((N ≤ cap ∧ e = .returned (.tuple #[.slice (some ⟨g, 0, none⟩) N cap, .bool false, .int .i64 0])) ∨
   (cap < N ∧ ∃ g', w.heap.size ≤ g' ∧ e = .returned (.tuple #[.slice (some ⟨g', 0, none⟩) N (growV k s m cap N).toNat, .bool true, .int .i64 0]) ∧ byteRow w' g' (cs.take n ++ zeros ((growV k s m cap N).toNat - n))))

/-- 'copy' into a row that is known, as one step of a region that draws: of the other blocks none has turned. -/
theorem step_copy_at {P : Program} {ops : Array Oper} {o : Oper} {a : Act} {w : World} {K : Act → World → Prop} {Q : Exit → Act → World → Prop} {E : Prop} (hgd : o.guard = none) (d s : Operand) (dT sT : TypeId)
    (ho : o.op = .call { callee := .builtin .copy, args := #[d, s], argTypes := #[dT, sT] }) (elem : TypeId) (hu : P.underlying dT = some (.slice elem)) (hsz : (P.info? elem).map (·.size) = some 1)
    (dp sp : Option Addr) (dLen dCap sLen sCap : Nat) (hd : a.eval d = .slice dp dLen dCap) (hs : a.eval s = .slice sp sLen sCap)
    (g off : Nat) (cur : List Value) (t : TypeId) (hg : w.heap[g]? = some (.cells cur.toArray t (0, 0))) (cs : List Value) (hn : cs.length = Nat.min sLen dLen)
    (hpos : 0 < cs.length → dp = some ⟨g, off, none⟩ ∧ ∃ ad, sp = some ad ∧ ∀ j v, cs[j]? = some v → w.cell? (ad.add j) = some v)
    (hfit : off + cs.length ≤ cur.length) (h1 : ∀ v ∈ cs, v.oneCell' = true)
    (h : ∀ w', w'.heap[g]? = some (.cells (splice cur off cs).toArray t (0, 0)) → Touch (fun k => k = g) w w' → K (a.put o.dst (goInt cs.length)) w') :
    if Region.wanted o (yielded ops a.tmps) = true then Oper.wp P o a w K Q else E := by
  have hw : Region.wanted o (yielded ops a.tmps) = true := by simp [Region.wanted, hgd]
  rw [if_pos hw]
  by_cases h0 : cs.length = 0
  · obtain rfl : cs = [] := List.eq_nil_of_length_eq_zero h0
    have hrun := run_copy_none (P := P) w dT sT o.type elem dp sp dLen dCap sLen sCap hu hsz (by simpa using hn.symm)
    unfold Oper.wp
    simp [execOp, ho, resolve, invoke, builtin, hd, hs, hrun, Result.andThen]
    exact h w (by simpa [splice] using hg) (Touch.refl _ _)
  · obtain ⟨rfl, ad, rfl, hsrc⟩ := hpos (by omega)
    have hrun := run_copy_row (P := P) w dT sT o.type elem g off dLen dCap ad sLen sCap cur.toArray t cs hu hsz hg hn hsrc (by simpa using hfit) h1
    unfold Oper.wp
    simp [execOp, ho, resolve, invoke, builtin, hd, hs, hrun, Result.andThen]
    exact h _ (by simpa [splice] using setRow_heap w g _ _ t _ hg) ⟨rfl, rfl, rfl, by simp [World.setRow], fun k _ hk => setRow_other w g k _ hk⟩

end
end Go.Proofs.Ytjogaohnphafgaa

namespace Go.Proofs.Ytjogaohnphafgaa
section
open Go.RowKit

def ringCells (bp : Nat) (o k s m : Int) (mv : Value) (st len : Int) : Array Value :=
  #[.pointer (some ⟨bp, 0, none⟩), .int .i64 o, .int .i64 k, .int .i64 s, .int .i64 m, .bool false, mv, .int .i64 st, .int .i64 len]
/-- The ring's memory: nil, or a block. -/
def memOf (g : Option Nat) (R : Nat) : Value := match g with | none => .slice none R R | some b => .slice (some ⟨b, 0, none⟩) R R
theorem memOf_sh (g : Option Nat) (R : Nat) : ∃ a, memOf g R = .slice a R R ∧ (∀ b, g = some b → a = some ⟨b, 0, none⟩) ∧ (g = none → a = none) := by
  cases g with
  | none => exact ⟨none, rfl, fun b h => (by cases h), fun _ => rfl⟩
  | some b => exact ⟨_, rfl, fun c h => (by cases h; rfl), fun h => (by cases h)⟩

def CellsPost (g : Option Nat) (at' n R : Nat) (w : World) : Ending → World → Prop := fun e w' =>
  ∃ f1 f2, e = .returned (.tuple #[.slice f1 (min (at' + n) R - at') (min (at' + n) R - at'), .slice f2 (n - (min (at' + n) R - at')) (n - (min (at' + n) R - at'))]) ∧
    (∀ b, g = some b → (at' < min (at' + n) R → f1 = some ⟨b, at', none⟩) ∧ (0 < n - (min (at' + n) R - at') → f2 = some ⟨b, 0, none⟩)) ∧ ∃ q, w' = w.drewN q

theorem cells_mk {b at' n R q A B : Nat} {w : World} {f1 f2 : Option Addr} (hA : A = min (at' + n) R - at') (hB : B = n - A) (h1 : at' < min (at' + n) R → f1 = some ⟨b, at', none⟩) (h2 : 0 < B → f2 = some ⟨b, 0, none⟩) :
    CellsPost (some b) at' n R w (.returned (.tuple #[.slice f1 A A, .slice f2 B B])) (w.drewN q) := by
  subst hA hB
  refine ⟨f1, f2, rfl, fun b' hb' => ?_, q, rfl⟩
  obtain rfl : b = b' := by simpa using hb'
  exact ⟨h1, h2⟩

end
end Go.Proofs.Ytjogaohnphafgaa

namespace Go.Proofs.Ytjogaohnphafgaa
section
open Go.RowKit

theorem Reads.touch {F : Nat → Prop} {w w' : World} {k : IntKind} {v : Value} {zs : List Int} (h : Reads w k v zs) (ht : Touch F w w') (hF : ∀ b o n c, v = .slice (some ⟨b, o, none⟩) n c → ¬ F b) : Reads w' k v zs := by
  obtain ⟨a, cap, rfl, hl, hc⟩ := h
  refine ⟨a, cap, rfl, hl, fun hne => ?_⟩
  obtain ⟨b, o, rfl, h1⟩ := hc hne
  refine ⟨b, o, rfl, fun j hj => ?_⟩
  have h2 := h1 j hj
  have hb : b < w.heap.size := World.block_lt_of_cell? w ⟨b, o + j, none⟩ h2
  have h3 := ht.block b hb (hF b o _ _ rfl)
  unfold World.cell? at h2 ⊢
  rw [h3]
  exact h2

theorem Reads.take {w : World} {k : IntKind} {a : Option Addr} {n c : Nat} {zs : List Int} (h : Reads w k (.slice a n c) zs) (m : Nat) (hm : m ≤ zs.length) : Reads w k (.slice a m c) (zs.take m) := by
  obtain ⟨a', cap, e, hl, hc⟩ := h
  simp only [Value.slice.injEq] at e
  obtain ⟨rfl, rfl, rfl⟩ := e
  have hlm : (zs.take m).length = m := by rw [List.length_take]; omega
  refine ⟨a, c, by rw [hlm], by omega, fun hne => ?_⟩
  have h0 : 0 < m := by
    rcases Nat.eq_zero_or_pos m with h0 | h0
    · subst h0; simp at hne
    · exact h0
  obtain ⟨b, o, rfl, h1⟩ := hc (by intro e; subst e; simp at hm; omega)
  refine ⟨b, o, rfl, fun j hj => ?_⟩
  rw [hlm] at hj
  rw [h1 j (by omega)]
  simp [List.getD_eq_getElem?_getD, hj]

theorem Reads.dropZ {w : World} {k : IntKind} {b o n c : Nat} {zs : List Int} (h : Reads w k (.slice (some ⟨b, o, none⟩) n c) zs) (t : Nat) (ht : t ≤ zs.length) (z : Option Addr) (hz : t < zs.length → z = some ⟨b, o + t, none⟩) (m : Nat) : Reads w k (.slice z (n - t) m) (zs.drop t) := by
  obtain ⟨a', cap, e, hl, hc⟩ := h
  simp only [Value.slice.injEq] at e
  obtain ⟨rfl, rfl, rfl⟩ := e
  have hlm : (zs.drop t).length = zs.length - t := by rw [List.length_drop]
  refine ⟨z, m, by rw [hlm], by omega, fun hne => ?_⟩
  have h0 : t < zs.length := by
    rcases Nat.lt_or_ge t zs.length with h0 | h0
    · exact h0
    · exact absurd (List.drop_eq_nil_of_le h0) hne
  obtain ⟨b', o', e1, h1⟩ := hc (by intro e; subst e; simp at h0)
  simp only [Option.some.injEq, Addr.mk.injEq, and_true] at e1
  obtain ⟨rfl, rfl⟩ := e1
  refine ⟨b, o + t, hz h0, fun j hj => ?_⟩
  rw [hlm] at hj
  rw [Nat.add_assoc, h1 (t + j) (by omega)]
  simp [List.getD_eq_getElem?_getD]

theorem splice_mapF (cs zs : List Int) (F : Nat) : (splice cs F zs).map (Value.int .u8) = splice (cs.map (Value.int .u8)) F (zs.map (Value.int .u8)) := by simp [splice]

theorem bytes_spliceF {cs zs : List Int} {F : Nat} (h : bytes cs) (hz : bytes zs) : bytes (splice cs F zs) := by
  intro z hm
  simp only [splice, List.mem_append] at hm
  rcases hm with hm | hm | hm
  · exact h z (List.mem_of_mem_take hm)
  · exact hz z hm
  · exact h z (List.mem_of_mem_drop hm)

def ReplPost (k s m : Int) (g : Nat) (cs : List Int) (n cap f t : Nat) (zs : List Int) (N : Nat) (w : World) : Ending → World → Prop := fun e w' =>
  ∃ g' ds, e = .returned (.tuple #[.slice (some ⟨g', 0, none⟩) N (growV k s m cap N).toNat, .bool (decide (cap < N)), .int .i64 0]) ∧ byteRow w' g' ds ∧ ds.length = (growV k s m cap N).toNat ∧ bytes ds ∧
    ds.take N = cs.take f ++ zs ++ (cs.take n).drop t ∧ (g' = g ∨ w.heap.size ≤ g') ∧ Touch (fun k => k = g) w w'

end
end Go.Proofs.Ytjogaohnphafgaa
