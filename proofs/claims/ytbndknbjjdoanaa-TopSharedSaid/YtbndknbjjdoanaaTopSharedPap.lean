/-
  begins, fit, copied, Replace: what they give for a policy that is right. No conditions beyond the theorems' own.
  fresh: a block more: the walk. Conditions: numbers in their bounds.
-/
import Derived.Test.YtbndknbjjdoanaaTopSharedPal
import Derived.Test.YtbndknbjjdoanaaTopSharedPao
import Derived.Deep.RegionLaw

namespace Go.Proofs.Ytbndknbjjdoanaa
section
open Go.RowKit

theorem growV_has (k s m : Int) (cap N : Nat) (hp : polErr k s m = 0) (hc : cap ≤ 100000) (h : N ≤ cap) : growV k s m cap N = cap ∧ growE k s m cap N = 0 := by
  have h1 : (N : Int) ≤ cap := by omega
  have h2 : (0 ≤ (cap : Int) ∧ (cap : Int) ≤ 100000) ∧ (0 ≤ (N : Int) ∧ (N : Int) ≤ 100000) := by omega
  unfold growV growE gV gE
  exact ⟨by rw [if_pos ⟨hp, h2⟩, if_pos h1], by rw [if_pos hp, if_pos h2, if_pos h1]⟩
theorem growV_new (k s m : Int) (cap N : Nat) (hp : polErr k s m = 0) (hc : cap ≤ 100000) (hN : N ≤ 100000) (he : growE k s m cap N = 0) : (N : Int) ≤ growV k s m cap N ∧ (cap : Int) ≤ growV k s m cap N ∧ growV k s m cap N ≤ 100000 := by
  unfold growE at he
  rw [if_pos hp, if_pos ⟨by omega, by omega⟩] at he
  unfold growV
  rw [if_pos ⟨hp, by omega, by omega⟩]
  exact gV_facts k s m cap N hp (by omega) (by omega) he

def FitPost (k s m : Int) (g : Nat) (cs : List Int) (n cap N : Nat) (w : World) : Ending → World → Prop := fun e w' => Below w.heap.size w w' ∧
  ((N ≤ cap ∧ e = .returned (.tuple #[.slice (some ⟨g, 0, none⟩) N cap, .bool false, .int .i64 0])) ∨
   (cap < N ∧ ∃ g', w.heap.size ≤ g' ∧ e = .returned (.tuple #[.slice (some ⟨g', 0, none⟩) N (growV k s m cap N).toNat, .bool true, .int .i64 0]) ∧ byteRow w' g' (cs.take n ++ zeros ((growV k s m cap N).toNat - n))))

/-- 'copy' into a row that is known, as one step of a region that draws: of the other blocks none has turned. -/
theorem step_copy_at {P : Program} {ops : Array Oper} {o : Oper} {a : Act} {w : World} {K : Act → World → Prop} {Q : Exit → Act → World → Prop} {E : Prop} (hgd : o.guard = none) (d s : Operand) (dT sT : TypeId)
    (ho : o.op = .call { callee := .builtin .copy, args := #[d, s], argTypes := #[dT, sT] }) (elem : TypeId) (hu : P.underlying dT = some (.slice elem)) (hsz : (P.info? elem).map (·.size) = some 1)
    (dp sp : Option Addr) (dLen dCap sLen sCap : Nat) (hd : a.eval d = .slice dp dLen dCap) (hs : a.eval s = .slice sp sLen sCap)
    (g off : Nat) (cur : List Value) (t : TypeId) (hg : w.heap[g]? = some (.cells cur.toArray t (0, 0))) (cs : List Value) (hn : cs.length = Nat.min sLen dLen)
    (hpos : 0 < cs.length → dp = some ⟨g, off, none⟩ ∧ ∃ ad, sp = some ad ∧ ∀ j v, cs[j]? = some v → w.cell? (ad.add j) = some v)
    (hfit : off + cs.length ≤ cur.length) (h1 : ∀ v ∈ cs, v.oneCell' = true)
    (h : ∀ w', w'.heap[g]? = some (.cells (splice cur off cs).toArray t (0, 0)) → Touch (fun k => k = g) w w' → K (a.put o.dst (goInt cs.length)) w') :
    if Region.wanted o (yielded ops a.tmps) = true then Oper.wp P o a w K Q else E := by
  have hw : Region.wanted o (yielded ops a.tmps) = true := by simp [Region.wanted, hgd]
  rw [if_pos hw]
  by_cases h0 : cs.length = 0
  · obtain rfl : cs = [] := List.eq_nil_of_length_eq_zero h0
    have hrun := run_copy_none (P := P) w dT sT o.type elem dp sp dLen dCap sLen sCap hu hsz (by simpa using hn.symm)
    unfold Oper.wp
    simp [execOp, ho, resolve, invoke, builtin, hd, hs, hrun, Result.andThen]
    exact h w (by simpa [splice] using hg) (Touch.refl _ _)
  · obtain ⟨rfl, ad, rfl, hsrc⟩ := hpos (by omega)
    have hrun := run_copy_row (P := P) w dT sT o.type elem g off dLen dCap ad sLen sCap cur.toArray t cs hu hsz hg hn hsrc (by simpa using hfit) h1
    unfold Oper.wp
    simp [execOp, ho, resolve, invoke, builtin, hd, hs, hrun, Result.andThen]
    exact h _ (by simpa [splice] using setRow_heap w g _ _ t _ hg) ⟨rfl, rfl, rfl, by simp [World.setRow], fun k _ hk => setRow_other w g k _ hk⟩

end
end Go.Proofs.Ytbndknbjjdoanaa

namespace Go.Proofs.Ytbndknbjjdoanaa
section
open Go.RowKit
set_option linter.unusedVariables false

theorem made_same {n : Nat} (h : n ≤ 100000) : madeE (n : Int) (n : Int) = 0 := by
  unfold madeE
  rw [if_pos ⟨⟨by omega, by omega⟩, by omega, Int.le_refl _⟩]

theorem made_ok {n : Nat} (h : n ≤ 100000) (w : World) : Calls Try.prog 64 #[.int .i64 (n : Int), .int .i64 (n : Int)] w (fun e w' => e = .returned (.tuple #[.slice (some ⟨w.heap.size, 0, none⟩) n n, .int .i64 0]) ∧ w' = w.alloc (.cells ((zeros n).map (Value.int .u8)).toArray 5)) := by
  refine (made_any (n : Int) (n : Int) w).mono ?_
  rintro e w' (⟨_, rfl, rfl⟩ | ⟨hbad, _⟩)
  · exact ⟨rfl, rfl⟩
  · rw [made_same h] at hbad; omega

/-- The new block's octets. -/
def newBk (size a g : Nat) (os : List Int) : Bk := ⟨a, g, os ++ zeros (size - os.length), os.length, false⟩
def FreshPost (h bp : Nat) (P : PoolSt) (mb ms N1 N2 : Nat) (D2 : DataW Unit) (F : Nat → Prop) (os : List Int) (w : World) : Ending → World → Prop := fun e w' =>
  e = .returned (.agg #[.int .i64 ((P.lastB + 1 : Nat) : Int), .int .i64 0, .int .i64 (os.length : Int)]) ∧ ∃ a g D1', w.heap.size ≤ a ∧ w.heap.size ≤ g ∧ a < w'.heap.size ∧ g < w'.heap.size ∧
    PoolMem w' (fun k => F k ∨ k = a ∨ k = g) h bp (P.grow (newBk P.size a g os)) mb ms (N1 + 1) N2 D1' D2 ∧ Touch (fun k => k = h ∨ k = mb) w w'

theorem pool_no_u8 {w : World} {F : Nat → Prop} {h bp : Nat} {P : PoolSt} {mb ms N1 N2 : Nat} {D1 D2 : DataW Unit} (m : PoolMem w F h bp P mb ms N1 N2 D1 D2) (o : Nat) (z : Int) : w.cell? ⟨h, o, none⟩ ≠ some (.int .u8 z) := by
  rw [cell_of m.self]
  match o with
  | 0 => simp
  | 1 => simp
  | 2 => simp
  | 3 => simp
  | 4 => simp
  | 5 => simp
  | 6 => simp
  | 7 => simp
  | o + 8 => simp
theorem reads_past {w w' : World} {v : Value} {zs : List Int} {h : Nat} (hr : Reads w .u8 v zs) (ht : Touch (fun k => k = h) w w') (hc : ∀ o z, w.cell? ⟨h, o, none⟩ ≠ some (.int .u8 z)) : Reads w' .u8 v zs := by
  obtain ⟨a, cap, rfl, hl, hcell⟩ := hr
  refine ⟨a, cap, rfl, hl, fun hne => ?_⟩
  obtain ⟨b, o, rfl, h1⟩ := hcell hne
  have hb : b ≠ h := fun e => hc (o + 0) _ (e ▸ h1 0 (List.length_pos_iff.2 hne))
  refine ⟨b, o, rfl, fun j hj => ?_⟩
  have h2 := h1 j hj
  have hlt := World.block_lt_of_cell? w _ h2
  rw [← h2]
  unfold World.cell?
  simp only [ht.block b hlt hb]

set_option maxHeartbeats 4000000 in
set_option maxRecDepth 100000 in
theorem fresh_any {w : World} {F : Nat → Prop} {h bp : Nat} {P : PoolSt} {mb ms N1 N2 : Nat} {D1 D2 : DataW Unit} (m : PoolMem w F h bp P mb ms N1 N2 D1 D2) (a : Option Addr) (n c : Nat) (os : List Int) (hr : Reads w .u8 (.slice a n c) os) (hn : os.length = n) (hsz : n ≤ P.size) (hbz : bytes os) (hfl : ∀ k, F k → k < w.heap.size) (hfew : P.bl.length < 2000) (hB : P.lastB < 1000000000) (hN : N1 < 9223372036854775807) :
    Calls Try.prog 50 #[.pointer (some ⟨h, 0, none⟩), .slice a n c] w (FreshPost h bp P mb ms N1 N2 D2 F os w) := by
  obtain ⟨s1, s2⟩ := m.sz
  have B0 : Below w.heap.size w (w.alloc (.cells #[.int .i64 0, .int .i64 0, .int .i64 0] 75)) := (Below.refl w.heap.size w).alloc (Nat.le_refl _) _
  have HM := Lib.hid m
  have HR := Lib.hid hr
  have HB0 := Lib.hid B0
  have HN := Lib.hid hn
  have HBZ := Lib.hid hbz
  have HFL := Lib.hid hfl
  clear m hr B0 hn hbz hfl
  go_enter Try.func50, Try.ntmps50
  go_upto_region 1 with fail
  have R0 := Lib.hid (heap_alloc_new w (.cells #[.int .i64 0, .int .i64 0, .int .i64 0] 75))
  have hsz0 : (w.alloc (.cells #[.int .i64 0, .int .i64 0, .int .i64 0] 75)).heap.size = w.heap.size + 1 := by simp
  have HSZ0 := Lib.hid hsz0
  generalize w.alloc (.cells #[.int .i64 0, .int .i64 0, .int .i64 0] 75) = W0 at *
  have m0 := HM.out.below HB0.out
  obtain ⟨c0, c1, c2, c3, c4, c5, c6, c7⟩ := m0.cells
  have S0 : BelW W0 W0.drew := (Below.refl _ W0).drew
  have r2 : ∀ y : WIn (BelW W0), y.w.cell? ⟨h, 2, none⟩ = some (.int .i64 (P.size : Int)) := fun y => old_cell y.h c2
  haveI ne : Nonempty (WIn (BelW W0)) := ⟨⟨W0.drew, S0⟩⟩
  clear c0 c1 c2 c3 c4 c5 c6 c7 m0 hsz0
  refine wp_normal ?_
  refine wp_region_plan 8 (BelW W0) rfl ?_
  refine wpN_seg [0, 1, 2, 3, 4, 5, 6, 7] (by kernel_rfl) (by kernel_rfl) (by kernel_rfl) (by kernel_rfl) (by decide) (fun _ _ _ _ _ h => h) S0 ?_
  simp only [pick, List.map_cons, List.map_nil, List.getElem?_cons_succ, List.getElem?_cons_zero, Option.getD_some]
  repeat (go_big_quiet_step (fail))
  refine wpQuiet_nil ?_
  clear r2 ne S0
  refine wpN_one 8 _ (by kernel_rfl) rfl ?_
  refine NextAt.free (by kernel_rfl) ?_
  intro K hK
  go_simp
  refine (made_ok (n := P.size) (by omega) W0.drew).mono ?_
  rintro e W1 ⟨rfl, hW1⟩
  have G1 := heap_alloc_new W0.drew (.cells ((zeros P.size).map (Value.int .u8)).toArray 5)
  have B1 : Below W0.heap.size W0 (W0.drew.alloc (.cells ((zeros P.size).map (Value.int .u8)).toArray 5)) := ((Below.refl _ W0).drew).alloc (Nat.le_refl _) _
  rw [← hW1] at G1 B1
  have G1 : W1.heap[W0.heap.size]? = some (.cells ((zeros P.size).map (Value.int .u8)).toArray 5 (0, 0)) := G1
  have HG1 := Lib.hid G1
  have HB1 := Lib.hid B1
  clear G1 B1 hW1
  go_simp
  refine hK _ _ ?_
  clear hK K
  refine wpN_pure [9, 10, 11, 12, 13] (by kernel_rfl) (by kernel_rfl) (by kernel_rfl) (fun _ _ _ _ _ h => h) (fun h => by cases h) ?_
  simp only [pick, List.map_cons, List.map_nil, List.getElem?_cons_succ, List.getElem?_cons_zero, Option.getD_some]
  repeat (go_big_quiet_step (fail))
  refine wpQuiet_nil ?_
  refine wpN_done (by kernel_rfl) ?_
  have m1 := (HM.out.below HB0.out).below HB1.out
  obtain ⟨c0, c1, c2, c3, c4, c5, c6, c7⟩ := m1.cells
  have f4 : W1.frozen? ⟨h, 4, none⟩ = false := free_of m1.self 4
  have few := m1.few.2.2.2.1
  have SELF2 := Lib.hid (block_setCell m1.self 4 (.int .i64 ((P.lastB : Int) + 1)))
  have HM1 := Lib.hid m1
  clear m1
  go_upto_region 3 with fail
  clear c0 c1 c2 c3 c4 c5 c6 c7 f4
  obtain ⟨g, hgdef⟩ : ∃ g, W0.heap.size = g := ⟨_, rfl⟩
  rw [hgdef] at HG1 HB1 ⊢
  have HGD := Lib.hid hgdef
  have hne : g ≠ h := fun e => by
    have h1 := HM1.out.self
    rw [← e, HG1.out] at h1
    simp at h1
  have off : ∀ (W : World) (p k j : Nat) (u : Value), k ≠ p → (W.setCell ⟨p, j, none⟩ u).heap[k]? = W.heap[k]? := fun W p k j u hk => Below.heap_setCell _ _ _ _ hk
  have G2 := Lib.hid ((off W1 h g 4 (.int .i64 ((P.lastB : Int) + 1)) hne).trans HG1.out)
  have T2 : Hid (Touch (fun k => k = h) W1 (W1.setCell ⟨h, 4, none⟩ (.int .i64 ((P.lastB : Int) + 1)))) := Lib.hid ((Touch.refl (fun k => k = h) W1).setCell (p := ⟨h, 4, none⟩) (Or.inl rfl) _)
  have hmbh : mb ≠ h := fun e => by
    obtain ⟨es, clock, hb, _⟩ := HM1.out.m1
    have h1 := HM1.out.self
    rw [← e, hb] at h1
    simp at h1
  have hmbg : mb ≠ g := fun e => by
    obtain ⟨es, clock, hb, _⟩ := HM1.out.m1
    have h1 := HG1.out
    rw [← e, hb] at h1
    simp at h1
  have MB2 := Lib.hid (off W1 h mb 4 (.int .i64 ((P.lastB : Int) + 1)) hmbh)
  have HNE := Lib.hid (And.intro hne (And.intro hmbh hmbg))
  have R1 := (HR.out.below HB0.out rfl).below HB1.out HGD.out.symm
  have R2 := Lib.hid (reads_past R1 T2.out (pool_no_u8 HM1.out))
  clear hgdef off R1
  generalize W1.setCell ⟨h, 4, none⟩ (.int .i64 ((P.lastB : Int) + 1)) = W2 at *
  have d4 : W2.cell? ⟨h, 4, none⟩ = some (.int .i64 ((P.lastB : Int) + 1)) := by rw [cell_of SELF2.out]; rfl
  have d6 : W2.cell? ⟨h, 6, none⟩ = some (.map (some mb)) := by rw [cell_of SELF2.out]; rfl
  have S0 : SameAt h W2 W2.drew := rfl
  have r4 : ∀ y : WIn (SameAt h W2), y.w.cell? ⟨h, 4, none⟩ = some (.int .i64 ((P.lastB : Int) + 1)) := fun y => (cell_at y.h _).trans d4
  have r6 : ∀ y : WIn (SameAt h W2), y.w.cell? ⟨h, 6, none⟩ = some (.map (some mb)) := fun y => (cell_at y.h _).trans d6
  haveI ne : Nonempty (WIn (SameAt h W2)) := ⟨⟨W2.drew, S0⟩⟩
  clear d4 d6
  refine wp_normal ?_
  refine wp_region_plan 14 (SameAt h W2) rfl ?_
  refine wpN_seg [0, 1, 2, 3, 4, 5, 6, 7, 8, 9, 10] (by kernel_rfl) (by kernel_rfl) (by kernel_rfl) (by kernel_rfl) (by decide) (fun _ _ _ _ _ h => h) S0 ?_
  simp only [pick, List.map_cons, List.map_nil, List.getElem?_cons_succ, List.getElem?_cons_zero, Option.getD_some]
  repeat (go_big_quiet_step (fail))
  refine wpQuiet_nil ?_
  clear r4 r6 ne S0
  refine wpN_one 11 _ (by kernel_rfl) rfl ?_
  refine NextAt.held ?_
  intro K hK
  refine step_copy_at rfl (.tmp 35) (.tmp 36) 22 22 rfl 5 Try.underlying22 byteSize (some ⟨g, 0, none⟩) a P.size P.size n c (by simp [Act.eval]) (by simp [Act.eval]) g 0 ((zeros P.size).map (Value.int .u8)) 5 G2.out (os.map (Value.int .u8)) (by rw [List.length_map, HN.out]; exact (Nat.min_eq_left hsz).symm) (fun h0 => ⟨rfl, (R2.out.below (Below.refl _ W2).drew rfl).src HN.out h0⟩) (by simp [zeros]; rw [HN.out]; exact hsz) (by intro u hu; obtain ⟨z, _, rfl⟩ := List.mem_map.1 hu; rfl) ?_
  intro W3 hg3 ht3
  rw [splice_zeros] at hg3
  have tS : SameAt h W2 W3 := ht3.block h (lt_of SELF2.out) (fun e => HNE.out.1 e.symm)
  have HG3 := Lib.hid hg3
  have T3 := Lib.hid (show Touch (fun k => k = g) W2 W3 from ⟨ht3.os, ht3.tape, ht3.output, ht3.size, ht3.block⟩)
  rw [List.length_map, HN.out]
  clear hg3 ht3
  go_simp
  refine hK _ _ tS ?_
  clear hK K
  refine wpN_one 12 _ (by kernel_rfl) rfl ?_
  refine NextAt.held ?_
  intro K hK
  go_simp
  refine hK _ _ tS ?_
  clear hK K
  have tS4 : SameAt h W2 (W3.alloc (.cells #[.slice (some ⟨g, 0, none⟩) P.size P.size, .int .i64 (n : Int), .bool false] 83)) := (heap_alloc_old W3 _ (by rw [show W3.heap.size = W3.heap.size from rfl]; exact Nat.lt_of_lt_of_le (lt_of SELF2.out) T3.out.size)).trans tS
  refine wpN_one 13 _ (by kernel_rfl) rfl ?_
  refine NextAt.held ?_
  intro K hK
  go_simp
  refine hK _ _ tS4 ?_
  clear hK K
  obtain ⟨ab, hab⟩ : ∃ x, W3.heap.size = x := ⟨_, rfl⟩
  have A4 := Lib.hid (heap_alloc_new W3 (.cells #[.slice (some ⟨g, 0, none⟩) P.size P.size, .int .i64 (n : Int), .bool false] 83))
  have OLD4 := Lib.hid (fun k (hk : k < W3.heap.size) => heap_alloc_old W3 (.cells #[.slice (some ⟨g, 0, none⟩) P.size P.size, .int .i64 (n : Int), .bool false] 83) hk)
  have SZ4 := Lib.hid (show (W3.alloc (.cells #[.slice (some ⟨g, 0, none⟩) P.size P.size, .int .i64 (n : Int), .bool false] 83)).heap.size = W3.heap.size + 1 by simp)
  have T4 := Lib.hid (show Touch (fun _ => False) W3 (W3.alloc (.cells #[.slice (some ⟨g, 0, none⟩) P.size P.size, .int .i64 (n : Int), .bool false] 83)) from (Touch.refl _ W3).alloc _)
  rw [hab] at A4
  have HAB := Lib.hid hab
  rw [hab]
  generalize W3.alloc (.cells #[.slice (some ⟨g, 0, none⟩) P.size P.size, .int .i64 (n : Int), .bool false] 83) = W4 at *
  clear hab
  have w1sz := HM1.out.m1.lt
  have mb4 : W4.heap[mb]? = W1.heap[mb]? := by
    have h1 := T2.out.size
    have h2 := T3.out.size
    rw [T4.out.block mb (by omega) (fun e => e), T3.out.block mb (by omega) HNE.out.2.2, MB2.out]
  have m4 := ownsMap_same HM1.out.m1 mb4
  have hkey := Maps.keyOf_int_mk (P := Try.prog) (k := 3) Try.underlying3 (a := ((P.lastB + 1 : Nat) : Int)) (WalkArith.wf_i64 (by omega))
  obtain ⟨W5, hrun, hm5, hg5⟩ := m4.update (Maps.int_keyed Try.underlying3) Try.underlying60 (by unfold maxLen; omega) hkey (ptrElem_of (some ab))
  have e5 : ((P.lastB + 1 : Nat) : Int) = (P.lastB : Int) + 1 := by omega
  rw [e5] at hrun
  have hrun : (Instr.mapUpdate 60 (.map (some mb)) (.int .i64 ((P.lastB : Int) + 1)) (.pointer (some ⟨ab, 0, none⟩))).run Try.prog W4 = .ok () W5 := hrun
  have h4self : W5.heap[h]? = W2.heap[h]? := by
    have h0 := lt_of SELF2.out
    have h2 := T3.out.size
    have h3 := T4.out.size
    rw [hg5.block h (by omega) (fun e => HNE.out.2.1 (by cases e; rfl)), T4.out.block h (by omega) (fun e => e), T3.out.block h h0 (fun e => HNE.out.1 e.symm)]
  have SELF5 := Lib.hid (h4self.trans SELF2.out)
  have HM5 := Lib.hid (And.intro hm5 hg5)
  clear m4 mb4 hkey hm5 hg5 h4self w1sz tS
  refine wpN_one 14 _ (by kernel_rfl) rfl ?_
  refine NextAt.free (by kernel_rfl) ?_
  intro K hK
  refine step_update_here rfl _ _ _ _ rfl _ _ _ (by go_simp) (by go_simp) (by go_simp) hrun ?_
  go_simp
  refine hK _ _ ?_
  clear hK K hrun tS4
  refine wpN_done (by kernel_rfl) ?_
  have d4 : W5.cell? ⟨h, 4, none⟩ = some (.int .i64 ((P.lastB : Int) + 1)) := by rw [cell_of SELF5.out]; rfl
  have r05 : W5.heap[w.heap.size]? = some (.cells #[.int .i64 0, .int .i64 0, .int .i64 0] 75 (0, 0)) := by
    have h0 := lt_of R0.out
    have h1 := HB1.out.size
    have h2 := T2.out.size
    have h3 := T3.out.size
    have h4 := T4.out.size
    have hg0 := HGD.out
    have hh := HFL.out h HM.out.fh
    have hmb := HM.out.m1.lt
    rw [HM5.out.2.block w.heap.size (by omega) (fun e => by cases e; omega), T4.out.block _ (by omega) (fun e => e), T3.out.block _ (by omega) (by omega), T2.out.block _ (by omega) (by omega), HB1.out.block _ (by omega)]
    exact R0.out
  have k0 : W5.cell? ⟨w.heap.size, 0, none⟩ = some (.int .i64 0) := by rw [cell_of r05]; rfl
  have k1 : W5.cell? ⟨w.heap.size, 1, none⟩ = some (.int .i64 0) := by rw [cell_of r05]; rfl
  have k2 : W5.cell? ⟨w.heap.size, 2, none⟩ = some (.int .i64 0) := by rw [cell_of r05]; rfl
  have v0 : W5.frozen? ⟨w.heap.size, 0, none⟩ = false := free_of r05 0
  have v1 : W5.frozen? ⟨w.heap.size, 1, none⟩ = false := free_of r05 1
  have v2 : W5.frozen? ⟨w.heap.size, 2, none⟩ = false := free_of r05 2
  have R5 := Lib.hid r05
  clear r05
  go_wp2_with fail
  clear k0 k1 k2 v0 v1 v2 d4
  have q1 := block_setCell R5.out 0 (.int .i64 ((P.lastB : Int) + 1))
  have q2 := block_setCell q1 1 (.int .i64 0)
  have q3 := block_setCell q2 2 (.int .i64 (n : Int))
  have Q := Lib.hid q3
  have T6 : Touch (fun k => k = w.heap.size) W5 (((W5.setCell ⟨w.heap.size, 0, none⟩ (.int .i64 ((P.lastB : Int) + 1))).setCell ⟨w.heap.size, 1, none⟩ (.int .i64 0)).setCell ⟨w.heap.size, 2, none⟩ (.int .i64 (n : Int))) :=
    (((Touch.refl (fun k => k = w.heap.size) W5).setCell (p := ⟨w.heap.size, 0, none⟩) (Or.inl rfl) _).setCell (p := ⟨w.heap.size, 1, none⟩) (Or.inl rfl) _).setCell (p := ⟨w.heap.size, 2, none⟩) (Or.inl rfl) _
  have HT6 := Lib.hid T6
  clear q1 q2 q3 T6
  generalize ((W5.setCell ⟨w.heap.size, 0, none⟩ (.int .i64 ((P.lastB : Int) + 1))).setCell ⟨w.heap.size, 1, none⟩ (.int .i64 0)).setCell ⟨w.heap.size, 2, none⟩ (.int .i64 (n : Int)) = W6 at *
  have x0 : W6.cell? ⟨w.heap.size, 0, none⟩ = some (.int .i64 ((P.lastB : Int) + 1)) := by rw [cell_of Q.out]; rfl
  have x1 : W6.cell? ⟨w.heap.size, 1, none⟩ = some (.int .i64 0) := by rw [cell_of Q.out]; rfl
  have x2 : W6.cell? ⟨w.heap.size, 2, none⟩ = some (.int .i64 (n : Int)) := by rw [cell_of Q.out]; rfl
  have FIN : Hid (FreshPost h bp P mb ms N1 N2 D2 F os w (.returned (.agg #[.int .i64 ((P.lastB : Int) + 1), .int .i64 0, .int .i64 (n : Int)])) W6) := Lib.hid (by
    have z0 := HSZ0.out
    have z1 := HB1.out.size
    have z2 := T2.out.size
    have z3 := T3.out.size
    have z4 := SZ4.out
    have z5 := HM5.out.2.size
    have z6 := HT6.out.size
    have hg0 := HGD.out
    have ha0 := HAB.out
    have hh := HFL.out h HM.out.fh
    have hmbl := HM.out.m1.lt
    have glt := lt_of HG1.out
    have S6 : ∀ k, k ≠ w.heap.size → k < W5.heap.size → W6.heap[k]? = W5.heap[k]? := fun k hk hl => HT6.out.block k hl hk
    have S5 : ∀ k, k ≠ mb → k < W4.heap.size → W5.heap[k]? = W4.heap[k]? := fun k hk hl => HM5.out.2.block k hl (fun e => hk (by cases e; rfl))
    have keep : ∀ k, k < w.heap.size → k ≠ h → k ≠ mb → W6.heap[k]? = w.heap[k]? := fun k hk h1 h2 => by
      rw [S6 k (by omega) (by omega), S5 k h2 (by omega), T4.out.block k (by omega) (fun e => e), T3.out.block k (by omega) (by omega), T2.out.block k (by omega) h1, HB1.out.block k (by omega), HB0.out.block k hk]
    have hgE : W6.heap[g]? = _ := (S6 g (by omega) (by omega)).trans ((S5 g HNE.out.2.2.symm (by omega)).trans ((T4.out.block g (by omega) (fun e => e)).trans HG3.out))
    have haE : W6.heap[ab]? = _ := (S6 ab (by omega) (by omega)).trans ((S5 ab (by omega) (by omega)).trans A4.out)
    have hsE : W6.heap[h]? = _ := (S6 h (by omega) (by omega)).trans SELF5.out
    have NEW := HM.out.more (w3 := W6) (newBk P.size ab g os) (by
      refine hsE.trans ?_
      rw [e5]
      rfl) (ownsMap_same HM5.out.1 (S6 mb (by omega) (by omega))) keep (by
      refine haE.trans ?_
      show _ = some (Obj.cells #[.slice (some ⟨g, 0, none⟩) P.size P.size, .int .i64 (os.length : Int), .bool false] _ _)
      rw [HN.out]) hgE (by
      show (os ++ zeros (P.size - os.length)).length = P.size
      rw [List.length_append, HN.out]; simp [zeros]; omega) (by
      intro z hz
      rcases List.mem_append.1 hz with hz | hz
      · exact HBZ.out z hz
      · unfold zeros at hz
        rw [List.eq_of_mem_replicate hz]
        omega) (by show os.length ≤ P.size; rw [HN.out]; exact hsz) (by show w.heap.size ≤ ab; omega) (by show w.heap.size ≤ g; omega) HFL.out hfew hB
    refine ⟨by rw [HN.out, e5], ab, g, _, by omega, by omega, by omega, by omega, NEW, ?_⟩
    refine ⟨?_, ?_, ?_, by omega, fun k hk hF => keep k hk (fun e => hF (Or.inl e)) (fun e => hF (Or.inr e))⟩
    · rw [HT6.out.os, HM5.out.2.os, T4.out.os, T3.out.os, T2.out.os, HB1.out.os, HB0.out.os]
    · rw [HT6.out.tape, HM5.out.2.tape, T4.out.tape, T3.out.tape, T2.out.tape, HB1.out.tape, HB0.out.tape]
    · rw [HT6.out.output, HM5.out.2.output, T4.out.output, T3.out.output, T2.out.output, HB1.out.output, HB0.out.output])
  refine bodyPost_ret (v := .agg #[.int .i64 ((P.lastB : Int) + 1), .int .i64 0, .int .i64 (n : Int)]) (by simp [results, Try.results50, go_sem, x0, x1, x2]) rfl ?_
  exact FIN.out

end
end Go.Proofs.Ytbndknbjjdoanaa
