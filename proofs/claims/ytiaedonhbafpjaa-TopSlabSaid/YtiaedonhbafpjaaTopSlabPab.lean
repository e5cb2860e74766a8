/-
  Plain laws of a fair division: sums at a level, the greatest level, what is given out. No program. No conditions.
  Fair and FairOf: what they give, for all arguments. No conditions.
  The calls of a script that came in. No conditions.
-/
import Derived.Test.YtiaedonhbafpjaaTopSlabPaa
import Derived.Deep.Slices

namespace Go.Proofs.Ytiaedonhbafpjaa
section

/-- What all get together at a level. -/
def sumAt (zs : List Int) (L : Int) : Int := (zs.map fun z => min z L).sum
/-- What is given: at most the level, and one more to those that want more, as long as something is left. -/
def dist : List Int → Int → Int → List Int
  | [], _, _ => []
  | z :: zs, L, r => if L < z ∧ 0 < r then (L + 1) :: dist zs L (r - 1) else min z L :: dist zs L r

theorem sumAt_cons (z : Int) (zs : List Int) (L : Int) : sumAt (z :: zs) L = min z L + sumAt zs L := by simp [sumAt]
theorem sumAt_nil (L : Int) : sumAt [] L = 0 := rfl
theorem sumAt_append (a b : List Int) (L : Int) : sumAt (a ++ b) L = sumAt a L + sumAt b L := by simp [sumAt]
theorem take_succ_getD (zs : List Int) (k : Nat) (h : k < zs.length) : zs.take (k + 1) = zs.take k ++ [zs.getD k 0] := by
  rw [List.take_succ_eq_append_getElem h]; simp [h]
theorem sumAt_take (zs : List Int) (L : Int) (k : Nat) (h : k < zs.length) : sumAt (zs.take (k + 1)) L = sumAt (zs.take k) L + min (zs.getD k 0) L := by
  rw [take_succ_getD zs k h, sumAt_append]; simp [sumAt]

theorem sumAt_bd (M : Int) (hM : 0 ≤ M) (L : Int) (hL : 0 ≤ L) : ∀ zs : List Int, (∀ z ∈ zs, 0 ≤ z ∧ z ≤ M) → 0 ≤ sumAt zs L ∧ sumAt zs L ≤ M * zs.length
  | [], _ => by simp [sumAt_nil]
  | z :: zs, h => by
    have ih := sumAt_bd M hM L hL zs (fun x hx => h x (by simp [hx]))
    have hz := h z (by simp)
    rw [sumAt_cons, List.length_cons, Int.natCast_add, Int.mul_add]
    omega
theorem sumAt_mono (L L' : Int) (h : L ≤ L') : ∀ zs : List Int, sumAt zs L ≤ sumAt zs L'
  | [] => by simp [sumAt_nil]
  | z :: zs => by
    have ih := sumAt_mono L L' h zs
    rw [sumAt_cons, sumAt_cons]; omega
theorem sumAt_top (M : Int) : ∀ zs : List Int, (∀ z ∈ zs, z ≤ M) → sumAt zs M = zs.sum
  | [], _ => rfl
  | z :: zs, h => by
    have ih := sumAt_top M zs (fun x hx => h x (by simp [hx]))
    have hz := h z (by simp)
    rw [sumAt_cons, List.sum_cons, ih]; omega

/-- The level that the budget allows, below M. -/
def isLevel (zs : List Int) (b M L : Int) : Prop := 0 ≤ L ∧ L ≤ M ∧ sumAt zs L ≤ b ∧ (L = M ∨ b < sumAt zs (L + 1))

theorem level_unique {zs : List Int} {b M L L' : Int} (h : isLevel zs b M L) (h' : isLevel zs b M L') : L = L' := by
  obtain ⟨h1, h2, h3, h4⟩ := h
  obtain ⟨k1, k2, k3, k4⟩ := h'
  rcases Int.lt_trichotomy L L' with hlt | rfl | hlt
  · rcases h4 with h4 | h4
    · omega
    · have := sumAt_mono (L + 1) L' (by omega) zs; omega
  · rfl
  · rcases k4 with k4 | k4
    · omega
    · have := sumAt_mono (L' + 1) L (by omega) zs; omega
theorem level_top {zs : List Int} {b M L : Int} (h : isLevel zs b M L) (hs : sumAt zs M ≤ b) : L = M := by
  obtain ⟨h1, h2, h3, h4⟩ := h
  rcases h4 with h4 | h4
  · exact h4
  · have := sumAt_mono (L + 1) M
    rcases Int.lt_or_le L M with hl | hl
    · have := this (by omega) zs; omega
    · omega

theorem dist_len : ∀ (zs : List Int) (L r : Int), (dist zs L r).length = zs.length
  | [], _, _ => rfl
  | z :: zs, L, r => by unfold dist; split <;> simp [dist_len zs]
theorem dist_top (M : Int) : ∀ (zs : List Int) (r : Int), (∀ z ∈ zs, z ≤ M) → dist zs M r = zs
  | [], _, _ => rfl
  | z :: zs, r, h => by
    have hz := h z (by simp)
    unfold dist
    rw [if_neg (by omega), dist_top M zs r (fun x hx => h x (by simp [hx]))]
    congr 1; omega

theorem drop_cons (zs : List Int) (k : Nat) (h : k < zs.length) : zs.drop k = zs.getD k 0 :: zs.drop (k + 1) := by
  rw [List.drop_eq_getElem_cons h]; simp [h]
theorem dist_cons (z : Int) (zs : List Int) (L r : Int) : dist (z :: zs) L r = if L < z ∧ 0 < r then (L + 1) :: dist zs L (r - 1) else min z L :: dist zs L r := rfl
theorem dist_step_more {zs acc : List Int} {L r r0 : Int} {k : Nat} (h : k < zs.length) (he : acc ++ dist (zs.drop k) L r = dist zs L r0) (h1 : L < zs.getD k 0) (h2 : 0 < r) :
    (acc ++ [L + 1]) ++ dist (zs.drop (k + 1)) L (r - 1) = dist zs L r0 := by
  rw [drop_cons zs k h, dist_cons] at he
  rw [if_pos ⟨h1, h2⟩] at he
  rw [List.append_assoc]
  exact he
theorem dist_step_less {zs acc : List Int} {L r r0 : Int} {k : Nat} (h : k < zs.length) (he : acc ++ dist (zs.drop k) L r = dist zs L r0) (h1 : ¬ (L < zs.getD k 0 ∧ 0 < r)) :
    (acc ++ [min (zs.getD k 0) L]) ++ dist (zs.drop (k + 1)) L r = dist zs L r0 := by
  rw [drop_cons zs k h, dist_cons] at he
  rw [if_neg h1] at he
  rw [List.append_assoc]
  exact he

/-! What a fair division gives. -/
theorem dist_bd : ∀ (zs : List Int) (L r : Int), 0 ≤ L → (∀ z ∈ zs, 0 ≤ z) → ∀ j, j < zs.length → 0 ≤ (dist zs L r).getD j 0 ∧ (dist zs L r).getD j 0 ≤ zs.getD j 0 ∧ (dist zs L r).getD j 0 ≤ L + 1 ∧ ((dist zs L r).getD j 0 < zs.getD j 0 → L ≤ (dist zs L r).getD j 0)
  | [], _, _, _, _, j, hj => by simp at hj
  | z :: zs, L, r, hL, h, j, hj => by
    have hz := h z (by simp)
    unfold dist
    cases j with
    | zero => split <;> simp <;> omega
    | succ j =>
      have ih := fun r => dist_bd zs L r hL (fun x hx => h x (by simp [hx])) j (by simpa using hj)
      split
      · simpa using ih (r - 1)
      · simpa using ih r
theorem dist_sum : ∀ (zs : List Int) (L r : Int), 0 ≤ r → sumAt zs L + r ≤ sumAt zs (L + 1) → (dist zs L r).sum = sumAt zs L + r
  | [], L, r, h0, h => by simp [sumAt_nil] at h; simp [dist, sumAt_nil]; omega
  | z :: zs, L, r, h0, h => by
    rw [sumAt_cons, sumAt_cons] at h
    rw [sumAt_cons]
    unfold dist
    split
    · next hc =>
      rw [List.sum_cons, dist_sum zs L (r - 1) (by omega) (by omega)]
      omega
    · next hc =>
      rcases Int.lt_or_le L z with hz | hz
      · have hr : r = 0 := by omega
        subst hr
        rw [List.sum_cons, dist_sum zs L 0 (by omega) (by have := sumAt_mono L (L + 1) (by omega) zs; omega)]
        omega
      · rw [List.sum_cons, dist_sum zs L r h0 (by omega)]
        omega

end
end Go.Proofs.Ytiaedonhbafpjaa

namespace Go.Proofs.Ytiaedonhbafpjaa
section
open Go.RowKit

/-- The elements of a slice that came in, for a walk: the address is known where there is an element. -/
theorem Reads.open {w : World} {k : IntKind} {v : Value} {zs : List Int} (h : Reads w k v zs) : ∃ a cap, v = .slice a zs.length cap ∧ zs.length ≤ 9223372036854775807 ∧
    ∀ j, j < zs.length → ∃ b o, a = some ⟨b, o, none⟩ ∧ w.cell? ⟨b, o + j, none⟩ = some (.int k (zs.getD j 0)) := by
  obtain ⟨a, cap, rfl, hl, hc⟩ := h
  refine ⟨a, cap, rfl, hl, fun j hj => ?_⟩
  obtain ⟨b, o, ha, hcell⟩ := hc (by intro e; subst e; simp at hj)
  exact ⟨b, o, ha, hcell j hj⟩

def SumPost (r : Int) (w : World) : Ending → World → Prop := fun e w' => e = .returned (.int .i64 r) ∧ w = w'

/-- A list of integers that came in, as the round of a loop reads it. -/
theorem old_cell {w wr : World} {b o : Nat} {v : Value} (hb : Below w.heap.size w wr) (h : w.cell? ⟨b, o, none⟩ = some v) : wr.cell? ⟨b, o, none⟩ = some v :=
  (hb.cell (p := ⟨b, o, none⟩) (World.block_lt_of_cell? w ⟨b, o, none⟩ h)).trans h

/-- A call that gives back a new list of integers and an error. -/
def RetRowB (err : Int) (zs : List Int) (w : World) : Ending → World → Prop := fun e w' =>
  ∃ v, e = .returned (.tuple #[v, .int .i64 err]) ∧ w'.ownsRow w.heap.size 3 1 v zs.length (zs.map (Value.int .i64)) ∧ Below w.heap.size w w'

end
end Go.Proofs.Ytiaedonhbafpjaa

namespace Go.Proofs.Ytiaedonhbafpjaa
section
open Go.ChangeShapes Go.WideShapes Go.ChangeAt Go.RowKit Go.Deep
set_option linter.unusedVariables false

theorem choose_to {α : Type} {n : Nat} {p : Nat → α → Prop} (d : α) (h : ∀ i, i < n → ∃ y, p i y) : ∃ f : Nat → α, ∀ i, i < n → p i (f i) :=
  ⟨fun i => if hi : i < n then (h i hi).choose else d, fun i hi => by simp only; rw [dif_pos hi]; exact (h i hi).choose_spec⟩

structure Cl where
  k : Int
  a : Int
  b : Int
  c : Int
  d : List Int
def Cl.zero : Cl := ⟨0, 0, 0, 0, []⟩
def fit64 (x : Int) : Prop := -9223372036854775808 ≤ x ∧ x ≤ 9223372036854775807

/-- A call's five cells. -/
def call5 (w : World) (b x : Nat) (e : Cl) : Prop :=
  w.cell? ⟨b, x, none⟩ = some (.int .i64 e.k) ∧ w.cell? ⟨b, x + 1, none⟩ = some (.int .i64 e.a) ∧ w.cell? ⟨b, x + 2, none⟩ = some (.int .i64 e.b) ∧ w.cell? ⟨b, x + 3, none⟩ = some (.int .i64 e.c) ∧
  ∃ dv, w.cell? ⟨b, x + 4, none⟩ = some dv ∧ Reads w .u8 dv e.d ∧ (∀ z ∈ e.d, (Lit.int .u8 z).wf = true) ∧ fit64 e.k ∧ fit64 e.a ∧ fit64 e.b ∧ fit64 e.c
/-- A slice of calls. -/
def ClsIn (w : World) (v : Value) (L : List Cl) : Prop :=
  ∃ a cap, v = .slice a L.length cap ∧ L.length ≤ 140737488351232 ∧ ∀ k, k < L.length → ∃ b o, a = some ⟨b, o, none⟩ ∧ call5 w b (o + k * 5) (L.getD k Cl.zero)

theorem ClsIn.nil (w : World) : ClsIn w (.slice none 0 0) [] := ⟨none, 0, rfl, by simp, fun k h => by simp at h⟩
theorem call5.below {w w' : World} {b x : Nat} {e : Cl} (h : call5 w b x e) (hb : Below w.heap.size w w') : call5 w' b x e := by
  obtain ⟨h0, h1, h2, h3, dv, h4, h5, h6⟩ := h
  have hlt := World.block_lt_of_cell? w _ h0
  have f : ∀ j, w'.cell? ⟨b, j, none⟩ = w.cell? ⟨b, j, none⟩ := fun j => hb.cell (p := ⟨b, j, none⟩) hlt
  exact ⟨(f _).trans h0, (f _).trans h1, (f _).trans h2, (f _).trans h3, dv, (f _).trans h4, h5.below hb rfl, h6⟩
theorem ClsIn.below {w w' : World} {v : Value} {L : List Cl} (h : ClsIn w v L) (hb : Below w.heap.size w w') : ClsIn w' v L := by
  obtain ⟨a, cap, rfl, hl, hc⟩ := h
  refine ⟨a, cap, rfl, hl, fun k hk => ?_⟩
  obtain ⟨b, o, ha, hcell⟩ := hc k hk
  exact ⟨b, o, ha, hcell.below hb⟩

variable {H : Type} {enc : TypeId × Value → H} {P : Program} {W : World}

theorem reads_of_trod {t e : TypeId} {fuel : Nat} {cs : List Value} {x : DataW H × List MemPlace} (ht : P.underlying t = some (.slice e)) (he : P.underlying e = some (.int .u8)) (hc : P.cellsOf e = 1)
    (h : DataW.trod enc P W 0 (fun _ => true) true fuel t cs = some x) : ∃ v zs, cs = [v] ∧ Reads W .u8 v zs ∧ ∀ z ∈ zs, (Lit.int .u8 z).wf = true := by
  rcases open_ints ht he hc h with ⟨hcs, hx⟩ | ⟨x, len, cap, zs, hcs, _, hl, hm, hz, hx, hcell, hwz⟩
  · exact ⟨_, [], hcs, ⟨none, 0, rfl, by simp, fun h => absurd rfl h⟩, by simp⟩
  · have hz' : zs.length = cap := by simpa using hz
    have hlen : (zs.take len).length = len := by simp; omega
    refine ⟨_, zs.take len, hcs, ⟨some x, cap, by rw [hlen], by rw [hlen]; unfold maxLen at hm; omega, fun hne => ?_⟩, fun z hz => hwz z (List.mem_of_mem_take hz)⟩
    have h0 : 0 < len := by
      rcases Nat.eq_zero_or_pos len with h0 | h0
      · subst h0; simp at hne
      · exact h0
    obtain ⟨b, off, spot⟩ := x
    have h00 := hcell 0 (by omega)
    have hspot : spot = none := by simpa [Addr.add] using World.cell?_spot h00
    subst hspot
    refine ⟨b, off, rfl, fun j hj => ?_⟩
    rw [hlen] at hj
    have := hcell j (by omega)
    have e1 : (⟨b, off, none⟩ : Addr).add j = ⟨b, off + j, none⟩ := by unfold Addr.add; split <;> simp_all
    rw [e1] at this
    rw [this]
    simp [hj]

theorem openCalls {t e q r u : TypeId} {fs : Array Field} {base : Nat} {v : Value} {d : DataW H} {p : List MemPlace} (ht : P.underlying t = some (.slice e)) (he : P.underlying e = some (.struct fs)) (hf : ∀ i, i < 4 → ∃ f, fs[i]? = some f ∧ f.type = q ∧ f.offset = i) (hr4 : ∃ f, fs[4]? = some f ∧ f.type = r ∧ f.offset = 4) (h5 : fs.size = 5)
    (hq : P.underlying q = some (.int .i64)) (hr : P.underlying r = some (.slice u)) (hu : P.underlying u = some (.int .u8)) (ce : P.cellsOf e = 5) (cq : P.cellsOf q = 1) (cr : P.cellsOf r = 1) (cu : P.cellsOf u = 1) (be : 1 ≤ P.bytesOf e)
    (hv : Value.okWide P W .any base t v) (h : DataW.Trod enc P W 0 (fun _ => true) true t v d p)
    {ts : List TypeId} {ds : List (DataW H)} {j : Nat} (hsz : (DataW.weightsEach P ts ds).all (· ≤ reachBytes) = true) (hts : ts[j]? = some t) (hds : ds[j]? = some d) : ∃ L, ClsIn W v L := by
  obtain ⟨a, len, cap, rfl⟩ := okWide_slice ht hv
  obtain ⟨fuel, hfu⟩ := h
  rcases open_slice ht hfu with ⟨hcs, hx⟩ | ⟨x, l, c, m, n, D, Pl, hcs, hb, hl, hm, hmm, hx, hel⟩
  · simp [Value.cells] at hcs
    obtain ⟨rfl, rfl, rfl⟩ := hcs
    exact ⟨[], ClsIn.nil W⟩
  · simp [Value.cells] at hcs
    obtain ⟨rfl, rfl, rfl⟩ := hcs
    simp only [if_true] at hmm
    subst hmm
    have hd : d = .slice ((List.range len).map D) ((List.range (m - len)).map fun j => D (len + j)) := by
      have := congrArg Prod.fst hx
      simpa using this
    have hbig := sized_slice hsz hts (hd ▸ hds) ht
    have hlen : len ≤ 140737488351232 := by
      simp only [List.length_map, List.length_range, reachBytes] at hbig
      have h1 : len * 1 ≤ (len + (m - len)) * P.bytesOf e := Nat.mul_le_mul (by omega) be
      omega
    rcases Nat.eq_zero_or_pos len with h0 | h0
    · subst h0
      exact ⟨[], some x, m, rfl, by simp, fun k hk => by simp at hk⟩
    have hspot : x.spot = none := by
      obtain ⟨cs', h1, _⟩ := hel 0 (by omega)
      rw [ce] at h1
      obtain ⟨_, hlen, hat⟩ := World.cells?_some h1
      have k0 := hat 0 (by omega)
      rw [add_add, List.getElem?_eq_getElem (by omega)] at k0
      obtain ⟨b, off, spot⟩ := x
      simpa [Addr.add] using World.cell?_spot k0
    obtain ⟨b, off, spot⟩ := x
    simp only at hspot
    subst hspot
    have each : ∀ i, i < m → ∃ y : Cl, call5 W b (off + i * 5) y := by
      intro i hi
      obtain ⟨cs', h1, h2⟩ := hel i hi
      rw [ce] at h1
      obtain ⟨_, hlen, hat⟩ := World.cells?_some h1
      obtain ⟨xs, n', _, _, _, hxl, hfld⟩ := DataW.trod_struct he h2
      have tr : ∀ j, j < 4 → ∃ a : Int, cs'[j]? = some (.int .i64 a) ∧ (Lit.int .i64 a).wf = true := by
        intro j hj
        obtain ⟨f, f1, f2, f3⟩ := hf j hj
        have g := hfld j f f1
        rw [f2, f3, cq] at g
        have hy : xs[j]? = some (xs[j]'(by omega)) := List.getElem?_eq_getElem (by omega)
        rw [hy] at g
        obtain ⟨a, e0, _, hwf⟩ := DataW.trod_int hq g
        refine ⟨a, ?_, hwf⟩
        have := congrArg (·[0]?) e0
        simpa using this
      obtain ⟨a0, e0, w0⟩ := tr 0 (by omega)
      obtain ⟨a1, e1, w1⟩ := tr 1 (by omega)
      obtain ⟨a2, e2, w2⟩ := tr 2 (by omega)
      obtain ⟨a3, e3, w3⟩ := tr 3 (by omega)
      obtain ⟨dv, zs, e4, hrd, hwz⟩ : ∃ dv zs, cs'[4]? = some dv ∧ Reads W .u8 dv zs ∧ ∀ z ∈ zs, (Lit.int .u8 z).wf = true := by
        obtain ⟨f, f1, f2, f3⟩ := hr4
        have g := hfld 4 f f1
        rw [f2, f3, cr] at g
        have hy : xs[4]? = some (xs[4]'(by omega)) := List.getElem?_eq_getElem (by omega)
        rw [hy] at g
        obtain ⟨dv, zs, e0, h1, h2⟩ := reads_of_trod hr hu cu g
        refine ⟨dv, zs, ?_, h1, h2⟩
        have := congrArg (·[0]?) e0
        simpa using this
      have k0 := hat 0 (by omega)
      have k1 := hat 1 (by omega)
      have k2 := hat 2 (by omega)
      have k3 := hat 3 (by omega)
      have k4 := hat 4 (by omega)
      rw [add_add] at k0 k1 k2 k3 k4
      rw [e0] at k0
      rw [e1] at k1
      rw [e2] at k2
      rw [e3] at k3
      rw [e4] at k4
      have e1 : ∀ j, (⟨b, off, none⟩ : Addr).add j = ⟨b, off + j, none⟩ := fun j => by unfold Addr.add; split <;> simp_all
      rw [e1] at k0 k1 k2 k3 k4
      exact ⟨⟨a0, a1, a2, a3, zs⟩, ⟨k0, k1, k2, k3, dv, k4, hrd, hwz, range_i64 w0, range_i64 w1, range_i64 w2, range_i64 w3⟩⟩
    obtain ⟨es, hes⟩ := choose_to Cl.zero each
    refine ⟨(List.range len).map es, some ⟨b, off, none⟩, m, by simp, by simpa using hlen, fun k hk => ?_⟩
    have hk' : k < len := by simpa using hk
    have hgd : ((List.range len).map es).getD k Cl.zero = es k := by
      rw [List.getD_eq_getElem?_getD]
      simp [hk']
    rw [hgd]
    exact ⟨b, off, rfl, hes k (by omega)⟩

end
end Go.Proofs.Ytiaedonhbafpjaa
