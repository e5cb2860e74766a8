/-
  Frames told by a function (slot number to value): loops and cuts over wide frames with ONE name for all slots. No conditions.
  The calls of a script that came in. No conditions.
  The edits (operations with octets) that came in, with the bound on each one's octets. No conditions.
  MoveRuns: the start, and what holds of the frame. No conditions.
-/
import Derived.Deep.LoopGhost
import Derived.Deep.Cut
import Derived.Test.YtjogaohnphafgaaGreatMoveRunsPaa
import Derived.Deep.Slices
import Derived.Test.YtjogaohnphafgaaGreatMoveRunsPbw
import Derived.Test.YtjogaohnphafgaaGreatMoveRunsPaf

namespace Go.Proofs.YtjogaohnphafgaaGreat
section
open Go.RowKit
set_option linter.unusedVariables false

/-- The slots as a list. -/
def slotsOf (n : Nat) (f : Nat → Value) : List Value := (List.range n).map f
theorem slots_eq {n : Nat} {l : List Value} (h : l.length = n) : slotsOf n (fun i => l.getD i undef) = l := by
  unfold slotsOf
  refine List.ext_getElem (by simp [h]) (fun i h1 h2 => ?_)
  simp [List.getD_eq_getElem?_getD, h2]
/-- A loop: I: what holds of the slots (by their numbers) and the world at its head. -/
theorem wp_loop_framed {P : Program} {Q : Exit → Act → World → Prop} {w : World} {c : Code} (n : Nat) (I : Nat → (Nat → Value) → World → Prop) (l : List Value) (ds : List Deferred) (hl : l.length = n) (n₀ : Nat) (h₀ : I n₀ (fun i => l.getD i undef) w)
    (round : ∀ g f w, I g f w → ∀ (J : Nat → Act → World → Prop) (K : Act → World → Prop), (∀ k l' w', List.length l' = n → I k (fun i => l'.getD i undef) w' → J k ⟨l'.toArray, ds⟩ w') → (∀ a' w', Handed J g a' w' → K a' w') → c.wp P (Exit.then K Q) ⟨(slotsOf n f).toArray, ds⟩ w) : (Code.loop c).wp P Q ⟨l.toArray, ds⟩ w := by
  refine wp_loop_ghost_k (fun k a' w' => ∃ f, a' = ⟨(slotsOf n f).toArray, ds⟩ ∧ I k f w') n₀ ⟨_, by rw [slots_eq hl], h₀⟩ ?_
  rintro g a' w' ⟨f, rfl, hI⟩ J K hJ hK
  exact round g f w' hI J K (fun k l' w' h1 h2 => hJ k _ w' ⟨_, by rw [slots_eq h1], h2⟩) hK
/-- A statement that is cut around. -/
theorem wp_cut_framed {P : Program} {K : Act → World → Prop} {Q' : Exit → Act → World → Prop} {w : World} {s : Code} (n : Nat) (R : (Nat → Value) → World → Prop) (l : List Value) (ds : List Deferred) 
    (first : ∀ (J K' : Act → World → Prop), (∀ l' w', List.length l' = n → R (fun i => l'.getD i undef) w' → J ⟨l'.toArray, ds⟩ w') → (∀ a' w', Met J a' w' → K' a' w') → s.wp P (Exit.then K' Q') ⟨l.toArray, ds⟩ w)
    (rest : ∀ f w', R f w' → K ⟨(slotsOf n f).toArray, ds⟩ w') : s.wp P (Exit.then K Q') ⟨l.toArray, ds⟩ w := by
  refine wp_cut (fun a' w' => ∃ f, a' = ⟨(slotsOf n f).toArray, ds⟩ ∧ R f w') ?_ ?_
  · rintro a' w' ⟨f, rfl, hR⟩
    exact rest f w' hR
  · intro J K' hJ hK
    exact first J K' (fun l' w' h1 h2 => hJ _ w' ⟨_, by rw [slots_eq h1], h2⟩) hK

end
end Go.Proofs.YtjogaohnphafgaaGreat

namespace Go.Proofs.YtjogaohnphafgaaGreat
section
open Go.ChangeShapes Go.WideShapes Go.ChangeAt Go.RowKit Go.Deep
set_option linter.unusedVariables false

theorem choose_to {α : Type} {n : Nat} {p : Nat → α → Prop} (d : α) (h : ∀ i, i < n → ∃ y, p i y) : ∃ f : Nat → α, ∀ i, i < n → p i (f i) :=
  ⟨fun i => if hi : i < n then (h i hi).choose else d, fun i hi => by simp only; rw [dif_pos hi]; exact (h i hi).choose_spec⟩

structure Cl where
  k : Int
  a : Int
  b : Int
  c : Int
  d : List Int
def Cl.zero : Cl := ⟨0, 0, 0, 0, []⟩
def fit64 (x : Int) : Prop := -9223372036854775808 ≤ x ∧ x ≤ 9223372036854775807

/-- A call's five cells. -/
def call5 (w : World) (b x : Nat) (e : Cl) : Prop :=
  w.cell? ⟨b, x, none⟩ = some (.int .i64 e.k) ∧ w.cell? ⟨b, x + 1, none⟩ = some (.int .i64 e.a) ∧ w.cell? ⟨b, x + 2, none⟩ = some (.int .i64 e.b) ∧ w.cell? ⟨b, x + 3, none⟩ = some (.int .i64 e.c) ∧
  ∃ dv, w.cell? ⟨b, x + 4, none⟩ = some dv ∧ Reads w .u8 dv e.d ∧ (∀ z ∈ e.d, (Lit.int .u8 z).wf = true) ∧ fit64 e.k ∧ fit64 e.a ∧ fit64 e.b ∧ fit64 e.c
/-- A slice of calls. -/
def ClsIn (w : World) (v : Value) (L : List Cl) : Prop :=
  ∃ a cap, v = .slice a L.length cap ∧ L.length ≤ 140737488351232 ∧ ∀ k, k < L.length → ∃ b o, a = some ⟨b, o, none⟩ ∧ call5 w b (o + k * 5) (L.getD k Cl.zero)

theorem ClsIn.nil (w : World) : ClsIn w (.slice none 0 0) [] := ⟨none, 0, rfl, by simp, fun k h => by simp at h⟩
theorem call5.below {w w' : World} {b x : Nat} {e : Cl} (h : call5 w b x e) (hb : Below w.heap.size w w') : call5 w' b x e := by
  obtain ⟨h0, h1, h2, h3, dv, h4, h5, h6⟩ := h
  have hlt := World.block_lt_of_cell? w _ h0
  have f : ∀ j, w'.cell? ⟨b, j, none⟩ = w.cell? ⟨b, j, none⟩ := fun j => hb.cell (p := ⟨b, j, none⟩) hlt
  exact ⟨(f _).trans h0, (f _).trans h1, (f _).trans h2, (f _).trans h3, dv, (f _).trans h4, h5.below hb rfl, h6⟩
theorem ClsIn.below {w w' : World} {v : Value} {L : List Cl} (h : ClsIn w v L) (hb : Below w.heap.size w w') : ClsIn w' v L := by
  obtain ⟨a, cap, rfl, hl, hc⟩ := h
  refine ⟨a, cap, rfl, hl, fun k hk => ?_⟩
  obtain ⟨b, o, ha, hcell⟩ := hc k hk
  exact ⟨b, o, ha, hcell.below hb⟩

variable {H : Type} {enc : TypeId × Value → H} {P : Program} {W : World}

theorem reads_of_trod {t e : TypeId} {fuel : Nat} {cs : List Value} {x : DataW H × List MemPlace} (ht : P.underlying t = some (.slice e)) (he : P.underlying e = some (.int .u8)) (hc : P.cellsOf e = 1)
    (h : DataW.trod enc P W 0 (fun _ => true) true fuel t cs = some x) : ∃ v zs, cs = [v] ∧ Reads W .u8 v zs ∧ ∀ z ∈ zs, (Lit.int .u8 z).wf = true := by
  rcases open_ints ht he hc h with ⟨hcs, hx⟩ | ⟨x, len, cap, zs, hcs, _, hl, hm, hz, hx, hcell, hwz⟩
  · exact ⟨_, [], hcs, ⟨none, 0, rfl, by simp, fun h => absurd rfl h⟩, by simp⟩
  · have hz' : zs.length = cap := by simpa using hz
    have hlen : (zs.take len).length = len := by simp; omega
    refine ⟨_, zs.take len, hcs, ⟨some x, cap, by rw [hlen], by rw [hlen]; unfold maxLen at hm; omega, fun hne => ?_⟩, fun z hz => hwz z (List.mem_of_mem_take hz)⟩
    have h0 : 0 < len := by
      rcases Nat.eq_zero_or_pos len with h0 | h0
      · subst h0; simp at hne
      · exact h0
    obtain ⟨b, off, spot⟩ := x
    have h00 := hcell 0 (by omega)
    have hspot : spot = none := by simpa [Addr.add] using World.cell?_spot h00
    subst hspot
    refine ⟨b, off, rfl, fun j hj => ?_⟩
    rw [hlen] at hj
    have := hcell j (by omega)
    have e1 : (⟨b, off, none⟩ : Addr).add j = ⟨b, off + j, none⟩ := by unfold Addr.add; split <;> simp_all
    rw [e1] at this
    rw [this]
    simp [hj]

theorem openCalls {t e q r u : TypeId} {fs : Array Field} {base : Nat} {v : Value} {d : DataW H} {p : List MemPlace} (ht : P.underlying t = some (.slice e)) (he : P.underlying e = some (.struct fs)) (hf : ∀ i, i < 4 → ∃ f, fs[i]? = some f ∧ f.type = q ∧ f.offset = i) (hr4 : ∃ f, fs[4]? = some f ∧ f.type = r ∧ f.offset = 4) (h5 : fs.size = 5)
    (hq : P.underlying q = some (.int .i64)) (hr : P.underlying r = some (.slice u)) (hu : P.underlying u = some (.int .u8)) (ce : P.cellsOf e = 5) (cq : P.cellsOf q = 1) (cr : P.cellsOf r = 1) (cu : P.cellsOf u = 1) (be : 1 ≤ P.bytesOf e)
    (hv : Value.okWide P W .any base t v) (h : DataW.Trod enc P W 0 (fun _ => true) true t v d p)
    {ts : List TypeId} {ds : List (DataW H)} {j : Nat} (hsz : (DataW.weightsEach P ts ds).all (· ≤ reachBytes) = true) (hts : ts[j]? = some t) (hds : ds[j]? = some d) : ∃ L, ClsIn W v L := by
  obtain ⟨a, len, cap, rfl⟩ := okWide_slice ht hv
  obtain ⟨fuel, hfu⟩ := h
  rcases open_slice ht hfu with ⟨hcs, hx⟩ | ⟨x, l, c, m, n, D, Pl, hcs, hb, hl, hm, hmm, hx, hel⟩
  · simp [Value.cells] at hcs
    obtain ⟨rfl, rfl, rfl⟩ := hcs
    exact ⟨[], ClsIn.nil W⟩
  · simp [Value.cells] at hcs
    obtain ⟨rfl, rfl, rfl⟩ := hcs
    simp only [if_true] at hmm
    subst hmm
    have hd : d = .slice ((List.range len).map D) ((List.range (m - len)).map fun j => D (len + j)) := by
      have := congrArg Prod.fst hx
      simpa using this
    have hbig := sized_slice hsz hts (hd ▸ hds) ht
    have hlen : len ≤ 140737488351232 := by
      simp only [List.length_map, List.length_range, reachBytes] at hbig
      have h1 : len * 1 ≤ (len + (m - len)) * P.bytesOf e := Nat.mul_le_mul (by omega) be
      omega
    rcases Nat.eq_zero_or_pos len with h0 | h0
    · subst h0
      exact ⟨[], some x, m, rfl, by simp, fun k hk => by simp at hk⟩
    have hspot : x.spot = none := by
      obtain ⟨cs', h1, _⟩ := hel 0 (by omega)
      rw [ce] at h1
      obtain ⟨_, hlen, hat⟩ := World.cells?_some h1
      have k0 := hat 0 (by omega)
      rw [add_add, List.getElem?_eq_getElem (by omega)] at k0
      obtain ⟨b, off, spot⟩ := x
      simpa [Addr.add] using World.cell?_spot k0
    obtain ⟨b, off, spot⟩ := x
    simp only at hspot
    subst hspot
    have each : ∀ i, i < m → ∃ y : Cl, call5 W b (off + i * 5) y := by
      intro i hi
      obtain ⟨cs', h1, h2⟩ := hel i hi
      rw [ce] at h1
      obtain ⟨_, hlen, hat⟩ := World.cells?_some h1
      obtain ⟨xs, n', _, _, _, hxl, hfld⟩ := DataW.trod_struct he h2
      have tr : ∀ j, j < 4 → ∃ a : Int, cs'[j]? = some (.int .i64 a) ∧ (Lit.int .i64 a).wf = true := by
        intro j hj
        obtain ⟨f, f1, f2, f3⟩ := hf j hj
        have g := hfld j f f1
        rw [f2, f3, cq] at g
        have hy : xs[j]? = some (xs[j]'(by omega)) := List.getElem?_eq_getElem (by omega)
        rw [hy] at g
        obtain ⟨a, e0, _, hwf⟩ := DataW.trod_int hq g
        refine ⟨a, ?_, hwf⟩
        have := congrArg (·[0]?) e0
        simpa using this
      obtain ⟨a0, e0, w0⟩ := tr 0 (by omega)
      obtain ⟨a1, e1, w1⟩ := tr 1 (by omega)
      obtain ⟨a2, e2, w2⟩ := tr 2 (by omega)
      obtain ⟨a3, e3, w3⟩ := tr 3 (by omega)
      obtain ⟨dv, zs, e4, hrd, hwz⟩ : ∃ dv zs, cs'[4]? = some dv ∧ Reads W .u8 dv zs ∧ ∀ z ∈ zs, (Lit.int .u8 z).wf = true := by
        obtain ⟨f, f1, f2, f3⟩ := hr4
        have g := hfld 4 f f1
        rw [f2, f3, cr] at g
        have hy : xs[4]? = some (xs[4]'(by omega)) := List.getElem?_eq_getElem (by omega)
        rw [hy] at g
        obtain ⟨dv, zs, e0, h1, h2⟩ := reads_of_trod hr hu cu g
        refine ⟨dv, zs, ?_, h1, h2⟩
        have := congrArg (·[0]?) e0
        simpa using this
      have k0 := hat 0 (by omega)
      have k1 := hat 1 (by omega)
      have k2 := hat 2 (by omega)
      have k3 := hat 3 (by omega)
      have k4 := hat 4 (by omega)
      rw [add_add] at k0 k1 k2 k3 k4
      rw [e0] at k0
      rw [e1] at k1
      rw [e2] at k2
      rw [e3] at k3
      rw [e4] at k4
      have e1 : ∀ j, (⟨b, off, none⟩ : Addr).add j = ⟨b, off + j, none⟩ := fun j => by unfold Addr.add; split <;> simp_all
      rw [e1] at k0 k1 k2 k3 k4
      exact ⟨⟨a0, a1, a2, a3, zs⟩, ⟨k0, k1, k2, k3, dv, k4, hrd, hwz, range_i64 w0, range_i64 w1, range_i64 w2, range_i64 w3⟩⟩
    obtain ⟨es, hes⟩ := choose_to Cl.zero each
    refine ⟨(List.range len).map es, some ⟨b, off, none⟩, m, by simp, by simpa using hlen, fun k hk => ?_⟩
    have hk' : k < len := by simpa using hk
    have hgd : ((List.range len).map es).getD k Cl.zero = es k := by
      rw [List.getD_eq_getElem?_getD]
      simp [hk']
    rw [hgd]
    exact ⟨b, off, rfl, hes k (by omega)⟩

end
end Go.Proofs.YtjogaohnphafgaaGreat

namespace Go.Proofs.YtjogaohnphafgaaGreat
section
open Go.ChangeShapes Go.WideShapes Go.ChangeAt Go.RowKit Go.Deep
set_option linter.unusedVariables false

variable {H : Type} {enc : TypeId × Value → H} {P : Program} {W : World}

theorem weightsAll_mem {e : TypeId} {d : DataW H} : ∀ {l : List (DataW H)}, d ∈ l → ∀ {n : Nat}, n ∈ d.weights P e → n ∈ DataW.weightsAll P e l
  | x :: l, h, n, hn => by
    simp only [DataW.weightsAll, List.mem_append]
    rcases List.mem_cons.1 h with rfl | h
    · exact Or.inl hn
    · exact Or.inr (weightsAll_mem h hn)

theorem reads_of_trod_sized {t e : TypeId} {fuel : Nat} {cs : List Value} {x : DataW H × List MemPlace} (ht : P.underlying t = some (.slice e)) (he : P.underlying e = some (.int .u8)) (hc : P.cellsOf e = 1)
    (h : DataW.trod enc P W 0 (fun _ => true) true fuel t cs = some x) : ∃ v zs, cs = [v] ∧ Reads W .u8 v zs ∧ (∀ z ∈ zs, (Lit.int .u8 z).wf = true) ∧ (1 ≤ P.bytesOf e → (∀ n ∈ x.1.weights P t, n ≤ reachBytes) → zs.length ≤ 140737488351232) := by
  rcases open_ints ht he hc h with ⟨hcs, hx⟩ | ⟨x, len, cap, zs, hcs, _, hl, hm, hz, hx0, hcell, hwz⟩
  · exact ⟨_, [], hcs, ⟨none, 0, rfl, by simp, fun h => absurd rfl h⟩, by simp, by simp⟩
  · have hW : 1 ≤ P.bytesOf e → (∀ n ∈ DataW.weights P t (DataW.slice (H := H) (lits .u8 (zs.take len)) (lits .u8 (zs.drop len))), n ≤ reachBytes) → (zs.take len).length ≤ 140737488351232 := by
      intro hb hn
      have h1 := hn (((lits (H := H) .u8 (zs.take len)).length + (lits (H := H) .u8 (zs.drop len)).length) * P.bytesOf e) (by simp [DataW.weights, ht])
      have h2 : (lits (H := H) .u8 (zs.take len)).length = (zs.take len).length := by simp [lits]
      have h3 : (zs.take len).length * 1 ≤ ((lits (H := H) .u8 (zs.take len)).length + (lits (H := H) .u8 (zs.drop len)).length) * P.bytesOf e := Nat.mul_le_mul (by omega) hb
      unfold reachBytes at h1
      omega
    have hz' : zs.length = cap := by simpa using hz
    have hlen : (zs.take len).length = len := by simp; omega
    refine ⟨_, zs.take len, hcs, ⟨some x, cap, by rw [hlen], by rw [hlen]; unfold maxLen at hm; omega, fun hne => ?_⟩, fun z hz => hwz z (List.mem_of_mem_take hz), by rw [hx0]; exact hW⟩
    have h0 : 0 < len := by
      rcases Nat.eq_zero_or_pos len with h0 | h0
      · subst h0; simp at hne
      · exact h0
    obtain ⟨b, off, spot⟩ := x
    have h00 := hcell 0 (by omega)
    have hspot : spot = none := by simpa [Addr.add] using World.cell?_spot h00
    subst hspot
    refine ⟨b, off, rfl, fun j hj => ?_⟩
    rw [hlen] at hj
    have := hcell j (by omega)
    have e1 : (⟨b, off, none⟩ : Addr).add j = ⟨b, off + j, none⟩ := by unfold Addr.add; split <;> simp_all
    rw [e1] at this
    rw [this]
    simp [hj]

theorem openOps {t e q r u : TypeId} {fs : Array Field} {base : Nat} {v : Value} {d : DataW H} {p : List MemPlace} (ht : P.underlying t = some (.slice e)) (he : P.underlying e = some (.struct fs)) (hf : ∀ i, i < 4 → ∃ f, fs[i]? = some f ∧ f.type = q ∧ f.offset = i) (hr4 : ∃ f, fs[4]? = some f ∧ f.type = r ∧ f.offset = 4) (h5 : fs.size = 5)
    (hq : P.underlying q = some (.int .i64)) (hr : P.underlying r = some (.slice u)) (hu : P.underlying u = some (.int .u8)) (ce : P.cellsOf e = 5) (cq : P.cellsOf q = 1) (cr : P.cellsOf r = 1) (cu : P.cellsOf u = 1) (be : 1 ≤ P.bytesOf e) (bu : 1 ≤ P.bytesOf u)
    (hv : Value.okWide P W .any base t v) (h : DataW.Trod enc P W 0 (fun _ => true) true t v d p)
    {ts : List TypeId} {ds : List (DataW H)} {j : Nat} (hsz : (DataW.weightsEach P ts ds).all (· ≤ reachBytes) = true) (hts : ts[j]? = some t) (hds : ds[j]? = some d) : ∃ L, ClsIn W v L ∧ (∀ e ∈ L, e.d.length ≤ 140737488351232) ∧ ∃ a c, v = .slice a L.length c ∧ L.length ≤ c ∧ c ≤ 9223372036854775807 := by
  obtain ⟨a, len, cap, rfl⟩ := okWide_slice ht hv
  obtain ⟨fuel, hfu⟩ := h
  rcases open_slice ht hfu with ⟨hcs, hx⟩ | ⟨x, l, c, m, n, D, Pl, hcs, hb, hl, hm, hmm, hx, hel⟩
  · simp [Value.cells] at hcs
    obtain ⟨rfl, rfl, rfl⟩ := hcs
    exact ⟨[], ClsIn.nil W, by simp, none, 0, rfl, by simp, by omega⟩
  · simp [Value.cells] at hcs
    obtain ⟨rfl, rfl, rfl⟩ := hcs
    simp only [if_true] at hmm
    subst hmm
    have hd : d = .slice ((List.range len).map D) ((List.range (m - len)).map fun j => D (len + j)) := by
      have := congrArg Prod.fst hx
      simpa using this
    have hbig := sized_slice hsz hts (hd ▸ hds) ht
    have hlen : len ≤ 140737488351232 := by
      simp only [List.length_map, List.length_range, reachBytes] at hbig
      have h1 : len * 1 ≤ (len + (m - len)) * P.bytesOf e := Nat.mul_le_mul (by omega) be
      omega
    rcases Nat.eq_zero_or_pos len with h0 | h0
    · subst h0
      exact ⟨[], ⟨some x, m, rfl, by simp, fun k hk => by simp at hk⟩, by simp, some x, m, rfl, by simp, hm⟩
    have hspot : x.spot = none := by
      obtain ⟨cs', h1, _⟩ := hel 0 (by omega)
      rw [ce] at h1
      obtain ⟨_, hlen, hat⟩ := World.cells?_some h1
      have k0 := hat 0 (by omega)
      rw [add_add, List.getElem?_eq_getElem (by omega)] at k0
      obtain ⟨b, off, spot⟩ := x
      simpa [Addr.add] using World.cell?_spot k0
    obtain ⟨b, off, spot⟩ := x
    simp only at hspot
    subst hspot
    have hall : ∀ i, i < len → ∀ n ∈ DataW.weights P e (D i), n ≤ reachBytes := by
      intro i hi n hn
      have := List.all_eq_true.1 hsz n (DataW.weights_mem_each hts hds n (by
        rw [hd]
        simp only [DataW.weights, ht, List.mem_cons, List.mem_append]
        exact Or.inr (Or.inl (weightsAll_mem (List.mem_map.2 ⟨i, List.mem_range.2 hi, rfl⟩) hn))))
      simpa using this
    have each : ∀ i, i < m → ∃ y : Cl, call5 W b (off + i * 5) y ∧ (i < len → y.d.length ≤ 140737488351232) := by
      intro i hi
      obtain ⟨cs', h1, h2⟩ := hel i hi
      rw [ce] at h1
      obtain ⟨_, hlen, hat⟩ := World.cells?_some h1
      obtain ⟨xs, n', _, hDx, _, hxl, hfld⟩ := DataW.trod_struct he h2
      have tr : ∀ j, j < 4 → ∃ a : Int, cs'[j]? = some (.int .i64 a) ∧ (Lit.int .i64 a).wf = true := by
        intro j hj
        obtain ⟨f, f1, f2, f3⟩ := hf j hj
        have g := hfld j f f1
        rw [f2, f3, cq] at g
        have hy : xs[j]? = some (xs[j]'(by omega)) := List.getElem?_eq_getElem (by omega)
        rw [hy] at g
        obtain ⟨a, e0, _, hwf⟩ := DataW.trod_int hq g
        refine ⟨a, ?_, hwf⟩
        have := congrArg (·[0]?) e0
        simpa using this
      obtain ⟨a0, e0, w0⟩ := tr 0 (by omega)
      obtain ⟨a1, e1, w1⟩ := tr 1 (by omega)
      obtain ⟨a2, e2, w2⟩ := tr 2 (by omega)
      obtain ⟨a3, e3, w3⟩ := tr 3 (by omega)
      obtain ⟨dv, zs, e4, hrd, hwz, hln⟩ : ∃ dv zs, cs'[4]? = some dv ∧ Reads W .u8 dv zs ∧ (∀ z ∈ zs, (Lit.int .u8 z).wf = true) ∧ (i < len → zs.length ≤ 140737488351232) := by
        obtain ⟨f, f1, f2, f3⟩ := hr4
        have g := hfld 4 f f1
        rw [f2, f3, cr] at g
        have hy : xs[4]? = some (xs[4]'(by omega)) := List.getElem?_eq_getElem (by omega)
        rw [hy] at g
        obtain ⟨dv, zs, e0, h1, h2, h3⟩ := reads_of_trod_sized hr hu cu g
        refine ⟨dv, zs, ?_, h1, h2, fun hi => h3 bu (fun n hn => hall i hi n ?_)⟩
        rotate_left
        · have hD : D i = .agg (xs.map (·.1)) := congrArg Prod.fst hDx
          rw [hD]
          simp only [DataW.weights, he]
          refine DataW.weights_mem_each (j := 4) (t := r) (d := (xs[4]'(by omega)).1) ?_ ?_ n hn
          · rw [List.getElem?_map, Array.getElem?_toList, f1]
            simp [f2]
          · rw [List.getElem?_map, hy]
            rfl
        have := congrArg (·[0]?) e0
        simpa using this
      have k0 := hat 0 (by omega)
      have k1 := hat 1 (by omega)
      have k2 := hat 2 (by omega)
      have k3 := hat 3 (by omega)
      have k4 := hat 4 (by omega)
      rw [add_add] at k0 k1 k2 k3 k4
      rw [e0] at k0
      rw [e1] at k1
      rw [e2] at k2
      rw [e3] at k3
      rw [e4] at k4
      have e1 : ∀ j, (⟨b, off, none⟩ : Addr).add j = ⟨b, off + j, none⟩ := fun j => by unfold Addr.add; split <;> simp_all
      rw [e1] at k0 k1 k2 k3 k4
      exact ⟨⟨a0, a1, a2, a3, zs⟩, ⟨k0, k1, k2, k3, dv, k4, hrd, hwz, range_i64 w0, range_i64 w1, range_i64 w2, range_i64 w3⟩, hln⟩
    obtain ⟨es, hes⟩ := choose_to Cl.zero each
    refine ⟨(List.range len).map es, ⟨some ⟨b, off, none⟩, m, by simp, by simpa using hlen, fun k hk => ?_⟩, fun e he' => ?_, some ⟨b, off, none⟩, m, by simp, by simpa using hl, hm⟩
    rotate_left
    · obtain ⟨i, hi, rfl⟩ := List.mem_map.1 he'
      have hi' := List.mem_range.1 hi
      exact (hes i (by omega)).2 hi'
    have hk' : k < len := by simpa using hk
    have hgd : ((List.range len).map es).getD k Cl.zero = es k := by
      rw [List.getD_eq_getElem?_getD]
      simp [hk']
    rw [hgd]
    exact ⟨b, off, rfl, (hes k (by omega)).1⟩

end
end Go.Proofs.YtjogaohnphafgaaGreat

namespace Go.Proofs.YtjogaohnphafgaaGreat
section
open Go.RowKit
set_option linter.unusedVariables false

set_option maxRecDepth 100000 in
theorem slots293 (f : Nat → Value) : slotsOf 293 f = f 0 :: f 1 :: f 2 :: f 3 :: f 4 :: f 5 :: f 6 :: f 7 :: f 8 :: f 9 :: f 10 :: f 11 :: f 12 :: f 13 :: f 14 :: f 15 :: f 16 :: f 17 :: f 18 :: f 19 :: f 20 :: f 21 :: f 22 :: f 23 :: f 24 :: f 25 :: f 26 :: f 27 :: f 28 :: f 29 :: f 30 :: f 31 :: f 32 :: f 33 :: f 34 :: f 35 :: f 36 :: f 37 :: f 38 :: f 39 :: f 40 :: f 41 :: f 42 :: f 43 :: f 44 :: f 45 :: f 46 :: f 47 :: f 48 :: f 49 :: f 50 :: f 51 :: f 52 :: f 53 :: f 54 :: f 55 :: f 56 :: f 57 :: f 58 :: f 59 :: f 60 :: f 61 :: f 62 :: f 63 :: f 64 :: f 65 :: f 66 :: f 67 :: f 68 :: f 69 :: f 70 :: f 71 :: f 72 :: f 73 :: f 74 :: f 75 :: f 76 :: f 77 :: f 78 :: f 79 :: f 80 :: f 81 :: f 82 :: f 83 :: f 84 :: f 85 :: f 86 :: f 87 :: f 88 :: f 89 :: f 90 :: f 91 :: f 92 :: f 93 :: f 94 :: f 95 :: f 96 :: f 97 :: f 98 :: f 99 :: f 100 :: f 101 :: f 102 :: f 103 :: f 104 :: f 105 :: f 106 :: f 107 :: f 108 :: f 109 :: f 110 :: f 111 :: f 112 :: f 113 :: f 114 :: f 115 :: f 116 :: f 117 :: f 118 :: f 119 :: f 120 :: f 121 :: f 122 :: f 123 :: f 124 :: f 125 :: f 126 :: f 127 :: f 128 :: f 129 :: f 130 :: f 131 :: f 132 :: f 133 :: f 134 :: f 135 :: f 136 :: f 137 :: f 138 :: f 139 :: f 140 :: f 141 :: f 142 :: f 143 :: f 144 :: f 145 :: f 146 :: f 147 :: f 148 :: f 149 :: f 150 :: f 151 :: f 152 :: f 153 :: f 154 :: f 155 :: f 156 :: f 157 :: f 158 :: f 159 :: f 160 :: f 161 :: f 162 :: f 163 :: f 164 :: f 165 :: f 166 :: f 167 :: f 168 :: f 169 :: f 170 :: f 171 :: f 172 :: f 173 :: f 174 :: f 175 :: f 176 :: f 177 :: f 178 :: f 179 :: f 180 :: f 181 :: f 182 :: f 183 :: f 184 :: f 185 :: f 186 :: f 187 :: f 188 :: f 189 :: f 190 :: f 191 :: f 192 :: f 193 :: f 194 :: f 195 :: f 196 :: f 197 :: f 198 :: f 199 :: f 200 :: f 201 :: f 202 :: f 203 :: f 204 :: f 205 :: f 206 :: f 207 :: f 208 :: f 209 :: f 210 :: f 211 :: f 212 :: f 213 :: f 214 :: f 215 :: f 216 :: f 217 :: f 218 :: f 219 :: f 220 :: f 221 :: f 222 :: f 223 :: f 224 :: f 225 :: f 226 :: f 227 :: f 228 :: f 229 :: f 230 :: f 231 :: f 232 :: f 233 :: f 234 :: f 235 :: f 236 :: f 237 :: f 238 :: f 239 :: f 240 :: f 241 :: f 242 :: f 243 :: f 244 :: f 245 :: f 246 :: f 247 :: f 248 :: f 249 :: f 250 :: f 251 :: f 252 :: f 253 :: f 254 :: f 255 :: f 256 :: f 257 :: f 258 :: f 259 :: f 260 :: f 261 :: f 262 :: f 263 :: f 264 :: f 265 :: f 266 :: f 267 :: f 268 :: f 269 :: f 270 :: f 271 :: f 272 :: f 273 :: f 274 :: f 275 :: f 276 :: f 277 :: f 278 :: f 279 :: f 280 :: f 281 :: f 282 :: f 283 :: f 284 :: f 285 :: f 286 :: f 287 :: f 288 :: f 289 :: f 290 :: f 291 :: f 292 :: [] := rfl
/-- The box of an operation. -/
def OpB2 (b : Nat) (k x y c : Int) (d : Value) (w : World) : Prop := w.heap[b]? = some (.cells #[.int .i64 k, .int .i64 x, .int .i64 y, .int .i64 c, d] 48 (0, 0))
theorem OpB2.cells {b : Nat} {k x y c : Int} {d : Value} {w : World} (h : OpB2 b k x y c d w) : w.cell? ⟨b, 0, none⟩ = some (.int .i64 k) ∧ w.cell? ⟨b, 1, none⟩ = some (.int .i64 x) ∧ w.cell? ⟨b, 2, none⟩ = some (.int .i64 y) ∧ w.cell? ⟨b, 3, none⟩ = some (.int .i64 c) ∧ w.cell? ⟨b, 4, none⟩ = some d := by
  refine ⟨?_, ?_, ?_, ?_, ?_⟩ <;> (rw [cell_of h]; rfl)
theorem OpB2.stay {b : Nat} {k x y c : Int} {d : Value} {w w' : World} (h : OpB2 b k x y c d w) (hs : Stay (fun k => k = b) w w') : OpB2 b k x y c d w' := (hs b rfl).trans h

theorem newHL_any (bp : Nat) (k s m : Int) (l : Nat) (w : World) (G : Nat → Prop) (hb : BookAt w G bp (oneSt (l : Int)) 1) (hl : l ≤ 10000000) (hpol : polErr k s m = 0) :
    Calls Tryz.prog 7 #[.pointer (some ⟨bp, 0, none⟩), .int .i64 1, .agg #[.int .i64 k, .int .i64 s, .int .i64 m]] w (fun e w' => Below w.heap.size w w' ∧ ∃ hp F G', e = .returned (.tuple #[.pointer (some ⟨hp, 0, none⟩), .int .i64 0]) ∧ HB w' hp bp (newH k s m) (.slice none 0 0) (.slice none 0 0) (.slice none 0 0) [] F G' l (oneSt (l : Int)) ∧ (∀ k, F k → w.heap.size ≤ k ∧ k < w'.heap.size) ∧ ∀ k, G' k → G k) := by
  refine (newHeap_any bp 1 k s m w G (oneSt (l : Int)) 1 hb).mono ?_
  rintro e w' ⟨hbl, ⟨h1, h2⟩ | ⟨h1, h, h2, h3, h4⟩⟩
  · rw [newErr_one] at h1
    unfold wantErr at h1
    rw [if_pos hpol, if_pos rfl] at h1
    exact absurd rfl h1
  · refine ⟨hbl, h, fun k => k = h, fun k => G k ∧ k < w.heap.size, h2, ?_, fun k hk => by subst hk; exact ⟨h3, lt_of h4⟩, fun k hk => hk.1⟩
    have hbk := (hb.narrowK).same (fun k hk hl => hbl.block k hl)
    have nil : ∀ (e size : Nat), w'.ownsRow 0 e size (.slice none 0 0) 0 [] := fun e size => World.ownsRow_nil _ _ _ _
    refine ⟨⟨h4, rfl, ⟨nil _ _, fun k hk => (by cases hk)⟩, fun z hz => (by cases hz), Or.inl ⟨rfl, rfl⟩, ⟨nil _ _, fun k hk => (by cases hk)⟩, ⟨nil _ _, fun k hk => (by cases hk)⟩, ⟨rfl, fun i v l hv _ => by simp at hv⟩, List.Pairwise.nil, fun x hx => (by cases hx), ⟨by simp [newH], by simp [newH], by simp [newH], by simp [newH], by simp [newH]⟩⟩, ⟨hbk, rfl, rfl, rfl, by first | exact Nat.le_of_ble_eq_true rfl | simp [oneSt, openSt, newSt], ⟨Nat.zero_le _, hl⟩, fun k hk => Nat.lt_of_lt_of_le hk.2 hbl.size⟩, fun k hk hg => ?_, fun k hk => by rw [hk]; exact lt_of h4⟩
    subst hk
    have := hg.2
    omega

theorem MrE.new {w0 w : World} {hp bp rp pp cp M : Nat} {k s m : Int} {F G : Nat → Prop} {b : BookSt} (bel : Below w0.heap.size w0 w) (hb : HB w hp bp (newH k s m) (.slice none 0 0) (.slice none 0 0) (.slice none 0 0) [] F G M b) (hpol : polErr k s m = 0) (hz : ∀ k, F k ∨ G k → w0.heap.size ≤ k)
    (hpu : w.heap[pp]? = some (.cells #[.int .i64 0, .int .i64 (M : Int)] 37 (0, 0))) (hrf : w.heap[rp]? = some (.cells #[.pointer (some ⟨pp, 0, none⟩), .int .i64 k, .int .i64 s, .int .i64 m, .bool false, .int .i64 0, .slice none 0 0, .slice none 0 0, .int .i64 0, .slice none 0 0] 42 (0, 0)))
    (hc : w.heap[cp]? = some (.cells #[.slice none 0 0, .slice none 0 0] 46 (0, 0))) (hne : ∀ k, F k ∨ G k → k ≠ pp ∧ k ≠ rp ∧ k ≠ cp) (h0 : w0.heap.size ≤ pp ∧ w0.heap.size ≤ rp ∧ w0.heap.size ≤ cp) (hM : M ≤ 10000000) : MrE w0 hp bp rp pp cp 0 M (fun _ => False) w := by
  have cF : ∀ k, CelF w cp k → k = cp := fun k hk => by
    rcases hk with h | ⟨vo, vw, h1, h2⟩
    · exact h
    · rw [hc] at h1
      simp at h1
      obtain ⟨rfl, rfl⟩ := h1
      simp [Value.ownBlock] at h2
  refine ⟨newH k s m, _, _, _, _, F, G, b, [], .slice none 0 0, .slice none 0 0, .slice none 0 0, [], fun k => k = rp ∨ k = pp, noR, [], ⟨bel, hb, ⟨hrf, Or.inl rfl, hpu, Or.inr rfl, ⟨World.ownsRow_nil _ _ _ _, fun k hk => (by cases hk)⟩, fun z hz => (by cases hz), Or.inl ⟨rfl, rfl⟩, ⟨OffRow.nil _ _ _, fun k hk => (by cases hk)⟩, ⟨World.ownsRow_nil _ _ _ _, fun k hk => (by cases hk)⟩, ⟨rfl, fun i v l hv _ => by simp at hv⟩, List.Pairwise.nil, fun x hx => (by cases hx), ⟨Nat.zero_le _, Nat.zero_le _, Nat.zero_le _, Nat.zero_le _, Nat.zero_le _, hM, Nat.zero_le _⟩, fun l hl => (by cases hl)⟩, fun k hk => ?_, fun k hk => ?_, fun k hk e => ?_, ⟨h0.2.2, _, _, hc, World.ownsRow_nil _ _ _ _, World.ownsRow_nil _ _ _ _, fun k hk => by simp [Value.ownBlock] at hk, by simp⟩, Twins.none _ _, by simp, fun k hk => ?_, fun _ _ _ _ h => h.elim, fun g g' hg => by simp [Value.ownBlock] at hg, Nat.le_refl _, fun k hk => hk.elim⟩,
    ⟨hpol, List.Pairwise.nil, fun x hx => (by cases hx), ⟨Nat.le_refl _, Nat.le_refl _, Nat.le_refl _⟩, ⟨rfl, fun l hl => (by cases hl)⟩, fun _ => ⟨rfl, rfl⟩, fun _ l hl => (by cases hl)⟩⟩
  · rcases hk with rfl | rfl
    · exact lt_of hrf
    · exact lt_of hpu
  · rcases hk with hk | hk | rfl | rfl
    · exact hz k (Or.inl hk)
    · exact hz k (Or.inr hk)
    · exact h0.2.1
    · exact h0.1
  · have := hne k hk
    rcases e with e | e
    · exact this.2.1 e
    · exact this.1 e
  · have := cF k hk
    subst this
    refine ⟨fun e => (hne _ (Or.inl e)).2.2 rfl, fun e => (hne _ (Or.inr e)).2.2 rfl, fun e => ?_⟩
    rcases e with e | e
    · rw [e, hrf] at hc; simp at hc
    · rw [e, hpu] at hc; simp at hc

end
end Go.Proofs.YtjogaohnphafgaaGreat
