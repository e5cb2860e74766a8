/-
  The calls of a script that came in. No conditions.
-/
import Derived.Test.YtjogaohnphafgaaTopCompactPaa
import Derived.Test.YtjogaohnphafgaaTopCompactPab
import Derived.Deep.Slices
namespace Go.Proofs.Ytjogaohnphafgaa
open Go.ChangeShapes Go.WideShapes Go.ChangeAt Go.RowKit Go.Deep
set_option linter.unusedVariables false

theorem choose_to {α : Type} {n : Nat} {p : Nat → α → Prop} (d : α) (h : ∀ i, i < n → ∃ y, p i y) : ∃ f : Nat → α, ∀ i, i < n → p i (f i) :=
  ⟨fun i => if hi : i < n then (h i hi).choose else d, fun i hi => by simp only; rw [dif_pos hi]; exact (h i hi).choose_spec⟩

structure Cl where
  k : Int
  a : Int
  b : Int
  c : Int
  d : List Int
def Cl.zero : Cl := ⟨0, 0, 0, 0, []⟩
def fit64 (x : Int) : Prop := -9223372036854775808 ≤ x ∧ x ≤ 9223372036854775807

/-- A call's five cells. -/
def call5 (w : World) (b x : Nat) (e : Cl) : Prop :=
  w.cell? ⟨b, x, none⟩ = some (.int .i64 e.k) ∧ w.cell? ⟨b, x + 1, none⟩ = some (.int .i64 e.a) ∧ w.cell? ⟨b, x + 2, none⟩ = some (.int .i64 e.b) ∧ w.cell? ⟨b, x + 3, none⟩ = some (.int .i64 e.c) ∧
  ∃ dv, w.cell? ⟨b, x + 4, none⟩ = some dv ∧ Reads w .u8 dv e.d ∧ (∀ z ∈ e.d, (Lit.int .u8 z).wf = true) ∧ fit64 e.k ∧ fit64 e.a ∧ fit64 e.b ∧ fit64 e.c
/-- A slice of calls. -/
def ClsIn (w : World) (v : Value) (L : List Cl) : Prop :=
  ∃ a cap, v = .slice a L.length cap ∧ L.length ≤ 140737488351232 ∧ ∀ k, k < L.length → ∃ b o, a = some ⟨b, o, none⟩ ∧ call5 w b (o + k * 5) (L.getD k Cl.zero)

theorem ClsIn.nil (w : World) : ClsIn w (.slice none 0 0) [] := ⟨none, 0, rfl, by simp, fun k h => by simp at h⟩
theorem call5.below {w w' : World} {b x : Nat} {e : Cl} (h : call5 w b x e) (hb : Below w.heap.size w w') : call5 w' b x e := by
  obtain ⟨h0, h1, h2, h3, dv, h4, h5, h6⟩ := h
  have hlt := World.block_lt_of_cell? w _ h0
  have f : ∀ j, w'.cell? ⟨b, j, none⟩ = w.cell? ⟨b, j, none⟩ := fun j => hb.cell (p := ⟨b, j, none⟩) hlt
  exact ⟨(f _).trans h0, (f _).trans h1, (f _).trans h2, (f _).trans h3, dv, (f _).trans h4, h5.below hb rfl, h6⟩
theorem ClsIn.below {w w' : World} {v : Value} {L : List Cl} (h : ClsIn w v L) (hb : Below w.heap.size w w') : ClsIn w' v L := by
  obtain ⟨a, cap, rfl, hl, hc⟩ := h
  refine ⟨a, cap, rfl, hl, fun k hk => ?_⟩
  obtain ⟨b, o, ha, hcell⟩ := hc k hk
  exact ⟨b, o, ha, hcell.below hb⟩

variable {H : Type} {enc : TypeId × Value → H} {P : Program} {W : World}

theorem reads_of_trod {t e : TypeId} {fuel : Nat} {cs : List Value} {x : DataW H × List MemPlace} (ht : P.underlying t = some (.slice e)) (he : P.underlying e = some (.int .u8)) (hc : P.cellsOf e = 1)
    (h : DataW.trod enc P W 0 (fun _ => true) true fuel t cs = some x) : ∃ v zs, cs = [v] ∧ Reads W .u8 v zs ∧ ∀ z ∈ zs, (Lit.int .u8 z).wf = true := by
  rcases open_ints ht he hc h with ⟨hcs, hx⟩ | ⟨x, len, cap, zs, hcs, _, hl, hm, hz, hx, hcell, hwz⟩
  · exact ⟨_, [], hcs, ⟨none, 0, rfl, by simp, fun h => absurd rfl h⟩, by simp⟩
  · have hz' : zs.length = cap := by simpa using hz
    have hlen : (zs.take len).length = len := by simp; omega
    refine ⟨_, zs.take len, hcs, ⟨some x, cap, by rw [hlen], by rw [hlen]; unfold maxLen at hm; omega, fun hne => ?_⟩, fun z hz => hwz z (List.mem_of_mem_take hz)⟩
    have h0 : 0 < len := by
      rcases Nat.eq_zero_or_pos len with h0 | h0
      · subst h0; simp at hne
      · exact h0
    obtain ⟨b, off, spot⟩ := x
    have h00 := hcell 0 (by omega)
    have hspot : spot = none := by simpa [Addr.add] using World.cell?_spot h00
    subst hspot
    refine ⟨b, off, rfl, fun j hj => ?_⟩
    rw [hlen] at hj
    have := hcell j (by omega)
    have e1 : (⟨b, off, none⟩ : Addr).add j = ⟨b, off + j, none⟩ := by unfold Addr.add; split <;> simp_all
    rw [e1] at this
    rw [this]
    simp [hj]

theorem openCalls {t e q r u : TypeId} {fs : Array Field} {base : Nat} {v : Value} {d : DataW H} {p : List MemPlace} (ht : P.underlying t = some (.slice e)) (he : P.underlying e = some (.struct fs)) (hf : ∀ i, i < 4 → ∃ f, fs[i]? = some f ∧ f.type = q ∧ f.offset = i) (hr4 : ∃ f, fs[4]? = some f ∧ f.type = r ∧ f.offset = 4) (h5 : fs.size = 5)
    (hq : P.underlying q = some (.int .i64)) (hr : P.underlying r = some (.slice u)) (hu : P.underlying u = some (.int .u8)) (ce : P.cellsOf e = 5) (cq : P.cellsOf q = 1) (cr : P.cellsOf r = 1) (cu : P.cellsOf u = 1) (be : 1 ≤ P.bytesOf e)
    (hv : Value.okWide P W .any base t v) (h : DataW.Trod enc P W 0 (fun _ => true) true t v d p)
    {ts : List TypeId} {ds : List (DataW H)} {j : Nat} (hsz : (DataW.weightsEach P ts ds).all (· ≤ reachBytes) = true) (hts : ts[j]? = some t) (hds : ds[j]? = some d) : ∃ L, ClsIn W v L := by
  obtain ⟨a, len, cap, rfl⟩ := okWide_slice ht hv
  obtain ⟨fuel, hfu⟩ := h
  rcases open_slice ht hfu with ⟨hcs, hx⟩ | ⟨x, l, c, m, n, D, Pl, hcs, hb, hl, hm, hmm, hx, hel⟩
  · simp [Value.cells] at hcs
    obtain ⟨rfl, rfl, rfl⟩ := hcs
    exact ⟨[], ClsIn.nil W⟩
  · simp [Value.cells] at hcs
    obtain ⟨rfl, rfl, rfl⟩ := hcs
    simp only [if_true] at hmm
    subst hmm
    have hd : d = .slice ((List.range len).map D) ((List.range (m - len)).map fun j => D (len + j)) := by
      have := congrArg Prod.fst hx
      simpa using this
    have hbig := sized_slice hsz hts (hd ▸ hds) ht
    have hlen : len ≤ 140737488351232 := by
      simp only [List.length_map, List.length_range, reachBytes] at hbig
      have h1 : len * 1 ≤ (len + (m - len)) * P.bytesOf e := Nat.mul_le_mul (by omega) be
      omega
    rcases Nat.eq_zero_or_pos len with h0 | h0
    · subst h0
      exact ⟨[], some x, m, rfl, by simp, fun k hk => by simp at hk⟩
    have hspot : x.spot = none := by
      obtain ⟨cs', h1, _⟩ := hel 0 (by omega)
      rw [ce] at h1
      obtain ⟨_, hlen, hat⟩ := World.cells?_some h1
      have k0 := hat 0 (by omega)
      rw [add_add, List.getElem?_eq_getElem (by omega)] at k0
      obtain ⟨b, off, spot⟩ := x
      simpa [Addr.add] using World.cell?_spot k0
    obtain ⟨b, off, spot⟩ := x
    simp only at hspot
    subst hspot
    have each : ∀ i, i < m → ∃ y : Cl, call5 W b (off + i * 5) y := by
      intro i hi
      obtain ⟨cs', h1, h2⟩ := hel i hi
      rw [ce] at h1
      obtain ⟨_, hlen, hat⟩ := World.cells?_some h1
      obtain ⟨xs, n', _, _, _, hxl, hfld⟩ := DataW.trod_struct he h2
      have tr : ∀ j, j < 4 → ∃ a : Int, cs'[j]? = some (.int .i64 a) ∧ (Lit.int .i64 a).wf = true := by
        intro j hj
        obtain ⟨f, f1, f2, f3⟩ := hf j hj
        have g := hfld j f f1
        rw [f2, f3, cq] at g
        have hy : xs[j]? = some (xs[j]'(by omega)) := List.getElem?_eq_getElem (by omega)
        rw [hy] at g
        obtain ⟨a, e0, _, hwf⟩ := DataW.trod_int hq g
        refine ⟨a, ?_, hwf⟩
        have := congrArg (·[0]?) e0
        simpa using this
      obtain ⟨a0, e0, w0⟩ := tr 0 (by omega)
      obtain ⟨a1, e1, w1⟩ := tr 1 (by omega)
      obtain ⟨a2, e2, w2⟩ := tr 2 (by omega)
      obtain ⟨a3, e3, w3⟩ := tr 3 (by omega)
      obtain ⟨dv, zs, e4, hrd, hwz⟩ : ∃ dv zs, cs'[4]? = some dv ∧ Reads W .u8 dv zs ∧ ∀ z ∈ zs, (Lit.int .u8 z).wf = true := by
        obtain ⟨f, f1, f2, f3⟩ := hr4
        have g := hfld 4 f f1
        rw [f2, f3, cr] at g
        have hy : xs[4]? = some (xs[4]'(by omega)) := List.getElem?_eq_getElem (by omega)
        rw [hy] at g
        obtain ⟨dv, zs, e0, h1, h2⟩ := reads_of_trod hr hu cu g
        refine ⟨dv, zs, ?_, h1, h2⟩
        have := congrArg (·[0]?) e0
        simpa using this
      have k0 := hat 0 (by omega)
      have k1 := hat 1 (by omega)
      have k2 := hat 2 (by omega)
      have k3 := hat 3 (by omega)
      have k4 := hat 4 (by omega)
      rw [add_add] at k0 k1 k2 k3 k4
      rw [e0] at k0
      rw [e1] at k1
      rw [e2] at k2
      rw [e3] at k3
      rw [e4] at k4
      have e1 : ∀ j, (⟨b, off, none⟩ : Addr).add j = ⟨b, off + j, none⟩ := fun j => by unfold Addr.add; split <;> simp_all
      rw [e1] at k0 k1 k2 k3 k4
      exact ⟨⟨a0, a1, a2, a3, zs⟩, ⟨k0, k1, k2, k3, dv, k4, hrd, hwz, range_i64 w0, range_i64 w1, range_i64 w2, range_i64 w3⟩⟩
    obtain ⟨es, hes⟩ := choose_to Cl.zero each
    refine ⟨(List.range len).map es, some ⟨b, off, none⟩, m, by simp, by simpa using hlen, fun k hk => ?_⟩
    have hk' : k < len := by simpa using hk
    have hgd : ((List.range len).map es).getD k Cl.zero = es k := by
      rw [List.getD_eq_getElem?_getD]
      simp [hk']
    rw [hgd]
    exact ⟨b, off, rfl, hes k (by omega)⟩

end Go.Proofs.Ytjogaohnphafgaa
