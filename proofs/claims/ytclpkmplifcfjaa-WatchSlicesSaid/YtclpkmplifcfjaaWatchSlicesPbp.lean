/-
  Groups, plain: the search and the labels give the same: the least of what is reached. No conditions.
-/
import Derived.Test.YtclpkmplifcfjaaWatchSlicesPaa
namespace Go.Proofs.Ytclpkmplifcfjaa
set_option linter.unusedVariables false

/-! How many places up to n. -/
def cntD (P : Nat → Prop) [DecidablePred P] : Nat → Nat
  | 0 => 0
  | n + 1 => cntD P n + (if P n then 1 else 0)
theorem cntD_le (P : Nat → Prop) [DecidablePred P] : ∀ n, cntD P n ≤ n
  | 0 => Nat.le_refl _
  | n + 1 => by have := cntD_le P n; simp only [cntD]; split <;> omega
theorem cntD_mono {P Q : Nat → Prop} [DecidablePred P] [DecidablePred Q] : ∀ n, (∀ j, j < n → P j → Q j) → cntD P n ≤ cntD Q n
  | 0, _ => Nat.le_refl _
  | n + 1, h => by
    have h1 := cntD_mono n (fun j hj => h j (by omega))
    have h2 := h n (by omega)
    simp only [cntD]
    by_cases hp : P n
    · rw [if_pos hp, if_pos (h2 hp)]; omega
    · rw [if_neg hp]; split <;> omega
theorem cntD_lt {P Q : Nat → Prop} [DecidablePred P] [DecidablePred Q] : ∀ n, (∀ j, j < n → P j → Q j) → (∃ j, j < n ∧ ¬ P j ∧ Q j) → cntD P n < cntD Q n
  | 0, _, h => by obtain ⟨j, h, _⟩ := h; omega
  | n + 1, h, ⟨j, hj, hp, hq⟩ => by
    have h2 := h n (by omega)
    simp only [cntD]
    by_cases e : j = n
    · subst e
      have h1 := cntD_mono (P := P) (Q := Q) j (fun i hi => h i (by omega))
      rw [if_neg hp, if_pos hq]; omega
    · have h1 := cntD_lt (P := P) (Q := Q) n (fun i hi => h i (by omega)) ⟨j, by omega, hp, hq⟩
      by_cases hp' : P n
      · rw [if_pos hp', if_pos (h2 hp')]; omega
      · rw [if_neg hp']; split <;> omega
theorem cntD_full {P : Nat → Prop} [DecidablePred P] : ∀ n, n ≤ cntD P n → ∀ j, j < n → P j
  | 0, _, j, hj => by omega
  | n + 1, h, j, hj => by
    simp only [cntD] at h
    have h1 := cntD_le P n
    by_cases hp : P n
    · rw [if_pos hp] at h
      by_cases e : j = n
      · rw [e]; exact hp
      · exact cntD_full n (by omega) j (by omega)
    · rw [if_neg hp] at h; omega

/-! What is reached. -/
inductive Rch (ps : List (Nat × Nat)) : Nat → Nat → Prop
  | refl (a : Nat) : Rch ps a a
  | fwd {a b c : Nat} : Rch ps a b → (b, c) ∈ ps → Rch ps a c
  | bwd {a b c : Nat} : Rch ps a b → (c, b) ∈ ps → Rch ps a c
theorem Rch.trans {ps : List (Nat × Nat)} {a b c : Nat} (h : Rch ps a b) (k : Rch ps b c) : Rch ps a c := by
  induction k with
  | refl => exact h
  | fwd _ hp ih => exact ih.fwd hp
  | bwd _ hp ih => exact ih.bwd hp
theorem Rch.symm {ps : List (Nat × Nat)} {a b : Nat} (h : Rch ps a b) : Rch ps b a := by
  induction h with
  | refl => exact .refl _
  | fwd _ hp ih => exact (Rch.bwd (.refl _) hp).trans ih
  | bwd _ hp ih => exact (Rch.fwd (.refl _) hp).trans ih
/-- Along a way from where P holds to where it does not there is a pair of which just one has it. -/
theorem Rch.cross {ps : List (Nat × Nat)} {P : Nat → Prop} {a b : Nat} (h : Rch ps a b) (ha : P a) : P b ∨ ∃ p, p ∈ ps ∧ ((P p.1 ∧ ¬ P p.2) ∨ (P p.2 ∧ ¬ P p.1)) := by
  induction h with
  | refl => exact Or.inl ha
  | @fwd b c _ hp ih =>
    rcases ih with h | h
    · by_cases hc : P c
      · exact Or.inl hc
      · exact Or.inr ⟨_, hp, Or.inl ⟨h, hc⟩⟩
    · exact Or.inr h
  | @bwd b c _ hp ih =>
    rcases ih with h | h
    · by_cases hc : P c
      · exact Or.inl hc
      · exact Or.inr ⟨_, hp, Or.inr ⟨h, hc⟩⟩
    · exact Or.inr h

/-- The least that reaches a place. -/
def Least (ps : List (Nat × Nat)) (n j m : Nat) : Prop := Rch ps m j ∧ m < n ∧ ∀ k, k < n → Rch ps k j → m ≤ k
theorem Least.uniq {ps : List (Nat × Nat)} {n j m m' : Nat} (h : Least ps n j m) (h' : Least ps n j m') : m = m' := Nat.le_antisymm (h.2.2 m' h'.2.1 h'.1) (h'.2.2 m h.2.1 h.1)

/-! Labels. -/
def lab1 (g : List Nat) (p : Nat × Nat) : List Nat := (g.set p.1 (min (g.getD p.1 0) (g.getD p.2 0))).set p.2 (min (g.getD p.1 0) (g.getD p.2 0))
def labR (ps : List (Nat × Nat)) (g : List Nat) : List Nat := ps.foldl lab1 g
def labN (ps : List (Nat × Nat)) : Nat → List Nat → List Nat
  | 0, g => g
  | k + 1, g => labR ps (labN ps k g)

theorem lab1_len (g : List Nat) (p : Nat × Nat) : (lab1 g p).length = g.length := by simp [lab1]
theorem lab1_get (g : List Nat) (p : Nat × Nat) (h1 : p.1 < g.length) (h2 : p.2 < g.length) (j : Nat) : (lab1 g p).getD j 0 = if j = p.1 ∨ j = p.2 then min (g.getD p.1 0) (g.getD p.2 0) else g.getD j 0 := by
  simp only [lab1, List.getD_eq_getElem?_getD, List.getElem?_set, List.length_set]
  by_cases e2 : p.2 = j
  · subst e2; simp [h2]
  · by_cases e1 : p.1 = j
    · subst e1; simp [h1, e2]
    · simp [e1, e2, Ne.symm e1, Ne.symm e2]

/-- What always holds of labels: each reaches its place, and is not past it. -/
structure LabOk (ps : List (Nat × Nat)) (n : Nat) (g : List Nat) : Prop where
  len : g.length = n
  own : ∀ j, j < n → Rch ps (g.getD j 0) j ∧ g.getD j 0 ≤ j
theorem LabOk.one {ps : List (Nat × Nat)} {n : Nat} {g : List Nat} (h : LabOk ps n g) {p : Nat × Nat} (hp : p ∈ ps) (h1 : p.1 < n) (h2 : p.2 < n) : LabOk ps n (lab1 g p) := by
  refine ⟨by rw [lab1_len]; exact h.len, fun j hj => ?_⟩
  rw [lab1_get g p (by rw [h.len]; exact h1) (by rw [h.len]; exact h2)]
  have o1 := h.own p.1 h1
  have o2 := h.own p.2 h2
  have hp12 : Rch ps p.1 p.2 := (Rch.refl _).fwd hp
  have r1 : Rch ps (g.getD p.1 0) p.2 := o1.1.trans hp12
  have r2 : Rch ps (g.getD p.2 0) p.1 := o2.1.trans hp12.symm
  by_cases e : j = p.1 ∨ j = p.2
  · rw [if_pos e]
    rcases Nat.le_total (g.getD p.1 0) (g.getD p.2 0) with hle | hle
    · rw [Nat.min_eq_left hle]
      rcases e with rfl | rfl
      · exact o1
      · exact ⟨r1, Nat.le_trans hle o2.2⟩
    · rw [Nat.min_eq_right hle]
      rcases e with rfl | rfl
      · exact ⟨r2, Nat.le_trans hle o1.2⟩
      · exact o2
  · rw [if_neg e]; exact h.own j hj

section
variable {ps : List (Nat × Nat)} {n : Nat} {t : Nat → Nat}
theorem least_pair (ht : ∀ j, j < n → Least ps n j (t j)) {p : Nat × Nat} (hp : p ∈ ps) (h1 : p.1 < n) (h2 : p.2 < n) : t p.1 = t p.2 := by
  have hp12 : Rch ps p.1 p.2 := (Rch.refl _).fwd hp
  have l1 := ht p.1 h1
  exact Least.uniq (j := p.2) ⟨l1.1.trans hp12, l1.2.1, fun k hk hr => l1.2.2 k hk (hr.trans hp12.symm)⟩ (ht p.2 h2)
theorem lab1_done (ht : ∀ j, j < n → Least ps n j (t j)) {g : List Nat} (h : LabOk ps n g) {p : Nat × Nat} (hp : p ∈ ps) (h1 : p.1 < n) (h2 : p.2 < n) {j : Nat} (hj : j < n)
    (hd : g.getD j 0 = t j ∨ ((j = p.1 ∨ j = p.2) ∧ (g.getD p.1 0 = t p.1 ∨ g.getD p.2 0 = t p.2))) : (lab1 g p).getD j 0 = t j := by
  rw [lab1_get g p (by rw [h.len]; exact h1) (by rw [h.len]; exact h2)]
  have e12 := least_pair ht hp h1 h2
  have o1 := h.own p.1 h1
  have o2 := h.own p.2 h2
  have g1 := (ht p.1 h1).2.2 _ (by omega) o1.1
  have g2 := (ht p.2 h2).2.2 _ (by omega) o2.1
  by_cases e : j = p.1 ∨ j = p.2
  · rw [if_pos e]
    have hj1 : t j = t p.1 := by rcases e with rfl | rfl <;> omega
    have hd' : g.getD p.1 0 = t p.1 ∨ g.getD p.2 0 = t p.2 := by
      rcases hd with hd | hd
      · rcases e with rfl | rfl
        · exact Or.inl hd
        · exact Or.inr hd
      · exact hd.2
    rcases hd' with hd' | hd' <;> omega
  · rw [if_neg e]
    rcases hd with hd | hd
    · exact hd
    · exact absurd hd.1 e
theorem fold_done (ht : ∀ j, j < n → Least ps n j (t j)) (hps : ∀ p ∈ ps, p.1 < n ∧ p.2 < n) : ∀ (qs : List (Nat × Nat)) (g : List Nat), (∀ p ∈ qs, p ∈ ps) → LabOk ps n g →
    LabOk ps n (qs.foldl lab1 g) ∧ (∀ j, j < n → g.getD j 0 = t j → (qs.foldl lab1 g).getD j 0 = t j) ∧
    (∀ p ∈ qs, g.getD p.1 0 = t p.1 ∨ g.getD p.2 0 = t p.2 → (qs.foldl lab1 g).getD p.1 0 = t p.1 ∧ (qs.foldl lab1 g).getD p.2 0 = t p.2)
  | [], g, _, h => ⟨h, fun _ _ h => h, fun p hp => by simp at hp⟩
  | q :: qs, g, hq, h => by
    have hq0 := hq q List.mem_cons_self
    obtain ⟨b1, b2⟩ := hps q hq0
    obtain ⟨k1, k2, k3⟩ := fold_done ht hps qs (lab1 g q) (fun p hp => hq p (List.mem_cons_of_mem _ hp)) (h.one hq0 b1 b2)
    rw [List.foldl_cons]
    refine ⟨k1, fun j hj hd => k2 j hj (lab1_done ht h hq0 b1 b2 hj (Or.inl hd)), fun p hp hd => ?_⟩
    rcases List.mem_cons.1 hp with rfl | hp
    · exact ⟨k2 _ b1 (lab1_done ht h hq0 b1 b2 b1 (Or.inr ⟨Or.inl rfl, hd⟩)), k2 _ b2 (lab1_done ht h hq0 b1 b2 b2 (Or.inr ⟨Or.inr rfl, hd⟩))⟩
    · obtain ⟨c1, c2⟩ := hps p (hq p (List.mem_cons_of_mem _ hp))
      refine k3 p hp ?_
      rcases hd with hd | hd
      · exact Or.inl (lab1_done ht h hq0 b1 b2 c1 (Or.inl hd))
      · exact Or.inr (lab1_done ht h hq0 b1 b2 c2 (Or.inl hd))
theorem labN_ok (ht : ∀ j, j < n → Least ps n j (t j)) (hps : ∀ p ∈ ps, p.1 < n ∧ p.2 < n) {g : List Nat} (h : LabOk ps n g) : ∀ k, LabOk ps n (labN ps k g)
  | 0 => h
  | k + 1 => (fold_done ht hps ps _ (fun _ h => h) (labN_ok ht hps h k)).1
theorem labN_cnt (ht : ∀ j, j < n → Least ps n j (t j)) (hps : ∀ p ∈ ps, p.1 < n ∧ p.2 < n) {g : List Nat} (h : LabOk ps n g) : ∀ k, (∀ j, j < n → (labN ps k g).getD j 0 = t j) ∨ k ≤ cntD (fun j => (labN ps k g).getD j 0 = t j) n
  | 0 => Or.inr (Nat.zero_le _)
  | k + 1 => by
    have hk := labN_ok ht hps h k
    obtain ⟨r1, r2, r3⟩ := fold_done ht hps ps (labN ps k g) (fun _ h => h) hk
    by_cases hall : ∀ j, j < n → (labN ps k g).getD j 0 = t j
    · exact Or.inl (fun j hj => r2 j hj (hall j hj))
    · have ih := (labN_cnt ht hps h k).resolve_left hall
      refine Or.inr ?_
      have hex : ∃ j, j < n ∧ ¬ (labN ps k g).getD j 0 = t j := by
        refine Classical.byContradiction (fun hne => hall (fun j hj => ?_))
        refine Classical.byContradiction (fun hd => hne ⟨j, hj, hd⟩)
      obtain ⟨j, hj, hd⟩ := hex
      have lj := ht j hj
      have ltt := ht (t j) lj.2.1
      have ett : t (t j) = t j := Least.uniq (j := j) ⟨ltt.1.trans lj.1, ltt.2.1, fun x hx hr => ltt.2.2 x hx (hr.trans lj.1.symm)⟩ lj
      have hdt : (labN ps k g).getD (t j) 0 = t (t j) := by
        have o := hk.own (t j) lj.2.1
        have hb := lj.2.1
        have := ltt.2.2 _ (by omega) o.1
        omega
      have hlt : cntD (fun j => (labN ps k g).getD j 0 = t j) n < cntD (fun j => (labN ps (k + 1) g).getD j 0 = t j) n := by
        refine cntD_lt n (fun i hi hp => r2 i hi hp) ?_
        rcases Rch.cross (P := fun i => (labN ps k g).getD i 0 = t i) lj.1 hdt with hb | ⟨p, hp, hb | hb⟩
        · exact absurd hb hd
        · exact ⟨p.2, (hps p hp).2, hb.2, (r3 p hp (Or.inl hb.1)).2⟩
        · exact ⟨p.1, (hps p hp).1, hb.2, (r3 p hp (Or.inr hb.1)).1⟩
      omega
/-- After n rounds each label is the least. -/
theorem labN_all (ht : ∀ j, j < n → Least ps n j (t j)) (hps : ∀ p ∈ ps, p.1 < n ∧ p.2 < n) {g : List Nat} (h : LabOk ps n g) : ∀ j, j < n → (labN ps n g).getD j 0 = t j := by
  rcases labN_cnt ht hps h n with h1 | h1
  · exact h1
  · exact cntD_full n h1
end

/-! The search. -/
def ldOf (ps : List (Nat × Nat)) (a : Nat) : List Nat := ps.flatMap fun p => (if p.1 = a then [p.2] else []) ++ (if p.2 = a then [p.1] else [])
theorem ldOf_mem {ps : List (Nat × Nat)} {a x : Nat} : x ∈ ldOf ps a ↔ (a, x) ∈ ps ∨ (x, a) ∈ ps := by
  unfold ldOf
  rw [List.mem_flatMap]
  constructor
  · rintro ⟨p, hp, hx⟩
    obtain ⟨p1, p2⟩ := p
    rcases List.mem_append.1 hx with hx | hx
    · split at hx
      · next e => simp at hx e; subst hx e; exact Or.inl hp
      · simp at hx
    · split at hx
      · next e => simp at hx e; subst hx e; exact Or.inr hp
      · simp at hx
  · rintro (h | h)
    · exact ⟨_, h, by simp⟩
    · exact ⟨_, h, by simp⟩
def vis (ps : List (Nat × Nat)) : Nat → List Int → Nat → Int → List Int
  | 0, out, _, _ => out
  | f + 1, out, a, l => if 0 ≤ out.getD a (-1) then out else (ldOf ps a).foldl (fun o x => vis ps f o x l) (out.set a l)
def negs (n : Nat) (out : List Int) : Nat := cntD (fun j => out.getD j (-1) < 0) n

structure VisOk (ps : List (Nat × Nat)) (out out' : List Int) (a : Nat) (l : Int) : Prop where
  len : out'.length = out.length
  keep : ∀ j, 0 ≤ out.getD j (-1) → out'.getD j (-1) = out.getD j (-1)
  new : ∀ j, out.getD j (-1) < 0 → 0 ≤ out'.getD j (-1) → out'.getD j (-1) = l ∧ Rch ps a j
  clo : ∀ j, out.getD j (-1) < 0 → 0 ≤ out'.getD j (-1) → ∀ x ∈ ldOf ps j, 0 ≤ out'.getD x (-1)
theorem VisOk.refl {ps : List (Nat × Nat)} {out : List Int} {a : Nat} {l : Int} : VisOk ps out out a l := ⟨rfl, fun _ _ => rfl, fun j h1 h2 => by omega, fun j h1 h2 => by omega⟩
theorem VisOk.trans {ps : List (Nat × Nat)} {o1 o2 o3 : List Int} {a x : Nat} {l : Int} (h : VisOk ps o1 o2 a l) (k : VisOk ps o2 o3 x l) (hax : Rch ps a x) : VisOk ps o1 o3 a l := by
  refine ⟨k.len.trans h.len, fun j hj => (k.keep j (by rw [h.keep j hj]; exact hj)).trans (h.keep j hj), fun j h1 h2 => ?_, fun j h1 h2 y hy => ?_⟩
  · by_cases e : 0 ≤ o2.getD j (-1)
    · rw [k.keep j e]; exact h.new j h1 e
    · obtain ⟨q1, q2⟩ := k.new j (by omega) h2
      exact ⟨q1, hax.trans q2⟩
  · by_cases e : 0 ≤ o2.getD j (-1)
    · have := h.clo j h1 e y hy
      rw [k.keep y this]; exact this
    · exact k.clo j (by omega) h2 y hy
theorem VisOk.negs {ps : List (Nat × Nat)} {out out' : List Int} {a : Nat} {l : Int} (h : VisOk ps out out' a l) (n : Nat) : negs n out' ≤ negs n out := by
  refine cntD_mono n (fun j _ hj => ?_)
  by_cases e : 0 ≤ out.getD j (-1)
  · rw [h.keep j e] at hj; omega
  · show out.getD j (-1) < 0
    omega
theorem getD_setI (out : List Int) (a j : Nat) (l : Int) (ha : a < out.length) : (out.set a l).getD j (-1) = if j = a then l else out.getD j (-1) := by
  simp only [List.getD_eq_getElem?_getD, List.getElem?_set]
  by_cases e : a = j
  · subst e; simp [ha]
  · simp [e, Ne.symm e]
theorem vis_ok (ps : List (Nat × Nat)) (n : Nat) (hps : ∀ p ∈ ps, p.1 < n ∧ p.2 < n) (l : Int) (hl : 0 ≤ l) : ∀ (f : Nat) (out : List Int) (a : Nat), out.length = n → a < n → negs n out < f → VisOk ps out (vis ps f out a l) a l ∧ 0 ≤ (vis ps f out a l).getD a (-1)
  | 0, _, _, _, _, h => by omega
  | f + 1, out, a, hlen, ha, hf => by
    unfold vis
    by_cases h0 : 0 ≤ out.getD a (-1)
    · rw [if_pos h0]; exact ⟨.refl, h0⟩
    · rw [if_neg h0]
      have hset := fun j => getD_setI out a j l (by omega)
      have hneg : negs n (out.set a l) < negs n out := by
        refine cntD_lt n (fun j _ hj => ?_) ⟨a, ha, ?_, ?_⟩
        · by_cases e : j = a
          · rw [e]; omega
          · rw [hset, if_neg e] at hj; exact hj
        · rw [hset, if_pos rfl]; omega
        · omega
      have fold : ∀ (xs : List Nat) (o : List Int), (∀ x ∈ xs, x < n ∧ Rch ps a x) → o.length = n → negs n o < f →
          VisOk ps o (xs.foldl (fun o x => vis ps f o x l) o) a l ∧ ∀ x ∈ xs, 0 ≤ (xs.foldl (fun o x => vis ps f o x l) o).getD x (-1) := by
        intro xs
        induction xs with
        | nil => intro o _ _ _; exact ⟨.refl, fun x hx => by simp at hx⟩
        | cons x xs ih =>
          intro o hx ho hn
          obtain ⟨x1, x2⟩ := hx x List.mem_cons_self
          obtain ⟨k1, k2⟩ := vis_ok ps n hps l hl f o x ho x1 hn
          obtain ⟨m1, m2⟩ := ih (vis ps f o x l) (fun y hy => hx y (List.mem_cons_of_mem _ hy)) (k1.len.trans ho) (Nat.lt_of_le_of_lt (k1.negs n) hn)
          rw [List.foldl_cons]
          have k1' : VisOk ps o (vis ps f o x l) a l := ⟨k1.len, k1.keep, fun j h1 h2 => ⟨(k1.new j h1 h2).1, x2.trans (k1.new j h1 h2).2⟩, k1.clo⟩
          refine ⟨k1'.trans m1 (.refl _), fun y hy => ?_⟩
          rcases List.mem_cons.1 hy with rfl | hy
          · rw [m1.keep _ k2]; exact k2
          · exact m2 y hy
      obtain ⟨m1, m2⟩ := fold (ldOf ps a) (out.set a l) (fun x hx => by
        rcases ldOf_mem.1 hx with h | h
        · exact ⟨(hps _ h).2, (Rch.refl _).fwd h⟩
        · exact ⟨(hps _ h).1, (Rch.refl _).bwd h⟩) (by simp; omega) (by omega)
      have hat : ((ldOf ps a).foldl (fun o x => vis ps f o x l) (out.set a l)).getD a (-1) = l := by
        rw [m1.keep a (by rw [hset, if_pos rfl]; exact hl), hset, if_pos rfl]
      refine ⟨⟨m1.len.trans (by simp), fun j hj => ?_, fun j h1 h2 => ?_, fun j h1 h2 x hx => ?_⟩, by rw [hat]; exact hl⟩
      · have hja : j ≠ a := fun e => by rw [e] at hj; exact h0 hj
        rw [m1.keep j (by rw [hset, if_neg hja]; exact hj), hset, if_neg hja]
      · by_cases e : j = a
        · rw [e]; exact ⟨hat, .refl _⟩
        · exact m1.new j (by rw [hset, if_neg e]; exact h1) h2
      · by_cases e : j = a
        · rw [e] at hx; exact m2 x hx
        · exact m1.clo j (by rw [hset, if_neg e]; exact h1) h2 x hx
def grp (ps : List (Nat × Nat)) (n : Nat) : Nat → List Int
  | 0 => List.replicate n (-1)
  | i + 1 => vis ps (n + 1) (grp ps n i) i i

/-- Where all that is known is closed, what is reached is known. -/
theorem closed_rch {ps : List (Nat × Nat)} {out : List Int} (h : ∀ j, 0 ≤ out.getD j (-1) → ∀ x ∈ ldOf ps j, 0 ≤ out.getD x (-1)) {a b : Nat} (hr : Rch ps a b) (ha : 0 ≤ out.getD a (-1)) : 0 ≤ out.getD b (-1) := by
  induction hr with
  | refl => exact ha
  | fwd _ hp ih => exact h _ ih _ (ldOf_mem.2 (Or.inl hp))
  | bwd _ hp ih => exact h _ ih _ (ldOf_mem.2 (Or.inr hp))
structure GrpOk (ps : List (Nat × Nat)) (n i : Nat) (out : List Int) : Prop where
  len : out.length = n
  upto : ∀ j, j < i → 0 ≤ out.getD j (-1)
  clo : ∀ j, 0 ≤ out.getD j (-1) → ∀ x ∈ ldOf ps j, 0 ≤ out.getD x (-1)
  val : ∀ j, 0 ≤ out.getD j (-1) → ∃ m : Nat, out.getD j (-1) = m ∧ Least ps n j m
theorem grp_ok (ps : List (Nat × Nat)) (n : Nat) (hps : ∀ p ∈ ps, p.1 < n ∧ p.2 < n) : ∀ i, i ≤ n → GrpOk ps n i (grp ps n i)
  | 0, _ => by
    have h : ∀ j, (List.replicate n (-1 : Int)).getD j (-1) = -1 := fun j => by
      simp only [List.getD_eq_getElem?_getD, List.getElem?_replicate]
      split <;> rfl
    refine ⟨by simp [grp], fun j hj => by omega, fun j hj => ?_, fun j hj => ?_⟩
    · simp only [grp] at hj; rw [h j] at hj; omega
    · simp only [grp] at hj; rw [h j] at hj; omega
  | i + 1, hi => by
    have ih := grp_ok ps n hps i (by omega)
    obtain ⟨v1, v2⟩ := vis_ok ps n hps i (by omega) (n + 1) (grp ps n i) i ih.len (by omega) (Nat.lt_succ_of_le (cntD_le _ _))
    simp only [grp]
    refine ⟨v1.len.trans ih.len, fun j hj => ?_, fun j hj x hx => ?_, fun j hj => ?_⟩
    · by_cases e : j = i
      · rw [e]; exact v2
      · have := ih.upto j (by omega)
        rw [v1.keep j this]; exact this
    · by_cases e : 0 ≤ (grp ps n i).getD j (-1)
      · have := ih.clo j e x hx
        rw [v1.keep x this]; exact this
      · exact v1.clo j (by omega) hj x hx
    · by_cases e : 0 ≤ (grp ps n i).getD j (-1)
      · rw [v1.keep j e]; exact ih.val j e
      · obtain ⟨q1, q2⟩ := v1.new j (by omega) hj
        refine ⟨i, q1, q2, by omega, fun k hk hr => ?_⟩
        refine Classical.byContradiction (fun hlt => e ?_)
        exact closed_rch ih.clo hr (ih.upto k (by omega))
/-- What the search gives is what the labels come to. -/
theorem grp_lab (ps : List (Nat × Nat)) (n : Nat) (hps : ∀ p ∈ ps, p.1 < n ∧ p.2 < n) : grp ps n n = (labN ps n (List.range n)).map fun m : Nat => (m : Int) := by
  have g := grp_ok ps n hps n (Nat.le_refl _)
  have hv := fun j (hj : j < n) => g.val j (g.upto j hj)
  have hl0 : LabOk ps n (List.range n) := ⟨List.length_range, fun j hj => by
    have : (List.range n).getD j 0 = j := by simp [List.getD_eq_getElem?_getD, hj]
    rw [this]; exact ⟨.refl _, Nat.le_refl _⟩⟩
  have ht : ∀ j, j < n → Least ps n j ((grp ps n n).getD j (-1)).toNat := fun j hj => by
    obtain ⟨m, h1, h2⟩ := hv j hj
    rw [h1]; exact h2
  have hlab := labN_all ht hps hl0
  have hlen := (labN_ok ht hps hl0 n).len
  apply List.ext_getElem?
  intro j
  by_cases hj : j < n
  · obtain ⟨m, h1, h2⟩ := hv j hj
    have h3 := hlab j hj
    rw [h1] at h3
    have e1 : (grp ps n n)[j]? = some (m : Int) := by
      rw [List.getD_eq_getElem?_getD, List.getElem?_eq_getElem (by rw [g.len]; exact hj)] at h1
      rw [List.getElem?_eq_getElem (by rw [g.len]; exact hj)]
      simpa using h1
    have e2 : (labN ps n (List.range n))[j]? = some m := by
      rw [List.getD_eq_getElem?_getD, List.getElem?_eq_getElem (by rw [hlen]; exact hj)] at h3
      rw [List.getElem?_eq_getElem (by rw [hlen]; exact hj)]
      simpa using h3
    rw [e1, List.getElem?_map, e2]
    rfl
  · rw [List.getElem?_eq_none (by rw [g.len]; omega), List.getElem?_eq_none (by rw [List.length_map, hlen]; omega)]

end Go.Proofs.Ytclpkmplifcfjaa
