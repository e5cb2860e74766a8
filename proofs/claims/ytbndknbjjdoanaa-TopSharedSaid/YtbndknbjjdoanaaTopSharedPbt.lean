/-
  What each call of the pool leaves, in one form: a string more, a string turned, or nothing. No conditions but bounds.
-/
import Derived.Test.YtbndknbjjdoanaaTopSharedPbs
namespace Go.Proofs.Ytbndknbjjdoanaa
open Go.RowKit
set_option linter.unusedVariables false

/-- The pool after a call: where it lies now, its state. -/
structure Went (h bp : Nat) (P : PoolSt) (Z : Nat → Prop) (w : World) (P' : PoolSt) (Z' : Nat → Prop) (w' : World) : Prop where
  sp : SP w' Z' h bp P' P'.bl.length
  nx : Nxt Z Z' w w'
  lb : P'.lastB ≤ P.lastB + 2000
  ls : P'.lastS ≤ P.lastS + 1
/-- All strings as they were. -/
def Kept (h bp : Nat) (P : PoolSt) (Z : Nat → Prop) (w w' : World) : Prop := ∃ P' Z', Went h bp P Z w P' Z' w' ∧ P'.st.map Prod.fst = P.st.map Prod.fst ∧ ∀ s, P'.con s = P.con s
/-- A string more. -/
def More (h bp : Nat) (P : PoolSt) (Z : Nat → Prop) (xs : List Int) (w w' : World) : Prop := ∃ P' Z', Went h bp P Z w P' Z' w' ∧ P'.st.map Prod.fst = P.st.map Prod.fst ++ [P.lastS + 1] ∧ ∀ s, P'.con s = if ((P.lastS + 1 : Nat) : Int) = s then some xs else P.con s
/-- A string turned. -/
def Turned (h bp : Nat) (P : PoolSt) (Z : Nat → Prop) (n : Nat) (xs : List Int) (w w' : World) : Prop := ∃ P' Z', Went h bp P Z w P' Z' w' ∧ P'.st.map Prod.fst = P.st.map Prod.fst ∧ ∀ s, P'.con s = if (n : Int) = s then some xs else P.con s
def NewOut (h bp : Nat) (P : PoolSt) (Z : Nat → Prop) (xs : List Int) (w : World) (e : Ending) (w' : World) : Prop :=
  (∃ E : Int, E ≠ 0 ∧ e = .returned (.tuple #[.int .i64 0, .int .i64 E]) ∧ Kept h bp P Z w w') ∨ (e = .returned (.tuple #[.int .i64 ((P.lastS + 1 : Nat) : Int), .int .i64 0]) ∧ More h bp P Z xs w w')
def TurnOut (h bp : Nat) (P : PoolSt) (Z : Nat → Prop) (n : Nat) (xs : List Int) (w : World) (e : Ending) (w' : World) : Prop :=
  (∃ E : Int, E ≠ 0 ∧ e = .returned (.int .i64 E) ∧ Kept h bp P Z w w') ∨ (e = .returned (.int .i64 0) ∧ Turned h bp P Z n xs w w')

theorem Kept.same {h bp : Nat} {P : PoolSt} {Z Z' : Nat → Prop} {w w' : World} (s : SP w' Z' h bp P P.bl.length) (nx : Nxt Z Z' w w') : Kept h bp P Z w w' := ⟨P, Z', ⟨s, nx, by omega, by omega⟩, rfl, fun _ => rfl⟩
theorem Stays.kept {h bp : Nat} {P : PoolSt} {Z : Nat → Prop} {w w' : World} (s : Stays h bp P Z P.bl.length w w') : Kept h bp P Z w w' := Kept.same s.1 (Nxt.of_below s.2)
theorem add_bl (P : PoolSt) (o : Option (Nat × Nat × Nat)) (l : List Pt) : (P.add o l).bl = P.bl := rfl
theorem add_keys (P : PoolSt) (o : Option (Nat × Nat × Nat)) (l : List Pt) : (P.add o l).st.map Prod.fst = P.st.map Prod.fst ++ [P.lastS + 1] := by
  show (P.st ++ [(P.lastS + 1, o, l)]).map Prod.fst = _
  rw [List.map_append]
  rfl
theorem setS_keys (P : PoolSt) (s : Nat) (o : Option (Nat × Nat × Nat)) (l : List Pt) : (P.setS s o l).st.map Prod.fst = P.st.map Prod.fst := putS_keys _ _ _ _
theorem setS_bl (P : PoolSt) (s : Nat) (o : Option (Nat × Nat × Nat)) (l : List Pt) : (P.setS s o l).bl = P.bl := rfl
theorem tkE_few {P : PoolSt} {n many : Nat} (h : tkE P n many = 0) : P.bl.length + many ≤ 2000 := by
  unfold tkE at h
  split at h
  · cases h
  · omega

theorem MkPost.out {h bp : Nat} {P : PoolSt} {os : List Int} {Z : Nat → Prop} {w : World} {e : Ending} {w' : World} (k : PoolOk P) (hp : MkPost h bp P os Z w e w') : NewOut h bp P Z os w e w' := by
  rcases hp with ⟨h1, rfl, Z', s, nx⟩ | ⟨h1, rfl, bks, o, Z', hbl, hf, s, nx⟩
  · exact Or.inl ⟨_, h1, rfl, Kept.same s nx⟩
  · refine Or.inr ⟨rfl, _, Z', ⟨?_, nx, ?_, ?_⟩, ?_, fun s => con_make k hf hbl o s⟩
    · rw [add_bl, growAll_bl]
      exact s
    · show (P.growAll bks).lastB ≤ _
      rw [growAll_lastB, hbl]
      have h2 : tkE P P.bl.length (manyP P.size os.length) = 0 := by
        unfold mkE at h1
        split at h1
        · cases h1
        · exact h1
      have := tkE_few h2
      omega
    · show (P.growAll bks).lastS + 1 ≤ _
      rw [growAll_lastS]
      exact Nat.le_refl _
    · rw [add_keys, growAll_st, growAll_lastS]
theorem ShPost.out {h bp : Nat} {P : PoolSt} {l : List Pt} {Z : Nat → Prop} {w : World} {e : Ending} {w' : World} (k : PoolOk P) (hpt : PtsOf P l) (hok : ∀ x ∈ l, x.ok P.oct) (hp : ShPost h bp P l Z w e w') : NewOut h bp P Z (octP P.oct l) w e w' := by
  rcases hp with ⟨h1, rfl, Z', s, nx⟩ | ⟨h1, rfl, bks, o, Z', hsh, s, nx⟩
  · exact Or.inl ⟨_, h1, rfl, Kept.same s nx⟩
  · refine Or.inr ⟨rfl, _, Z', ⟨?_, nx, ?_, ?_⟩, ?_, fun s => con_share k hpt hok hsh o s⟩
    · rw [add_bl, growAll_bl, hsh.1]
      exact s
    · show (P.growAll bks).lastB ≤ _
      rw [growAll_lastB, hsh.1]
      have h2 : tkE P P.bl.length (pinsN P l) = 0 := by
        unfold shE at h1
        split at h1
        · cases h1
        · exact h1
      have := tkE_few h2
      omega
    · show (P.growAll bks).lastS + 1 ≤ _
      rw [growAll_lastS]
      exact Nat.le_refl _
    · rw [add_keys, growAll_st, growAll_lastS]
/-- A string and its parts. -/
theorem PoolOk.str {P : PoolSt} (k : PoolOk P) {s : Int} {q : Option (Nat × Nat × Nat) × List Pt} (h : lookN P.st s = some q) : PtsOf P q.2 ∧ (∀ x ∈ q.2, x.ok P.oct) ∧ (octP P.oct q.2).length = lenP q.2 ∧ P.con s = some (octP P.oct q.2) ∧ s = (s.toNat : Int) := by
  obtain ⟨n, hn, hm⟩ := lookN_mem h
  exact ⟨k.pts _ hm, k.ok _ hm, octP_len (k.ok _ hm), con_of h, by omega⟩
theorem cut_ptsOf {P : PoolSt} {l : List Pt} (h : PtsOf P l) (f t : Int) (hok : ∀ x ∈ l, x.ok P.oct) : (∀ x ∈ cutP l f t, x.ok P.oct) ∧ octP P.oct (cutP l f t) = ((octP P.oct l).take t.toNat).drop f.toNat := ⟨fun x hx => (cutP_ok hok x hx).1, cutP_oct hok⟩
theorem SP.cutPts {w : World} {Z : Nat → Prop} {h bp : Nat} {P : PoolSt} {n : Nat} (s : SP w Z h bp P n) {l : List Pt} (hl : PtsOf P l) (f t : Int) : PtsOf P (cutP l f t) := by
  obtain ⟨mb, ms, D1, D2, F, G, b, p, hz⟩ := s
  exact PtsOf.cut p.pm hl f t

/-- Clone: of a string that is there; else refused. -/
theorem ClPost.out {h bp : Nat} {P : PoolSt} {s : Int} {Z : Nat → Prop} {w : World} {e : Ending} {w' : World} (k : PoolOk P) (hp : ClPost h bp P s Z w e w') : ∃ xs, ((∃ v z, e = .returned (.tuple #[v, .int .i64 z]) ∧ z = 0) → P.con s = some xs) ∧ NewOut h bp P Z xs w e w' := by
  unfold ClPost at hp
  cases hl : lookN P.st s with
  | none =>
    rw [hl] at hp
    exact ⟨[], fun ⟨v, z, he, hz⟩ => by rw [hp.1] at he; simp at he; omega, Or.inl ⟨13, by decide, hp.1, hp.2.kept⟩⟩
  | some q =>
    rw [hl] at hp
    obtain ⟨k1, k2, k3, k4, _⟩ := k.str hl
    exact ⟨octP P.oct q.2, fun _ => k4, hp.out k k1 k2⟩
theorem SlPost.out {h bp : Nat} {P : PoolSt} {s f t : Int} {Z : Nat → Prop} {w0 w : World} {e : Ending} {w' : World} (sp : SP w0 Z h bp P P.bl.length) (hp : SlPost h bp P s f t Z w e w') : ∃ xs ys, (e = .returned (.tuple #[.int .i64 ((P.lastS + 1 : Nat) : Int), .int .i64 0]) → P.con s = some xs ∧ 0 ≤ f ∧ f ≤ t ∧ t ≤ xs.length ∧ ys = (xs.take t.toNat).drop f.toNat) ∧ NewOut h bp P Z ys w e w' := by
  have k := sp.ok
  unfold SlPost at hp
  cases hl : lookN P.st s with
  | none =>
    rw [hl] at hp
    exact ⟨[], [], fun he => by rw [hp.1] at he; simp at he, Or.inl ⟨13, by decide, hp.1, hp.2.kept⟩⟩
  | some q =>
    rw [hl] at hp
    simp only at hp
    obtain ⟨k1, k2, k3, k4, _⟩ := k.str hl
    by_cases hb : btE (lenP q.2) f t = 0
    · rw [if_pos hb] at hp
      have hb' : 0 ≤ f ∧ f ≤ t ∧ t ≤ (lenP q.2 : Nat) := by
        unfold btE at hb
        split at hb
        · omega
        · cases hb
      obtain ⟨c1, c2⟩ := cut_ptsOf k1 f t k2
      exact ⟨octP P.oct q.2, octP P.oct (cutP q.2 f t), fun _ => ⟨k4, hb'.1, hb'.2.1, by rw [k3]; exact hb'.2.2, c2⟩, hp.out k (sp.cutPts k1 f t) c1⟩
    · rw [if_neg hb] at hp
      exact ⟨[], [], fun he => by rw [hp.1] at he; simp at he, Or.inl ⟨2, by decide, hp.1, hp.2.kept⟩⟩
theorem JnPost.out {h bp : Nat} {P : PoolSt} {s t : Int} {Z : Nat → Prop} {w : World} {e : Ending} {w' : World} (k : PoolOk P) (hp : JnPost h bp P s t Z w e w') : ∃ xs ys, (e = .returned (.tuple #[.int .i64 ((P.lastS + 1 : Nat) : Int), .int .i64 0]) → P.con s = some xs ∧ P.con t = some ys) ∧ NewOut h bp P Z (xs ++ ys) w e w' := by
  unfold JnPost at hp
  cases hl : lookN P.st s with
  | none =>
    rw [hl] at hp
    simp only at hp
    exact ⟨[], [], fun he => by rw [hp.1] at he; simp at he, Or.inl ⟨13, by decide, hp.1, hp.2.kept⟩⟩
  | some q =>
    rw [hl] at hp
    cases hl2 : lookN P.st t with
    | none =>
      rw [hl2] at hp
      simp only at hp
      exact ⟨[], [], fun he => by rw [hp.1] at he; simp at he, Or.inl ⟨13, by decide, hp.1, hp.2.kept⟩⟩
    | some r =>
      rw [hl2] at hp
      simp only at hp
      obtain ⟨k1, k2, k3, k4, _⟩ := k.str hl
      obtain ⟨j1, j2, j3, j4, _⟩ := k.str hl2
      refine ⟨octP P.oct q.2, octP P.oct r.2, fun _ => ⟨k4, j4⟩, ?_⟩
      rw [← octP_app]
      exact hp.out k (k1.app j1) (fun x hx => by
        rcases List.mem_append.1 hx with hx | hx
        · exact k2 x hx
        · exact j2 x hx)

/-- Drop. -/
theorem DrPost.out {h bp : Nat} {P : PoolSt} {s : Int} {Z : Nat → Prop} {w : World} {e : Ending} {w' : World} (hp : DrPost h bp P s Z w e w') :
    (∃ E : Int, E ≠ 0 ∧ e = .returned (.int .i64 E) ∧ Kept h bp P Z w w') ∨ (e = .returned (.int .i64 0) ∧ (P.con s).isSome ∧ ∃ P' Z', Went h bp P Z w P' Z' w' ∧ P'.st.map Prod.fst = (P.st.map Prod.fst).filter (fun k : Nat => decide (¬ (k : Int) = s)) ∧ ∀ x, P'.con x = if x = s then none else P.con x) := by
  unfold DrPost at hp
  cases hl : lookN P.st s with
  | none =>
    rw [hl] at hp
    exact Or.inl ⟨13, by decide, hp.1, hp.2.kept⟩
  | some q =>
    rw [hl] at hp
    obtain ⟨rfl, Z', sp, nx⟩ := hp
    refine Or.inr ⟨rfl, by rw [con_of hl]; rfl, _, Z', ⟨sp, nx, ?_, ?_⟩, ?_, fun x => by rw [con_swept, con_drop]⟩
    · show P.lastB ≤ _; omega
    · show P.lastS ≤ _; omega
    · show (P.st.filter _).map Prod.fst = _
      rw [List.filter_map]
      rfl
theorem PaPost.out {h bp : Nat} {P : PoolSt} {s : Int} {Z : Nat → Prop} {w : World} {e : Ending} {w' : World} (k : PoolOk P) (hp : PaPost h bp P s Z w e w') : (∃ v, e = .returned v) ∧ Kept h bp P Z w w' := by
  unfold PaPost at hp
  cases hl : lookN P.st s with
  | none =>
    rw [hl] at hp
    exact ⟨⟨_, hp.1⟩, hp.2.kept⟩
  | some q =>
    rw [hl] at hp
    obtain ⟨_, _, _, _, hs⟩ := k.str hl
    rcases hp with ⟨_, he, hst⟩ | ⟨_, _, he, Z', sp, nx⟩ | ⟨_, h0, he, bks, o, Z', hbl, hf, sp, nx⟩
    · exact ⟨⟨_, he⟩, hst.kept⟩
    · exact ⟨⟨_, he⟩, Kept.same sp nx⟩
    · refine ⟨⟨_, he⟩, _, Z', ⟨sp, nx, ?_, ?_⟩, ?_, fun x => con_pack k (by rw [← hs]; exact hl) hf hbl o x⟩
      · show (P.growAll bks).lastB ≤ _
        rw [growAll_lastB, hbl]
        have := tkE_few h0
        omega
      · show (P.growAll bks).lastS ≤ _
        rw [growAll_lastS]
        omega
      · show ((P.growAll bks).setS s.toNat o _).st.map Prod.fst = _
        rw [setS_keys, growAll_st]
theorem CuPost.out {h bp : Nat} {P : PoolSt} {s f t : Int} {Z : Nat → Prop} {w0 w : World} {e : Ending} {w' : World} (sp0 : SP w0 Z h bp P P.bl.length) (hp : CuPost h bp P s f t Z w e w') :
    (∃ E : Int, E ≠ 0 ∧ e = .returned (.int .i64 E) ∧ Kept h bp P Z w w') ∨ (e = .returned (.int .i64 0) ∧ ∃ xs, P.con s = some xs ∧ 0 ≤ f ∧ f ≤ t ∧ t ≤ xs.length ∧ s = (s.toNat : Int) ∧ Turned h bp P Z s.toNat (xs.take f.toNat ++ xs.drop t.toNat) w w') := by
  have k := sp0.ok
  unfold CuPost at hp
  cases hl : lookN P.st s with
  | none =>
    rw [hl] at hp
    exact Or.inl ⟨13, by decide, hp.1, hp.2.kept⟩
  | some q =>
    rw [hl] at hp
    simp only at hp
    obtain ⟨k1, k2, k3, k4, hs⟩ := k.str hl
    by_cases hb : btE (lenP q.2) f t = 0
    · rw [if_pos hb] at hp
      have hb' : 0 ≤ f ∧ f ≤ t ∧ t ≤ (lenP q.2 : Nat) := by
        unfold btE at hb
        split at hb
        · omega
        · cases hb
      have hk : ∀ {A : Prop}, A → P.con s = some (octP P.oct q.2) ∧ 0 ≤ f ∧ f ≤ t ∧ t ≤ (octP P.oct q.2).length ∧ s = (s.toNat : Int) ∧ A := fun a => ⟨k4, hb'.1, hb'.2.1, by rw [k3]; exact hb'.2.2, hs, a⟩
      by_cases hft : f = t
      · rw [if_pos hft] at hp
        refine Or.inr ⟨hp.1, octP P.oct q.2, hk ⟨P, Z, ⟨hp.2.1, Nxt.of_below hp.2.2, by omega, by omega⟩, rfl, fun x => ?_⟩⟩
        rw [← hft, List.take_append_drop]
        split
        · next e => rw [← e, ← hs]; exact k4
        · rfl
      · rw [if_neg hft] at hp
        by_cases h5 : 500 < (restP q.2 f t).length
        · rw [if_pos h5] at hp
          exact Or.inl ⟨4, by decide, hp.1, hp.2.kept⟩
        · rw [if_neg h5] at hp
          obtain ⟨rfl, o, Z', sp, nx⟩ := hp
          refine Or.inr ⟨rfl, octP P.oct q.2, hk ⟨_, Z', ⟨sp, nx, ?_, ?_⟩, ?_, fun x => con_cut k (by rw [← hs]; exact hl) hb' o x⟩⟩
          · show P.lastB ≤ _; omega
          · show P.lastS ≤ _; omega
          · show (P.setS s.toNat o _).st.map Prod.fst = _
            rw [setS_keys]
    · rw [if_neg hb] at hp
      exact Or.inl ⟨2, by decide, hp.1, hp.2.kept⟩
theorem splice_nilX {α : Type} (xs : List α) (f : Nat) : splice xs f [] = xs := by simp [splice]
theorem SetPost.out {h bp : Nat} {P : PoolSt} {s A : Int} {os : List Int} {Z : Nat → Prop} {w : World} {e : Ending} {w' : World} (k : PoolOk P) (hp : SetPost h bp P s A os Z w e w') :
    (∃ E : Int, E ≠ 0 ∧ e = .returned (.int .i64 E) ∧ Kept h bp P Z w w') ∨ (e = .returned (.int .i64 0) ∧ ∃ xs, P.con s = some xs ∧ 0 ≤ A ∧ A + os.length ≤ xs.length ∧ s = (s.toNat : Int) ∧ Turned h bp P Z s.toNat (splice xs A.toNat os) w w') := by
  unfold SetPost at hp
  cases hl : lookN P.st s with
  | none =>
    rw [hl] at hp
    exact Or.inl ⟨13, by decide, hp.1, hp.2.kept⟩
  | some q =>
    rw [hl] at hp
    simp only at hp
    obtain ⟨k1, k2, k3, k4, hs⟩ := k.str hl
    by_cases hb : 0 ≤ A ∧ A ≤ (lenP q.2 : Nat) ∧ (os.length : Int) ≤ (lenP q.2 : Nat) - A
    · rw [if_pos hb] at hp
      by_cases ht : tkE P P.bl.length (ownS P s.toNat (writtenP q.2 A (A + (os.length : Nat))) q.2.length).length ≠ 0
      · rw [if_pos ht] at hp
        obtain ⟨rfl, Z', sp, nx⟩ := hp
        exact Or.inl ⟨_, ht, rfl, Kept.same sp nx⟩
      · rw [if_neg ht] at hp
        obtain ⟨rfl, Q, m, o, Z', hI, sp, nx⟩ := hp
        have hq : lookN P.st (s.toNat : Int) = some q := by rw [← hs]; exact hl
        refine Or.inr ⟨rfl, octP P.oct q.2, k4, hb.1, by rw [k3]; omega, hs, _, Z', ⟨sp, nx, ?_, ?_⟩, ?_, fun x => ?_⟩
        · show Q.lastB ≤ _
          have h1 := hI.lb.1
          have h2 : q.2.length ≤ 2000 := by
            obtain ⟨n, hn, hm⟩ := lookN_mem hl
            obtain ⟨mb, ms, D1, D2, F, G, b, p, hz⟩ := sp
            have h5 := p.pm.few.2.2.1
            have h6 : (s.toNat, o, m) ∈ (Q.setS s.toNat o m).swept.st := by
              have h7 : lookN (Q.setS s.toNat o m).st (s.toNat : Int) = some (o, m) := by
                show lookN (putS Q.st s.toNat o m) _ = _
                rw [putS_look, if_pos rfl, hI.st, hq]
                rfl
              obtain ⟨n2, hn2, hm2⟩ := lookN_mem h7
              have : n2 = s.toNat := by omega
              rw [this] at hm2
              exact hm2
            have h8 := (h5 _ h6).1
            simp only at h8
            have h9 := hI.len
            omega
          omega
        · show Q.lastS ≤ _
          rw [hI.ls]
          omega
        · show (Q.setS s.toNat o m).st.map Prod.fst = _
          rw [setS_keys, hI.st]
        · rw [con_swept]
          exact con_SetI hI hq (by rw [splice_len _ _ _ (by rw [k3]; omega), k3]) x
    · rw [if_neg hb] at hp
      exact Or.inl ⟨2, by decide, hp.1, hp.2.kept⟩

theorem apB_pts {P : PoolSt} {l : List Pt} {os : List Int} {sp : Nat} (hs : sp = 0 ∨ ∃ l0 z y, Spare P l os sp l0 z y) {l' : List Pt} (h : PtsOf P l') : PtsOf (apB P l os sp) l' := by
  rcases hs with rfl | ⟨l0, z, y, hsp⟩
  · have e1 : apB P l os 0 = P := by unfold apB; rw [if_pos rfl]
    rw [e1]
    exact h
  · rw [hsp.apB]
    intro x hx
    obtain ⟨y', hy', x1, x2⟩ := h x hx
    show ∃ y', lookN (putB P.bl z.b _) _ = some y' ∧ _
    rw [putB_look]
    by_cases e : (z.b : Int) = (x.b : Int)
    · rw [if_pos e, hy']
      rw [← e, hsp.look] at hy'
      rw [← Option.some.inj hy'] at x2
      exact ⟨_, rfl, x1, by show x.t ≤ y.used + sp; omega⟩
    · rw [if_neg e]
      exact ⟨y', hy', x1, x2⟩
theorem spare_of {w : World} {Z : Nat → Prop} {h bp : Nat} {P : PoolSt} {n : Nat} (s : SP w Z h bp P n) {l : List Pt} (ho : PtsOf P l) (os : List Int) : spareP P l os.length = 0 ∨ ∃ l0 z y, Spare P l os (spareP P l os.length) l0 z y := by
  obtain ⟨mb, ms, D1, D2, F, G, b, p, hz⟩ := s
  rcases spare_ways os.length ho with ⟨_, h1⟩ | ⟨l0, z, y, hl, hy, h1, h2, ⟨_, h3⟩ | ⟨h3, h4⟩⟩
  · exact Or.inl h1
  · exact Or.inl h3
  · rcases Nat.eq_zero_or_pos (spareP P l os.length) with h5 | h5
    · exact Or.inl h5
    · refine Or.inr ⟨l0, z, y, hl, hy, h3, h5, ?_, ?_⟩
      · have := (p.pm.blkOf hy).2.2.2.2.2.2.1
        omega
      · omega
theorem ApPost.out {h bp : Nat} {P : PoolSt} {s : Int} {os : List Int} {Z : Nat → Prop} {w0 w : World} {e : Ending} {w' : World} (sp0 : SP w0 Z h bp P P.bl.length) (hp : ApPost h bp P s os Z w e w') :
    (∃ E : Int, E ≠ 0 ∧ e = .returned (.int .i64 E) ∧ Kept h bp P Z w w') ∨ (e = .returned (.int .i64 0) ∧ ∃ xs, P.con s = some xs ∧ xs.length + os.length ≤ 100000 ∧ s = (s.toNat : Int) ∧ Turned h bp P Z s.toNat (xs ++ os) w w') := by
  have k := sp0.ok
  unfold ApPost at hp
  cases hl : lookN P.st s with
  | none =>
    rw [hl] at hp
    exact Or.inl ⟨13, by decide, hp.1, hp.2.kept⟩
  | some q =>
    rw [hl] at hp
    simp only at hp
    obtain ⟨k1, k2, k3, k4, hs⟩ := k.str hl
    by_cases h1 : 100000 < os.length ∨ 100000 < lenP q.2 + os.length
    · rw [if_pos h1] at hp
      exact Or.inl ⟨4, by decide, hp.1, hp.2.kept⟩
    · rw [if_neg h1] at hp
      by_cases h2 : 500 < q.2.length + manyP P.size (os.length - spareP P q.2 os.length)
      · rw [if_pos h2] at hp
        exact Or.inl ⟨4, by decide, hp.1, hp.2.kept⟩
      · rw [if_neg h2] at hp
        by_cases h3 : tkE P P.bl.length (manyP P.size (os.length - spareP P q.2 os.length)) ≠ 0
        · rw [if_pos h3] at hp
          obtain ⟨rfl, Z', sp, nx⟩ := hp
          exact Or.inl ⟨_, h3, rfl, Kept.same sp nx⟩
        · rw [if_neg h3] at hp
          obtain ⟨rfl, bks, o, Z', hbl, hf, sp, nx⟩ := hp
          have hq : lookN P.st (s.toNat : Int) = some q := by rw [← hs]; exact hl
          have hsp := spare_of sp0 k1 os
          obtain ⟨f1, f2, f3, f4, f5, f6, f7, f8, f9, f10, f11⟩ : PtsOf (apB P q.2 os (spareP P q.2 os.length)) (apL q.2 (spareP P q.2 os.length)) ∧ octP (apB P q.2 os (spareP P q.2 os.length)).oct (apL q.2 (spareP P q.2 os.length)) = octP P.oct q.2 ++ os.take (spareP P q.2 os.length) ∧ (∀ l', PtsOf P l' → octP (apB P q.2 os (spareP P q.2 os.length)).oct l' = octP P.oct l') ∧ (apL q.2 (spareP P q.2 os.length)).length = q.2.length ∧ lenP (apL q.2 (spareP P q.2 os.length)) = lenP q.2 + (spareP P q.2 os.length) ∧
              (apB P q.2 os (spareP P q.2 os.length)).bl.length = P.bl.length ∧ (apB P q.2 os (spareP P q.2 os.length)).lastB = P.lastB ∧ (apB P q.2 os (spareP P q.2 os.length)).size = P.size ∧ (apB P q.2 os (spareP P q.2 os.length)).lastS = P.lastS ∧ (apB P q.2 os (spareP P q.2 os.length)).st = P.st ∧ (∀ p ∈ (apB P q.2 os (spareP P q.2 os.length)).bl, p.1 ≤ (apB P q.2 os (spareP P q.2 os.length)).lastB) := by
            obtain ⟨mb, ms, D1, D2, F, G, b, p, hz⟩ := sp0
            exact apB_facts p.pm k1 hsp
          refine Or.inr ⟨rfl, octP P.oct q.2, k4, by rw [k3]; omega, hs, _, Z', ⟨?_, nx, ?_, ?_⟩, ?_, fun x => con_append k hq f10 f7 f8 f11 f1 f2 f3 (fun r hr => apB_pts hsp (k.pts r hr)) hf hbl o x⟩
          · rw [setS_bl, growAll_bl, f6]
            exact sp
          · show ((apB P q.2 os _).growAll bks).lastB ≤ _
            rw [growAll_lastB, f7, hbl]
            have := tkE_few (Decidable.not_not.1 h3)
            omega
          · show ((apB P q.2 os _).growAll bks).lastS ≤ _
            rw [growAll_lastS, f9]
            omega
          · rw [setS_keys, growAll_st, f10]

end Go.Proofs.Ytbndknbjjdoanaa
