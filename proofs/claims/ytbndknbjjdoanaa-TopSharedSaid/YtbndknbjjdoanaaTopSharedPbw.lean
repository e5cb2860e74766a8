/-
  SharePacked: the walk. No conditions: every input.
-/
import Derived.Test.YtbndknbjjdoanaaTopSharedPbr
import Derived.Test.YtbndknbjjdoanaaTopSharedPab
import Derived.Test.YtbndknbjjdoanaaTopSharedPbh
import Derived.Test.YtbndknbjjdoanaaTopSharedPbo
namespace Go.Proofs.Ytbndknbjjdoanaa
open Go.RowKit
set_option linter.unusedVariables false

theorem ShPost.plain {h bp : Nat} {P : PoolSt} {l : List Pt} {Z : Nat → Prop} {w w' : World} {e : Ending} (hn : noPins P) (hf : P.bl.length ≤ 2000) (hp : ShPost h bp P l Z w e w') :
    ((P.st.length = 200 ∨ 500 < l.length ∨ 100000 < lenP l) ∧ e = .returned (.tuple #[.int .i64 0, .int .i64 4]) ∧ ∃ Z', SP w' Z' h bp P P.bl.length ∧ Nxt Z Z' w w') ∨
    (e = .returned (.tuple #[.int .i64 ((P.lastS + 1 : Nat) : Int), .int .i64 0]) ∧ ∃ o Z', SP w' Z' h bp (P.add o l) (P.add o l).bl.length ∧ Nxt Z Z' w w') := by
  have hE := shE_no hn hf l
  rcases hp with ⟨h1, h2, Z', h3, h4⟩ | ⟨h1, h2, bks, o, Z', h3, h4, h5⟩
  · left
    split at hE
    · next hc => exact ⟨hc, by rw [h2, hE], Z', h3, h4⟩
    · exact absurd hE h1
  · right
    have hz := hn.zero l
    have hb : bks = [] := by
      have := h3.1
      rw [hz] at this
      exact List.eq_nil_of_length_eq_zero this
    subst hb
    rw [shareL_none 0 (fun x _ => hn.at x), hz, Nat.add_zero] at h4
    exact ⟨h2, o, Z', h4, h5⟩

/-- The strings of the pool by their numbers, its octets. -/
structure PkF (P : PoolSt) (sz M lb ls : Nat) (st : List (Nat × Option (Nat × Nat × Nat) × List Pt)) : Prop where
  size : P.size = sz
  st : P.st = st
  bl : P.bl.length = M
  lb : P.lastB = lb
  ls : P.lastS = ls
  np : noPins P
theorem PkF.add {P : PoolSt} {sz M lb ls : Nat} {st : List (Nat × Option (Nat × Nat × Nat) × List Pt)} (h : PkF P sz M lb ls st) (o : Option (Nat × Nat × Nat)) (l : List Pt) : PkF (P.add o l) sz M lb (ls + 1) (st ++ [(ls + 1, o, l)]) :=
  ⟨h.size, by show P.st ++ [(P.lastS + 1, o, l)] = _; rw [h.st, h.ls], h.bl, h.lb, by show P.lastS + 1 = _; rw [h.ls], h.np⟩
theorem pk_made {sz : Nat} (hs : 1 ≤ sz ∧ sz ≤ 4096) {os : List Int} {bks : List Bk} (hb : bks.length = manyP sz os.length) (hf : Fills sz os bks) (o : Option (Nat × Nat × Nat)) :
    PkF (((newP sz).growAll bks).add o (fillPts 0 sz os bks.length)) sz bks.length bks.length 1 [(1, o, fillPts 0 sz os bks.length)] ∧ octP (((newP sz).growAll bks).add o (fillPts 0 sz os bks.length)).oct (fillPts 0 sz os bks.length) = os ∧ lenP (fillPts 0 sz os bks.length) = os.length := by
  have hn : ∀ p ∈ (newP sz).bl, p.1 ≤ (newP sz).lastB := fun p hp => by simp [newP] at hp
  have hge := manyP_ge (size := sz) (n := os.length) hs.1
  rw [← hb] at hge
  refine ⟨⟨growAll_size _ _, ?_, ?_, ?_, ?_, ?_⟩, ?_, ?_⟩
  · show ((newP sz).growAll bks).st ++ _ = _
    rw [growAll_st, growAll_lastS]
    rfl
  · show ((newP sz).growAll bks).bl.length = _
    rw [growAll_bl]
    show 0 + _ = _
    omega
  · show ((newP sz).growAll bks).lastB = _
    rw [growAll_lastB]
    show 0 + _ = _
    omega
  · show ((newP sz).growAll bks).lastS + 1 = _
    rw [growAll_lastS]
    rfl
  · exact growAll_pins (zs := os) (fun p hp => by simp [newP] at hp) hf.nopin
  · have h1 := Fills.oct (P := newP sz) hf hn bks.length (Nat.le_refl _)
    show octP ((newP sz).growAll bks).oct (fillPts (newP sz).lastB (newP sz).size os bks.length) = _
    rw [h1]
    exact List.take_of_length_le hge
  · rw [lenP_fill, Nat.min_eq_right hge]
/-- The last string alone, swept. -/
theorem pk_alone {P : PoolSt} {sz M lb : Nat} {o1 o2 o3 : Option (Nat × Nat × Nat)} {F C L : List Pt} (h : PkF P sz M lb 3 [(1, o1, F), (2, o2, C), (3, o3, L)]) :
    PkF ((P.drop 1).swept.drop 2).swept sz ((P.drop 1).swept.drop 2).swept.bl.length lb 3 [(3, o3, L)] ∧ ((P.drop 1).swept.drop 2).swept.bl.length ≤ M ∧ octP ((P.drop 1).swept.drop 2).swept.oct L = octP P.oct L ∧ lookN (P.drop 1).swept.st 2 = some (o2, C) ∧ ((P.drop 1).swept.drop 2).swept.swept.bl.length = ((P.drop 1).swept.drop 2).swept.bl.length := by
  have e1 : (P.drop 1).swept.st = [(2, o2, C), (3, o3, L)] := by
    show P.st.filter _ = _
    rw [h.st]
    simp
  have e2 : ((P.drop 1).swept.drop 2).swept.st = [(3, o3, L)] := by
    show (P.drop 1).swept.st.filter _ = _
    rw [e1]
    simp
  have l1 : (P.drop 1).swept.bl.length ≤ P.bl.length := List.length_filter_le _ _
  have l2 : ((P.drop 1).swept.drop 2).swept.bl.length ≤ (P.drop 1).swept.bl.length := List.length_filter_le _ _
  refine ⟨⟨h.size, e2, rfl, h.lb, h.ls, swept_pins (swept_pins h.np)⟩, by rw [← h.bl]; omega, ?_, by rw [e1]; rfl, ?_⟩
  · have a1 : octP ((P.drop 1).swept.drop 2).swept.oct L = octP ((P.drop 1).swept.drop 2).oct L := swept_oct (s := (3, o3, L)) (P := (P.drop 1).swept.drop 2) (by
      show _ ∈ (P.drop 1).swept.st.filter _
      rw [e1]; simp)
    have a2 : octP (P.drop 1).swept.oct L = octP (P.drop 1).oct L := swept_oct (s := (3, o3, L)) (P := P.drop 1) (by
      show _ ∈ P.st.filter _
      rw [h.st]; simp)
    exact a1.trans a2
  · show (List.filter _ (List.filter _ _)).length = (List.filter _ _).length
    rw [List.filter_filter]
    congr 1
    exact List.filter_congr (fun p _ => by
      show (PoolSt.keeps ((P.drop 1).swept.drop 2).swept (p.1 : Int) && _) = _
      have : PoolSt.keeps ((P.drop 1).swept.drop 2).swept (p.1 : Int) = ((P.drop 1).swept.drop 2).keeps (p.1 : Int) := rfl
      rw [this, Bool.and_self])
/-- What stands behind Pack. -/
theorem pk_packed {w : World} {Z : Nat → Prop} {h bp : Nat} {P : PoolSt} {sz M lb n : Nat} {o3 : Option (Nat × Nat × Nat)} {L : List Pt} (s : SP w Z h bp P n) (f : PkF P sz M lb 3 [(3, o3, L)]) (hsw : P.swept.bl.length = P.bl.length) (hp : PkS P 3 L) : P.bl.length = manyP sz (lenP L) := by
  obtain ⟨mb, ms, D1, D2, F, G, b, p, hz⟩ := s
  have hm : (3, o3, L) ∈ P.st := by rw [f.st]; simp
  have h1 := swept_count f.st p.pm.kb (p.pm.pt _ hm) (hp.nodup hm p.pm.sz.1)
  rw [← hsw, h1, hp.1, f.size]
theorem pk_pack {w : World} {Z : Nat → Prop} {h bp : Nat} {P : PoolSt} {sz M lb n : Nat} {o3 o4 : Option (Nat × Nat × Nat)} {L : List Pt} (s : SP w Z h bp P n) (f : PkF P sz M lb 3 [(3, o3, L)]) {bks : List Bk} {os : List Int} (hb : bks.length = manyP sz os.length) (hf : Fills sz os bks) :
    ((P.growAll bks).setS 3 o4 (fillPts P.lastB sz os bks.length)).swept.bl.length = manyP sz os.length ∧ octP ((P.growAll bks).setS 3 o4 (fillPts P.lastB sz os bks.length)).swept.oct (fillPts P.lastB sz os bks.length) = os ∧ lenP (fillPts P.lastB sz os bks.length) = os.length ∧
      lookN ((P.growAll bks).setS 3 o4 (fillPts P.lastB sz os bks.length)).swept.st 3 = some (o4, fillPts P.lastB sz os bks.length) ∧ ((P.growAll bks).setS 3 o4 (fillPts P.lastB sz os bks.length)).swept.st = [(3, o4, fillPts P.lastB sz os bks.length)] ∧ ((P.growAll bks).setS 3 o4 (fillPts P.lastB sz os bks.length)).swept.size = sz := by
  obtain ⟨mb, ms, D1, D2, F, G, b, p, hz⟩ := s
  have hs := p.pm.sz
  rw [f.size] at hs
  have hge := manyP_ge (size := sz) (n := os.length) hs.1
  rw [← hb] at hge
  have hst : ((P.growAll bks).setS 3 o4 (fillPts P.lastB sz os bks.length)).st = [(3, o4, fillPts P.lastB sz os bks.length)] := by
    show putS (P.growAll bks).st 3 o4 _ = _
    rw [growAll_st, f.st]
    simp [putS]
  have hf' : Fills P.size os bks := by rw [f.size]; exact hf
  have hpts := hf'.pts p.nb
  rw [f.size] at hpts
  have kb : (((P.growAll bks).setS 3 o4 (fillPts P.lastB sz os bks.length)).bl.map Prod.fst).Nodup := by
    show ((P.growAll bks).bl.map Prod.fst).Nodup
    exact growAll_nodup bks p.nb p.pm.kb
  refine ⟨?_, ?_, ?_, ?_, hst, ?_⟩
  · rw [swept_count hst kb hpts (fillPts_nodup _ _ _ _), fillPts_len, hb]
  · rw [swept_oct (s := (3, o4, fillPts P.lastB sz os bks.length)) (by rw [hst]; simp)]
    have h1 := Fills.oct hf' p.nb bks.length (Nat.le_refl _)
    rw [f.size] at h1
    exact h1.trans (List.take_of_length_le hge)
  · rw [lenP_fill, Nat.min_eq_right hge]
  · show lookN ((P.growAll bks).setS 3 o4 _).st 3 = _
    rw [hst]
    rfl
  · exact (growAll_size _ _).trans f.size

theorem SP.pts {w : World} {Z : Nat → Prop} {h bp : Nat} {P : PoolSt} {n : Nat} (s : SP w Z h bp P n) {q : Nat × Option (Nat × Nat × Nat) × List Pt} (hq : q ∈ P.st) : PtsOf P q.2.2 ∧ (∀ x ∈ q.2.2, x.ok P.oct) := by
  obtain ⟨mb, ms, D1, D2, F, G, b, p, hz⟩ := s
  exact ⟨p.pm.pt q hq, PtsOf.okM p.pm (p.pm.pt q hq)⟩
theorem SP.few {w : World} {Z : Nat → Prop} {h bp : Nat} {P : PoolSt} {n : Nat} (s : SP w Z h bp P n) : P.bl.length ≤ 2000 ∧ P.lastB ≤ 1000000000 := by
  obtain ⟨mb, ms, D1, D2, F, G, b, p, hz⟩ := s
  exact ⟨p.pm.few.2.1, p.pm.few.2.2.2.1⟩

end Go.Proofs.Ytbndknbjjdoanaa
