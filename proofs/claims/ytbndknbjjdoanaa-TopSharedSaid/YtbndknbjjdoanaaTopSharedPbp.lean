/-
  What the strings of a pool hold after Make, Clone/Slice/Join and Append. No conditions but bounds.
-/
import Derived.Test.YtbndknbjjdoanaaTopSharedPbo
namespace Go.Proofs.Ytbndknbjjdoanaa
open Go.RowKit
set_option linter.unusedVariables false

/-- What is always so of a pool in memory, in plain words. -/
structure PoolOk (P : PoolSt) : Prop where
  nb : ∀ p ∈ P.bl, p.1 ≤ P.lastB
  ns : ∀ q ∈ P.st, q.1 ≤ P.lastS
  ks : (P.st.map Prod.fst).Nodup
  pts : ∀ q ∈ P.st, PtsOf P q.2.2
  ok : ∀ q ∈ P.st, ∀ x ∈ q.2.2, x.ok P.oct
  sz : 1 ≤ P.size
theorem SP.ok {w : World} {Z : Nat → Prop} {h bp : Nat} {P : PoolSt} {n : Nat} (s : SP w Z h bp P n) : PoolOk P := by
  obtain ⟨mb, ms, D1, D2, F, G, b, p, hz⟩ := s
  exact ⟨p.nb, fun q hq => (p.pm.ns q hq).2, p.pm.ks, fun q hq => p.pm.pt q hq, fun q hq => PtsOf.okM p.pm (p.pm.pt q hq), p.pm.sz.1⟩
theorem con_make {P : PoolSt} (k : PoolOk P) {os : List Int} {bks : List Bk} (hf : Fills P.size os bks) (hl : bks.length = manyP P.size os.length) (o : Option (Nat × Nat × Nat)) (s : Int) :
    ((P.growAll bks).add o (fillPts P.lastB P.size os bks.length)).con s = if ((P.lastS + 1 : Nat) : Int) = s then some os else P.con s := by
  have hge := manyP_ge (size := P.size) (n := os.length) k.sz
  rw [con_add (by rw [growAll_st, growAll_lastS]; exact k.ns), growAll_lastS, con_growAll bks k.nb k.pts, hf.oct k.nb _ (Nat.le_refl _), List.take_of_length_le (by rw [hl]; exact hge)]
theorem con_share {P : PoolSt} (k : PoolOk P) {l : List Pt} (hp : PtsOf P l) (hok : ∀ x ∈ l, x.ok P.oct) {bks : List Bk} (hs : Shr P l bks) (o : Option (Nat × Nat × Nat)) (s : Int) :
    ((P.growAll bks).add o (shareL P l 0)).con s = if ((P.lastS + 1 : Nat) : Int) = s then some (octP P.oct l) else P.con s := by
  obtain ⟨z1, z2⟩ := Shr.at (L := []) k.nb (bks := bks) (l := l) 0 hp (fun i x y h1 h2 => hs.2 i x y h1 (by rw [← h2, Nat.zero_add])) (by have := hs.1; omega) hok
  rw [con_add (by rw [growAll_st, growAll_lastS]; exact k.ns), growAll_lastS, con_growAll bks k.nb k.pts, z2]
/-- After a write into the spare octets, then blocks more. -/
theorem con_append {P B : PoolSt} (k : PoolOk P) {sn : Nat} {q : Option (Nat × Nat × Nat) × List Pt} (hq : lookN P.st (sn : Int) = some q) {os : List Int} {sp : Nat} {A : List Pt} (hst : B.st = P.st) (hlb : B.lastB = P.lastB) (hsz : B.size = P.size) (hnb : ∀ p ∈ B.bl, p.1 ≤ B.lastB)
    (hA : PtsOf B A) (hoA : octP B.oct A = octP P.oct q.2 ++ os.take sp) (hold : ∀ l', PtsOf P l' → octP B.oct l' = octP P.oct l') (hpo : ∀ r ∈ P.st, PtsOf B r.2.2) {bks : List Bk} (hf : Fills P.size (os.drop sp) bks) (hl : bks.length = manyP P.size (os.length - sp)) (o : Option (Nat × Nat × Nat)) (s : Int) :
    ((B.growAll bks).setS sn o (A ++ fillPts P.lastB P.size (os.drop sp) bks.length)).con s = if (sn : Int) = s then some (octP P.oct q.2 ++ os) else P.con s := by
  have hge := manyP_ge (size := P.size) (n := os.length - sp) k.sz
  have hB : ∀ s, B.con s = P.con s := fun s => by
    unfold PoolSt.con
    rw [hst]
    cases hl2 : lookN P.st s with
    | none => rfl
    | some r =>
      obtain ⟨n, _, hm⟩ := lookN_mem hl2
      exact congrArg some (hold _ (k.pts _ hm))
  rw [con_setS (q := q) (by rw [growAll_st, hst]; exact hq), con_growAll bks hnb (by rw [hst]; exact hpo), hB]
  have hf' : Fills B.size (os.drop sp) bks := by rw [hsz]; exact hf
  have h1 := hf'.oct hnb _ (Nat.le_refl _)
  rw [hlb, hsz, List.take_of_length_le (l := os.drop sp) (by rw [hl, List.length_drop]; exact hge)] at h1
  have h2 : octP (B.growAll bks).oct A = octP B.oct A := octP_pts (fun x hx => by
    obtain ⟨y, hy, _⟩ := hA x hx
    exact oct_growAll hnb bks hy)
  rw [octP_app, h1, h2, hoA, List.append_assoc, List.take_append_drop]
theorem con_cut {P : PoolSt} (k : PoolOk P) {sn : Nat} {q : Option (Nat × Nat × Nat) × List Pt} (hq : lookN P.st (sn : Int) = some q) {f t : Int} (hb : 0 ≤ f ∧ f ≤ t ∧ t ≤ (lenP q.2 : Nat)) (o : Option (Nat × Nat × Nat)) (s : Int) :
    (P.setS sn o (restP q.2 f t)).swept.con s = if (sn : Int) = s then some ((octP P.oct q.2).take f.toNat ++ (octP P.oct q.2).drop t.toNat) else P.con s := by
  obtain ⟨n, _, hm⟩ := lookN_mem hq
  have hM := k.ok _ hm
  have hL : (octP P.oct q.2).length = lenP q.2 := octP_len hM
  rw [con_swept, con_setS hq]
  have e : octP P.oct (restP q.2 f t) = (octP P.oct q.2).take f.toNat ++ (octP P.oct q.2).drop t.toNat := by
    unfold restP
    rw [octP_app, cutP_oct hM, cutP_oct hM]
    congr 1
    rw [List.take_of_length_le (by rw [hL]; omega)]
  rw [e]

end Go.Proofs.Ytbndknbjjdoanaa
