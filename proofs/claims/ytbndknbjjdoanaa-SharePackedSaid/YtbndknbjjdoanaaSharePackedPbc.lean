/-
  begins, fit, copied, Replace: what they give for a policy that is right. No conditions beyond the theorems' own.
-/
import Derived.Test.YtbndknbjjdoanaaSharePackedPav
import Derived.Test.YtbndknbjjdoanaaSharePackedPbb
import Derived.Deep.RegionLaw
namespace Go.Proofs.Ytbndknbjjdoanaa
open Go.RowKit

theorem growV_has (k s m : Int) (cap N : Nat) (hp : polErr k s m = 0) (hc : cap ≤ 100000) (h : N ≤ cap) : growV k s m cap N = cap ∧ growE k s m cap N = 0 := by
  have h1 : (N : Int) ≤ cap := by omega
  have h2 : (0 ≤ (cap : Int) ∧ (cap : Int) ≤ 100000) ∧ (0 ≤ (N : Int) ∧ (N : Int) ≤ 100000) := by omega
  unfold growV growE gV gE
  exact ⟨by rw [if_pos ⟨hp, h2⟩, if_pos h1], by rw [if_pos hp, if_pos h2, if_pos h1]⟩
theorem growV_new (k s m : Int) (cap N : Nat) (hp : polErr k s m = 0) (hc : cap ≤ 100000) (hN : N ≤ 100000) (he : growE k s m cap N = 0) : (N : Int) ≤ growV k s m cap N ∧ (cap : Int) ≤ growV k s m cap N ∧ growV k s m cap N ≤ 100000 := by
  unfold growE at he
  rw [if_pos hp, if_pos ⟨by omega, by omega⟩] at he
  unfold growV
  rw [if_pos ⟨hp, by omega, by omega⟩]
  exact gV_facts k s m cap N hp (by omega) (by omega) he

def FitPost (k s m : Int) (g : Nat) (cs : List Int) (n cap N : Nat) (w : World) : Ending → World → Prop := fun e w' => Below w.heap.size w w' ∧
  ((N ≤ cap ∧ e = .returned (.tuple #[.slice (some ⟨g, 0, none⟩) N cap, .bool false, .int .i64 0])) ∨
   (cap < N ∧ ∃ g', w.heap.size ≤ g' ∧ e = .returned (.tuple #[.slice (some ⟨g', 0, none⟩) N (growV k s m cap N).toNat, .bool true, .int .i64 0]) ∧ byteRow w' g' (cs.take n ++ zeros ((growV k s m cap N).toNat - n))))

/-- 'copy' into a row that is known, as one step of a region that draws: of the other blocks none has turned. -/
theorem step_copy_at {P : Program} {ops : Array Oper} {o : Oper} {a : Act} {w : World} {K : Act → World → Prop} {Q : Exit → Act → World → Prop} {E : Prop} (hgd : o.guard = none) (d s : Operand) (dT sT : TypeId)
    (ho : o.op = .call { callee := .builtin .copy, args := #[d, s], argTypes := #[dT, sT] }) (elem : TypeId) (hu : P.underlying dT = some (.slice elem)) (hsz : (P.info? elem).map (·.size) = some 1)
    (dp sp : Option Addr) (dLen dCap sLen sCap : Nat) (hd : a.eval d = .slice dp dLen dCap) (hs : a.eval s = .slice sp sLen sCap)
    (g off : Nat) (cur : List Value) (t : TypeId) (hg : w.heap[g]? = some (.cells cur.toArray t (0, 0))) (cs : List Value) (hn : cs.length = Nat.min sLen dLen)
    (hpos : 0 < cs.length → dp = some ⟨g, off, none⟩ ∧ ∃ ad, sp = some ad ∧ ∀ j v, cs[j]? = some v → w.cell? (ad.add j) = some v)
    (hfit : off + cs.length ≤ cur.length) (h1 : ∀ v ∈ cs, v.oneCell' = true)
    (h : ∀ w', w'.heap[g]? = some (.cells (splice cur off cs).toArray t (0, 0)) → Touch (fun k => k = g) w w' → K (a.put o.dst (goInt cs.length)) w') :
    if Region.wanted o (yielded ops a.tmps) = true then Oper.wp P o a w K Q else E := by
  have hw : Region.wanted o (yielded ops a.tmps) = true := by simp [Region.wanted, hgd]
  rw [if_pos hw]
  by_cases h0 : cs.length = 0
  · obtain rfl : cs = [] := List.eq_nil_of_length_eq_zero h0
    have hrun := run_copy_none (P := P) w dT sT o.type elem dp sp dLen dCap sLen sCap hu hsz (by simpa using hn.symm)
    unfold Oper.wp
    simp [execOp, ho, resolve, invoke, builtin, hd, hs, hrun, Result.andThen]
    exact h w (by simpa [splice] using hg) (Touch.refl _ _)
  · obtain ⟨rfl, ad, rfl, hsrc⟩ := hpos (by omega)
    have hrun := run_copy_row (P := P) w dT sT o.type elem g off dLen dCap ad sLen sCap cur.toArray t cs hu hsz hg hn hsrc (by simpa using hfit) h1
    unfold Oper.wp
    simp [execOp, ho, resolve, invoke, builtin, hd, hs, hrun, Result.andThen]
    exact h _ (by simpa [splice] using setRow_heap w g _ _ t _ hg) ⟨rfl, rfl, rfl, by simp [World.setRow], fun k _ hk => setRow_other w g k _ hk⟩

end Go.Proofs.Ytbndknbjjdoanaa
