/-
  A region that draws its order, in a round of a range over a function: by a plan. No conditions.
-/
import Derived.RangeFuncNested
import Derived.RangeFuncCalls
import Derived.OrdersIn
import Derived.TacticsIn
import Derived.Test.YtfolidedcejafaaTopRingPbg
namespace Go.Proofs.Ytfolidedcejafaa
open Go Go.RowKit
set_option linter.unusedVariables false

section
variable {P : Program} {ops : Array Oper} {Q : Exit → Act → World → Prop} {md : Region.Mode} {S T : World → Prop} {n : Nat}

theorem oper_round (l m : Nat) {o : Oper} {a : Act} {w : World} {K : Act → World → Prop} (hnd : ∀ c, o.op ≠ .defer c) (h : o.wp P a w K Q) : o.wpIn (Fence.wide.inRound l) m P a w K Q := by
  refine ⟨fun _ _ => trivial, ?_⟩
  rw [Fence.inRound_round, Oper.semAt_some _ _ _ hnd]
  unfold Oper.wp at h
  generalize (execOp a.eval o).run P w = r at *
  cases r with
  | ok x w' =>
    cases x <;> simp only [Oper.upon, Oper.uponIn] at h ⊢
    case value => exact h
    case skip => exact h
    case defer => exact h
    case enter f args => exact ⟨(fun hx => by cases hx), CallsIn.inRound l (callsIn_wide.2 h)⟩
    case row row args =>
      refine ⟨(fun hx => by cases hx), fun c cs _ => ?_⟩
      obtain ⟨v, w2, h1, h2⟩ := h c cs
      exact ⟨v, w2, h1, stepsIn_wide.2 h2⟩
  | halt x w' => cases x <;> simp only [Oper.upon, Oper.uponIn] at h ⊢ <;> exact h

def noDefer (ops : Array Oper) : Bool := ops.all fun o => match o.op with | .defer .. => false | _ => true
theorem noDefer_spec (h : noDefer ops = true) (j : Nat) (o : Oper) (ho : ops[j]? = some o) (c : Call) : o.op ≠ .defer c := by
  intro heq
  have := Array.all_eq_true_iff_forall_mem.1 h o (Array.mem_of_getElem? ho)
  simp [heq] at this

theorem wpAnyIn_round (l m : Nat) (hnd : noDefer ops = true) (hL : ¬ LetsOut Q) : ∀ (fuel : Nat) (listed : Array Bool) (a : Act) (w : World), wpAny P md ops Q fuel listed a w → wpAnyIn (Fence.wide.inRound l) m P md ops Q fuel listed a w
  | 0, _, _, _, h => h
  | fuel + 1, listed, a, w, h => ⟨h.1, fun i hi => by
    have h1 := h.2 i hi
    unfold wpOp at h1
    unfold wpOpIn
    split
    · rename_i ho; simp only [ho] at h1; exact wpAnyIn_round l m hnd hL _ _ _ _ h1
    · rename_i o ho
      simp only [ho] at h1
      split
      · rename_i hw
        simp only [hw, if_true] at h1
        rcases h1 with h1 | ⟨_, h1⟩
        · exact oper_round l m (noDefer_spec hnd i o ho) (Oper.wp_mono (fun a w hx => wpAnyIn_round l m hnd hL _ _ _ _ hx) h1)
        · exact absurd h1 hL
      · rename_i hw
        simp only [hw] at h1
        exact ⟨fun _ _ => trivial, wpAnyIn_round l m hnd hL _ _ _ _ h1⟩⟩

theorem wpIn_region_plan {id m : Nat} (lr : Nat) {a : Act} {w : World} {l : List Oper} (n : Nat) (S : World → Prop) (hm : P.follows .mixedOrders = true) (hnd : noDefer l.toArray = true)
    (h : wpN P l.toArray (fun e a w => match e with | .normal => Q .normal a w | _ => False) S n [] a w.drew) : (Code.region id l.toArray true).wpIn (Fence.wide.inRound lr) m P Q a w :=
  Code.wpIn_mono (fun e a w h => by cases e <;> first | exact h | exact h.elim) (wpIn_region_any hm (wpAnyIn_round lr m hnd (fun ⟨_, _, hx⟩ => hx) _ _ _ _ (wpAny_of_plan _ _ _ _ h)))

end

end Go.Proofs.Ytfolidedcejafaa
