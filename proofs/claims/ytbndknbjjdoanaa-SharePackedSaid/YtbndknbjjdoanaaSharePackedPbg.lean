/-
  between of a pool: what it gives. Conditions: numbers in their bounds.
  A region that draws its order, in a round of a range over a function: by a plan. No conditions.
-/
import Derived.Test.YtbndknbjjdoanaaSharePackedPbf
import Derived.RangeFuncNested
import Derived.RangeFuncCalls
import Derived.OrdersIn
import Derived.TacticsIn
import Derived.Test.YtbndknbjjdoanaaSharePackedPat

namespace Go.Proofs.Ytbndknbjjdoanaa
section
open Go.RowKit
set_option linter.unusedVariables false

/-- What between answers. -/
def btE (n : Nat) (f t : Int) : Int := if 0 ≤ f ∧ f ≤ n ∧ f ≤ t ∧ t ≤ n then 0 else 2
theorem PoolMem.str {w : World} {F : Nat → Prop} {h bp : Nat} {P : PoolSt} {mb ms N1 N2 : Nat} {D1 D2 : DataW Unit} (m : PoolMem w F h bp P mb ms N1 N2 D1 D2) {s : Int} {o : Option (Nat × Nat × Nat)} {l : List Pt} (hs : lookN P.st s = some (o, l)) :
    w.ownsRow 0 75 3 (rowOf o) l.length (ptCells l) ∧ (∀ k, (rowOf o).ownBlock = some k → F k) ∧ PtsOf P l ∧ l.length ≤ 500 ∧ lenP l ≤ 100000 ∧ PtIn w (rowOf o) l ∧ PtOk l := by
  obtain ⟨n, hn, hm⟩ := lookN_mem hs
  have h1 := m.st _ hm
  have h2 : l.length ≤ 500 ∧ lenP l ≤ 100000 := m.few.2.2.1 _ hm
  have h3 : PtsOf P l := m.pt _ hm
  exact ⟨h1.1, h1.2, h3, h2.1, h2.2, PtIn.row h1.1, h3.ok m (by omega)⟩

def BwPost (P : PoolSt) (s f t : Int) (w : World) : Ending → World → Prop := fun e w' => Below w.heap.size w w' ∧ match lookN P.st s with
  | none => e = .returned (.tuple #[.slice none 0 0, .int .i64 13])
  | some x => e = .returned (.tuple #[if btE (lenP x.2) f t = 0 then rowOf x.1 else .slice none 0 0, .int .i64 (btE (lenP x.2) f t)])

set_option maxHeartbeats 1000000 in
set_option maxRecDepth 100000 in
theorem between_any' {w : World} {F : Nat → Prop} {h bp : Nat} {P : PoolSt} {mb ms N1 N2 : Nat} {D1 D2 : DataW Unit} (m : PoolMem w F h bp P mb ms N1 N2 D1 D2) (s f t : Int) (hs : -9223372036854775808 ≤ s ∧ s ≤ 9223372036854775807) :
    Calls Try.prog 35 #[.pointer (some ⟨h, 0, none⟩), .int .i64 s, .int .i64 f, .int .i64 t] w (BwPost P s f t w) := by
  have FI := Lib.hid (findP_any m s hs)
  cases hl : lookN P.st s with
  | none =>
    have HL := Lib.hid hl
    clear hl m
    go_enter Try.func35, Try.ntmps35
    go_wp2_with fail
    refine FI.out.mono ?_
    rintro e w2 ⟨rfl, he⟩
    rw [HL.out] at he
    obtain rfl := he
    go_wp2_with fail
    go_ret2
    refine ⟨Below.refl _ _, ?_⟩
    rw [HL.out]
    rfl
  | some x =>
    obtain ⟨o, l⟩ := x
    obtain ⟨a1, a2, a3, a4, a5, a6, a7⟩ := m.str hl
    obtain ⟨ra, rc, hrow, r1, r2, r3⟩ := a6
    have HL := Lib.hid hl
    have LE := Lib.hid (fun W (hW : Below w.heap.size w W) => lengthP_any (rowOf o) l W ((PtIn.row a1).below hW) a7)
    obtain ⟨N, hN⟩ : ∃ N, lenP l = N := ⟨_, rfl⟩
    have HN := Lib.hid hN
    rw [hN] at LE a5
    rw [hrow] at LE
    clear hl m a1 a2 a3 a4 a7 r1 r2 r3 hN
    go_enter Try.func35, Try.ntmps35
    go_wp2_with fail
    refine FI.out.mono ?_
    rintro e w2 ⟨rfl, he⟩
    rw [HL.out] at he
    obtain rfl := he
    rw [hrow]
    go_wp2_with fail
    refine (LE.out _ (Below.refl _ _)).mono ?_
    rintro e w3 ⟨rfl, hb3⟩
    by_cases hf : 0 ≤ f ∧ f ≤ (N : Int)
    · go_wp2_with fail
      refine (within_share_yes _ _ _ _ hf.1 hf.2).mono ?_
      rintro e w' ⟨rfl, rfl⟩
      have B3 := Lib.hid hb3
      have HF := Lib.hid hf
      clear hb3 hf
      go_wp2_with fail
      refine (LE.out _ B3.out).mono ?_
      rintro e w4 ⟨rfl, hb4⟩
      have B4 := Lib.hid (B3.out.trans (hb4.mono B3.out.size))
      clear hb4
      by_cases ht : f ≤ t ∧ t ≤ (N : Int)
      · have E := Lib.hid (show btE (lenP l) f t = 0 by rw [HN.out]; exact if_pos ⟨HF.out.1, HF.out.2, ht.1, ht.2⟩)
        have WY := Lib.hid (within_share_yes t f N w4 ht.1 ht.2)
        clear ht
        go_wp2_with fail
        refine WY.out.mono ?_
        rintro e w' ⟨rfl, rfl⟩
        go_wp2_with fail
        go_ret2
        refine ⟨B4.out, ?_⟩
        rw [HL.out]
        simp only
        rw [E.out, if_pos rfl, hrow]
        rfl
      · have E := Lib.hid (show btE (lenP l) f t = 2 by rw [HN.out]; exact if_neg (fun hx => ht ⟨hx.2.2.1, hx.2.2.2⟩))
        have WY := Lib.hid (within_share_no t f N w4 ht)
        clear ht
        go_wp2_with fail
        refine WY.out.mono ?_
        rintro e w' ⟨rfl, rfl⟩
        go_wp2_with fail
        go_ret2
        refine ⟨B4.out, ?_⟩
        rw [HL.out]
        simp only
        rw [E.out, if_neg (by decide)]
        rfl
    · have E := Lib.hid (show btE (lenP l) f t = 2 by rw [HN.out]; exact if_neg (fun hx => hf ⟨hx.1, hx.2.1⟩))
      have WY := Lib.hid (within_share_no f 0 N w3 hf)
      have B3 := Lib.hid hb3
      clear hb3 hf
      go_wp2_with fail
      refine WY.out.mono ?_
      rintro e w' ⟨rfl, rfl⟩
      go_wp2_with fail
      go_ret2
      refine ⟨B3.out, ?_⟩
      rw [HL.out]
      simp only
      rw [E.out, if_neg (by decide)]
      rfl

end
end Go.Proofs.Ytbndknbjjdoanaa

namespace Go.Proofs.Ytbndknbjjdoanaa
section
open Go Go.RowKit
set_option linter.unusedVariables false

section
variable {P : Program} {ops : Array Oper} {Q : Exit → Act → World → Prop} {md : Region.Mode} {S T : World → Prop} {n : Nat}

theorem oper_round (l m : Nat) {o : Oper} {a : Act} {w : World} {K : Act → World → Prop} (hnd : ∀ c, o.op ≠ .defer c) (h : o.wp P a w K Q) : o.wpIn (Fence.wide.inRound l) m P a w K Q := by
  refine ⟨fun _ _ => trivial, ?_⟩
  rw [Fence.inRound_round, Oper.semAt_some _ _ _ hnd]
  unfold Oper.wp at h
  generalize (execOp a.eval o).run P w = r at *
  cases r with
  | ok x w' =>
    cases x <;> simp only [Oper.upon, Oper.uponIn] at h ⊢
    case value => exact h
    case skip => exact h
    case defer => exact h
    case enter f args => exact ⟨(fun hx => by cases hx), CallsIn.inRound l (callsIn_wide.2 h)⟩
    case row row args =>
      refine ⟨(fun hx => by cases hx), fun c cs _ => ?_⟩
      obtain ⟨v, w2, h1, h2⟩ := h c cs
      exact ⟨v, w2, h1, stepsIn_wide.2 h2⟩
  | halt x w' => cases x <;> simp only [Oper.upon, Oper.uponIn] at h ⊢ <;> exact h

def noDefer (ops : Array Oper) : Bool := ops.all fun o => match o.op with | .defer .. => false | _ => true
theorem noDefer_spec (h : noDefer ops = true) (j : Nat) (o : Oper) (ho : ops[j]? = some o) (c : Call) : o.op ≠ .defer c := by
  intro heq
  have := Array.all_eq_true_iff_forall_mem.1 h o (Array.mem_of_getElem? ho)
  simp [heq] at this

theorem wpAnyIn_round (l m : Nat) (hnd : noDefer ops = true) (hL : ¬ LetsOut Q) : ∀ (fuel : Nat) (listed : Array Bool) (a : Act) (w : World), wpAny P md ops Q fuel listed a w → wpAnyIn (Fence.wide.inRound l) m P md ops Q fuel listed a w
  | 0, _, _, _, h => h
  | fuel + 1, listed, a, w, h => ⟨h.1, fun i hi => by
    have h1 := h.2 i hi
    unfold wpOp at h1
    unfold wpOpIn
    split
    · rename_i ho; simp only [ho] at h1; exact wpAnyIn_round l m hnd hL _ _ _ _ h1
    · rename_i o ho
      simp only [ho] at h1
      split
      · rename_i hw
        simp only [hw, if_true] at h1
        rcases h1 with h1 | ⟨_, h1⟩
        · exact oper_round l m (noDefer_spec hnd i o ho) (Oper.wp_mono (fun a w hx => wpAnyIn_round l m hnd hL _ _ _ _ hx) h1)
        · exact absurd h1 hL
      · rename_i hw
        simp only [hw] at h1
        exact ⟨fun _ _ => trivial, wpAnyIn_round l m hnd hL _ _ _ _ h1⟩⟩

theorem wpIn_region_plan {id m : Nat} (lr : Nat) {a : Act} {w : World} {l : List Oper} (n : Nat) (S : World → Prop) (hm : P.follows .mixedOrders = true) (hnd : noDefer l.toArray = true)
    (h : wpN P l.toArray (fun e a w => match e with | .normal => Q .normal a w | _ => False) S n [] a w.drew) : (Code.region id l.toArray true).wpIn (Fence.wide.inRound lr) m P Q a w :=
  Code.wpIn_mono (fun e a w h => by cases e <;> first | exact h | exact h.elim) (wpIn_region_any hm (wpAnyIn_round lr m hnd (fun ⟨_, _, hx⟩ => hx) _ _ _ _ (wpAny_of_plan _ _ _ _ h)))

end

end
end Go.Proofs.Ytbndknbjjdoanaa
