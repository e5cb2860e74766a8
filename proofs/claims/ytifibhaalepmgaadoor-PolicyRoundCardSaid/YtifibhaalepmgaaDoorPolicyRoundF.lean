/-
  PolicyRound: the row's own proof, as a function of its walk. Condition: the walk.
-/
import Derived.Test.YtifibhaalepmgaaDoorDoorR
import Derived.Test.YtifibhaalepmgaaDoorFrame
import Derived.Test.YtifibhaalepmgaaDoorRoomPoliciesW
import Derived.Test.YtifibhaalepmgaaDoorLibOf
namespace Go.Proofs.YtifibhaalepmgaaDoor.policyRound
open Go.ChangeShapes Go.WideShapes Go.ChangeAt Go.RowKit
open Go.ChangeMaps (open_string shut_string)
set_option linter.unusedVariables false

set_option maxRecDepth 100000 in
theorem lifted (HW : ∀ (k s m : Int) (w : World), (-9223372036854775808 ≤ k ∧ k ≤ 9223372036854775807) → (-9223372036854775808 ≤ s ∧ s ≤ 9223372036854775807) → (-9223372036854775808 ≤ m ∧ m ≤ 9223372036854775807) → LibBut w → w.ShapedOpen Tryd.prog → Calls Tryd.prog 5 #[.agg #[.int .i64 k, .int .i64 s, .int .i64 m]] w (LawPost w)) (os : Os) (started : os.Started) (H : Type) (enc : TypeId × Value → H) (F : Stop.Interp) :
    ReturnsInHanded {} Tryd.checked os 5 .any ((OpenSpec.ofChange Rows.policyRoundSpec).preRow enc Tryd.prog Tryd.f5 Rows.policyRoundRow.domain false Rows.policyRoundRow.laid) (((OpenSpec.ofChange Rows.policyRoundSpec).at F).post enc Tryd.prog Tryd.f5 false true false false) := by
  refine returnsInHanded_of_row (C := Tryd.checked) (s := OpenSpec.ofChange Rows.policyRoundSpec) own started (by kernel_rfl) Tryd.func5
    (ChangeSpec.witness_shaped (enc := enc) (C := Tryd.checked) (os := os) (X := fun w _ => laidMetH Tryd.prog Rows.policyRoundRow.laid w) false (roundWorld os) #[.agg #[.int .i64 0, .int .i64 0, .int .i64 0]] 8 (roundWorld_os os) (round_shaped os) (by kernel_rfl) (by kernel_rfl) (by kernel_rfl) (round_met os _)) ?_
  intro W base args ds gs before hval0 hW hcnd hk hsz0 hL hshape _
  have hLaid := laid_round hL
  have hval : ∀ (j : Nat) t v, Tryd.f5.params[j]? = some t → args[j]? = some v → Value.okWide Tryd.prog W .any base t v := hval0
  have hW' := hW
  obtain ⟨p, q, hA0, hV, rfl, hfz, hnd⟩ := hW
  have hA : DataW.TrodAll enc Tryd.prog W 0 (fun _ => true) true Tryd.f5.params.toList args.toList ds p := hA0
  have hsz : (DataW.weightsEach Tryd.prog (Tryd.f5.params.toList ++ Rows.policyRoundSpec.plain.varTypes Tryd.prog) (ds ++ gs)).all (· ≤ reachBytes) = true := hsz0
  rw [Tryd.params5] at hA hval hsz
  obtain ⟨v0, vs0, d0, ds0, p0, q0, hargs, rfl, rfl, h0, r0⟩ := trodAll_cons hA
  obtain ⟨rfl, rfl, rfl⟩ := trodAll_nil r0
  obtain rfl : args = #[v0] := by cases args; simp_all
  obtain ⟨rfl, rfl⟩ := trodVars_none hV
  have k0 := h0
  have lt0 : ∀ x ∈ p0, x.block < W.heap.size := by obtain ⟨m, hm⟩ := k0; exact DataW.trod_lt m _ _ _ hm
  obtain ⟨c00, c01, c02, y00, y01, y02, m0, rfl, _, _, u00, u01, u02⟩ := Joins.open_agg3 Tryd.underlying23 (by kernel_rfl) (by kernel_rfl) (hval 0 23 v0 rfl rfl) h0
  obtain ⟨a00, e00, _, w00⟩ := DataW.trod_int Tryd.underlying3 u00
  simp only [List.cons.injEq, and_true] at e00
  subst e00
  obtain ⟨a01, e01, _, w01⟩ := DataW.trod_int Tryd.underlying3 u01
  simp only [List.cons.injEq, and_true] at e01
  subst e01
  obtain ⟨a02, e02, _, w02⟩ := DataW.trod_int Tryd.underlying3 u02
  simp only [List.cons.injEq, and_true] at e02
  subst e02
  clear hA0 hval0
  refine (HW a00 a01 a02 W (range_i64 w00) (range_i64 w01) (range_i64 w02) hLaid hshape).mono fun e W' ⟨he, bel⟩ => ?_
  subst he
  exact ⟨_, rfl, _, _, _, [], _, [], hW', trodAll_mk1 (shut_bool Tryd.underlying4 _), (trodAll_cons_mk (Below.trod laidOut (by kernel_rfl) (of_decide_eq_true (by kernel_rfl)) k0 bel lt0) trodAll_mk0), rfl, bel.frame _, fun h => by cases h⟩

theorem said (HW : ∀ (k s m : Int) (w : World), (-9223372036854775808 ≤ k ∧ k ≤ 9223372036854775807) → (-9223372036854775808 ≤ s ∧ s ≤ 9223372036854775807) → (-9223372036854775808 ≤ m ∧ m ≤ 9223372036854775807) → LibBut w → w.ShapedOpen Tryd.prog → Calls Tryd.prog 5 #[.agg #[.int .i64 k, .int .i64 s, .int .i64 m]] w (LawPost w)) : Rows.PolicyRoundSaid :=
  OpenClaim.holds_of_cond 5 Tryd.f5 rfl rfl rfl rfl rfl rfl rfl ⟨rfl, rfl, rfl, rfl, rfl⟩ rfl rfl rfl rfl rfl (by kernel_rfl) Tryd.func5 (by kernel_rfl)
    (of_decide_eq_true (by kernel_rfl)) (by unfold Func.isWrapper; first | (rw [if_pos (by decide +kernel)]; kernel_rfl) | (rw [if_neg (by decide +kernel)]; exact ⟨rfl, rfl⟩))
    (fun os started H enc _ F => by rw [OpenClaim.pre_eq_preRow]; exact lifted HW os started H enc F)

theorem plain (f : FuncId) (fn : Func) (hf : Tryd.pinned.checked.prog.funcNamed Rows.policyRoundRow.func = some f) (hfn : Tryd.pinned.checked.prog.funcs[f]? = some fn) :
    true = Tryd.pinned.checked.prog.looks [] ∧ ∀ (j : Nat) t, fn.params[j]? = some t → Tryd.pinned.checked.prog.wantsStandIn t = false := by
  obtain rfl : f = 5 := Option.some.inj ((show Tryd.prog.funcNamed Rows.policyRoundRow.func = some 5 by kernel_rfl).symm.trans hf) |>.symm
  obtain rfl : fn = Tryd.f5 := (Option.some.inj (Tryd.func5.symm.trans hfn)).symm
  refine ⟨by kernel_rfl, fun j t ht => ?_⟩
  rw [Tryd.params5] at ht
  have hm : t ∈ [23] := by simpa using Array.mem_of_getElem? ht
  have hall : ([23].all fun u => !Tryd.prog.wantsStandIn u) = true := by kernel_rfl
  exact (show Tryd.prog.wantsStandIn t = false by simpa using List.all_eq_true.1 hall t hm)

theorem provedOf (HW : ∀ (k s m : Int) (w : World), (-9223372036854775808 ≤ k ∧ k ≤ 9223372036854775807) → (-9223372036854775808 ≤ s ∧ s ≤ 9223372036854775807) → (-9223372036854775808 ≤ m ∧ m ≤ 9223372036854775807) → LibBut w → w.ShapedOpen Tryd.prog → Calls Tryd.prog 5 #[.agg #[.int .i64 k, .int .i64 s, .int .i64 m]] w (LawPost w)) : Rows.PolicyRoundCardSaid :=
  Claim7.holds_tied_plain_at .later [] _ _ _ _ (said HW) (fun _ h => by cases h) (by kernel_rfl) (fun _ h => by cases h) policyRound_row_tie rfl ⟨rfl, rfl⟩ (by kernel_rfl) rfl plain (by kernel_rfl)
end Go.Proofs.YtifibhaalepmgaaDoor.policyRound
