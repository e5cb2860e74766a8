/-
  A region by a plan where unused operations, for which nobody waits, lie ahead of the sink: only those of X lead to it. No conditions.
  Contracts of the small tests: within, inRoom, inBudget. No conditions.
  RoomPieces: Pieces and PiecesOf give one list and one error, for all arguments. No conditions.
-/
import Derived.Test.YtidfidknflcioaaTopRopePac
import Derived.Test.YtidfidknflcioaaTopRopePaa

namespace Go.Proofs.Ytidfidknflcioaa
section
open Go Go.RowKit
set_option linter.unusedVariables false

section
variable {P : Program} {ops : Array Oper} {Q : Exit → Act → World → Prop} {md : Region.Mode} {S T : World → Prop} {n : Nat}

/-- Each number of X but n has a later one in X, not past n, that waits for it. -/
def sinkX (md : Region.Mode) (ops : Array Oper) (n : Nat) (X : List Nat) : Bool :=
  X.all fun i => decide (i = n) || X.any fun j => decide (i < j) && decide (j ≤ n) && Region.waitsFor md ops j i

theorem sinkX_all {X : List Nat} {listed : Array Bool} (hs : sinkX md ops n X = true) (inv : ClosedL md ops listed) (hn : listed.getD n false = true) : ∀ (d i : Nat), n - i = d → i ∈ X → i ≤ n → listed.getD i false = true := by
  intro d
  induction d using Nat.strongRecOn with
  | _ d ih =>
    intro i hd hX hi
    by_cases e : i = n
    · rw [e]; exact hn
    · have h1 := List.all_eq_true.1 hs i hX
      rw [Bool.or_eq_true] at h1
      rcases h1 with h1 | h1
      · exact absurd (of_decide_eq_true h1) e
      obtain ⟨j, hj, hj2⟩ := List.any_eq_true.1 h1
      rw [Bool.and_eq_true, Bool.and_eq_true, decide_eq_true_eq, decide_eq_true_eq] at hj2
      obtain ⟨⟨hlt, hjle⟩, hw⟩ := hj2
      obtain ⟨oj, hoj, ed, hed, hbd, hon⟩ := Region.waitsFor_spec hw
      have h2 := ih (n - j) (by omega) j rfl hj hjle
      rw [← hon]
      exact inv.2 j oj hoj h2 ed hed hbd

theorem wpN_segX0 {l : List Oper} {X : List Nat} (hsel : Region.noSelect l.toArray = true) (hQ : ∀ c d v a w, Q (.panic c) (Act.put a d v) w → Q (.panic c) a w)
    (hT : ∀ i (L : Array Bool) w', i ∈ X → i < n → ClosedL .any l.toArray L → L.getD i true = false → (needL n L = true → S w') → T w') :
    ∀ (is : List Nat) (done : List Nat) (a : Act) (w : World), (∀ i ∈ is, i ∈ X) → segB l.toArray n true done is = true → ClosedL .any l.toArray (lst l.toArray done) → (needL n (lst l.toArray done) = true → S w) →
      wpQuiet P l.toArray T (fun a' => wpN P l.toArray Q S n (done ++ is) a' w) (pick l is) a → wpN P l.toArray Q S n done a w := by
  intro is
  induction is with
  | nil =>
    intro done a w _ _ _ _ h
    have h : wpN P l.toArray Q S n (done ++ []) a w := h
    rwa [List.append_nil] at h
  | cons i is ih =>
    intro done a w hX hB hcl hS h
    simp only [segB, Bool.and_eq_true, decide_eq_true_eq] at hB
    obtain ⟨⟨⟨⟨⟨⟨hr, hf⟩, hp⟩, hne⟩, hlt⟩, hlen⟩, hrest⟩ := hB
    have hr' : i ∈ Region.ready .any l.toArray (lst l.toArray done) := by simpa using hr
    obtain ⟨_, oi, hoi, _⟩ := mem_ready.1 hr'
    rw [hoi] at hp
    simp only [Option.map_some, Option.getD_some] at hp
    have hol : l[i]? = some oi := by simpa using hoi
    have hpk : pick l (i :: is) = oi :: pick l is := by simp [pick, hol]
    rw [hpk] at h
    have hq : qOp P l.toArray T i (wpQuiet P l.toArray T (fun a' => wpN P l.toArray Q S n (done ++ (i :: is)) a' w) (pick l is)) a := by unfold qOp; simp only [hoi]; exact h
    obtain ⟨v, hy, hK⟩ := yieldsIn_of_qOp hoi hq
    have e : done ++ i :: is = (done ++ [i]) ++ is := by simp
    rw [e] at hK
    have H := ih (done ++ [i]) (a.put oi.dst v) w (fun k hk => hX k (List.mem_cons_of_mem _ hk)) hrest (by rw [lst_snoc]; exact hcl.set hr') (by rw [lst_snoc, needL_ne hne]; exact hS) hK
    unfold wpN at H ⊢
    rw [lst_snoc, List.length_append] at H
    have e2 : l.toArray.size - done.length = (l.toArray.size - (done.length + 1)) + 1 := by omega
    rw [e2]
    exact wpAnyP_first hoi (Region.noSelect_spec hsel) (fun c a w => hQ c oi.dst v a w) hne (fun L w' h1 h2 h3 => hT i L w' (hX i (List.mem_cons_self)) (by simpa using hlt) h1 h2 h3) _ _ _ _ hcl (Region.free_spec hoi hf) hr' (YieldsIn.toP hp hy) hS H

/-- What only reads, under S, the numbers in X. -/
theorem wpN_segX {l : List Oper} {done : List Nat} {a : Act} {w : World} (X is : List Nat) (hsel : Region.noSelect l.toArray = true) (hs : sinkX .any l.toArray n X = true) (hB : segB l.toArray n true done is = true) (hcl : closedB .any l.toArray (lst l.toArray done) = true)
    (hn : decide (n < l.toArray.size ∧ ∀ i ∈ is, i ∈ X) = true) (hQ : ∀ c d v a w, Q (.panic c) (Act.put a d v) w → Q (.panic c) a w) (hS : S w) (h : wpQuiet P l.toArray (fun w' => ∃ x : WIn S, w' = x.w) (fun a' => wpN P l.toArray Q S n (done ++ is) a' w) (pick l is) a) : wpN P l.toArray Q S n done a w :=
  wpN_segX0 hsel hQ (fun i L w' hX hi hL hun hx => ⟨⟨w', hx (by
    unfold needL
    cases hg : L.getD n true with
    | false => rfl
    | true =>
      exfalso
      have hn' : n < L.size := by
        rw [hL.1]
        exact (of_decide_eq_true hn).1
      have hg' : L.getD n false = true := by simp [hn'] at hg ⊢; exact hg
      have h2 := sinkX_all hs hL hg' (n - i) i rfl hX (by omega)
      rw [getD_both hun] at h2
      cases h2)⟩, rfl⟩) is done a w (of_decide_eq_true hn).2 hB (closedB_spec (lst_size _) hcl) (fun _ => hS) h

end

end
end Go.Proofs.Ytidfidknflcioaa

namespace Go.Proofs.Ytidfidknflcioaa
section
open Go.RowKit

theorem within_room_yes (n lo hi : Int) (w : World) (h1 : lo ≤ n) (h2 : n ≤ hi) :
    Calls Try.prog 55 #[.int .i64 n, .int .i64 lo, .int .i64 hi] w fun e w' => e = .returned (.bool true) ∧ w = w' := by
  go_enter Try.func55, Try.ntmps55
  go_wp2
  go_ret
  exact ⟨rfl, rfl⟩
theorem within_room_no (n lo hi : Int) (w : World) (h : ¬ (lo ≤ n ∧ n ≤ hi)) :
    Calls Try.prog 55 #[.int .i64 n, .int .i64 lo, .int .i64 hi] w fun e w' => e = .returned (.bool false) ∧ w = w' := by
  by_cases h1 : lo ≤ n
  · have h2 : hi < n := by omega
    clear h
    go_enter Try.func55, Try.ntmps55
    go_wp2
    go_ret
    first | exact ⟨rfl, rfl⟩ | exact ⟨ret_bool (decide_eq_false (by omega)), rfl⟩
  · have h2 : n < lo := by omega
    clear h h1
    go_enter Try.func55, Try.ntmps55
    go_wp2
    go_ret
    first | exact ⟨rfl, rfl⟩ | exact ⟨ret_bool (decide_eq_false (by omega)), rfl⟩

theorem within_ledger_yes (n lo hi : Int) (w : World) (h1 : lo ≤ n) (h2 : n ≤ hi) :
    Calls Try.prog 58 #[.int .i64 n, .int .i64 lo, .int .i64 hi] w fun e w' => e = .returned (.bool true) ∧ w = w' := by
  go_enter Try.func58, Try.ntmps58
  go_wp2
  go_ret
  exact ⟨rfl, rfl⟩
theorem within_ledger_no (n lo hi : Int) (w : World) (h : ¬ (lo ≤ n ∧ n ≤ hi)) :
    Calls Try.prog 58 #[.int .i64 n, .int .i64 lo, .int .i64 hi] w fun e w' => e = .returned (.bool false) ∧ w = w' := by
  by_cases h1 : lo ≤ n
  · have h2 : hi < n := by omega
    clear h
    go_enter Try.func58, Try.ntmps58
    go_wp2
    go_ret
    first | exact ⟨rfl, rfl⟩ | exact ⟨ret_bool (decide_eq_false (by omega)), rfl⟩
  · have h2 : n < lo := by omega
    clear h h1
    go_enter Try.func58, Try.ntmps58
    go_wp2
    go_ret
    first | exact ⟨rfl, rfl⟩ | exact ⟨ret_bool (decide_eq_false (by omega)), rfl⟩

theorem within_rope_yes (n lo hi : Int) (w : World) (h1 : lo ≤ n) (h2 : n ≤ hi) :
    Calls Try.prog 30 #[.int .i64 n, .int .i64 lo, .int .i64 hi] w fun e w' => e = .returned (.bool true) ∧ w = w' := by
  go_enter Try.func30, Try.ntmps30
  go_wp2
  go_ret
  exact ⟨rfl, rfl⟩
theorem within_rope_no (n lo hi : Int) (w : World) (h : ¬ (lo ≤ n ∧ n ≤ hi)) :
    Calls Try.prog 30 #[.int .i64 n, .int .i64 lo, .int .i64 hi] w fun e w' => e = .returned (.bool false) ∧ w = w' := by
  by_cases h1 : lo ≤ n
  · have h2 : hi < n := by omega
    clear h
    go_enter Try.func30, Try.ntmps30
    go_wp2
    go_ret
    first | exact ⟨rfl, rfl⟩ | exact ⟨ret_bool (decide_eq_false (by omega)), rfl⟩
  · have h2 : n < lo := by omega
    clear h h1
    go_enter Try.func30, Try.ntmps30
    go_wp2
    go_ret
    first | exact ⟨rfl, rfl⟩ | exact ⟨ret_bool (decide_eq_false (by omega)), rfl⟩

end
end Go.Proofs.Ytidfidknflcioaa

namespace Go.Proofs.Ytidfidknflcioaa
section
open Go.RowKit

/-- The sizes of the first k pieces, when n octets are divided into M. -/
def pcs (n M : Int) (k : Nat) : List Int := (List.range k).map fun (i : Nat) => n / M + if (i : Int) < n % M then 1 else 0

theorem pcs_len (n M : Int) (k : Nat) : (pcs n M k).length = k := by simp [pcs]
theorem pcs_succ_lt (n M : Int) (k : Nat) (h : (k : Int) < n % M) : pcs n M (k + 1) = pcs n M k ++ [n / M + 1] := by
  simp [pcs, List.range_succ, h]
theorem pcs_succ_ge (n M : Int) (k : Nat) (h : n % M ≤ (k : Int)) : pcs n M (k + 1) = pcs n M k ++ [n / M] := by
  have h' : ¬ (k : Int) < n % M := by omega
  simp [pcs, List.range_succ, h']

/-- A call that gives back a new list of integers and an error. -/
def RetRow (err : Int) (zs : List Int) (w : World) : Ending → World → Prop := fun e w' =>
  ∃ v, e = .returned (.tuple #[v, .int .i64 err]) ∧ w'.ownsRow w.heap.size 3 1 v zs.length (zs.map (Value.int .i64)) ∧ Below w.heap.size w w'

theorem div_bd (n M : Int) (h1 : 0 ≤ n) (h2 : n ≤ 100000) (h3 : 1 ≤ M) : 0 ≤ n / M ∧ n / M ≤ 100000 := by
  refine ⟨Int.ediv_nonneg h1 (by omega), ?_⟩
  have := Int.ediv_le_self M h1
  omega
theorem many_bd (n most : Int) (h1 : 0 ≤ n) (h2 : n ≤ 100000) (h3 : 1 ≤ most) (h4 : most ≤ 100000) : 0 ≤ (n + most - 1) / most ∧ (n + most - 1) / most ≤ 200000 := by
  refine ⟨Int.ediv_nonneg (by omega) (by omega), ?_⟩
  have := Int.ediv_le_self most (a := n + most - 1) (by omega)
  omega

set_option maxHeartbeats 2000000 in
set_option maxRecDepth 100000 in
theorem pieces_ok (n most : Int) (M : Nat) (w : World) (h1 : 0 ≤ n) (h2 : n ≤ 100000) (h3 : 1 ≤ most) (h4 : most ≤ 100000) (hM : (n + most - 1) / most = (M : Int)) (hM2 : M ≤ 200000) :
    Calls Try.prog 74 #[.int .i64 n, .int .i64 most] w (RetRow 0 (pcs n M M) w) := by
  obtain ⟨i0, hi, hz0, hz1, hz2⟩ := info_parts infoInt
  have HM := Lib.hid hM
  clear hM
  go_enter Try.func74, Try.ntmps74
  go_wp2_with (go_at_call 55; refine (within_room_yes _ _ _ _ (by omega) (by omega)).mono ?_; rintro e w' ⟨rfl, rfl⟩)
  rw [HM.out]
  go_loopw [7, 25] (fun v i wr => ∃ k : Nat, k ≤ M ∧ i = .int .i64 k ∧ wr.ownsRow w.heap.size 3 1 v k ((pcs n M k).map (Value.int .i64)) ∧ Below w.heap.size w wr) (fun _ i _ => M - (intOf i).toNat)
  case atStart => exact ⟨0, Nat.zero_le _, rfl, World.ownsRow_nil _ _ _ _, Below.refl _ _⟩
  case round =>
    obtain ⟨k, hk, rfl, hown, hb⟩ := hrel
    have hbs := hb.size
    by_cases hlt : k < M
    · have hbd := div_bd n M h1 h2 (by omega)
      have hM1 : (1 : Int) ≤ (M : Int) := by omega
      by_cases hr : (k : Int) < n % M
      · go_wp2_with (at_builtin; go_must (refine wpList_append_new rfl _ _ 93 rfl w.heap.size 3 i0 (.int .i64 0) 8 Try.underlying93 hi hz0 hz1 hz2 rfl _ _ _ wr _ (.int .i64 (n / M + 1)) rfl (by exact hown) rfl rfl (by unfold maxLen; omega) (by omega) (by omega) ?_))
        intro v' w1 hown' _ hb'
        have hb1 : Below w.heap.size w w1 := hb.trans hb'
        have hown1 : w1.ownsRow w.heap.size 3 1 v' (k + 1) ((pcs n M (k + 1)).map (Value.int .i64)) := by
          rw [pcs_succ_lt n M k hr, List.map_append]; exact hown'
        clear hown' hown
        go_wp2
        go_roundw
        case rel => exact ⟨k + 1, by omega, by go_num, hown1, hb1⟩
        case measure => simp [intOf]; omega
      · go_wp2_with (at_builtin; go_must (refine wpList_append_new rfl _ _ 93 rfl w.heap.size 3 i0 (.int .i64 0) 8 Try.underlying93 hi hz0 hz1 hz2 rfl _ _ _ wr _ (.int .i64 (n / M)) rfl (by exact hown) rfl rfl (by unfold maxLen; omega) (by omega) (by omega) ?_))
        intro v' w1 hown' _ hb'
        have hb1 : Below w.heap.size w w1 := hb.trans hb'
        have hown1 : w1.ownsRow w.heap.size 3 1 v' (k + 1) ((pcs n M (k + 1)).map (Value.int .i64)) := by
          rw [pcs_succ_ge n M k hr, List.map_append]; exact hown'
        clear hown' hown
        go_wp2
        go_roundw
        case rel => exact ⟨k + 1, by omega, by go_num, hown1, hb1⟩
        case measure => simp [intOf]; omega
    · have hkM : k = M := by omega
      subst hkM
      go_wp2
      go_ret2
      exact ⟨_, rfl, by rw [pcs_len]; exact hown, hb⟩

set_option maxHeartbeats 1000000 in
theorem pieces_bad (n most : Int) (w : World) (h : ¬ ((0 ≤ n ∧ n ≤ 100000) ∧ (1 ≤ most ∧ most ≤ 100000))) :
    Calls Try.prog 74 #[.int .i64 n, .int .i64 most] w (RetRow 2 [] w) := by
  by_cases hn : 0 ≤ n ∧ n ≤ 100000
  · have hm : ¬ (1 ≤ most ∧ most ≤ 100000) := fun hm => h ⟨hn, hm⟩
    have HM := Lib.hid hm
    have h1 := hn.1
    have h2 := hn.2
    clear h hm hn
    go_enter Try.func74, Try.ntmps74
    go_wp2_with fail
    refine (within_room_yes _ _ _ _ h1 h2).mono ?_
    rintro e w' ⟨rfl, rfl⟩
    go_wp2_with fail
    refine (within_room_no _ _ _ _ HM.out).mono ?_
    rintro e w' ⟨rfl, rfl⟩
    go_wp2_with fail
    go_ret2
    exact ⟨_, rfl, World.ownsRow_nil _ _ _ _, Below.refl _ _⟩
  · have HN := Lib.hid hn
    clear h hn
    go_enter Try.func74, Try.ntmps74
    go_wp2_with fail
    refine (within_room_no _ _ _ _ HN.out).mono ?_
    rintro e w' ⟨rfl, rfl⟩
    go_wp2_with fail
    go_ret2
    exact ⟨_, rfl, World.ownsRow_nil _ _ _ _, Below.refl _ _⟩

end
end Go.Proofs.Ytidfidknflcioaa
