/-
  The book's Change and Left for all arguments; the reference's Ask. No conditions but what always holds of a book.
  The book's Total. No conditions.
  The owners of a book: the list, and what a sorted list of the map's keys is. No conditions.
  A range over a map that is under way stays while other blocks are turned. No conditions.
  A book's footprint, made narrow; append of one element, and where the row lies. No conditions.
  The book's leases in memory: find, Renew, and slices.Delete over them. No conditions but lengths.
  slices.Sort of a row of integers of the call's own. No conditions but the length.
-/
import Derived.Test.YtfnmjlnpfoclbaaGreatQueueRunsPbg
import Derived.Test.YtfnmjlnpfoclbaaGreatQueueRunsPbj
import Derived.Test.YtfnmjlnpfoclbaaGreatQueueRunsPam
import Derived.Test.YtfnmjlnpfoclbaaGreatQueueRunsPaw
import Derived.Test.YtfnmjlnpfoclbaaGreatQueueRunsPav
import Derived.Test.YtfnmjlnpfoclbaaGreatQueueRunsPbh
import Derived.Test.YtfnmjlnpfoclbaaGreatQueueRunsPbb
import Derived.Shelf.Abstract
import Derived.Lib.SliceRun
import Derived.Lib.SlBy

namespace Go.Proofs.YtfnmjlnpfoclbaaGreat
section
open Go.RowKit
set_option linter.unusedVariables false

def leftV (st : BookSt) (o : Int) : Int := if 1 ≤ o ∧ o ≤ 40 then (match st.acc o with | some (l, h, s) => min (l - (h + s)) (st.budget - st.total) | none => 0) else 0
def SeePost2 (r err : Int) (w : World) : Ending → World → Prop := fun e w' => e = .returned (.tuple #[.int .i64 r, .int .i64 err]) ∧ Below w.heap.size w w'

set_option maxHeartbeats 1000000 in
set_option maxRecDepth 100000 in
theorem leftB_any (p : Nat) (o : Int) (w : World) (F : Nat → Prop) (st : BookSt) (N : Nat) (hb : BookAt w F p st N) (g : Good st) :
    Calls Tryz.prog 42 #[.pointer (some ⟨p, 0, none⟩), .int .i64 o] w (SeePost2 (leftV st o) (heldE st o) w) := by
  by_cases ho : 1 ≤ o ∧ o ≤ 40
  · have he : chkE o [] = 0 := by unfold chkE; rw [if_pos ⟨ho, by simp⟩]
    obtain ⟨mb, blk, lv, ev, D, hm⟩ := hb
    have C := account_any p o _ [] w F st N mb blk lv ev D (reads_nil w) he hm
    cases hk : blk o with
    | none =>
      have hv : leftV st o = 0 := by unfold leftV; rw [if_pos ho, (hm.anone o).1 hk]
      have hee : heldE st o = 7 := by unfold heldE; rw [if_pos ho, (hm.anone o).1 hk]
      rw [hv, hee]
      rw [hk] at C
      have HC := Lib.hid C
      clear C hm he hv hee hk ho
      go_enter Tryz.func42, Tryz.ntmps42
      go_wp2_with fail
      refine HC.out.mono ?_
      rintro e w' ⟨rfl, rfl⟩
      go_wp2_with fail
      go_ret2
      exact ⟨rfl, Below.refl _ _⟩
    | some ab =>
      obtain ⟨l, h, s, h1, h2, h3⟩ := hm.asome o ab hk
      have hv : leftV st o = min (l - (h + s)) (st.budget - st.total) := by unfold leftV; rw [if_pos ho, h1]
      have hee : heldE st o = 0 := by unfold heldE; rw [if_pos ho, h1]
      rw [hv, hee]
      rw [hk] at C
      obtain ⟨a1, a2, a3, a4, a5⟩ := g.own o l h s h1
      have s0 := g.s0 h1
      have t0 := g.tot0
      have t1 := g.totb
      have t2 := g.bud
      have HL := Lib.hid (left_any p ab st mb lv ev l h s w hm.self h2 (by omega) (by omega) (by omega) (by omega) (by omega))
      generalize min (l - (h + s)) (st.budget - st.total) = m at *
      have HC := Lib.hid C
      clear C hm he hv hee hk ho h1 h2 h3 g a5
      go_enter Tryz.func42, Tryz.ntmps42
      go_wp2_with fail
      refine HC.out.mono ?_
      rintro e w' ⟨rfl, rfl⟩
      unfold ptrOf
      go_wp2_with fail
      refine HL.out.mono ?_
      rintro e w3 ⟨rfl, q, rfl⟩
      go_wp2_with fail
      go_ret2
      exact ⟨rfl, bdrewN (Below.refl _ _) q⟩
  · have he : chkE o [] = 2 := by unfold chkE; rw [if_neg (fun h => ho h.1)]
    have HC := Lib.hid (account_bad p o _ [] w F st N (reads_nil w) hb 2 (Or.inl ⟨he, rfl⟩))
    have hv : leftV st o = 0 := by unfold leftV; rw [if_neg ho]
    have hee : heldE st o = 2 := by unfold heldE; rw [if_neg ho]
    rw [hv, hee]
    clear hb g he hv hee ho
    go_enter Tryz.func42, Tryz.ntmps42
    go_wp2_with fail
    refine HC.out.mono ?_
    rintro e w' ⟨rfl, rfl⟩
    unfold ptrOf
    go_wp2_with fail
    go_ret2
    exact ⟨rfl, Below.refl _ _⟩

/-- The reference's Ask. -/
theorem askR_all (p : Nat) (o : Int) (w : World) (F : Nat → Prop) (st : BookSt) (wh : Bool) (hb : RB w F p st wh) (g : GoodE st) :
    Calls Tryz.prog 43 #[.pointer (some ⟨p, 0, none⟩), .int .i64 o] w (fun x w' => x = .returned (.tuple #[.int .i64 (heldV st o), .int .i64 (leasedV st o), .int .i64 (leftV st o), .int .i64 (heldE st o)]) ∧ Below w.heap.size w w') := by
  unfold heldV leasedV leftV heldE
  rcases fault_cases st o [] with ⟨h1, h2⟩ | ⟨h1, h2, h3⟩ | ⟨h1, h2, l, h, s, h3⟩
  · have ho : ¬ (1 ≤ o ∧ o ≤ 40) := fun ho => by
      have : chkE o [] = 0 := by unfold chkE; rw [if_pos ⟨ho, by simp⟩]
      rw [h2] at this; cases this
    rw [if_neg ho, if_neg ho, if_neg ho, if_neg ho]
    exact askR_err p o w F st wh hb 2 h1 (Or.inl rfl)
  · have ho := (chkE_zero h2).1
    rw [if_pos ho, if_pos ho, if_pos ho, if_pos ho, h3]
    exact askR_err p o w F st wh hb 7 h1 (Or.inr rfl)
  · have ho := (chkE_zero h2).1
    rw [if_pos ho, if_pos ho, if_pos ho, if_pos ho, h3]
    exact askR_ok p o l h s w F st wh hb g h1 h2 h3

end
end Go.Proofs.YtfnmjlnpfoclbaaGreat

namespace Go.Proofs.YtfnmjlnpfoclbaaGreat
section
open Go.RowKit
set_option linter.unusedVariables false

set_option maxHeartbeats 1000000 in
theorem total_any (p : Nat) (w : World) (F : Nat → Prop) (st : BookSt) (N : Nat) (hb : BookAt w F p st N) :
    Calls Tryz.prog 44 #[.pointer (some ⟨p, 0, none⟩)] w (fun e w' => e = .returned (.int .i64 st.total) ∧ w = w') := by
  obtain ⟨mb, blk, lv, ev, D, hm⟩ := hb
  have d1 : w.cell? ⟨p, 1, none⟩ = some (.int .i64 st.total) := by rw [cell_of hm.self]; rfl
  clear hm
  go_enter Tryz.func44, Tryz.ntmps44
  go_wp2_with fail
  go_ret
  exact ⟨rfl, rfl⟩

end
end Go.Proofs.YtfnmjlnpfoclbaaGreat

namespace Go.Proofs.YtfnmjlnpfoclbaaGreat
section
open Go.RowKit Go.Maps
set_option linter.unusedVariables false

theorem BookMem.has {w : World} {F : Nat → Prop} {p : Nat} {st : BookSt} {N mb : Nat} {blk : Int → Option Nat} {lv ev : Value} {D : DataW Unit} (h : BookMem w F p st N mb blk lv ev D) (o : Int) : Maps.has D (.int .i64 o) = (st.acc o).isSome := by
  cases hb : blk o with
  | none =>
    rw [(h.anone o).1 hb]
    exact has_false_of_atKey (fun z => by rw [h.look o z, hb]; rfl)
  | some b =>
    obtain ⟨l, x, s, h1, _, _⟩ := h.asome o b hb
    rw [h1]
    exact has_true_of_atKey (y := .lit (.int .i64 b)) (fun z => by rw [h.look o z, hb]; rfl)

/-- The owners up to one. -/
def ownK (st : BookSt) : Nat → List Int
  | 0 => []
  | k + 1 => ownK st k ++ (if (st.acc ((k : Int) + 1)).isSome then [(k : Int) + 1] else [])
theorem ownK_mem (st : BookSt) (x : Int) : ∀ k : Nat, x ∈ ownK st k ↔ (1 ≤ x ∧ x ≤ k ∧ (st.acc x).isSome = true)
  | 0 => by simp [ownK]; omega
  | k + 1 => by
    simp only [ownK, List.mem_append, ownK_mem st x k]
    by_cases hs : (st.acc ((k : Int) + 1)).isSome = true
    · rw [if_pos hs]
      by_cases e : x = (k : Int) + 1
      · subst e; simp [hs]; omega
      · simp only [List.mem_singleton, e, or_false, Int.natCast_add, Int.natCast_one]
        constructor
        · rintro ⟨h1, h2, h3⟩; exact ⟨h1, by omega, h3⟩
        · rintro ⟨h1, h2, h3⟩; exact ⟨h1, by omega, h3⟩
    · rw [if_neg hs]
      simp only [List.not_mem_nil, or_false, Int.natCast_add, Int.natCast_one]
      constructor
      · rintro ⟨h1, h2, h3⟩; exact ⟨h1, by omega, h3⟩
      · rintro ⟨h1, h2, h3⟩
        refine ⟨h1, ?_, h3⟩
        by_cases e : x = (k : Int) + 1
        · subst e; exact absurd h3 hs
        · omega
theorem ownK_sorted (st : BookSt) : ∀ k : Nat, (ownK st k).Pairwise (· < ·)
  | 0 => List.Pairwise.nil
  | k + 1 => by
    simp only [ownK]
    refine List.pairwise_append.2 ⟨ownK_sorted st k, by split <;> simp, fun a ha b hb => ?_⟩
    have h1 := ((ownK_mem st a k).1 ha).2.1
    split at hb
    · simp at hb; omega
    · simp at hb
theorem ownK_len (st : BookSt) : ∀ k : Nat, (ownK st k).length ≤ k
  | 0 => Nat.le_refl _
  | k + 1 => by
    have := ownK_len st k
    simp only [ownK, List.length_append]
    split <;> simp <;> omega
def ownersL (st : BookSt) : List Int := ownK st 40
theorem owners_sorted {st : BookSt} (g : GoodE st) {ss : List Int} (hn : ss.Nodup) (hx : ∀ x : Int, x ∈ ss ↔ (st.acc x).isSome = true) : ss.mergeSort (fun x y => decide (x ≤ y)) = ownersL st := by
  have hlt := ownK_sorted st 40
  have hp : ss.Perm (ownersL st) := by
    refine (List.perm_ext_iff_of_nodup hn (hlt.imp (fun h => Int.ne_of_lt h))).2 (fun a => ?_)
    rw [hx a]
    rw [ownK_mem]
    constructor
    · intro h
      obtain ⟨⟨l, x, s⟩, ha⟩ := Option.isSome_iff_exists.1 h
      have := (g.own a l x s ha).1
      exact ⟨this.1, by omega, h⟩
    · exact fun h => h.2.2
  refine List.Perm.eq_of_pairwise (le := fun a b => a ≤ b) ?_ ?_ (hlt.imp (fun h => Int.le_of_lt h)) ((List.mergeSort_perm ss _).trans hp)
  · intro a b _ _ h1 h2; omega
  · have := List.pairwise_mergeSort (le := fun x y : Int => decide (x ≤ y)) (by intro a b c h1 h2; simp at *; omega) (by intro a b; simp; omega) ss
    exact this.imp (fun h => by simpa using h)

theorem CameR.len {st : BookSt} {left : Lit → Bool} {ss : List Int} (h : CameR st left ss) (g : GoodE st) : ss.length ≤ 40 := by
  have hsub : ∀ x ∈ ss, x ∈ ownersL st := fun x hx => by
    have h1 := ((h.2 x).1 hx).1
    obtain ⟨⟨l, y, s⟩, ha⟩ := Option.isSome_iff_exists.1 h1
    have := (g.own x l y s ha).1
    exact (ownK_mem st x 40).2 ⟨this.1, by omega, h1⟩
  have := List.Nodup.length_le_of_subset h.1 hsub
  exact Nat.le_trans this (ownK_len st 40)
theorem ptrElem_shape {v : Value} {y : DataW Unit × List MemPlace} (e : ptrElem v = some y) : ∃ c : Option Nat, v = ptrOf c := by
  unfold ptrElem at e
  split at e
  · exact ⟨none, rfl⟩
  · next b => exact ⟨some b, rfl⟩
  · cases e

end
end Go.Proofs.YtfnmjlnpfoclbaaGreat

namespace Go.Proofs.YtfnmjlnpfoclbaaGreat
section
open Go.RowKit Go.Maps
set_option linter.unusedVariables false

theorem ranges_same {k : TypeId} {R : Value → Option (DataW Unit × List MemPlace)} {w w' : World} {b r n : Nat} {D : DataW Unit} {left : Lit → Bool} {cnt : Nat}
    (h : w.ranges Tryz.prog k R b r n D left cnt) (hb : w'.heap[b]? = w.heap[b]?) (hr : w'.heap[r]? = w.heap[r]?) : w'.ranges Tryz.prog k R b r n D left cnt := by
  obtain ⟨es, clock, since, seen, c0, h1, F, hs, hD, h2, rest⟩ := h
  exact ⟨es, clock, since, seen, c0, hb.trans h1, F, hs, hD, hr.trans h2, rest⟩
theorem ranges_lt {k : TypeId} {R : Value → Option (DataW Unit × List MemPlace)} {w : World} {b r n : Nat} {D : DataW Unit} {left : Lit → Bool} {cnt : Nat}
    (h : w.ranges Tryz.prog k R b r n D left cnt) : b < w.heap.size ∧ r < w.heap.size := by
  obtain ⟨es, clock, since, seen, c0, h1, F, hs, hD, h2, rest⟩ := h
  exact ⟨lt_of h1, lt_of h2⟩

/-- The accounts of some owners alone. -/
def accIn (st : BookSt) (ss : List Int) : Int → Option (Int × Int × Int) := fun o => if o ∈ ss then st.acc o else none
theorem accIn_snoc (st : BookSt) (ss : List Int) (x : Int) : accIn st (ss ++ [x]) = fun o => if o = x then st.acc x else accIn st ss o := by
  funext o
  unfold accIn
  by_cases h : o = x
  · subst h; simp
  · simp [h]
theorem accIn_all (st : BookSt) (ss : List Int) (h : ∀ x, (st.acc x).isSome = true → x ∈ ss) : accIn st ss = st.acc := by
  funext o
  unfold accIn
  by_cases ho : o ∈ ss
  · rw [if_pos ho]
  · rw [if_neg ho]
    cases e : st.acc o with
    | none => rfl
    | some a => exact absurd (h o (by rw [e]; rfl)) ho

end
end Go.Proofs.YtfnmjlnpfoclbaaGreat

namespace Go.Proofs.YtfnmjlnpfoclbaaGreat
section
open Go.RowKit
set_option linter.unusedVariables false

theorem BookAt.narrow' {w : World} {F : Nat → Prop} {p : Nat} {st : BookSt} {N : Nat} (h : BookAt w F p st N) : BookAt w (fun k => F k ∧ k < w.heap.size) p st N := by
  obtain ⟨mb, blk, lv, ev, D, hm⟩ := h
  refine ⟨mb, blk, lv, ev, D, ⟨hm.self, ⟨hm.fp, lt_of hm.self⟩, hm.map, ⟨hm.fmap, hm.map.lt⟩, hm.look, hm.anone, ?_, hm.inj, hm.lrow, ?_, hm.erow, ?_⟩⟩
  · intro o b hb
    obtain ⟨l, h, s, h1, h2, h3⟩ := hm.asome o b hb
    exact ⟨l, h, s, h1, h2, h3, lt_of h2⟩
  · intro k hk
    obtain ⟨cur, hc⟩ := row_block hm.lrow hk
    exact ⟨hm.flea k hk, lt_of hc⟩
  · intro k hk
    obtain ⟨cur, hc⟩ := row_block hm.erow hk
    exact ⟨hm.fent k hk, lt_of hc⟩

/-- 'append(out, x)' of an element, and where the row lies then. -/
theorem wpList_append_at {P : Program} {ops : Array Oper} {rest : List Oper} {o : Oper} {a : Act} {Q : Exit → Act → World → Prop} (hgd : o.guard = none) (s x : Operand) (t : TypeId)
    (ho : o.op = .call { callee := .builtin .append, args := #[s, x], argTypes := #[t, t] })
    (base : Nat) (e : TypeId) (i : TypeInfo) (z : Value) (size bytes : Nat) (ht : P.underlying t = some (.slice e)) (hi : P.info? e = some i) (hz : i.zero = some z)
    (hsize : i.size = size) (hby : i.bytes = bytes) (hzs : z.cells.size = size) (hsz : 0 < size)
    (v : Value) (n : Nat) (xs : List Value) (wr : World) (e' : TypeId) (us : List Value) (hs : a.eval s = v) (hown : wr.ownsRow base e size v n xs)
    (hx : a.eval x = .slice (some ⟨wr.heap.size, 0, none⟩) 1 1) (hl : us.length = size) (h1 : ∀ u ∈ us, u.oneCell' = true)
    (h63 : n + 1 ≤ maxLen) (hbytes : (n + 1) * bytes ≤ 140737488355328) (hbase : base ≤ wr.heap.size)
    (h : ∀ g cap w', w'.ownsRow base e size (.slice (some ⟨g, 0, none⟩) (n + 1) cap) (n + 1) (xs ++ us) → wr.grownBy w' v.ownBlock → (v.ownBlock = some g ∨ wr.heap.size ≤ g) → wpList P ops Q rest (a.put o.dst (.slice (some ⟨g, 0, none⟩) (n + 1) cap)) w') :
    wpList P ops Q (o :: rest) a (wr.alloc (.cells us.toArray e')) := by
  refine wpList_plain hgd fun K hK => ?_
  have hnews : ∀ j u, us[j]? = some u → (wr.alloc (.cells us.toArray e')).cell? ((⟨wr.heap.size, 0, none⟩ : Addr).add j) = some u := by
    intro j u hj
    have e1 : (⟨wr.heap.size, 0, none⟩ : Addr).add j = ⟨wr.heap.size, j, none⟩ := by unfold Addr.add; split <;> simp_all
    rw [e1, cell_of_row _ _ _ _ _ _ (heap_alloc_new wr _)]
    simpa using hj
  obtain ⟨g, cap, w', hr, hown', hg', hp⟩ := run_append_place (P := P) (wr.alloc (.cells us.toArray e')) base t o.type e i z size bytes ht hi hz hsize hby hzs hsz v n xs (hown.alloc _) ⟨wr.heap.size, 0, none⟩ 1 1 us (by omega) hnews h1 (by omega) h63 hbytes (by simp; omega)
  unfold Oper.wp execOp
  simp only [ho, resolve, invoke, builtin, Sem.run_bind, Sem.run_pure, Result.andThen_ok, List.map_toArray, List.map_cons, List.map_nil, hs, hx, hr]
  have hg2 : wr.grownBy w' v.ownBlock := ⟨hg'.os, hg'.tape, hg'.output, Nat.le_trans (by simp) hg'.size, fun k hk hne => (hg'.block k (by simp; omega) hne).trans (heap_alloc_old wr _ hk)⟩
  exact hK _ _ (h g cap w' hown' hg2 (hp.imp id (fun x => by simp at x; omega)))

end
end Go.Proofs.YtfnmjlnpfoclbaaGreat

namespace Go.Proofs.YtfnmjlnpfoclbaaGreat
section
open Go.RowKit
set_option linter.unusedVariables false

theorem lcells_len (ls : List Lea) : (ls.flatMap Lea.cells).length = ls.length * 4 := by
  induction ls with
  | nil => rfl
  | cons e es ih => rw [List.flatMap_cons, List.length_append, ih, List.length_cons]; simp [Lea.cells]; omega
theorem lcells_get : ∀ (ls : List Lea) (k i : Nat) (l : Lea), ls[k]? = some l → i < 4 → (ls.flatMap Lea.cells)[k * 4 + i]? = l.cells[i]?
  | [], k, i, l, h, _ => by simp at h
  | x :: ls, 0, i, l, h, hi => by
    simp at h; subst h
    rw [List.flatMap_cons, List.getElem?_append_left (by simp [Lea.cells]; omega)]; simp
  | x :: ls, k + 1, i, l, h, hi => by
    simp at h
    rw [List.flatMap_cons, List.getElem?_append_right (by simp [Lea.cells]; omega)]
    have := lcells_get ls k i l h hi
    rw [← this]; congr 1; simp [Lea.cells]; omega
theorem lcells_take (ls : List Lea) (k : Nat) : (ls.flatMap Lea.cells).take (k * 4) = (ls.take k).flatMap Lea.cells := by
  induction ls generalizing k with
  | nil => simp
  | cons x ls ih =>
    cases k with
    | zero => simp
    | succ k =>
      rw [List.flatMap_cons, List.take_succ_cons, List.flatMap_cons, ← ih k, List.take_append]
      have : x.cells.length = 4 := rfl
      rw [List.take_of_length_le (by rw [this]; omega), this]; congr 2; omega
theorem lcells_drop (ls : List Lea) (k : Nat) : (ls.flatMap Lea.cells).drop (k * 4) = (ls.drop k).flatMap Lea.cells := by
  induction ls generalizing k with
  | nil => simp
  | cons x ls ih =>
    cases k with
    | zero => simp
    | succ k =>
      rw [List.flatMap_cons, List.drop_succ_cons, ← ih k, List.drop_append]
      have : x.cells.length = 4 := rfl
      rw [List.drop_eq_nil_of_le (by rw [this]; omega), this, List.nil_append]; congr 1; omega
theorem lcells_one (ls : List Lea) : ∀ u ∈ ls.flatMap Lea.cells, u.oneCell' = true := by
  intro u hu
  obtain ⟨e, _, he⟩ := List.mem_flatMap.1 hu
  simp [Lea.cells] at he
  rcases he with rfl | rfl | rfl | rfl <;> rfl
theorem infoLea : (Tryz.prog.info? 98).map (fun i => (i.zero, i.size, i.bytes)) = some (some (.agg #[.int .i64 0, .int .i64 0, .int .i64 0, .int .i64 0]), 4, 32) := by kernel_rfl

instance : Inhabited Lea := ⟨⟨0, 0, 0, 0⟩⟩
/-- A row of leases: the value's shape, and lease k's cells. -/
theorem lrow_open {w : World} {B : Nat} {v : Value} {ls : List Lea} (h : w.ownsRow B 98 4 v ls.length (ls.flatMap Lea.cells)) (h0 : 0 < ls.length) :
    ∃ g cap cur, v = .slice (some ⟨g, 0, none⟩) ls.length cap ∧ B ≤ g ∧ w.heap[g]? = some (.cells cur 98 (0, 0)) ∧ ls.length ≤ cap ∧ cap ≤ maxLen ∧ cur.size = cap * 4 ∧ cur.toList.take (ls.length * 4) = ls.flatMap Lea.cells ∧
      (∀ k l, ls[k]? = some l → ∀ i, i < 4 → w.cell? ⟨g, k * 4 + i, none⟩ = l.cells[i]?) := by
  rcases h.2 with ⟨_, h2⟩ | ⟨g, cap, cur, hv, hb, hg, hn, hm, hs, ht⟩
  · omega
  · refine ⟨g, cap, cur, hv, hb, hg, hn, hm, hs, ht, ?_⟩
    intro k l hk i hi
    have hkl : k < ls.length := (List.getElem?_eq_some_iff.1 hk).1
    rw [cell_of hg, ← Array.getElem?_toList, ← lcells_get ls k i l hk hi, ← ht, List.getElem?_take_of_lt (by omega)]

/-! find. -/
theorem idxBy_findL (no : Int) (x : Lea) : ∀ (ls : List Lea) (i : Nat), Lib.idxByFrom (fun _ y => decide (y.no = no)) x ls i = match findL no ls with | none => -1 | some k => ((i + k : Nat) : Int)
  | [], i => rfl
  | y :: ls, i => by
    unfold Lib.idxByFrom findL
    by_cases h : y.no = no
    · simp [h]
    · simp only [h, decide_false, if_false, Bool.false_eq_true]
      rw [idxBy_findL no x ls (i + 1)]
      cases findL no ls with
      | none => rfl
      | some k => simp only [Option.map_some]; congr 1; omega

def findV (st : BookSt) (no : Int) : Int := match findL no st.leases with | none => -1 | some k => (k : Int)
def SeePost (r : Int) (w : World) : Ending → World → Prop := fun e w' => e = .returned (.int .i64 r) ∧ Below w.heap.size w w'

end
end Go.Proofs.YtfnmjlnpfoclbaaGreat

namespace Go.Proofs.YtfnmjlnpfoclbaaGreat
section
open Go.RowKit Go.Sort
set_option linter.unusedVariables false

theorem sort_own (v : Value) (B : Nat) (xs : List Int) (w : World) (hr : w.ownsRow B 3 1 v xs.length (xs.map fun x => Value.int .i64 x)) (hlen : xs.length ≤ 1000000) (hB : B ≤ w.heap.size) :
    Calls Tryz.prog 84 #[v] w (fun e w' => e = .returned (.tuple #[]) ∧ w'.ownsRow B 3 1 v (xs.mergeSort fun x y => decide (x ≤ y)).length ((xs.mergeSort fun x y => decide (x ≤ y)).map fun x => Value.int .i64 x) ∧ Below B w w') := by
  rcases hr.2 with ⟨rfl, h0⟩ | ⟨g, cap, cur, rfl, hb, hg, hn, hcm, hs, ht⟩
  · have hz : xs = [] := List.eq_nil_of_length_eq_zero h0
    subst hz
    refine (Tryz.slices_Sort_int_none none 0 w).mono ?_
    rintro e w' ⟨rfl, rfl⟩
    exact ⟨rfl, by simpa using hr, Below.refl _ _⟩
  · have hcell : ∀ j, j < xs.length → cur[j]? = some (Value.int .i64 (xs.toArray[j]!)) := by
      intro j hj
      rw [← Array.getElem?_toList]
      have h1 : cur.toList[j]? = (cur.toList.take (xs.length * 1))[j]? := (List.getElem?_take_of_lt (by omega)).symm
      rw [h1, ht, List.getElem?_map, List.getElem?_eq_getElem hj, getElem!_pos xs.toArray j (by simpa using hj)]
      simp
    have hH : Holds (Value.int .i64) w g 0 xs.toArray := by
      intro j hj
      have hj' : j < xs.length := by simpa using hj
      exact ⟨by rw [Nat.zero_add, cell_of hg]; exact hcell j hj', free_of hg _⟩
    refine (Tryz.slices_Sort_int g 0 cap xs w hH (lt_of hg) (by omega)).mono ?_
    rintro e w' ⟨rfl, n, os, rfl⟩
    have hlm : (xs.mergeSort fun x y => decide (x ≤ y)).length = xs.length := List.length_mergeSort _
    generalize (xs.mergeSort fun x y => decide (x ≤ y)) = ys at *
    have hblk : ∀ k, k < w.heap.size → (grow (putRow (Value.int .i64) (Sort.ahead w n) g 0 ys.toArray) os).heap[k]? = (w.heap.modify g (onCells (putCells (Value.int .i64) 0 ys.toArray)))[k]? := by
      intro k hk
      unfold grow putRow mapBlock
      simp only [heap_ahead]
      rw [Array.getElem?_append_left (by simpa using hk)]
    refine ⟨rfl, ⟨by simp, Or.inr ⟨g, cap, putCells (Value.int .i64) 0 ys.toArray cur, by rw [hlm], hb, ?_, by omega, hcm, by simp [putCells, hs], ?_⟩⟩, ?_, ?_, ?_, ?_, ?_⟩
    · rw [hblk g (lt_of hg), Array.getElem?_modify]
      simp [hg, onCells]
    · apply List.ext_getElem?
      intro t
      by_cases h : t < ys.length
      · rw [List.getElem?_take_of_lt (by omega)]
        have hcs : t < cur.size := by omega
        have hts : t < ys.toArray.size := by simpa using h
        simp only [Array.getElem?_toList, putCells, Array.getElem?_mapIdx]
        rw [Array.getElem?_eq_getElem hcs]
        simp only [Option.map_some, Nat.zero_le, Nat.zero_add, hts, and_self, if_true, Nat.sub_zero]
        rw [getElem!_pos ys.toArray t hts, List.getElem?_map, List.getElem?_eq_getElem h]
        simp
      · rw [List.getElem?_eq_none (by simp; omega), List.getElem?_eq_none (by simp; omega)]
    · rfl
    · rfl
    · rfl
    · unfold grow putRow mapBlock
      simp
    · intro k hk
      rw [hblk k (by omega), Array.getElem?_modify, if_neg (by omega)]

end
end Go.Proofs.YtfnmjlnpfoclbaaGreat
