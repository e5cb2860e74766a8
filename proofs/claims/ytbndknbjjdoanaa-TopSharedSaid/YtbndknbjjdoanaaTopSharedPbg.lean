/-
  written: which octets of each part are written; what it gives. Conditions: numbers in their bounds.
-/
import Derived.Test.YtbndknbjjdoanaaTopSharedPbf
namespace Go.Proofs.Ytbndknbjjdoanaa
open Go.RowKit
set_option linter.unusedVariables false

/-- Which octets of each part lie between two positions: from, to (to before from: none). -/
structure Wr where
  b : Nat
  f : Int
  t : Int
def writtenP : List Pt → Int → Int → List Wr
  | [], _, _ => []
  | x :: l, f, t => ⟨x.b, (x.f : Int) + max f 0, (x.f : Int) + min t ((x.t : Int) - x.f)⟩ :: writtenP l (f - ((x.t : Int) - x.f)) (t - ((x.t : Int) - x.f))
theorem writtenP_len : ∀ (l : List Pt) (f t : Int), (writtenP l f t).length = l.length
  | [], _, _ => rfl
  | x :: l, f, t => by unfold writtenP; rw [List.length_cons, List.length_cons, writtenP_len l]
theorem writtenP_get : ∀ (l : List Pt) (k : Nat) (x : Pt) (f t : Int), (∀ y ∈ l, y.f ≤ y.t) → l[k]? = some x → (writtenP l f t)[k]? = some ⟨x.b, (x.f : Int) + max (f - offP l k) 0, (x.f : Int) + min (t - offP l k) ((x.t : Int) - x.f)⟩
  | [], k, x, f, t, _, h => by simp at h
  | y :: l, 0, x, f, t, _, h => by
    simp at h
    subst h
    have e : offP (y :: l) 0 = 0 := by simp [offP, lenP]
    rw [e, Int.sub_zero, Int.sub_zero]
    simp [writtenP]
  | y :: l, k + 1, x, f, t, ho, h => by
    have ih := writtenP_get l k x (f - ((y.t : Int) - y.f)) (t - ((y.t : Int) - y.f)) (fun z hz => ho z (by simp [hz])) (by simpa using h)
    have hy := ho y (by simp)
    have e : offP (y :: l) (k + 1) = ((y.t : Int) - y.f) + offP l k := by
      unfold offP
      rw [List.take_succ_cons]
      have : lenP (y :: l.take k) = y.n + lenP (l.take k) := by simp [lenP]
      rw [this]
      unfold Pt.n
      omega
    unfold writtenP
    rw [List.getElem?_cons_succ, ih, e, show f - ((y.t : Int) - y.f) - offP l k = f - ((y.t : Int) - y.f + offP l k) by omega, show t - ((y.t : Int) - y.f) - offP l k = t - ((y.t : Int) - y.f + offP l k) by omega]
def wrCells (l : List Wr) : List Value := l.flatMap fun x => [.int .i64 (x.b : Int), .int .i64 x.f, .int .i64 x.t]
theorem wrCells_len (l : List Wr) : (wrCells l).length = l.length * 3 := by
  induction l with
  | nil => rfl
  | cons x l ih => simp only [wrCells, List.flatMap_cons, List.length_append, List.length_cons, List.length_nil] at *; omega
theorem wrCells_get (l : List Wr) (k : Nat) (p : Wr) (h : l[k]? = some p) : (wrCells l)[k * 3]? = some (.int .i64 (p.b : Int)) ∧ (wrCells l)[k * 3 + 1]? = some (.int .i64 p.f) ∧ (wrCells l)[k * 3 + 2]? = some (.int .i64 p.t) := by
  induction l generalizing k with
  | nil => simp at h
  | cons q l ih =>
    have e : wrCells (q :: l) = .int .i64 (q.b : Int) :: .int .i64 q.f :: .int .i64 q.t :: wrCells l := by simp [wrCells]
    rw [e]
    cases k with
    | zero => simp at h; subst h; exact ⟨rfl, rfl, rfl⟩
    | succ k =>
      have := ih k (by simpa using h)
      rw [Nat.succ_mul]
      exact ⟨by simpa using this.1, by simpa [Nat.add_assoc] using this.2.1, by simpa [Nat.add_assoc] using this.2.2⟩
theorem wrCells_app (a b : List Wr) : wrCells (a ++ b) = wrCells a ++ wrCells b := by simp [wrCells]
theorem wrCells_set : ∀ (A B : List Wr) (x y : Wr), ((((wrCells (A ++ x :: B)).set (A.length * 3) (.int .i64 (y.b : Int))).set (A.length * 3 + 1) (.int .i64 y.f)).set (A.length * 3 + 2) (.int .i64 y.t)) = wrCells (A ++ y :: B)
  | [], B, x, y => by simp [wrCells]
  | a :: A, B, x, y => by
    have ih := wrCells_set A B x y
    have e : ∀ (l : List Wr), wrCells (a :: l) = .int .i64 (a.b : Int) :: .int .i64 a.f :: .int .i64 a.t :: wrCells l := fun l => by simp [wrCells]
    rw [List.cons_append, e, List.cons_append, e, List.length_cons, Nat.succ_mul, ← ih]
    rw [show A.length * 3 + 3 = (A.length * 3 + 2) + 1 by omega, show (A.length * 3 + 2) + 1 + 1 = (A.length * 3 + 3) + 1 by omega, show A.length * 3 + 2 + 1 + 2 = (A.length * 3 + 4) + 1 by omega, List.set_cons_succ, List.set_cons_succ, List.set_cons_succ]
    rw [show A.length * 3 + 2 = (A.length * 3 + 1) + 1 by omega, show A.length * 3 + 3 = (A.length * 3 + 2) + 1 by omega, show A.length * 3 + 4 = (A.length * 3 + 3) + 1 by omega, List.set_cons_succ, List.set_cons_succ, List.set_cons_succ]
    rw [show A.length * 3 + 2 = (A.length * 3 + 1) + 1 by omega, show A.length * 3 + 3 = (A.length * 3 + 2) + 1 by omega, List.set_cons_succ, List.set_cons_succ, List.set_cons_succ]
/-- A slice of such, wherever it begins. -/
def WrIn (w : World) (v : Value) (l : List Wr) : Prop :=
  ∃ a cap, v = .slice a l.length cap ∧ l.length ≤ cap ∧ cap ≤ 9223372036854775807 ∧ ∀ k p, l[k]? = some p → ∃ b o, a = some ⟨b, o, none⟩ ∧ w.cell? ⟨b, o + k * 3, none⟩ = some (.int .i64 (p.b : Int)) ∧ w.cell? ⟨b, o + k * 3 + 1, none⟩ = some (.int .i64 p.f) ∧ w.cell? ⟨b, o + k * 3 + 2, none⟩ = some (.int .i64 p.t)
theorem WrIn.row {w : World} {B e : Nat} {v : Value} {l : List Wr} (h : w.ownsRow B e 3 v l.length (wrCells l)) : WrIn w v l := by
  obtain ⟨a, c, rfl⟩ := wrow_sh h
  have hle : l.length ≤ c ∧ c ≤ 9223372036854775807 := by
    rcases h.2 with ⟨hv, h0⟩ | ⟨g, cap, cur, hv, _, _, hn, hm, _⟩
    · simp only [Value.slice.injEq] at hv; omega
    · simp only [Value.slice.injEq] at hv
      have : cap ≤ 9223372036854775807 := hm
      omega
  refine ⟨a, c, rfl, hle.1, hle.2, fun k p hk => ?_⟩
  obtain ⟨q1, q2, q3⟩ := wrCells_get l k p hk
  obtain ⟨g, rfl, c1, _⟩ := wrow_cell h q1
  obtain ⟨g', hg', c2, _⟩ := wrow_cell h q2
  obtain ⟨g2, hg2, c3, _⟩ := wrow_cell h q3
  simp only [Option.some.injEq, Addr.mk.injEq, and_true] at hg' hg2
  subst hg'
  subst hg2
  exact ⟨g, 0, rfl, by rw [Nat.zero_add]; exact c1, by rw [Nat.zero_add]; exact c2, by rw [Nat.zero_add]; exact c3⟩
theorem WrIn.below {w w' : World} {v : Value} {l : List Wr} (h : WrIn w v l) (hb : Below w.heap.size w w') : WrIn w' v l := by
  obtain ⟨a, c, h1, h2, h3, h4⟩ := h
  refine ⟨a, c, h1, h2, h3, fun k p hk => ?_⟩
  obtain ⟨b, o, e, c1, c2, c3⟩ := h4 k p hk
  have lt := World.block_lt_of_cell? w _ c1
  exact ⟨b, o, e, (hb.cell (p := ⟨b, o + k * 3, none⟩) lt).trans c1, (hb.cell (p := ⟨b, o + k * 3 + 1, none⟩) lt).trans c2, (hb.cell (p := ⟨b, o + k * 3 + 2, none⟩) lt).trans c3⟩

def WrPost (l : List Pt) (f t : Int) (w : World) : Ending → World → Prop := fun e w' => ∃ v, e = .returned v ∧ w'.ownsRow w.heap.size 75 3 v l.length (wrCells (writtenP l f t)) ∧ Below w.heap.size w w'
theorem wr_step {l : List Pt} {f t : Int} {k : Nat} {x : Wr} (h : (writtenP l f t)[k]? = some x) : (writtenP l f t).take (k + 1) = (writtenP l f t).take k ++ [x] := by
  rw [List.take_add_one, h]
  rfl

theorem three_of {α : Type} {r : List α} {n : Nat} (h : r.length = (n + 1) * 3) : ∃ a b c r', r = a :: b :: c :: r' ∧ r'.length = n * 3 := by
  match r, h with
  | [], h => simp at h
  | [_], h => simp at h; omega
  | [_, _], h => simp at h; omega
  | a :: b :: c :: r', h => exact ⟨a, b, c, r', rfl, by simp at h; omega⟩
theorem wr_set {A : List Wr} {k : Nat} (hA : A.length = k) (a b c : Value) (r : List Value) (y : Wr) : ((((wrCells A ++ a :: b :: c :: r).set (k * 3) (.int .i64 (y.b : Int))).set (k * 3 + 1) (.int .i64 y.f)).set (k * 3 + 2) (.int .i64 y.t)) = wrCells (A ++ [y]) ++ r := by
  have hl : (wrCells A).length = k * 3 := by rw [wrCells_len, hA]
  rw [List.set_append_right _ _ (by omega), List.set_append_right _ _ (by omega), List.set_append_right _ _ (by omega), wrCells_app, hl, List.append_assoc]
  congr 1
  rw [show k * 3 - k * 3 = 0 by omega, show k * 3 + 1 - k * 3 = 1 by omega, show k * 3 + 2 - k * 3 = 2 by omega]
  rfl

set_option maxHeartbeats 2000000 in
set_option maxRecDepth 100000 in
theorem written_any (v : Value) (l : List Pt) (f t : Int) (w : World) (hv : PtIn w v l) (ho : PtOk l) (hf : -1000000000 ≤ f ∧ f ≤ 1000000000) (ht : -1000000000 ≤ t ∧ t ≤ 1000000000) :
    Calls Try.prog 48 #[v, .int .i64 f, .int .i64 t] w (WrPost l f t w) := by
  obtain ⟨i0, hi0, hz0, hz1, hz2⟩ := info_parts infoPart
  obtain ⟨a, cap, rfl, hle, hcap, hc⟩ := hv
  have HC := Lib.hid hc
  have HO := Lib.hid ho
  have h1000 := ho.1
  obtain ⟨f1, f2⟩ := hf
  obtain ⟨t1, t2⟩ := ht
  obtain ⟨w1, hmk, hr1, hg1⟩ := run_make_full (P := Try.prog) w w.heap.size 66 75 i0 _ 3 Try.underlying66 hi0 hz0 hz1 .i64 .i64 l.length (by rw [hz2]; omega) (by unfold maxLen; omega) (Nat.le_refl _)
  have HR1 := Lib.hid hr1
  have HB1 := Lib.hid (show Below w.heap.size w w1 from (Below.refl _ w).grown hg1 (Nat.le_refl _) (fun k e => by cases e))
  have hlr : ((madeCells (Value.agg #[.int .i64 0, .int .i64 0, .int .i64 0]).cells (l.length * 3)).toList).length = l.length * 3 := hr1.1
  generalize (madeCells (Value.agg #[.int .i64 0, .int .i64 0, .int .i64 0]).cells (l.length * 3)).toList = rest0 at *
  have HLR := Lib.hid hlr
  clear hc ho hr1 hg1 hlr
  go_enter Try.func48, Try.ntmps48
  go_wp2_with fail
  clear hmk
  go_loopw [1, 2, 16] (fun s1 s2 i wr => ∃ (k : Nat) (rest : List Value), k ≤ l.length ∧ i = .int .i64 (k : Int) ∧ s1 = .int .i64 (f - offP l k) ∧ s2 = .int .i64 (t - offP l k) ∧ rest.length = (l.length - k) * 3 ∧ wr.ownsRow w.heap.size 75 3 (.slice (some ⟨w.heap.size, 0, none⟩) l.length l.length) l.length (wrCells ((writtenP l f t).take k) ++ rest) ∧ Below w.heap.size w wr) (fun _ _ i _ => l.length - (intOf i).toNat)
  case atStart => exact ⟨0, rest0, Nat.zero_le _, rfl, by simp [offP, lenP], by simp [offP, lenP], by rw [HLR.out]; rfl, by simpa [wrCells] using HR1.out, HB1.out⟩
  case round =>
    obtain ⟨k, rest, hk, rfl, rfl, rfl, hrl, hrow, hb⟩ := hrel
    have HB := Lib.hid hb
    have HR := Lib.hid hrow
    have HRL := Lib.hid hrl
    by_cases hlt : k < l.length
    · obtain ⟨x, hx⟩ : ∃ x, l[k]? = some x := ⟨_, List.getElem?_eq_getElem hlt⟩
      obtain ⟨b, o, rfl, d0, d1, d2⟩ := HC.out k x hx
      have d0 := old_cell hb d0
      have d1 := old_cell hb d1
      have d2 := old_cell hb d2
      have xo := HO.out.2 x (List.mem_of_getElem? hx)
      have WG := writtenP_get l k x f t (fun y hy => (HO.out.2 y hy).1) hx
      have WST := Lib.hid (wr_step WG)
      have LT := Lib.hid (show offP l (k + 1) = offP l k + ((x.t : Int) - x.f) by unfold offP; rw [lenP_take hx]; unfold Pt.n; omega)
      have BD := lenP_bd (l := l.take k) (fun y hy => HO.out.2 y (List.mem_of_mem_take hy))
      rw [List.length_take] at BD
      have BD : 0 ≤ offP l k ∧ offP l k ≤ 4096000 := by
        have : min k l.length * 4096 ≤ 1000 * 4096 := Nat.mul_le_mul_right _ (by omega)
        unfold offP
        omega
      obtain ⟨xb, xf, xt⟩ := x
      simp only at d0 d1 d2 xo LT WST
      obtain ⟨x1, x2, x3⟩ := xo
      obtain ⟨A, hA⟩ : ∃ A, offP l k = A := ⟨_, rfl⟩
      rw [hA] at BD LT WST ⊢
      obtain ⟨b1, b2⟩ := BD
      obtain ⟨fk, hfk⟩ : ∃ z, f - A = z := ⟨_, rfl⟩
      obtain ⟨tk, htk⟩ : ∃ z, t - A = z := ⟨_, rfl⟩
      have HFK := Lib.hid (And.intro hfk htk)
      rw [hfk, htk] at WST ⊢
      have g11 : -1005000000 ≤ fk := by omega
      have g12 : fk ≤ 1000000000 := by omega
      have g21 : -1005000000 ≤ tk := by omega
      have g22 : tk ≤ 1000000000 := by omega
      have AL := HB.out.alloc HB.out.size (.cells #[.int .i64 (xb : Int), .int .i64 (xf : Int), .int .i64 (xt : Int)] 75)
      have X0 : (wr.alloc (.cells #[.int .i64 (xb : Int), .int .i64 (xf : Int), .int .i64 (xt : Int)] 75)).cell? ⟨wr.heap.size, 0, none⟩ = some (.int .i64 (xb : Int)) := by rw [cell_of (heap_alloc_new wr _)]; rfl
      have X1 : (wr.alloc (.cells #[.int .i64 (xb : Int), .int .i64 (xf : Int), .int .i64 (xt : Int)] 75)).cell? ⟨wr.heap.size, 1, none⟩ = some (.int .i64 (xf : Int)) := by rw [cell_of (heap_alloc_new wr _)]; rfl
      have X2 : (wr.alloc (.cells #[.int .i64 (xb : Int), .int .i64 (xf : Int), .int .i64 (xt : Int)] 75)).cell? ⟨wr.heap.size, 2, none⟩ = some (.int .i64 (xt : Int)) := by rw [cell_of (heap_alloc_new wr _)]; rfl
      have RW := Lib.hid (row_kept HR.out ((Below.refl _ wr).alloc (Nat.le_refl _) (.cells #[.int .i64 (xb : Int), .int .i64 (xf : Int), .int .i64 (xt : Int)] 75)))
      have BW := Lib.hid AL
      have hws := (HR.out.lt w.heap.size rfl).2
      clear hx hb hrow hA hfk htk AL WG
      go_upto_region 5 with fail
      clear d0 d1 d2
      generalize wr.alloc (.cells #[.int .i64 (xb : Int), .int .i64 (xf : Int), .int .i64 (xt : Int)] 75) = W1 at *
      generalize wr.heap.size = bx at *
      obtain ⟨r0, r1, r2, rest', hre, hrl'⟩ := three_of (n := l.length - (k + 1)) (r := rest) (by rw [HRL.out]; congr 1; omega)
      have hAk : ((writtenP l f t).take k).length = k := by rw [List.length_take, writtenP_len]; omega
      obtain ⟨g0, hg0, z0, v0⟩ := wrow_cell (j := k * 3) (u := r0) RW.out (by rw [hre, List.getElem?_append_right (by rw [wrCells_len, hAk]; exact Nat.le_refl _), wrCells_len, hAk, Nat.sub_self]; rfl)
      obtain ⟨g1, hg1, z1, v1⟩ := wrow_cell (j := k * 3 + 1) (u := r1) RW.out (by rw [hre, List.getElem?_append_right (by rw [wrCells_len, hAk]; omega), wrCells_len, hAk, show k * 3 + 1 - k * 3 = 1 by omega]; rfl)
      obtain ⟨g2, hg2, z2, v2⟩ := wrow_cell (j := k * 3 + 2) (u := r2) RW.out (by rw [hre, List.getElem?_append_right (by rw [wrCells_len, hAk]; omega), wrCells_len, hAk, show k * 3 + 2 - k * 3 = 2 by omega]; rfl)
      simp only [Option.some.injEq, Addr.mk.injEq, and_true] at hg0 hg1 hg2
      subst hg0
      subst hg1
      subst hg2
      have FIN : Hid (∀ m1 m2 : Int, m1 = (xf : Int) + max fk 0 → m2 = (xf : Int) + min tk ((xt : Int) - (xf : Int)) → (((W1.setCell ⟨w.heap.size, k * 3, none⟩ (.int .i64 (xb : Int))).setCell ⟨w.heap.size, k * 3 + 1, none⟩ (.int .i64 m1)).setCell ⟨w.heap.size, k * 3 + 2, none⟩ (.int .i64 m2)).ownsRow w.heap.size 75 3 (.slice (some ⟨w.heap.size, 0, none⟩) l.length l.length) l.length (wrCells ((writtenP l f t).take (k + 1)) ++ rest') ∧
          Below w.heap.size w (((W1.setCell ⟨w.heap.size, k * 3, none⟩ (.int .i64 (xb : Int))).setCell ⟨w.heap.size, k * 3 + 1, none⟩ (.int .i64 m1)).setCell ⟨w.heap.size, k * 3 + 2, none⟩ (.int .i64 m2))) := Lib.hid (fun m1 m2 h1 h2 => by
        have SET := wrow_set (wrow_set (wrow_set RW.out (k * 3) (.int .i64 (xb : Int))) (k * 3 + 1) (.int .i64 m1)) (k * 3 + 2) (.int .i64 m2)
        have e := wr_set hAk r0 r1 r2 rest' ⟨xb, m1, m2⟩
        rw [hre, e, h1, h2, ← WST.out] at SET
        rw [h1, h2]
        exact ⟨SET, ((BW.out.setCell (p := ⟨w.heap.size, k * 3, none⟩) (Nat.le_refl _) _).setCell (p := ⟨w.heap.size, k * 3 + 1, none⟩) (Nat.le_refl _) _).setCell (p := ⟨w.heap.size, k * 3 + 2, none⟩) (Nat.le_refl _) _⟩)
      have HRL' := Lib.hid hrl'
      have E1 : Hid (f - offP l (k + 1) = fk - ((xt : Int) - xf) ∧ t - offP l (k + 1) = tk - ((xt : Int) - xf)) := Lib.hid (by
        have h1 := LT.out
        have h2 := HFK.out
        omega)
      clear hre hrl' hAk
      by_cases c1 : fk < 0 <;> by_cases c2 : tk < (xt : Int) - (xf : Int) <;> (
        go_wp2_with fail
        all_goals (
          go_roundw
          case measure => simp only [intOf]; omega
          case rel => exact ⟨k + 1, rest', by omega, by go_num, by rw [E1.out.1], by rw [E1.out.2], HRL'.out, (FIN.out _ _ (by omega) (by omega)).1, (FIN.out _ _ (by omega) (by omega)).2⟩))
    · obtain rfl : k = l.length := by omega
      have hr0 : rest = [] := List.eq_nil_of_length_eq_zero (by rw [hrl, Nat.sub_self, Nat.zero_mul])
      rw [hr0, List.append_nil, List.take_of_length_le (by rw [writtenP_len]; exact Nat.le_refl _)] at hrow
      have FIN := Lib.hid (And.intro hrow hb)
      clear hrow hb HR
      go_wp2_with fail
      go_ret
      exact ⟨_, rfl, FIN.out.1, FIN.out.2⟩

end Go.Proofs.Ytbndknbjjdoanaa
