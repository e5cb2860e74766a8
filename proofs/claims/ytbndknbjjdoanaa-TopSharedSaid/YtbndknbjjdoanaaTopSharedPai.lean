/-
  length and cut of parts: what they give. Conditions: numbers in their bounds.
  cut of parts: what it gives. Conditions: numbers in their bounds.
-/
import Derived.Test.YtbndknbjjdoanaaTopSharedPah
import Derived.Test.YtbndknbjjdoanaaTopSharedPaf
import Derived.Deep.Cut
import Derived.Deep.CutRange
import Derived.Deep.DeepCutAuto

namespace Go.Proofs.Ytbndknbjjdoanaa
section
open Go.RowKit
set_option linter.unusedVariables false

theorem ptCells_len (l : List Pt) : (ptCells l).length = l.length * 3 := by
  induction l with
  | nil => rfl
  | cons x l ih => simp only [ptCells, List.flatMap_cons, List.length_append, List.length_cons, List.length_nil] at *; omega
/-- A slice of parts, wherever it begins. -/
def PtIn (w : World) (v : Value) (l : List Pt) : Prop :=
  ∃ a cap, v = .slice a l.length cap ∧ l.length ≤ cap ∧ cap ≤ 9223372036854775807 ∧ ∀ k p, l[k]? = some p → ∃ b o, a = some ⟨b, o, none⟩ ∧ w.cell? ⟨b, o + k * 3, none⟩ = some (.int .i64 (p.b : Int)) ∧ w.cell? ⟨b, o + k * 3 + 1, none⟩ = some (.int .i64 (p.f : Int)) ∧ w.cell? ⟨b, o + k * 3 + 2, none⟩ = some (.int .i64 (p.t : Int))
theorem PtIn.row {w : World} {B e : Nat} {v : Value} {l : List Pt} (h : w.ownsRow B e 3 v l.length (ptCells l)) : PtIn w v l := by
  obtain ⟨a, c, rfl⟩ := wrow_sh h
  have hle : l.length ≤ c ∧ c ≤ 9223372036854775807 := by
    rcases h.2 with ⟨hv, h0⟩ | ⟨g, cap, cur, hv, _, _, hn, hm, _⟩
    · simp only [Value.slice.injEq] at hv; omega
    · simp only [Value.slice.injEq] at hv
      have : cap ≤ 9223372036854775807 := hm
      omega
  refine ⟨a, c, rfl, hle.1, hle.2, fun k p hk => ?_⟩
  obtain ⟨q1, q2, q3⟩ := ptCells_get l k p hk
  obtain ⟨g, rfl, c1, _⟩ := wrow_cell h q1
  obtain ⟨g', hg', c2, _⟩ := wrow_cell h q2
  obtain ⟨g2, hg2, c3, _⟩ := wrow_cell h q3
  simp only [Option.some.injEq, Addr.mk.injEq, and_true] at hg' hg2
  subst hg'
  subst hg2
  exact ⟨g, 0, rfl, by rw [Nat.zero_add]; exact c1, by rw [Nat.zero_add]; exact c2, by rw [Nat.zero_add]; exact c3⟩
theorem PtIn.below {w w' : World} {v : Value} {l : List Pt} (h : PtIn w v l) (hb : Below w.heap.size w w') : PtIn w' v l := by
  obtain ⟨a, c, h1, h2, h3, h4⟩ := h
  refine ⟨a, c, h1, h2, h3, fun k p hk => ?_⟩
  obtain ⟨b, o, e, c1, c2, c3⟩ := h4 k p hk
  have lt := World.block_lt_of_cell? w _ c1
  exact ⟨b, o, e, (hb.cell (p := ⟨b, o + k * 3, none⟩) lt).trans c1, (hb.cell (p := ⟨b, o + k * 3 + 1, none⟩) lt).trans c2, (hb.cell (p := ⟨b, o + k * 3 + 2, none⟩) lt).trans c3⟩

/-- Parts whose numbers are right. -/
def PtOk (l : List Pt) : Prop := l.length ≤ 1000 ∧ ∀ x ∈ l, x.f ≤ x.t ∧ x.t ≤ 4096 ∧ x.b ≤ 1000000000
theorem lenP_take {l : List Pt} {k : Nat} {x : Pt} (h : l[k]? = some x) : lenP (l.take (k + 1)) = lenP (l.take k) + x.n := by
  rw [List.take_add_one, h]
  simp [lenP]
theorem lenP_bd {l : List Pt} (h : ∀ x ∈ l, x.f ≤ x.t ∧ x.t ≤ 4096 ∧ x.b ≤ 1000000000) : lenP l ≤ l.length * 4096 := by
  induction l with
  | nil => simp [lenP]
  | cons x l ih =>
    have h1 := ih (fun y hy => h y (by simp [hy]))
    have h2 := h x (by simp)
    have e : lenP (x :: l) = x.n + lenP l := by simp [lenP]
    rw [e, List.length_cons]
    have : x.n ≤ 4096 := by unfold Pt.n; omega
    omega

set_option maxHeartbeats 1000000 in
set_option maxRecDepth 100000 in
theorem lengthP_any (v : Value) (l : List Pt) (w : World) (hv : PtIn w v l) (ho : PtOk l) :
    Calls Try.prog 43 #[v] w (fun e w' => e = .returned (.int .i64 (lenP l : Nat)) ∧ Below w.heap.size w w') := by
  obtain ⟨a, cap, rfl, hle, hcap, hc⟩ := hv
  have HC := Lib.hid hc
  have HO := Lib.hid ho
  have h1000 := ho.1
  clear hc ho
  go_enter Try.func43, Try.ntmps43
  go_wp2_with fail
  go_loopw [3, 8] (fun s3 i wr => ∃ k : Nat, k ≤ l.length ∧ i = .int .i64 (k : Int) ∧ s3 = .int .i64 (lenP (l.take k) : Nat) ∧ Below w.heap.size w wr) (fun _ i _ => l.length - (intOf i).toNat)
  case atStart => exact ⟨0, Nat.zero_le _, rfl, rfl, Below.refl _ _⟩
  case round =>
    obtain ⟨k, hk, rfl, rfl, hb⟩ := hrel
    have HB := Lib.hid hb
    by_cases hlt : k < l.length
    · obtain ⟨x, hx⟩ : ∃ x, l[k]? = some x := ⟨_, List.getElem?_eq_getElem hlt⟩
      obtain ⟨b, o, rfl, d0, d1, d2⟩ := HC.out k x hx
      have d0 := old_cell hb d0
      have d1 := old_cell hb d1
      have d2 := old_cell hb d2
      have xo := HO.out.2 x (List.mem_of_getElem? hx)
      have LT := Lib.hid (lenP_take hx)
      have BD := lenP_bd (l := l.take k) (fun y hy => HO.out.2 y (List.mem_of_mem_take hy))
      rw [List.length_take] at BD
      have BD : lenP (l.take k) ≤ 4096000 := by
        have : min k l.length * 4096 ≤ 1000 * 4096 := Nat.mul_le_mul_right _ (by omega)
        omega
      obtain ⟨xb, xf, xt⟩ := x
      simp only at d0 d1 d2 xo
      obtain ⟨x1, x2, x3⟩ := xo
      have hsub : ((xt : Int) - (xf : Int)) = ((xt - xf : Nat) : Int) := by omega
      obtain ⟨A, hA⟩ : ∃ A, lenP (l.take k) = A := ⟨_, rfl⟩
      rw [hA] at BD LT ⊢
      have BX := Lib.hid (HB.out.alloc HB.out.size (.cells #[.int .i64 (xb : Int), .int .i64 (xf : Int), .int .i64 (xt : Int)] 75))
      have HS := Lib.hid hsub
      clear hx hb hA hsub
      go_wp2_with fail
      go_roundw
      case measure => simp only [intOf]; omega
      case rel => exact ⟨k + 1, by omega, by go_num, by rw [LT.out]; unfold Pt.n; simp only; rw [show ((A + (xt - xf) : Nat) : Int) = (A : Int) + ((xt : Int) - (xf : Int)) by omega], BX.out⟩
    · obtain rfl : k = l.length := by omega
      rw [List.take_length]
      clear hb
      go_wp2_with fail
      go_ret
      exact ⟨rfl, HB.out⟩

end
end Go.Proofs.Ytbndknbjjdoanaa

namespace Go.Proofs.Ytbndknbjjdoanaa
section
open Go.RowKit
set_option linter.unusedVariables false

theorem infoPart : (Try.prog.info? 75).map (fun i => (i.zero, i.size, i.bytes)) = some (some (.agg #[.int .i64 0, .int .i64 0, .int .i64 0]), 3, 24) := by kernel_rfl
def PtPost (l : List Pt) (w : World) : Ending → World → Prop := fun e w' => ∃ v, e = .returned v ∧ w'.ownsRow w.heap.size 75 3 v l.length (ptCells l) ∧ Below w.heap.size w w'

/-- How far the positions have come. -/
def offP (l : List Pt) (k : Nat) : Int := (lenP (l.take k) : Nat)
theorem cutP_snoc : ∀ (l : List Pt) (k : Nat) (x : Pt) (f t : Int), (∀ y ∈ l, y.f ≤ y.t) → l[k]? = some x → cutP (l.take (k + 1)) f t = cutP (l.take k) f t ++ (if max (f - offP l k) 0 < min (t - offP l k) ((x.t : Int) - x.f) then [⟨x.b, x.f + (max (f - offP l k) 0).toNat, x.f + (min (t - offP l k) ((x.t : Int) - x.f)).toNat⟩] else [])
  | [], k, x, f, t, _, h => by simp at h
  | y :: l, 0, x, f, t, _, h => by
    simp at h
    subst h
    have e : offP (y :: l) 0 = 0 := by simp [offP, lenP]
    rw [e, Int.sub_zero, Int.sub_zero]
    simp [cutP]
  | y :: l, k + 1, x, f, t, ho, h => by
    have ih := cutP_snoc l k x (f - ((y.t : Int) - y.f)) (t - ((y.t : Int) - y.f)) (fun z hz => ho z (by simp [hz])) (by simpa using h)
    have hy := ho y (by simp)
    have e : offP (y :: l) (k + 1) = ((y.t : Int) - y.f) + offP l k := by
      unfold offP
      rw [List.take_succ_cons]
      have : lenP (y :: l.take k) = y.n + lenP (l.take k) := by simp [lenP]
      rw [this]
      unfold Pt.n
      omega
    rw [List.take_succ_cons, List.take_succ_cons]
    unfold cutP
    rw [ih, e, List.append_assoc, show f - ((y.t : Int) - y.f) - offP l k = f - ((y.t : Int) - y.f + offP l k) by omega, show t - ((y.t : Int) - y.f) - offP l k = t - ((y.t : Int) - y.f + offP l k) by omega]

set_option maxHeartbeats 2000000 in
set_option maxRecDepth 100000 in
theorem cutP_any (v : Value) (l : List Pt) (f t : Int) (w : World) (hv : PtIn w v l) (ho : PtOk l) (hf : -1000000000 ≤ f ∧ f ≤ 1000000000) (ht : -1000000000 ≤ t ∧ t ≤ 1000000000) :
    Calls Try.prog 37 #[v, .int .i64 f, .int .i64 t] w (PtPost (cutP l f t) w) := by
  obtain ⟨i0, hi0, hz0, hz1, hz2⟩ := info_parts infoPart
  obtain ⟨a, cap, rfl, hle, hcap, hc⟩ := hv
  have HC := Lib.hid hc
  have HO := Lib.hid ho
  have h1000 := ho.1
  obtain ⟨f1, f2⟩ := hf
  obtain ⟨t1, t2⟩ := ht
  clear hc ho
  go_enter Try.func37, Try.ntmps37
  go_wp2_with fail
  go_loopw [1, 2, 7, 15] (fun s1 s2 s7 i wr => ∃ k : Nat, k ≤ l.length ∧ i = .int .i64 (k : Int) ∧ s1 = .int .i64 (f - offP l k) ∧ s2 = .int .i64 (t - offP l k) ∧ wr.ownsRow w.heap.size 75 3 s7 (cutP (l.take k) f t).length (ptCells (cutP (l.take k) f t)) ∧ Below w.heap.size w wr) (fun _ _ _ i _ => l.length - (intOf i).toNat)
  case atStart => exact ⟨0, Nat.zero_le _, rfl, by simp [offP, lenP], by simp [offP, lenP], World.ownsRow_nil _ _ _ _, Below.refl _ _⟩
  case round =>
    obtain ⟨k, hk, rfl, rfl, rfl, hrow, hb⟩ := hrel
    have HB := Lib.hid hb
    have HR := Lib.hid hrow
    by_cases hlt : k < l.length
    · obtain ⟨x, hx⟩ : ∃ x, l[k]? = some x := ⟨_, List.getElem?_eq_getElem hlt⟩
      obtain ⟨b, o, rfl, d0, d1, d2⟩ := HC.out k x hx
      have d0 := old_cell hb d0
      have d1 := old_cell hb d1
      have d2 := old_cell hb d2
      have xo := HO.out.2 x (List.mem_of_getElem? hx)
      have SN := Lib.hid (cutP_snoc l k x f t (fun y hy => (HO.out.2 y hy).1) hx)
      have LT := Lib.hid (show offP l (k + 1) = offP l k + ((x.t : Int) - x.f) by unfold offP; rw [lenP_take hx]; unfold Pt.n; omega)
      have BD := lenP_bd (l := l.take k) (fun y hy => HO.out.2 y (List.mem_of_mem_take hy))
      rw [List.length_take] at BD
      have BD : 0 ≤ offP l k ∧ offP l k ≤ 4096000 := by
        have : min k l.length * 4096 ≤ 1000 * 4096 := Nat.mul_le_mul_right _ (by omega)
        unfold offP
        omega
      have CL := cutP_len (l.take k) f t
      rw [List.length_take] at CL
      obtain ⟨xb, xf, xt⟩ := x
      simp only at d0 d1 d2 xo SN LT
      obtain ⟨x1, x2, x3⟩ := xo
      obtain ⟨A, hA⟩ : ∃ A, offP l k = A := ⟨_, rfl⟩
      rw [hA] at BD LT SN ⊢
      obtain ⟨b1, b2⟩ := BD
      obtain ⟨fk, hfk⟩ : ∃ z, f - A = z := ⟨_, rfl⟩
      obtain ⟨tk, htk⟩ : ∃ z, t - A = z := ⟨_, rfl⟩
      have HFK := Lib.hid (And.intro hfk htk)
      have g1 : -1005000000 ≤ fk ∧ fk ≤ 1000000000 := by omega
      have g2 : -1005000000 ≤ tk ∧ tk ≤ 1000000000 := by omega
      rw [hfk, htk] at SN ⊢
      obtain ⟨g11, g12⟩ := g1
      obtain ⟨g21, g22⟩ := g2
      have AL := HB.out.alloc HB.out.size (.cells #[.int .i64 (xb : Int), .int .i64 (xf : Int), .int .i64 (xt : Int)] 75)
      have X0 : (wr.alloc (.cells #[.int .i64 (xb : Int), .int .i64 (xf : Int), .int .i64 (xt : Int)] 75)).cell? ⟨wr.heap.size, 0, none⟩ = some (.int .i64 (xb : Int)) := by rw [cell_of (heap_alloc_new wr _)]; rfl
      have X1 : (wr.alloc (.cells #[.int .i64 (xb : Int), .int .i64 (xf : Int), .int .i64 (xt : Int)] 75)).cell? ⟨wr.heap.size, 1, none⟩ = some (.int .i64 (xf : Int)) := by rw [cell_of (heap_alloc_new wr _)]; rfl
      have X2 : (wr.alloc (.cells #[.int .i64 (xb : Int), .int .i64 (xf : Int), .int .i64 (xt : Int)] 75)).cell? ⟨wr.heap.size, 2, none⟩ = some (.int .i64 (xt : Int)) := by rw [cell_of (heap_alloc_new wr _)]; rfl
      have RW := Lib.hid (row_kept HR.out ((Below.refl _ wr).alloc (Nat.le_refl _) (.cells #[.int .i64 (xb : Int), .int .i64 (xf : Int), .int .i64 (xt : Int)] 75)))
      have BW := Lib.hid AL
      have hsz := AL.size
      clear hx hb hrow hA hfk htk AL
      go_upto_region 5 with fail
      clear d0 d1 d2
      generalize wr.alloc (.cells #[.int .i64 (xb : Int), .int .i64 (xf : Int), .int .i64 (xt : Int)] 75) = W1 at *
      generalize wr.heap.size = bx at *
      go_upto_region 6 with fail
      go_cut [11, 12] (fun s11 s12 wx => wx = W1 ∧ s11 = .int .i64 (max fk 0) ∧ s12 = .int .i64 (min tk ((xt : Int) - (xf : Int))))
      case first =>
        by_cases c1 : fk < 0 <;> by_cases c2 : tk < (xt : Int) - (xf : Int) <;> (go_wp2_with fail; try all_goals (go_meet; exact ⟨rfl, by congr 1; omega, by congr 1; omega⟩))
      case rest =>
      obtain ⟨hwc, rfl, rfl⟩ := hcut
      obtain rfl := hwc.symm
      clear hwc
      have E1 : Hid (f - offP l (k + 1) = fk - ((xt : Int) - xf) ∧ t - offP l (k + 1) = tk - ((xt : Int) - xf)) := Lib.hid (by
        have h1 := LT.out
        have h2 := HFK.out
        omega)
      by_cases hlo : max fk 0 < min tk ((xt : Int) - xf)
      · obtain ⟨lo, hlon⟩ : ∃ n : Nat, max fk 0 = n := ⟨(max fk 0).toNat, by omega⟩
        obtain ⟨hi, hhin⟩ : ∃ n : Nat, min tk ((xt : Int) - xf) = n := ⟨(min tk ((xt : Int) - xf)).toNat, by omega⟩
        rw [if_pos hlo] at SN
        rw [hlon, hhin] at SN hlo ⊢
        have SN2 := Lib.hid (show cutP (l.take (k + 1)) f t = cutP (l.take k) f t ++ [⟨xb, xf + lo, xf + hi⟩] from SN.out)
        have l1 : lo < hi := by omega
        have l2 : hi ≤ 4096 := by omega
        have l3 : ((lo : Int) < (hi : Int)) := hlo
        clear hlo hlon hhin SN
        go_wp2_with (at_builtin; go_must (refine wpList_append_w rfl (.tmp 32) (.tmp 44) 66 rfl w.heap.size 75 i0 (.agg #[.int .i64 0, .int .i64 0, .int .i64 0]) 3 24 Try.underlying66 hi0 hz0 hz1 hz2 rfl (by decide) _ _ _ W1 _ [.int .i64 (xb : Int), .int .i64 ((xf : Int) + (lo : Int)), .int .i64 ((xf : Int) + (hi : Int))] rfl (by exact RW.out) (by rfl) rfl (by intro u hu; simp at hu; rcases hu with rfl | rfl | rfl <;> rfl) (by unfold maxLen; omega) (by omega) hsz ?_))
        intro v' w4 hown' _ hb4
        have FIN := Lib.hid (show w4.ownsRow w.heap.size 75 3 v' (cutP (l.take (k + 1)) f t).length (ptCells (cutP (l.take (k + 1)) f t)) by rw [SN2.out, ptCells_app, List.length_append]; exact hown')
        have B4 := Lib.hid (BW.out.trans hb4)
        clear hown' hb4 X0 X1 X2
        go_wp2_with fail
        go_roundw
        case measure => simp only [intOf]; omega
        case rel => exact ⟨k + 1, by omega, by go_num, by rw [E1.out.1], by rw [E1.out.2], FIN.out, B4.out⟩
      · rw [if_neg hlo, List.append_nil] at SN
        have hlo' : ¬ (max fk 0 < min tk ((xt : Int) - (xf : Int))) := hlo
        have FIN := Lib.hid (show W1.ownsRow w.heap.size 75 3 _ (cutP (l.take (k + 1)) f t).length (ptCells (cutP (l.take (k + 1)) f t)) by rw [SN.out]; exact RW.out)
        obtain ⟨m1, hm1⟩ : ∃ z, max fk 0 = z := ⟨_, rfl⟩
        obtain ⟨m2, hm2⟩ : ∃ z, min tk ((xt : Int) - (xf : Int)) = z := ⟨_, rfl⟩
        rw [hm1, hm2] at hlo' ⊢
        clear SN hlo hm1 hm2
        go_wp2_with fail
        go_roundw
        case measure => simp only [intOf]; omega
        case rel => exact ⟨k + 1, by omega, by go_num, by rw [E1.out.1], by rw [E1.out.2], FIN.out, BW.out⟩
    · obtain rfl : k = l.length := by omega
      rw [List.take_length] at hrow
      have FIN := Lib.hid (And.intro hrow hb)
      clear hrow hb HR
      go_wp2_with fail
      go_ret
      exact ⟨_, rfl, FIN.out.1, FIN.out.2⟩

end
end Go.Proofs.Ytbndknbjjdoanaa
