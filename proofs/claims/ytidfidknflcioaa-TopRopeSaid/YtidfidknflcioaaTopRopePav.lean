/-
  ends and joins of a rope: what they give. Conditions: numbers in their bounds.
  Several cells of a block stored to. No conditions.
-/
import Derived.Test.YtidfidknflcioaaTopRopePau
import Derived.Test.YtidfidknflcioaaTopRopePah

namespace Go.Proofs.Ytidfidknflcioaa
section
open Go.RowKit
set_option linter.unusedVariables false

theorem endsS_drop_lt {l : List Sz} {k b : Nat} {x : Sz} (hx : l[k]? = some x) (h : x.1 < b) : endsS (l.drop k) b = ((endsS (l.drop (k + 1)) (b - x.1)).1 + 1, (endsS (l.drop (k + 1)) (b - x.1)).2) := by
  have hk := (List.getElem?_eq_some_iff.1 hx).1
  have e : l.drop k = x :: l.drop (k + 1) := by
    rw [List.drop_eq_getElem_cons hk]
    have := (List.getElem?_eq_some_iff.1 hx).2
    rw [this]
  rw [e]
  show (if x.1 < b then _ else _) = _
  rw [if_pos h]
theorem endsS_drop_ge {l : List Sz} {k b : Nat} {x : Sz} (hx : l[k]? = some x) (h : ¬ x.1 < b) : endsS (l.drop k) b = (0, b) := by
  have hk := (List.getElem?_eq_some_iff.1 hx).1
  have e : l.drop k = x :: l.drop (k + 1) := by
    rw [List.drop_eq_getElem_cons hk]
    have := (List.getElem?_eq_some_iff.1 hx).2
    rw [this]
  rw [e]
  show (if x.1 < b then _ else _) = _
  rw [if_neg h]

set_option maxHeartbeats 1000000 in
set_option maxRecDepth 100000 in
theorem ends_any (v : Value) (l : List Sz) (b0 : Nat) (w : World) (hv : SzIn w v l) (hl : SzOk l) (hb0 : b0 ≤ 100000) :
    Calls Try.prog 41 #[v, .int .i64 (b0 : Int)] w (fun e w' => e = .returned (.tuple #[.int .i64 ((endsS l b0).1 : Nat), .int .i64 ((endsS l b0).2 : Nat)]) ∧ w' = w) := by
  obtain ⟨a, cap, rfl, _, _, hc⟩ := hv
  have HC := Lib.hid hc
  have HO := Lib.hid hl
  have hn := hl.1
  clear hc hl
  go_enter Try.func41, Try.ntmps41
  go_wp2_with fail
  go_loopw [1, 6] (fun s1 s6 wr => ∃ k b : Nat, k ≤ l.length ∧ b ≤ 100000 ∧ s6 = .int .i64 (k : Int) ∧ s1 = .int .i64 (b : Int) ∧ endsS l b0 = ((endsS (l.drop k) b).1 + k, (endsS (l.drop k) b).2) ∧ wr = w) (fun _ i _ => l.length - (intOf i).toNat)
  case atStart => exact ⟨0, b0, Nat.zero_le _, hb0, rfl, rfl, rfl, rfl⟩
  case round =>
    obtain ⟨k, b, hk, hb, rfl, rfl, heq, rfl⟩ := hrel
    have HE := Lib.hid heq
    clear heq
    by_cases hlt : k < l.length
    · obtain ⟨x, hx⟩ : ∃ x, l[k]? = some x := ⟨_, List.getElem?_eq_getElem hlt⟩
      obtain ⟨g, o, rfl, c1, _⟩ := HC.out k x hx
      have bx := HO.out.2 x (List.mem_of_getElem? hx)
      by_cases hxb : x.1 < b
      · have DR := Lib.hid (endsS_drop_lt hx hxb)
        obtain ⟨x, y⟩ := x
        simp only at c1 bx hxb DR
        clear hx
        go_wp2_with fail
        go_round
        case rel => exact ⟨k + 1, b - x, by omega, by omega, by go_num, by go_num, by rw [HE.out, DR.out]; simp only [Prod.mk.injEq, and_true]; omega, by first | rfl | trivial⟩
        case measure => simp [intOf]; omega
      · have DR := Lib.hid (endsS_drop_ge hx hxb)
        obtain ⟨x, y⟩ := x
        simp only at c1 bx hxb DR
        clear hx
        go_wp2_with fail
        go_ret2
        exact ⟨by rw [HE.out, DR.out]; simp, rfl⟩
    · obtain rfl : k = l.length := by omega
      have DR := Lib.hid (show endsS (l.drop l.length) b = (0, b) by rw [List.drop_length]; rfl)
      clear hlt hk
      go_wp2_with fail
      go_ret2
      exact ⟨by rw [HE.out, DR.out]; simp, rfl⟩

theorem SzIn.cells {w : World} {a : Option Addr} {n cap : Nat} {l : List Sz} (h : SzIn w (.slice a n cap) l) : n = l.length ∧ l.length ≤ cap ∧ cap ≤ 9223372036854775807 ∧ ∀ k p, l[k]? = some p → ∃ b o, a = some ⟨b, o, none⟩ ∧ w.cell? ⟨b, o + k * 2, none⟩ = some (.int .i64 (p.1 : Int)) ∧ w.cell? ⟨b, o + k * 2 + 1, none⟩ = some (.int .i64 (p.2 : Int)) := by
  obtain ⟨a', c', h1, h2, h3, h4⟩ := h
  simp only [Value.slice.injEq] at h1
  obtain ⟨rfl, h5, rfl⟩ := h1
  exact ⟨h5, h2, h3, h4⟩
theorem SzIn.take {w : World} {a : Option Addr} {n cap : Nat} {l : List Sz} (h : SzIn w (.slice a n cap) l) (k : Nat) (hk : k ≤ l.length) : SzIn w (.slice a k cap) (l.take k) := by
  obtain ⟨h1, h2, h3, h4⟩ := h.cells
  have hl : (l.take k).length = k := by rw [List.length_take]; omega
  refine ⟨a, cap, by rw [hl], by omega, h3, fun j p hj => h4 j p ?_⟩
  rw [List.getElem?_take] at hj
  split at hj
  · exact hj
  · cases hj

theorem joinsS_of {p : RPar} {l : List Sz} {A : Nat} {f : Nat} {x y : Sz} (hx : l[A]? = some x) (hy : l[A + 1]? = some y) : joinsS p l (A : Int) f = (decide ((totS (l.take (A + 1))).1 = f) && decide (x.1 + y.1 ≤ p.leaf / 2)) := by
  unfold joinsS
  have h1 := (List.getElem?_eq_some_iff.1 hy).1
  rw [decide_eq_true (show 0 ≤ (A : Int) ∧ (A : Int) + 1 < l.length by omega)]
  have e1 : l.getD A (0, 0) = x := by rw [List.getD_eq_getElem?_getD, hx]; rfl
  have e2 : l.getD (A + 1) (0, 0) = y := by rw [List.getD_eq_getElem?_getD, hy]; rfl
  simp only [Int.toNat_natCast, e1, e2, Bool.true_and]
theorem joinsS_no {p : RPar} {l : List Sz} {a : Int} {f : Nat} (h : ¬ (0 ≤ a ∧ a + 1 < l.length)) : joinsS p l a f = false := by
  unfold joinsS
  rw [decide_eq_false h]
  rfl

set_option maxHeartbeats 2000000 in
set_option maxRecDepth 100000 in
theorem joins_any (r : Nat) (p : RPar) (v : Value) (l : List Sz) (a : Int) (f : Nat) (w : World) (hp : ParAt w r p) (ho : POk p) (hv : SzIn w v l) (hl : SzOk l) (ha : -1 ≤ a ∧ a ≤ 200000) (hf : f ≤ 100000) :
    Calls Try.prog 66 #[.pointer (some ⟨r, 0, none⟩), v, .int .i64 a, .int .i64 (f : Int)] w (fun e w' => e = .returned (.bool (joinsS p l a f)) ∧ Below w.heap.size w w') := by
  have hn := hl.1
  have HV := Lib.hid hv
  obtain ⟨aa, cap, rfl, h2, h3, hc⟩ := hv
  have HC := Lib.hid hc
  have HO := Lib.hid hl
  have HP := Lib.hid hp
  have hleaf := ho.leaf
  have JN := Lib.hid (fun h => joinsS_no (p := p) (l := l) (a := a) (f := f) h)
  clear hc hl hp ho
  go_enter Try.func66, Try.ntmps66
  by_cases h0 : a < 0
  · go_wp2_with fail
    go_ret
    exact ⟨by rw [JN.out (by omega)]; rfl, Below.refl _ _⟩
  · obtain ⟨A, rfl⟩ := Int.eq_ofNat_of_zero_le (show 0 ≤ a by omega)
    by_cases h1 : l.length ≤ A + 1
    · have h1' : (l.length : Int) ≤ (A : Int) + 1 := by omega
      go_wp2_with fail
      go_ret
      exact ⟨by rw [JN.out (by omega)]; rfl, Below.refl _ _⟩
    · have h1' : ¬ (l.length : Int) ≤ (A : Int) + 1 := by omega
      obtain ⟨x, hx⟩ : ∃ x, l[A]? = some x := ⟨_, List.getElem?_eq_getElem (by omega)⟩
      obtain ⟨y, hy⟩ : ∃ y, l[A + 1]? = some y := ⟨_, List.getElem?_eq_getElem (by omega)⟩
      have JJ := Lib.hid (joinsS_of (p := p) (f := f) hx hy)
      obtain ⟨g, o, rfl, cx, _⟩ := HC.out A x hx
      obtain ⟨g', o', e', cy, _⟩ := HC.out (A + 1) y hy
      obtain ⟨rfl, rfl⟩ : g = g' ∧ o = o' := by simpa using e'
      have bx := HO.out.2 x (List.mem_of_getElem? hx)
      have by' := HO.out.2 y (List.mem_of_getElem? hy)
      have TT := Lib.hid (total_any _ _ w (HV.out.take (A + 1) (by omega)) (HO.out.take (A + 1)))
      obtain ⟨x, x2⟩ := x
      obtain ⟨y, y2⟩ := y
      simp only at cx cy bx by' JJ
      clear hx hy e' JN
      go_wp2_with fail
      refine TT.out.mono ?_
      rintro e w1 ⟨rfl, hb1⟩
      have HB := Lib.hid hb1
      have cx1 := old_cell hb1 cx
      have cy1 := old_cell hb1 cy
      have c5 := (HP.out.below hb1).2.2.2
      obtain ⟨⟨t1, t2⟩, ht⟩ : ∃ z, totS (l.take (A + 1)) = z := ⟨_, rfl⟩
      rw [ht] at JJ ⊢
      simp only at JJ ⊢
      clear hb1 cx cy TT ht
      obtain ⟨H2, hH2⟩ : ∃ H2, p.leaf / 2 = H2 := ⟨_, rfl⟩
      have hq : (p.leaf : Int) / 2 = (H2 : Int) := by rw [← hH2]; omega
      rw [hH2] at JJ
      go_upto_region 4 with fail
      by_cases htf : t1 = f
      · by_cases hle : x + y ≤ H2
        · have hle' : (x : Int) + (y : Int) ≤ (H2 : Int) := by omega
          go_quiet (fail)
          go_wp2_with fail
          go_ret
          exact ⟨by rw [JJ.out, decide_eq_true htf, decide_eq_true hle]; rfl, bdrewN HB.out _⟩
        · have hle' : ¬ (x : Int) + (y : Int) ≤ (H2 : Int) := by omega
          go_quiet (fail)
          go_wp2_with fail
          go_ret
          exact ⟨by rw [JJ.out, decide_eq_true htf, decide_eq_false hle]; rfl, bdrewN HB.out _⟩
      · have htf' : ¬ (t1 : Int) = (f : Int) := by omega
        go_quiet (fail)
        go_wp2_with fail
        go_ret
        exact ⟨by rw [JJ.out, decide_eq_false htf]; rfl, bdrewN HB.out _⟩

end
end Go.Proofs.Ytidfidknflcioaa

namespace Go.Proofs.Ytidfidknflcioaa
section
open Go.RowKit
set_option linter.unusedVariables false

theorem heap_setCells_other (b : Nat) : ∀ (vs : List Value) (o : Nat) (w : World) (k : Nat), k ≠ b → (w.setCells b o vs).heap[k]? = w.heap[k]?
  | [], _, _, _, _ => rfl
  | v :: vs, o, w, k, h => (heap_setCells_other b vs (o + 1) _ k h).trans (Below.heap_setCell w ⟨b, o, none⟩ v k h)
theorem size_setCells (b : Nat) : ∀ (vs : List Value) (o : Nat) (w : World), (w.setCells b o vs).heap.size = w.heap.size
  | [], _, _ => rfl
  | v :: vs, o, w => (size_setCells b vs (o + 1) _).trans (by simp [World.setCell])
theorem setCells_rest (b : Nat) : ∀ (vs : List Value) (o : Nat) (w : World), (w.setCells b o vs).os = w.os ∧ (w.setCells b o vs).tape = w.tape ∧ (w.setCells b o vs).output = w.output
  | [], _, _ => ⟨rfl, rfl, rfl⟩
  | v :: vs, o, w => setCells_rest b vs (o + 1) _
theorem block_setCells {b : Nat} {t : TypeId} : ∀ (vs : List Value) (o : Nat) (w : World) (cur : Array Value), w.heap[b]? = some (.cells cur t (0, 0)) → o + vs.length ≤ cur.size →
    ∃ cur', (w.setCells b o vs).heap[b]? = some (.cells cur' t (0, 0)) ∧ cur'.size = cur.size ∧ cur'.toList = cur.toList.take o ++ vs ++ cur.toList.drop (o + vs.length)
  | [], o, w, cur, h, _ => ⟨cur, h, rfl, by simp⟩
  | v :: vs, o, w, cur, h, hl => by
    simp at hl
    obtain ⟨cur', h1, h2, h3⟩ := block_setCells vs (o + 1) (w.setCell ⟨b, o, none⟩ v) (cur.setIfInBounds o v) (block_setCell h o v) (by simp; omega)
    refine ⟨cur', h1, by simpa using h2, ?_⟩
    rw [h3, Array.toList_setIfInBounds]
    have ho : o < cur.toList.length := by simp; omega
    rw [List.drop_set_of_lt (by omega), List.take_add_one, List.take_set_of_le (by omega), List.getElem?_set_self ho]
    simp [Nat.add_comm, Nat.add_left_comm]

end
end Go.Proofs.Ytidfidknflcioaa
