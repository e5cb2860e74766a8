/-
  Groups where no slice leads to another. Conditions: the slices lie in rows; none meets another.
-/
import Derived.Laws.EntriesVeiled
import Derived.Test.YtclpkmplifcfjaaWatchSlicesPbn
namespace Go.Proofs.Ytclpkmplifcfjaa
open Go.RowKit Go.Shelf
set_option linter.unusedVariables false

def visL (n k : Nat) : List Value := (List.range n).map fun (j : Nat) => if j < k then Value.int .i64 (j : Int) else Value.int .i64 (-1)
theorem visL_start (n : Nat) : visL n 0 = List.replicate n (.int .i64 (-1)) := by
  unfold visL
  apply List.ext_getElem?
  intro i
  by_cases h : i < n
  · simp [h]
  · simp [h]
theorem visL_get {n k : Nat} (h : k < n) : (visL n k)[k]? = some (.int .i64 (-1)) := by simp [visL, h]
theorem visL_set {n k : Nat} (h : k < n) : (visL n k).set k (.int .i64 (k : Int)) = visL n (k + 1) := by
  unfold visL
  apply List.ext_getElem?
  intro i
  rw [List.getElem?_set]
  by_cases e : k = i
  · subst e; simp [h]
  · by_cases hi : i < n
    · have : (i < k + 1) ↔ i < k := by omega
      simp [e, hi, this]
    · simp [e, hi]
structure VisAt (W : World) (z mb : Nat) (rv : Value) (n k : Nat) : Prop where
  o : W.heap[z]? = some (.cells #[rv] 35 (0, 0))
  v : W.heap[z + 1]? = some (.cells #[.func (.func 26) #[] #[.pointer (some ⟨z, 0, none⟩), .pointer (some ⟨mb + 1, 0, none⟩), .pointer (some ⟨z + 1, 0, none⟩)]] 66 (0, 0))
  l : W.heap[mb + 1]? = some (.cells #[.map (some mb)] 64 (0, 0))
  m : W.heap[mb]? = some (.map #[] 0)
  r : W.ownsRow (mb + 3) 3 1 rv n (visL n k)
theorem VisAt.step {W : World} {z mb n k g cap : Nat} (h : VisAt W z mb (.slice (some ⟨g, 0, none⟩) n cap) n k) (hk : k < n) :
    VisAt (W.setCell ⟨g, k, none⟩ (.int .i64 (k : Int))) z mb (.slice (some ⟨g, 0, none⟩) n cap) n (k + 1) := by
  obtain ⟨cur, hg⟩ := row_block h.r rfl
  have ne : ∀ j cs t, W.heap[j]? = some (.cells cs t (0, 0)) → t ≠ 3 → j ≠ g := fun j cs t hj ht e => by
    rw [e, hg] at hj
    simp only [Option.some.injEq, Obj.cells.injEq] at hj
    exact ht hj.2.1.symm
  have nm : mb ≠ g := fun e => by have := h.m; rw [e, hg] at this; cases this
  refine ⟨(Below.heap_setCell _ _ _ _ (ne _ _ _ h.o (by decide))).trans h.o, (Below.heap_setCell _ _ _ _ (ne _ _ _ h.v (by decide))).trans h.v, (Below.heap_setCell _ _ _ _ (ne _ _ _ h.l (by decide))).trans h.l, (Below.heap_setCell _ _ _ _ nm).trans h.m, ?_⟩
  have := wrow_set h.r k (.int .i64 (k : Int))
  rwa [visL_set hk] at this

def GroupsPost (xs : List (Wn × Option Addr)) (w : World) : Ending → World → Prop := fun e w' => Below w.heap.size w w' ∧
  ((chkL xs = 4 ∧ e = .returned (.tuple #[.slice none 0 0, .int .i64 4])) ∨ (chkL xs = 0 ∧ ∃ v, e = .returned (.tuple #[v, .int .i64 0])))

set_option maxHeartbeats 2000000 in
set_option maxRecDepth 100000 in
theorem groupsNil_any (v : Value) (xs : List (Wn × Option Addr)) (M : Nat → Nat → Int) (len : Nat → Nat) (D : Nat → Prop) (w : World) (hl : LsIn w v xs) (hM : MemF w M len D) (hx : ∀ x ∈ xs, WnOk len D x.1 x.2)
    (hp : pairsL (meetB xs) xs.length xs.length = []) :
    Calls Try.prog 9 #[v] w (GroupsPost xs w) := by
  have MX := meetsX_any v xs M len D w hl hM hx
  unfold MeetsPost at MX
  rw [hp] at MX
  have HMX := Lib.hid MX
  have hl0 := hl
  obtain ⟨la, lc, rfl, hlen, hlc, hlm, _⟩ := hl0
  unfold maxLen at hlm
  clear MX hl hM hx hp
  have EN := Lib.hid (enters_of Try.func26 (by kernel_rfl) rfl)
  go_enter Try.func9, Try.ntmps9
  go_wp2_with fail
  refine HMX.out.mono ?_
  rintro e w2 ⟨hb2, hway⟩
  have B2 := Lib.hid hb2
  rcases hway with ⟨he, rfl⟩ | ⟨he, pv, rfl, hrow⟩
  · have HE := Lib.hid he
    clear he hb2
    go_wp2_with fail
    go_ret2
    exact ⟨B2.out, Or.inl ⟨HE.out, rfl⟩⟩
  · have HE := Lib.hid he
    have hn100 := (chkL_ok he).1
    obtain ⟨pa, pc, hpv⟩ := wrow_sh hrow
    simp only [List.length_nil] at hpv
    subst hpv
    have MK : (Instr.makeMap 64 none).run Try.prog w2 = .ok (.map (some w2.heap.size)) (w2.alloc (.map #[] 0)) := by kernel_rfl
    have hm := heap_alloc_new w2 (.map #[] 0)
    obtain ⟨mb, hmb⟩ : ∃ mb, w2.heap.size = mb := ⟨_, rfl⟩
    have B3 := Lib.hid (B2.out.trans ((Below.refl w.heap.size w2).alloc B2.out.size (.map #[] 0)))
    have hs2 := B2.out.size
    rw [hmb] at MK hm
    have hsz3 : (w2.alloc (.map #[] 0)).heap.size = mb + 1 := by rw [← hmb]; simp
    generalize w2.alloc (.map #[] 0) = w3 at *
    have HM := Lib.hid hm
    clear he hb2 hrow hm hmb
    go_wp2_with fail
    have hb4 : (w3.alloc (.cells #[.map (some mb)] 64)).heap[mb + 1]? = some (.cells #[.map (some mb)] 64 (0, 0)) := by rw [← hsz3]; exact heap_alloc_new w3 _
    have hm4 : (w3.alloc (.cells #[.map (some mb)] 64)).heap[mb]? = some (.map #[] 0) := (heap_alloc_old w3 _ (by omega)).trans HM.out
    have hs3 := B3.out.size
    have B4 := Lib.hid (B3.out.trans ((Below.refl w.heap.size w3).alloc hs3 (.cells #[.map (some mb)] 64)))
    have hs4 : (w3.alloc (.cells #[.map (some mb)] 64)).heap.size = mb + 2 := by simp; omega
    generalize w3.alloc (.cells #[.map (some mb)] 64) = w4 at *
    have HB4 := Lib.hid hb4
    have HM4 := Lib.hid hm4
    have RP := Lib.hid (repeat_any (mb + 2) (-1) xs.length (w4.alloc (.cells #[.int .i64 (-1)] 3)) (by rw [← hs4, cell_of (heap_alloc_new w4 _)]; rfl) (by omega))
    have B5 := Lib.hid (B4.out.trans ((Below.refl w.heap.size w4).alloc B4.out.size (.cells #[.int .i64 (-1)] 3)))
    have hs4' := B4.out.size
    clear hb4 hm4
    go_loopw [23] (fun i wr => i = .int .i64 0 ∧ wr = w4) (fun _ _ => 0)
    case atStart => exact ⟨rfl, rfl⟩
    case round =>
      obtain ⟨rfl, rfl⟩ := hrel
      go_wp2_with fail
      refine RP.out.mono ?_
      rintro e w5 ⟨rv, rfl, hrow5, hb5⟩
      have hsa : (wr.alloc (.cells #[.int .i64 (-1)] 3)).heap.size = mb + 3 := by simp; omega
      obtain ⟨ra, rc, hrv⟩ := wrow_sh hrow5
      subst hrv
      have hs5 : mb + 3 ≤ w5.heap.size := by have := hb5.size; omega
      have B6 := Lib.hid (B5.out.trans (hb5.mono (by omega)))
      have H1 := Lib.hid ((hb5.block (mb + 1) (by omega)).trans ((heap_alloc_old wr _ (by omega)).trans HB4.out))
      have H0 := Lib.hid ((hb5.block mb (by omega)).trans ((heap_alloc_old wr _ (by omega)).trans HM4.out))
      rw [hsa] at hrow5
      have ROW5 := Lib.hid hrow5
      clear hb5 hrow5 hsa
      obtain ⟨z, hz⟩ : ∃ z, w5.heap.size = z := ⟨_, rfl⟩
      rw [hz] at hs5
      go_upto_region 13 with fail
      obtain ⟨W7, hW7⟩ : ∃ W, (w5.alloc (.cells #[.slice ra xs.length rc] 35)).alloc (.cells #[.nilFunc] 66) = W := ⟨_, rfl⟩
      have n0 : (w5.alloc (.cells #[.slice ra xs.length rc] 35)).heap[z]? = some (.cells #[.slice ra xs.length rc] 35 (0, 0)) := by rw [← hz]; exact heap_alloc_new w5 _
      have nz : (w5.alloc (.cells #[.slice ra xs.length rc] 35)).heap.size = z + 1 := by simp; omega
      have o7 : ∀ k, k < z → W7.heap[k]? = w5.heap[k]? := fun k hk => by rw [← hW7]; exact (heap_alloc_old _ _ (by omega)).trans (heap_alloc_old _ _ (by omega))
      have b7 : W7.heap[z]? = some (.cells #[.slice ra xs.length rc] 35 (0, 0)) := by rw [← hW7]; exact (heap_alloc_old _ _ (by omega)).trans n0
      have v7 : W7.heap[z + 1]? = some (.cells #[.nilFunc] 66 (0, 0)) := by rw [← hW7, ← nz]; exact heap_alloc_new _ _
      have fv : W7.frozen? ⟨z + 1, 0, none⟩ = false := free_of v7 _
      have cv : W7.cell? ⟨z + 1, 0, none⟩ = some .nilFunc := by rw [cell_of v7]; rfl
      have B7 := Lib.hid (show Below w.heap.size w W7 by rw [← hW7]; exact B6.out.trans (((Below.refl w.heap.size w5).alloc B6.out.size _).alloc (by have := B6.out.size; omega) _))
      have ROW7 := Lib.hid (ownsRow_same ROW5.out (w' := W7) (fun j hj => o7 j (by have := (ROW5.out.lt j hj).2; omega)))
      have K1 := Lib.hid ((o7 (mb + 1) (by omega)).trans H1.out)
      have K0 := Lib.hid ((o7 mb (by omega)).trans H0.out)
      have HB7 := Lib.hid b7
      have HV7 := Lib.hid v7
      rw [hW7]
      clear n0 nz o7 b7 v7 hW7 hz
      have VA : VisAt (W7.setCell ⟨z + 1, 0, none⟩ (.func (.func 26) #[] #[.pointer (some ⟨z, 0, none⟩), .pointer (some ⟨mb + 1, 0, none⟩), .pointer (some ⟨z + 1, 0, none⟩)])) z mb (.slice ra xs.length rc) xs.length 0 :=
        ⟨(Below.heap_setCell _ _ _ _ (by show z ≠ z + 1; omega)).trans HB7.out, by rw [block_setCell HV7.out]; rfl, (Below.heap_setCell _ _ _ _ (by show mb + 1 ≠ z + 1; omega)).trans K1.out, (Below.heap_setCell _ _ _ _ (by show mb ≠ z + 1; omega)).trans K0.out, by
          rw [visL_start]
          refine ownsRow_same ROW7.out (fun j hj => Below.heap_setCell _ _ _ _ (fun e => ?_))
          obtain ⟨cur, hg⟩ := row_block ROW7.out hj
          rw [e, HV7.out] at hg
          simp only [Option.some.injEq, Obj.cells.injEq] at hg
          exact absurd hg.2.1 (by decide)⟩
      have HVA := Lib.hid VA
      have B8 := Lib.hid (B7.out.setCell (p := ⟨z + 1, 0, none⟩) (by show w.heap.size ≤ z + 1; omega) (.func (.func 26) #[] #[.pointer (some ⟨z, 0, none⟩), .pointer (some ⟨mb + 1, 0, none⟩), .pointer (some ⟨z + 1, 0, none⟩)]))
      clear VA
      go_wp2_with fail
      go_loopw [57] (fun i wr => ∃ k : Nat, k ≤ xs.length ∧ i = .int .i64 k ∧ VisAt wr z mb (.slice ra xs.length rc) xs.length k ∧ Below w.heap.size w wr) (fun i _ => xs.length - (intOf i).toNat)
      case atStart => exact ⟨0, Nat.zero_le _, rfl, HVA.out, B8.out⟩
      case round =>
        obtain ⟨k, hk, rfl, hva, hbk⟩ := hrel
        have VK := Lib.hid hva
        have BK := Lib.hid hbk
        have c1 := (cell_of hva.o 0).trans rfl
        have c2 := (cell_of hva.v 0).trans rfl
        by_cases hlt : k < xs.length
        · obtain ⟨g, hg, cg, fg⟩ := wrow_cell hva.r (visL_get hlt)
          subst hg
          have ST := Lib.hid (hva.step hlt)
          have hg3 := (hva.r.lt g rfl).1
          have VI := Lib.hid (visit_any z (mb + 1) (z + 1) g xs.length rc mb 0 k _ (by omega) hlt c1 cg fg ((cell_of ST.out.l 0).trans rfl) ST.out.m)
          have B9 := Lib.hid (hbk.setCell (p := ⟨g, k, none⟩) (by show w.heap.size ≤ g; omega) (.int .i64 (k : Int)))
          have eg := EN.out
          clear hva hbk
          go_wp2_with fail
          refine VI.out.mono ?_
          rintro e w9 ⟨rfl, rfl⟩
          go_wp2_with fail
          go_round
          case rel => exact ⟨k + 1, by omega, by go_num, ST.out, B9.out⟩
          case measure => simp [intOf]; omega
        · obtain rfl : k = xs.length := by omega
          clear hlt hk hva hbk
          go_wp2_with fail
          go_ret2
          exact ⟨BK.out, Or.inr ⟨HE.out, _, rfl⟩⟩

end Go.Proofs.Ytclpkmplifcfjaa
