/-
  Mod, Poke: what they give. No conditions.
  A slice that came in fits its room. No conditions.
  The book's Open and Held. No conditions.
-/
import Derived.Test.YtjogaohnphafgaaGreatMoveRunsPac
import Derived.BigRegion
import Derived.Test.YtjogaohnphafgaaGreatMoveRunsPaa
import Derived.Test.YtjogaohnphafgaaGreatMoveRunsPab

namespace Go.Proofs.YtjogaohnphafgaaGreat
section
open Go.RowKit

def InR (R : Rel) (k : Nat) : Prop := ∃ b o c p, R b o c p ∧ (k = b ∨ k = c)

def modv (x n : Int) : Nat := ((x.tmod n + n) % n).toNat
theorem modv_lt (x n : Int) (h : 1 ≤ n) : (modv x n : Int) < n := by
  have t3 : 0 ≤ (x.tmod n + n) % n := Int.emod_nonneg _ (by omega)
  have t4 : (x.tmod n + n) % n < n := Int.emod_lt_of_pos _ (by omega)
  unfold modv
  omega

theorem mod_any (x n : Int) (w : World) (h1 : 1 ≤ n) (h2 : n ≤ 2305843009213693952) (hx : -9223372036854775808 ≤ x ∧ x ≤ 9223372036854775807) :
    Calls Tryz.prog 59 #[.int .i64 x, .int .i64 n] w (fun e w' => e = .returned (.int .i64 (modv x n)) ∧ w' = w) := by
  obtain ⟨x1, x2⟩ := hx
  have t1 : -n < x.tmod n := Int.neg_lt_of_neg_lt (by have := Int.lt_tmod_of_pos x (show 0 < n by omega); omega)
  have t2 : x.tmod n < n := Int.tmod_lt_of_pos x (by omega)
  have t3 : 0 ≤ (x.tmod n + n) % n := Int.emod_nonneg _ (by omega)
  have E : ((modv x n : Nat) : Int) = (x.tmod n + n) % n := by unfold modv; omega
  have E := Lib.hid E
  go_enter Tryz.func59, Tryz.ntmps59
  go_wp2
  go_ret
  exact ⟨ret_int (by rw [E.out]), rfl⟩

theorem Twins.write {w : World} {B : Nat} {R : Rel} (h : Twins w B R) {b o c p : Nat} (hr : R b o c p) (z : Int) (z0 : 0 ≤ z) (z1 : z ≤ 255) :
    Twins ((w.setCell ⟨b, o, none⟩ (.int .u8 z)).setCell ⟨c, p, none⟩ (.int .u8 z)) B R := by
  have set1 : ∀ (w : World) (b o b' o' : Nat) (u : Value), ¬ (b = b' ∧ o = o') → (w.setCell ⟨b, o, none⟩ u).cell? ⟨b', o', none⟩ = w.cell? ⟨b', o', none⟩ := fun w b o b' o' u hne =>
    World.cell?_setCell_other _ _ _ _ (fun e => hne (by simpa using e))
  have blk : ∀ (w : World) (b o k : Nat) (u : Value) (cs : Array Value), w.heap[k]? = some (.cells cs 5 (0, 0)) → ∃ cs', (w.setCell ⟨b, o, none⟩ u).heap[k]? = some (.cells cs' 5 (0, 0)) := fun w b o k u cs hk => by
    by_cases e : k = b
    · subst e; exact ⟨_, block_setCell hk o u⟩
    · exact ⟨cs, (Below.heap_setCell w ⟨b, o, none⟩ u k (fun e2 => e e2)).trans hk⟩
  obtain ⟨y, _, _, hb, hc⟩ := h.val b o c p hr
  refine ⟨fun b' o' c' p' hr' => ?_, fun b' o' c' p' hr' => ?_, h.one, h.inj, h.apart⟩
  · by_cases e : b = b' ∧ o = o'
    · obtain ⟨rfl, rfl⟩ := e
      obtain ⟨rfl, rfl⟩ := h.one _ _ _ _ _ _ hr hr'
      have a1 : ¬ (c = b ∧ p = o) := fun e => h.apart _ _ _ _ _ _ _ _ hr hr ⟨e.1.symm, e.2.symm⟩
      refine ⟨z, z0, z1, ?_, ?_⟩
      · rw [set1 _ _ _ _ _ _ a1]
        exact World.cell?_setCell_same _ _ _ hb
      · refine World.cell?_setCell_same _ _ _ (u := .int .u8 y) ?_
        rw [set1 _ _ _ _ _ _ (fun e => a1 ⟨e.1.symm, e.2.symm⟩)]
        exact hc
    · obtain ⟨y', y0, y1, h1, h2⟩ := h.val _ _ _ _ hr'
      have a1 : ¬ (c = b' ∧ p = o') := fun e => h.apart _ _ _ _ _ _ _ _ hr' hr ⟨e.1.symm, e.2.symm⟩
      have a2 : ¬ (b = c' ∧ o = p') := fun e => h.apart _ _ _ _ _ _ _ _ hr hr' e
      have a3 : ¬ (c = c' ∧ p = p') := fun e' => by obtain ⟨rfl, rfl⟩ := e'; exact e (h.inj _ _ _ _ _ _ hr hr')
      refine ⟨y', y0, y1, ?_, ?_⟩
      · rw [set1 _ _ _ _ _ _ a1, set1 _ _ _ _ _ _ e]; exact h1
      · rw [set1 _ _ _ _ _ _ a3, set1 _ _ _ _ _ _ a2]; exact h2
  · obtain ⟨b1, b2, ⟨cs, h1⟩, ⟨ds, h2⟩⟩ := h.row _ _ _ _ hr'
    obtain ⟨cs1, g1⟩ := blk w b o b' (.int .u8 z) cs h1
    obtain ⟨ds1, g2⟩ := blk w b o c' (.int .u8 z) ds h2
    exact ⟨b1, b2, blk _ c p b' (.int .u8 z) cs1 g1, blk _ c p c' (.int .u8 z) ds1 g2⟩

def sliceLen : Value → Nat
  | .slice _ n _ => n
  | _ => 0

def sliceFits : Value → Prop
  | .slice _ n m => n ≤ m
  | _ => True

/-- Behind Poke: everything shows the same; of what is not watched nothing has turned. -/
def PokePost (B c : Nat) (R : Rel) (prs : List (Value × Value)) (w : World) : Ending → World → Prop := fun e w' =>
  e = .returned (.bool true) ∧ CellsAt w' B c prs ∧ Twins w' B R ∧ Touch (InR R) w w'

theorem Reads.tail3 {w : World} {k : IntKind} {a : Option Addr} {n cap : Nat} {zs : List Int} (h : Reads w k (.slice a n cap) zs) (h3 : 3 ≤ n) :
    zs.length = n ∧ ∃ b o, a = some ⟨b, o, none⟩ ∧ w.cell? ⟨b, o, none⟩ = some (.int k (zs.getD 0 0)) ∧ w.cell? ⟨b, o + 1, none⟩ = some (.int k (zs.getD 1 0)) ∧ w.cell? ⟨b, o + 2, none⟩ = some (.int k (zs.getD 2 0)) ∧
      ∀ m, Reads w k (.slice (some ⟨b, o + 3, none⟩) (n - 3) m) (zs.drop 3) := by
  obtain ⟨a', cap', e, hl, hc⟩ := h
  simp only [Value.slice.injEq] at e
  obtain ⟨rfl, rfl, rfl⟩ := e
  obtain ⟨b, o, rfl, hcell⟩ := hc (by intro e; subst e; simp at h3)
  refine ⟨rfl, b, o, rfl, hcell 0 (by omega), hcell 1 (by omega), hcell 2 (by omega), fun m => ⟨_, m, by simp, by simp; omega, fun _ => ⟨b, o + 3, rfl, fun j hj => ?_⟩⟩⟩
  simp only [List.length_drop] at hj
  have := hcell (3 + j) (by omega)
  rw [show o + (3 + j) = o + 3 + j by omega] at this
  rw [this]
  simp [List.getD_eq_getElem?_getD]

theorem tail_nil {w : World} {k : IntKind} {a a' : Option Addr} {n cap m : Nat} {zs : List Int} (h : Reads w k (.slice a n cap) zs) (h3 : n ≤ 3) : Reads w k (.slice a' (n - 3) m) (zs.drop 3) := by
  obtain ⟨_, _, e, _, _⟩ := h
  simp only [Value.slice.injEq] at e
  obtain ⟨_, rfl, _⟩ := e
  have : zs.drop 3 = [] := by simp; omega
  rw [this, show zs.length - 3 = 0 by omega]
  exact ⟨_, m, rfl, by simp, fun h => absurd rfl h⟩

theorem tail_if {w : World} {k : IntKind} {a : Option Addr} {b o n cap m : Nat} {zs : List Int} (h : Reads w k (.slice a n cap) zs) (hr : ∀ m, Reads w k (.slice (some ⟨b, o + 3, none⟩) (n - 3) m) (zs.drop 3)) (hf : sliceFits (.slice a n cap)) :
    Reads w k (.slice (if cap = 3 then some ⟨b, o, none⟩ else some ⟨b, o + 3, none⟩) (n - 3) m) (zs.drop 3) := by
  split
  · simp only [sliceFits] at hf
    exact tail_nil h (by omega)
  · exact hr m

theorem CellsAt.keep {w w' : World} {B c : Nat} {prs : List (Value × Value)} (h : CellsAt w B c prs) (hk : ∀ (k : Nat) (cs : Array Value) (t : TypeId), w.heap[k]? = some (.cells cs t (0, 0)) → t ≠ 5 → w'.heap[k]? = w.heap[k]?) : CellsAt w' B c prs := by
  obtain ⟨hB, vo, vw, hc, ho, hw, hs, hl⟩ := h
  refine ⟨hB, vo, vw, (hk c _ _ hc (by decide)).trans hc, ownsRow_same ho (fun k e => ?_), ownsRow_same hw (fun k e => ?_), hs, hl⟩
  · obtain ⟨cur, h1⟩ := row_block ho e; exact hk k _ _ h1 (by decide)
  · obtain ⟨cur, h1⟩ := row_block hw e; exact hk k _ _ h1 (by decide)

theorem CellsAt.write {w : World} {B c : Nat} {R : Rel} {prs : List (Value × Value)} (h : CellsAt w B c prs) (ht : Twins w B R) {b o c' p : Nat} (hr : R b o c' p) (u : Value) :
    CellsAt ((w.setCell ⟨b, o, none⟩ u).setCell ⟨c', p, none⟩ u) B c prs := by
  obtain ⟨_, _, ⟨cs1, h1⟩, ⟨cs2, h2⟩⟩ := ht.row _ _ _ _ hr
  refine h.keep (fun k cs t hk ht => ?_)
  have n1 : k ≠ b := fun e => by subst e; rw [hk] at h1; simp at h1; exact ht h1.2
  have n2 : k ≠ c' := fun e => by subst e; rw [hk] at h2; simp at h2; exact ht h2.2
  exact (Below.heap_setCell _ ⟨c', p, none⟩ u k (fun e => n2 e)).trans (Below.heap_setCell w ⟨b, o, none⟩ u k (fun e => n1 e))

theorem Touch.write {w0 w : World} {R : Rel} (h : Touch (InR R) w0 w) {b o c p : Nat} (hr : R b o c p) (u : Value) : Touch (InR R) w0 ((w.setCell ⟨b, o, none⟩ u).setCell ⟨c, p, none⟩ u) :=
  (h.setCell (p := ⟨b, o, none⟩) (Or.inl ⟨b, o, c, p, hr, Or.inl rfl⟩) u).setCell (p := ⟨c, p, none⟩) (Or.inl ⟨b, o, c, p, hr, Or.inr rfl⟩) u

set_option maxHeartbeats 4000000 in
set_option maxRecDepth 100000 in
theorem poke_any (c : Nat) (w0 : World) (R : Rel) (prs : List (Value × Value)) (v : Value) (zs : List Int) (w : World) (hb : Below w0.heap.size w0 w) (hs : Reads w0 .i64 v zs) (hfit : sliceFits v) (hz : ∀ z ∈ zs, -9223372036854775808 ≤ z ∧ z ≤ 9223372036854775807)
    (hc : CellsAt w w0.heap.size c prs) (ht : Twins w w0.heap.size R) (hp : ∀ xy ∈ prs, Pr R xy) :
    Calls Tryz.prog 28 #[.pointer (some ⟨c, 0, none⟩), v] w (PokePost w0.heap.size c R prs w) := by
  have HP := Lib.hid hp
  have len := hc.len
  have HC := Lib.hid hc
  have HT := Lib.hid ht
  have HS := Lib.hid hs
  have HZ := Lib.hid hz
  have HB := Lib.hid hb
  clear hc ht hs hz hp hb
  go_enter Tryz.func28, Tryz.ntmps28
  go_wp2_with fail
  go_loopw [1] (fun u wr => ∃ ys, Reads w0 .i64 u ys ∧ sliceFits u ∧ (∀ z ∈ ys, -9223372036854775808 ≤ z ∧ z ≤ 9223372036854775807) ∧ CellsAt wr w0.heap.size c prs ∧ Twins wr w0.heap.size R ∧ Touch (InR R) w wr ∧ Below w0.heap.size w0 wr) (fun u _ => sliceLen u)
  case atStart => exact ⟨zs, HS.out, hfit, HZ.out, HC.out, HT.out, Touch.refl _ _, HB.out⟩
  case round =>
    obtain ⟨ys, hys, hfu, hyz, hcr, htr, htc, hbr⟩ := hrel
    obtain ⟨sa, n, scap, rfl⟩ : ∃ sa n scap, u1 = .slice sa n scap := by obtain ⟨sa, scap, h, _⟩ := hys; exact ⟨_, _, _, h⟩
    have hfu : n ≤ scap := hfu
    obtain ⟨a, ca, a', ca', hcb, hrow⟩ := hcr.open
    have c0 : wr.cell? ⟨c, 0, none⟩ = some (.slice a prs.length ca) := by rw [cell_of hcb]; rfl
    have c1 : wr.cell? ⟨c, 1, none⟩ = some (.slice a' prs.length ca') := by rw [cell_of hcb]; rfl
    have HC := Lib.hid hcr
    have HT := Lib.hid htr
    have HR := Lib.hid hrow
    have HTC := Lib.hid htc
    have HBR := Lib.hid hbr
    have HYZ := Lib.hid hyz
    clear hcr htr hrow htc hbr hcb hyz
    by_cases h3 : 3 ≤ n
    · by_cases hl0 : 0 < prs.length
      · obtain ⟨hyl, b, o, rfl, s0, s1, s2, hrest⟩ := hys.tail3 h3
        have M0 := Lib.hid (fun w => mod_any (ys.getD 0 0) prs.length w (by omega) (by omega) (HYZ.out _ (by rw [List.getD_eq_getElem?_getD, List.getElem?_eq_getElem (by omega)]; simp)))
        have ml0 := modv_lt (ys.getD 0 0) prs.length (by omega)
        have z1 := HYZ.out (ys.getD 1 0) (by rw [List.getD_eq_getElem?_getD, List.getElem?_eq_getElem (by omega)]; simp)
        have z2 := HYZ.out (ys.getD 2 0) (by rw [List.getD_eq_getElem?_getD, List.getElem?_eq_getElem (by omega)]; simp)
        generalize ys.getD 0 0 = y0 at *
        generalize ys.getD 1 0 = y1 at *
        generalize ys.getD 2 0 = y2 at *
        generalize modv y0 prs.length = k at *
        have g0 := old_cell HBR.out s0
        have g1 := old_cell HBR.out s1
        have g2 := old_cell HBR.out s2
        have hk : k < prs.length := by omega
        obtain ⟨g, g', rfl, rfl, q1, q2⟩ := HR.out k hk
        have hpr := HP.out _ (List.getElem_mem hk)
        obtain ⟨pa, pb, len1, cap1, e, hl1, hm1, hcp⟩ := id hpr
        rw [e] at q1 q2
        simp only at q1 q2
        clear e hpr s0 s1 s2 ml0
        have hcap' : cap1 ≤ 9223372036854775807 := by omega
        go_wp2_with fail
        go_quiet ((go_at_call 59; exact Calls.quiet_of_same (M0.out _)))
        go_wp2_with fail
        go_quiet (fail)
        by_cases hc0 : cap1 = 0
        · subst hc0
          go_wp2_with fail
          all_goals
            go_roundw
            case rel => exact ⟨_, tail_if hys hrest hfu, by simp only [sliceFits] at hfu ⊢; omega, fun z hz => HYZ.out z (List.mem_of_mem_drop hz), HC.out.below (bdrewN (Below.refl _ _) _), HT.out.below (bdrewN (Below.refl _ _) _), HTC.out.drewN _, bdrewN HBR.out _⟩
            case measure => simp [sliceLen]; omega
        · have M1 := Lib.hid (fun w => mod_any y1 cap1 w (by omega) (by omega) z1)
          have ml1 := modv_lt y1 cap1 (by omega)
          generalize modv y1 cap1 = k2 at *
          have hk2 : k2 < cap1 := by omega
          obtain ⟨b1, o1, c1', r1, rfl, rfl, hR⟩ := hcp (by omega)
          have RR := Lib.hid (hR k2 hk2)
          clear hcp hR
          have hv := HT.out.val _ _ _ _ RR.out
          have hw := HT.out.row _ _ _ _ RR.out
          obtain ⟨x, _, _, x1, x2⟩ := hv
          obtain ⟨_, _, ⟨cs1, f1⟩, ⟨cs2, f2⟩⟩ := hw
          have fr1 := fun j => free_of f1 j
          have fr2 := fun j => free_of f2 j
          have nap : ¬ (b1 = c1' ∧ o1 + k2 = r1 + k2) := HT.out.apart _ _ _ _ _ _ _ _ RR.out RR.out
          clear f1 f2
          go_wp2_with fail
          refine (M1.out _).mono ?_
          rintro e w1 ⟨rfl, rfl⟩
          go_wp2_with fail
          have y20 := Int.emod_nonneg y2 (show (256 : Int) ≠ 0 by decide)
          have y21 := Int.emod_lt_of_pos y2 (show (0 : Int) < 256 by decide)
          have NE : ∀ (W : World) (u : Value), (W.setCell ⟨b1, o1 + k2, none⟩ u).cell? ⟨c1', r1 + k2, none⟩ = W.cell? ⟨c1', r1 + k2, none⟩ := fun W u => World.cell?_setCell_other _ _ _ _ (fun e => nap (by simpa using e))
          have low := HT.out.row _ _ _ _ RR.out
          have LO := Lib.hid (And.intro low.1 low.2.1)
          clear low
          go_region
          go_wp2_with fail
          have C1 := Lib.hid (fun m => ((HC.out.drewN m).write (HT.out.drewN m) RR.out (.int .u8 (y2 % 256))))
          have T1 := Lib.hid (fun m => ((HT.out.drewN m).write RR.out (y2 % 256) y20 (by omega)))
          have U1 := Lib.hid (fun m => (HTC.out.drewN m).write RR.out (.int .u8 (y2 % 256)))
          have B1 := Lib.hid (fun m => ((bdrewN HBR.out m).setCell (p := ⟨b1, o1 + k2, none⟩) LO.out.1 (.int .u8 (y2 % 256))).setCell (p := ⟨c1', r1 + k2, none⟩) LO.out.2 (.int .u8 (y2 % 256)))
          refine (same_any c w0.heap.size R prs _ (C1.out _) (T1.out _) HP.out).mono ?_
          rintro e w3 ⟨rfl, m2, rfl⟩
          go_wp2_with fail
          go_roundw
          case rel => exact ⟨_, tail_if hys hrest hfu, by simp only [sliceFits] at hfu ⊢; omega, fun z hz => HYZ.out z (List.mem_of_mem_drop hz), (C1.out _).drewN _, (T1.out _).drewN _, (U1.out _).drewN _, bdrewN (B1.out _) _⟩
          case measure => simp [sliceLen]; omega
      · have hl1 : prs.length = 0 := by omega
        go_wp2_with fail
        refine (appends_any c w0.heap.size R prs _ HC.out HT.out HP.out).mono ?_
        rintro e w1 ⟨rfl, hb1⟩
        go_wp2_with fail
        go_ret
        exact ⟨rfl, HC.out.below hb1, HT.out.below hb1, HTC.out.then (Touch.of_below hb1)⟩
    · have h3' : n < 3 := by omega
      clear h3
      go_wp2_with fail
      refine (appends_any c w0.heap.size R prs _ HC.out HT.out HP.out).mono ?_
      rintro e w1 ⟨rfl, hb1⟩
      go_wp2_with fail
      go_ret
      exact ⟨rfl, HC.out.below hb1, HT.out.below hb1, HTC.out.then (Touch.of_below hb1)⟩

end
end Go.Proofs.YtjogaohnphafgaaGreat

namespace Go.Proofs.YtjogaohnphafgaaGreat
section
open Go.ChangeShapes Go.WideShapes Go.ChangeAt Go.RowKit

theorem row_fits {H : Type} {enc : TypeId × Value → H} {P : Program} {W : World} {t e : TypeId} {k : IntKind} {base : Nat} {v : Value} {d : DataW H} {p : List MemPlace} (ht : P.underlying t = some (.slice e)) (he : P.underlying e = some (.int k)) (hc : P.cellsOf e = 1)
    (hv : Value.okWide P W .any base t v) (h : DataW.Trod enc P W 0 (fun _ => true) true t v d p) : sliceFits v := by
  obtain ⟨a, len, cap, rfl⟩ := okWide_slice ht hv
  obtain ⟨fuel, hf⟩ := h
  rcases open_ints ht he hc hf with ⟨hcs, hx⟩ | ⟨x, l, c, zs, hcs, _, hl, hm, hz, hx, hcell, hwz⟩
  · simp [Value.cells] at hcs
    obtain ⟨rfl, rfl, rfl⟩ := hcs
    simp [sliceFits]
  · simp [Value.cells] at hcs
    obtain ⟨rfl, rfl, rfl⟩ := hcs
    exact hl

end
end Go.Proofs.YtjogaohnphafgaaGreat

namespace Go.Proofs.YtjogaohnphafgaaGreat
section
open Go.RowKit

/-- What Open leaves. -/
def openSt (st : BookSt) (o l : Int) : BookSt := { st with acc := fun x => if x = o then some (l, 0, 0) else st.acc x, entries := st.entries ++ [⟨1, o, 0, l, 0, 0⟩] }

def OpPost (err : Int) (F : Nat → Prop) (p : Nat) (st : BookSt) (N : Nat) (w : World) : Ending → World → Prop := fun e w' =>
  e = .returned (.int .i64 err) ∧ BookAt w' (fun k => F k ∨ w.heap.size ≤ k) p st N ∧ Touch F w w'

theorem reads_one (w : World) (x : Int) (t : TypeId) : Reads (w.alloc (.cells #[.int .i64 x] t)) .i64 (.slice (some ⟨w.heap.size, 0, none⟩) 1 1) [x] := by
  refine ⟨some ⟨w.heap.size, 0, none⟩, 1, rfl, by simp, fun _ => ⟨w.heap.size, 0, rfl, fun j hj => ?_⟩⟩
  have : j = 0 := by simpa using hj
  subst this
  rw [cell_of_row _ _ _ _ _ _ (heap_alloc_new w _)]
  rfl

theorem lit_ne {x o : Int} (h : x ≠ o) : (Lit.int .i64 x) ≠ (Lit.int .i64 o) := by simp [h]

theorem open_mem {w w1 : World} {F : Nat → Prop} {p : Nat} {st : BookSt} {N mb : Nat} {blk : Int → Option Nat} {lv ev : Value} {D : DataW Unit} (h : BookMem w F p st N mb blk lv ev D) (o l : Int)
    (hm : w1.ownsMap Tryz.prog 3 ptrElem mb (N + 1) (D.put (.int .i64 o) (.lit (.int .i64 (w.heap.size : Int)))))
    (hg : (w.alloc (.cells #[.int .i64 l, .int .i64 0, .int .i64 0] 119)).grownBy w1 (some mb)) :
    BookMem w1 (fun k => F k ∨ w.heap.size ≤ k) p { st with acc := fun x => if x = o then some (l, 0, 0) else st.acc x } (N + 1) mb (fun x => if x = o then some w.heap.size else blk x) lv ev (D.put (.int .i64 o) (.lit (.int .i64 (w.heap.size : Int)))) ∧ Touch F w w1 := by
  have hk : ∀ k, k < w.heap.size → k ≠ mb → w1.heap[k]? = w.heap[k]? := fun k hk hne => (hg.block k (by simp; omega) (fun e => hne (by simpa using e))).trans (heap_alloc_old w _ hk)
  have notmb : ∀ b cur t, w.heap[b]? = some (.cells cur t (0, 0)) → b ≠ mb := by
    intro b cur t hb e
    subst e
    obtain ⟨xs, clock, hx, _⟩ := h.map
    rw [hb] at hx; simp at hx
  have hmap : Maps.IsMap D := by obtain ⟨_, _, _, _, _, hD⟩ := h.map; exact ⟨_, hD⟩
  refine ⟨⟨(hk p (lt_of h.self) (notmb _ _ _ h.self)).trans h.self, Or.inl h.fp, hm, Or.inl h.fmap, ?_, ?_, ?_, ?_, ?_, fun k hk => Or.inl (h.flea k hk), ?_, fun k hk => Or.inl (h.fent k hk)⟩, ?_⟩
  · intro x z
    by_cases hx : x = o
    · subst hx
      rw [Maps.atKey_put_same hmap (by simp [WideAt.IsKeyLit]), if_pos rfl]
      rfl
    · rw [Maps.atKey_put_other (lit_ne hx), if_neg hx]
      exact h.look x z
  · intro x
    by_cases hx : x = o
    · simp [hx]
    · simp only [if_neg hx]; exact h.anone x
  · intro x b hb
    by_cases hx : x = o
    · subst hx
      have hb' : some w.heap.size = some b := by simpa using hb
      cases hb'
      refine ⟨l, 0, 0, by simp, ?_, Or.inr (Nat.le_refl _)⟩
      rw [hg.block w.heap.size (by simp) (fun e => ?_)]
      · exact heap_alloc_new w _
      · have := h.map.lt; simp only [Option.some.injEq] at e; omega
    · simp only [if_neg hx] at hb ⊢
      obtain ⟨l', x', s', h1, h2, h3⟩ := h.asome x b hb
      exact ⟨l', x', s', h1, (hk b (lt_of h2) (notmb _ _ _ h2)).trans h2, Or.inl h3⟩
  · intro x y b hx hy
    by_cases ex : x = o
    · by_cases ey : y = o
      · rw [ex, ey]
      · simp only [if_pos ex, if_neg ey, Option.some.injEq] at hx hy
        obtain ⟨_, _, _, _, h2, _⟩ := h.asome y b hy
        have := lt_of h2
        omega
    · by_cases ey : y = o
      · simp only [if_neg ex, if_pos ey, Option.some.injEq] at hx hy
        obtain ⟨_, _, _, _, h2, _⟩ := h.asome x b hx
        have := lt_of h2
        omega
      · simp only [if_neg ex, if_neg ey] at hx hy
        exact h.inj x y b hx hy
  · refine ownsRow_same h.lrow (fun k hk' => ?_)
    obtain ⟨cur, hc⟩ := row_block h.lrow hk'
    exact hk k (lt_of hc) (notmb _ _ _ hc)
  · refine ownsRow_same h.erow (fun k hk' => ?_)
    obtain ⟨cur, hc⟩ := row_block h.erow hk'
    exact hk k (lt_of hc) (notmb _ _ _ hc)
  · exact ((Touch.refl F w).alloc _).grown hg (fun k hk => by simp only [Option.some.injEq] at hk; subst hk; exact Or.inl h.fmap)

set_option maxHeartbeats 4000000 in
set_option maxRecDepth 100000 in
theorem open_new (p : Nat) (o l : Int) (w : World) (F : Nat → Prop) (st : BookSt) (N : Nat) (hb : BookAt w F p st N) (hn : st.entries.length ≤ 9999) (hN : N < maxLen) (ho : 1 ≤ o ∧ o ≤ 40) (hl : 0 ≤ l ∧ l ≤ 10000000) (hno : st.acc o = none) :
    Calls Tryz.prog 32 #[.pointer (some ⟨p, 0, none⟩), .int .i64 o, .int .i64 l] w (OpPost 0 F p (openSt st o l) (N + 1) w) := by
  obtain ⟨mb, blk, lv, ev, D, hm⟩ := hb
  have hwf : (Lit.int .i64 o).wf = true := WalkArith.wf_i64 (by omega)
  have C := check_any o _ [l] _ (reads_one w l 3)
  rw [show chkE o [l] = 0 from by unfold chkE; rw [if_pos ⟨ho, fun z hz => by simp at hz; subst hz; exact hl⟩]] at C
  have HC := Lib.hid C
  have hmw := hm.same (Below.same_on (Below.alloc (Below.refl _ w) (Nat.le_refl _) (.cells #[.int .i64 l] 3)))
  have L := book_lookup hmw o ho
  have hbn : blk o = none := (hm.anone o).2 hno
  rw [hbn] at L
  unfold ptrOf at L
  have c4 : (w.alloc (.cells #[.int .i64 l] 3)).cell? ⟨p, 4, none⟩ = some (.map (some mb)) := by rw [cell_of hmw.self]; rfl
  have HM := Lib.hid hm
  have HW := Lib.hid hmw
  have hp := lt_of hm.self
  clear C hm hmw hno ho hl
  go_enter Tryz.func32, Tryz.ntmps32
  go_wp2_with fail
  refine HC.out.mono ?_
  rintro e w' ⟨rfl, rfl⟩
  go_wp2_with (at_mapUpdate; go_must (refine wpList_mapUpdate_own _ rfl _ _ _ 111 rfl 3 117 intKey Tryz.underlying111 ptrElem mb N D rfl (by exact HW.out.map.alloc _) hN (.int .i64 o) (.pointer (some ⟨w.heap.size + 1, 0, none⟩)) (.int .i64 o) rfl rfl (Maps.keyOf_int_mk Tryz.underlying3 hwf) (.lit (.int .i64 (w.heap.size + 1 : Nat))) [] rfl ?_))
  intro w1 hown1 hg1
  have hsz : (w.alloc (.cells #[.int .i64 l] 3)).heap.size = w.heap.size + 1 := by simp
  obtain ⟨h1, h2⟩ := open_mem HW.out o l (by rw [hsz]; exact hown1) hg1
  have NT := Lib.hid (note_few p ⟨1, o, 0, l, 0, 0⟩ w1 _ _ _ ⟨mb, _, lv, ev, _, h1⟩ hn)
  clear hown1 hg1 L c4
  go_wp2_with fail
  refine NT.out.mono ?_
  rintro e w2 ⟨rfl, hb2, ht2⟩
  go_wp2_with fail
  go_ret
  refine ⟨rfl, hb2.wider ?_, ?_⟩
  · intro k hk
    rcases hk with (hk | hk) | hk
    · exact Or.inl hk
    · right; rw [hsz] at hk; omega
    · right; have := h2.size; rw [hsz] at this; omega
  · have t1 : Touch F w w1 := ((Touch.refl F w).alloc _).then h2
    refine t1.trans ht2 ?_
    intro i hi
    rcases hi with hi | hi
    · exact Or.inl hi
    · right; rw [hsz] at hi; omega

/-- What Held gives. -/
def heldV (st : BookSt) (o : Int) : Int := if 1 ≤ o ∧ o ≤ 40 then (match st.acc o with | some (_, h, _) => h | none => 0) else 0
def heldE (st : BookSt) (o : Int) : Int := if 1 ≤ o ∧ o ≤ 40 then (match st.acc o with | some _ => 0 | none => 7) else 2
def SamePost2 (r err : Int) (w : World) : Ending → World → Prop := fun e w' => e = .returned (.tuple #[.int .i64 r, .int .i64 err]) ∧ w = w'

theorem reads_nil (w : World) : Reads w .i64 (.slice none 0 0) [] := ⟨none, 0, rfl, by simp, fun h => absurd rfl h⟩

set_option maxHeartbeats 1000000 in
set_option maxRecDepth 100000 in
theorem held_any (p : Nat) (o : Int) (w : World) (F : Nat → Prop) (st : BookSt) (N : Nat) (hb : BookAt w F p st N) :
    Calls Tryz.prog 34 #[.pointer (some ⟨p, 0, none⟩), .int .i64 o] w (SamePost2 (heldV st o) (heldE st o) w) := by
  obtain ⟨mb, blk, lv, ev, D, hm⟩ := hb
  by_cases ho : 1 ≤ o ∧ o ≤ 40
  · have he : chkE o [] = 0 := by unfold chkE; rw [if_pos ⟨ho, by simp⟩]
    have C := account_any p o _ [] w F st N mb blk lv ev D (reads_nil w) he hm
    cases hk : blk o with
    | none =>
      have hv : heldV st o = 0 := by unfold heldV; rw [if_pos ho, (hm.anone o).1 hk]
      have hee : heldE st o = 7 := by unfold heldE; rw [if_pos ho, (hm.anone o).1 hk]
      rw [hv, hee]
      rw [hk] at C
      have HC := Lib.hid C
      clear C hm he hv hee hk ho
      go_enter Tryz.func34, Tryz.ntmps34
      go_wp2_with fail
      refine HC.out.mono ?_
      rintro e w' ⟨rfl, rfl⟩
      go_wp2_with fail
      go_ret2
      exact ⟨rfl, rfl⟩
    | some ab =>
      obtain ⟨l, h, s, h1, h2, h3⟩ := hm.asome o ab hk
      have hv : heldV st o = h := by unfold heldV; rw [if_pos ho, h1]
      have hee : heldE st o = 0 := by unfold heldE; rw [if_pos ho, h1]
      rw [hv, hee]
      rw [hk] at C
      have c1 : w.cell? ⟨ab, 1, none⟩ = some (.int .i64 h) := by rw [cell_of h2]; rfl
      have HC := Lib.hid C
      clear C hm he hv hee hk ho h1 h2 h3
      go_enter Tryz.func34, Tryz.ntmps34
      go_wp2_with fail
      refine HC.out.mono ?_
      rintro e w' ⟨rfl, rfl⟩
      unfold ptrOf
      go_wp2_with fail
      go_ret2
      exact ⟨rfl, rfl⟩
  · have he : chkE o [] ≠ 0 := by unfold chkE; rw [if_neg (fun x => ho x.1)]; decide
    have C := account_err p o _ [] w (reads_nil w) he
    have hv : heldV st o = 0 := by unfold heldV; rw [if_neg ho]
    have hee : heldE st o = 2 := by unfold heldE; rw [if_neg ho]
    rw [hv, hee]
    have HC := Lib.hid C
    clear C hm he hv hee ho
    go_enter Tryz.func34, Tryz.ntmps34
    go_wp2_with fail
    refine HC.out.mono ?_
    rintro e w' ⟨rfl, rfl⟩
    go_wp2_with fail
    go_ret2
    exact ⟨rfl, rfl⟩

end
end Go.Proofs.YtjogaohnphafgaaGreat
