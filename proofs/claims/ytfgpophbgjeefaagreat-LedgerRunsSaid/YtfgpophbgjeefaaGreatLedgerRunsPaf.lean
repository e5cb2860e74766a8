/-
  Mod, Poke: what they give. No conditions.
  Slices of bytes that a call makes: make, copy; Made, Copied and the reference's. No conditions.
  Copied, and the reference's. No conditions.
-/
import Derived.Test.YtfgpophbgjeefaaGreatLedgerRunsPae
import Derived.BigRegion
import Derived.Laws.MakeOwn
import Derived.Laws.CopyOwn

namespace Go.Proofs.YtfgpophbgjeefaaGreat
section
open Go.RowKit

def InR (R : Rel) (k : Nat) : Prop := ∃ b o c p, R b o c p ∧ (k = b ∨ k = c)

def modv (x n : Int) : Nat := ((x.tmod n + n) % n).toNat
theorem modv_lt (x n : Int) (h : 1 ≤ n) : (modv x n : Int) < n := by
  have t3 : 0 ≤ (x.tmod n + n) % n := Int.emod_nonneg _ (by omega)
  have t4 : (x.tmod n + n) % n < n := Int.emod_lt_of_pos _ (by omega)
  unfold modv
  omega

theorem mod_any (x n : Int) (w : World) (h1 : 1 ≤ n) (h2 : n ≤ 2305843009213693952) (hx : -9223372036854775808 ≤ x ∧ x ≤ 9223372036854775807) :
    Calls Tryz.prog 45 #[.int .i64 x, .int .i64 n] w (fun e w' => e = .returned (.int .i64 (modv x n)) ∧ w' = w) := by
  obtain ⟨x1, x2⟩ := hx
  have t1 : -n < x.tmod n := Int.neg_lt_of_neg_lt (by have := Int.lt_tmod_of_pos x (show 0 < n by omega); omega)
  have t2 : x.tmod n < n := Int.tmod_lt_of_pos x (by omega)
  have t3 : 0 ≤ (x.tmod n + n) % n := Int.emod_nonneg _ (by omega)
  have E : ((modv x n : Nat) : Int) = (x.tmod n + n) % n := by unfold modv; omega
  have E := Lib.hid E
  go_enter Tryz.func45, Tryz.ntmps45
  go_wp2
  go_ret
  exact ⟨ret_int (by rw [E.out]), rfl⟩

theorem Twins.write {w : World} {B : Nat} {R : Rel} (h : Twins w B R) {b o c p : Nat} (hr : R b o c p) (z : Int) (z0 : 0 ≤ z) (z1 : z ≤ 255) :
    Twins ((w.setCell ⟨b, o, none⟩ (.int .u8 z)).setCell ⟨c, p, none⟩ (.int .u8 z)) B R := by
  have set1 : ∀ (w : World) (b o b' o' : Nat) (u : Value), ¬ (b = b' ∧ o = o') → (w.setCell ⟨b, o, none⟩ u).cell? ⟨b', o', none⟩ = w.cell? ⟨b', o', none⟩ := fun w b o b' o' u hne =>
    World.cell?_setCell_other _ _ _ _ (fun e => hne (by simpa using e))
  have blk : ∀ (w : World) (b o k : Nat) (u : Value) (cs : Array Value), w.heap[k]? = some (.cells cs 5 (0, 0)) → ∃ cs', (w.setCell ⟨b, o, none⟩ u).heap[k]? = some (.cells cs' 5 (0, 0)) := fun w b o k u cs hk => by
    by_cases e : k = b
    · subst e; exact ⟨_, block_setCell hk o u⟩
    · exact ⟨cs, (Below.heap_setCell w ⟨b, o, none⟩ u k (fun e2 => e e2)).trans hk⟩
  obtain ⟨y, _, _, hb, hc⟩ := h.val b o c p hr
  refine ⟨fun b' o' c' p' hr' => ?_, fun b' o' c' p' hr' => ?_, h.one, h.inj, h.apart⟩
  · by_cases e : b = b' ∧ o = o'
    · obtain ⟨rfl, rfl⟩ := e
      obtain ⟨rfl, rfl⟩ := h.one _ _ _ _ _ _ hr hr'
      have a1 : ¬ (c = b ∧ p = o) := fun e => h.apart _ _ _ _ _ _ _ _ hr hr ⟨e.1.symm, e.2.symm⟩
      refine ⟨z, z0, z1, ?_, ?_⟩
      · rw [set1 _ _ _ _ _ _ a1]
        exact World.cell?_setCell_same _ _ _ hb
      · refine World.cell?_setCell_same _ _ _ (u := .int .u8 y) ?_
        rw [set1 _ _ _ _ _ _ (fun e => a1 ⟨e.1.symm, e.2.symm⟩)]
        exact hc
    · obtain ⟨y', y0, y1, h1, h2⟩ := h.val _ _ _ _ hr'
      have a1 : ¬ (c = b' ∧ p = o') := fun e => h.apart _ _ _ _ _ _ _ _ hr' hr ⟨e.1.symm, e.2.symm⟩
      have a2 : ¬ (b = c' ∧ o = p') := fun e => h.apart _ _ _ _ _ _ _ _ hr hr' e
      have a3 : ¬ (c = c' ∧ p = p') := fun e' => by obtain ⟨rfl, rfl⟩ := e'; exact e (h.inj _ _ _ _ _ _ hr hr')
      refine ⟨y', y0, y1, ?_, ?_⟩
      · rw [set1 _ _ _ _ _ _ a1, set1 _ _ _ _ _ _ e]; exact h1
      · rw [set1 _ _ _ _ _ _ a3, set1 _ _ _ _ _ _ a2]; exact h2
  · obtain ⟨b1, b2, ⟨cs, h1⟩, ⟨ds, h2⟩⟩ := h.row _ _ _ _ hr'
    obtain ⟨cs1, g1⟩ := blk w b o b' (.int .u8 z) cs h1
    obtain ⟨ds1, g2⟩ := blk w b o c' (.int .u8 z) ds h2
    exact ⟨b1, b2, blk _ c p b' (.int .u8 z) cs1 g1, blk _ c p c' (.int .u8 z) ds1 g2⟩

def sliceLen : Value → Nat
  | .slice _ n _ => n
  | _ => 0

def sliceFits : Value → Prop
  | .slice _ n m => n ≤ m
  | _ => True

/-- Behind Poke: everything shows the same; of what is not watched nothing has turned. -/
def PokePost (B c : Nat) (R : Rel) (prs : List (Value × Value)) (w : World) : Ending → World → Prop := fun e w' =>
  e = .returned (.bool true) ∧ CellsAt w' B c prs ∧ Twins w' B R ∧ Touch (InR R) w w'

theorem Reads.tail3 {w : World} {k : IntKind} {a : Option Addr} {n cap : Nat} {zs : List Int} (h : Reads w k (.slice a n cap) zs) (h3 : 3 ≤ n) :
    zs.length = n ∧ ∃ b o, a = some ⟨b, o, none⟩ ∧ w.cell? ⟨b, o, none⟩ = some (.int k (zs.getD 0 0)) ∧ w.cell? ⟨b, o + 1, none⟩ = some (.int k (zs.getD 1 0)) ∧ w.cell? ⟨b, o + 2, none⟩ = some (.int k (zs.getD 2 0)) ∧
      ∀ m, Reads w k (.slice (some ⟨b, o + 3, none⟩) (n - 3) m) (zs.drop 3) := by
  obtain ⟨a', cap', e, hl, hc⟩ := h
  simp only [Value.slice.injEq] at e
  obtain ⟨rfl, rfl, rfl⟩ := e
  obtain ⟨b, o, rfl, hcell⟩ := hc (by intro e; subst e; simp at h3)
  refine ⟨rfl, b, o, rfl, by simpa using hcell 0 (by omega), hcell 1 (by omega), hcell 2 (by omega), fun m => ⟨_, m, by simp, by simp; omega, fun _ => ⟨b, o + 3, rfl, fun j hj => ?_⟩⟩⟩
  simp only [List.length_drop] at hj
  have := hcell (3 + j) (by omega)
  rw [show o + (3 + j) = o + 3 + j by omega] at this
  rw [this]
  simp [List.getD_eq_getElem?_getD]

theorem tail_nil {w : World} {k : IntKind} {a a' : Option Addr} {n cap m : Nat} {zs : List Int} (h : Reads w k (.slice a n cap) zs) (h3 : n ≤ 3) : Reads w k (.slice a' (n - 3) m) (zs.drop 3) := by
  obtain ⟨_, _, e, _, _⟩ := h
  simp only [Value.slice.injEq] at e
  obtain ⟨_, rfl, _⟩ := e
  have : zs.drop 3 = [] := by simp; omega
  rw [this, show zs.length - 3 = 0 by omega]
  exact ⟨_, m, rfl, by simp, fun h => absurd rfl h⟩

theorem tail_if {w : World} {k : IntKind} {a : Option Addr} {b o n cap m : Nat} {zs : List Int} (h : Reads w k (.slice a n cap) zs) (hr : ∀ m, Reads w k (.slice (some ⟨b, o + 3, none⟩) (n - 3) m) (zs.drop 3)) (hf : sliceFits (.slice a n cap)) :
    Reads w k (.slice (if cap = 3 then some ⟨b, o, none⟩ else some ⟨b, o + 3, none⟩) (n - 3) m) (zs.drop 3) := by
  split
  · simp only [sliceFits] at hf
    exact tail_nil h (by omega)
  · exact hr m

theorem CellsAt.keep {w w' : World} {B c : Nat} {prs : List (Value × Value)} (h : CellsAt w B c prs) (hk : ∀ (k : Nat) (cs : Array Value) (t : TypeId), w.heap[k]? = some (.cells cs t (0, 0)) → t ≠ 5 → w'.heap[k]? = w.heap[k]?) : CellsAt w' B c prs := by
  obtain ⟨hB, vo, vw, hc, ho, hw, hs, hl⟩ := h
  refine ⟨hB, vo, vw, (hk c _ _ hc (by decide)).trans hc, ownsRow_same ho (fun k e => ?_), ownsRow_same hw (fun k e => ?_), hs, hl⟩
  · obtain ⟨cur, h1⟩ := row_block ho e; exact hk k _ _ h1 (by decide)
  · obtain ⟨cur, h1⟩ := row_block hw e; exact hk k _ _ h1 (by decide)

theorem CellsAt.write {w : World} {B c : Nat} {R : Rel} {prs : List (Value × Value)} (h : CellsAt w B c prs) (ht : Twins w B R) {b o c' p : Nat} (hr : R b o c' p) (u : Value) :
    CellsAt ((w.setCell ⟨b, o, none⟩ u).setCell ⟨c', p, none⟩ u) B c prs := by
  obtain ⟨_, _, ⟨cs1, h1⟩, ⟨cs2, h2⟩⟩ := ht.row _ _ _ _ hr
  refine h.keep (fun k cs t hk ht => ?_)
  have n1 : k ≠ b := fun e => by subst e; rw [hk] at h1; simp at h1; exact ht h1.2
  have n2 : k ≠ c' := fun e => by subst e; rw [hk] at h2; simp at h2; exact ht h2.2
  exact (Below.heap_setCell _ ⟨c', p, none⟩ u k (fun e => n2 e)).trans (Below.heap_setCell w ⟨b, o, none⟩ u k (fun e => n1 e))

theorem Touch.write {w0 w : World} {R : Rel} (h : Touch (InR R) w0 w) {b o c p : Nat} (hr : R b o c p) (u : Value) : Touch (InR R) w0 ((w.setCell ⟨b, o, none⟩ u).setCell ⟨c, p, none⟩ u) :=
  (h.setCell (p := ⟨b, o, none⟩) (Or.inl ⟨b, o, c, p, hr, Or.inl rfl⟩) u).setCell (p := ⟨c, p, none⟩) (Or.inl ⟨b, o, c, p, hr, Or.inr rfl⟩) u

set_option maxHeartbeats 4000000 in
set_option maxRecDepth 100000 in
theorem poke_any (c : Nat) (w0 : World) (R : Rel) (prs : List (Value × Value)) (v : Value) (zs : List Int) (w : World) (hb : Below w0.heap.size w0 w) (hs : Reads w0 .i64 v zs) (hfit : sliceFits v) (hz : ∀ z ∈ zs, -9223372036854775808 ≤ z ∧ z ≤ 9223372036854775807)
    (hc : CellsAt w w0.heap.size c prs) (ht : Twins w w0.heap.size R) (hp : ∀ xy ∈ prs, Pr R xy) :
    Calls Tryz.prog 19 #[.pointer (some ⟨c, 0, none⟩), v] w (PokePost w0.heap.size c R prs w) := by
  have HP := Lib.hid hp
  have len := hc.len
  have HC := Lib.hid hc
  have HT := Lib.hid ht
  have HS := Lib.hid hs
  have HZ := Lib.hid hz
  have HB := Lib.hid hb
  clear hc ht hs hz hp hb
  go_enter Tryz.func19, Tryz.ntmps19
  go_wp2_with fail
  go_loopw [1] (fun u wr => ∃ ys, Reads w0 .i64 u ys ∧ sliceFits u ∧ (∀ z ∈ ys, -9223372036854775808 ≤ z ∧ z ≤ 9223372036854775807) ∧ CellsAt wr w0.heap.size c prs ∧ Twins wr w0.heap.size R ∧ Touch (InR R) w wr ∧ Below w0.heap.size w0 wr) (fun u _ => sliceLen u)
  case atStart => exact ⟨zs, HS.out, hfit, HZ.out, HC.out, HT.out, Touch.refl _ _, HB.out⟩
  case round =>
    obtain ⟨ys, hys, hfu, hyz, hcr, htr, htc, hbr⟩ := hrel
    obtain ⟨sa, n, scap, rfl⟩ : ∃ sa n scap, u1 = .slice sa n scap := by obtain ⟨sa, scap, h, _⟩ := hys; exact ⟨_, _, _, h⟩
    have hfu : n ≤ scap := hfu
    obtain ⟨a, ca, a', ca', hcb, hrow⟩ := hcr.open
    have c0 : wr.cell? ⟨c, 0, none⟩ = some (.slice a prs.length ca) := by rw [cell_of hcb]; rfl
    have c1 : wr.cell? ⟨c, 1, none⟩ = some (.slice a' prs.length ca') := by rw [cell_of hcb]; rfl
    have HC := Lib.hid hcr
    have HT := Lib.hid htr
    have HR := Lib.hid hrow
    have HTC := Lib.hid htc
    have HBR := Lib.hid hbr
    have HYZ := Lib.hid hyz
    clear hcr htr hrow htc hbr hcb hyz
    by_cases h3 : 3 ≤ n
    · by_cases hl0 : 0 < prs.length
      · obtain ⟨hyl, b, o, rfl, s0, s1, s2, hrest⟩ := hys.tail3 h3
        have M0 := Lib.hid (fun w => mod_any (ys.getD 0 0) prs.length w (by omega) (by omega) (HYZ.out _ (by rw [List.getD_eq_getElem?_getD, List.getElem?_eq_getElem (by omega)]; simp)))
        have ml0 := modv_lt (ys.getD 0 0) prs.length (by omega)
        have z1 := HYZ.out (ys.getD 1 0) (by rw [List.getD_eq_getElem?_getD, List.getElem?_eq_getElem (by omega)]; simp)
        have z2 := HYZ.out (ys.getD 2 0) (by rw [List.getD_eq_getElem?_getD, List.getElem?_eq_getElem (by omega)]; simp)
        generalize ys.getD 0 0 = y0 at *
        generalize ys.getD 1 0 = y1 at *
        generalize ys.getD 2 0 = y2 at *
        generalize modv y0 prs.length = k at *
        have g0 := old_cell HBR.out s0
        have g1 := old_cell HBR.out s1
        have g2 := old_cell HBR.out s2
        have hk : k < prs.length := by omega
        obtain ⟨g, g', rfl, rfl, q1, q2⟩ := HR.out k hk
        have hpr := HP.out _ (List.getElem_mem hk)
        obtain ⟨pa, pb, len1, cap1, e, hl1, hm1, hcp⟩ := id hpr
        rw [e] at q1 q2
        simp only at q1 q2
        clear e hpr s0 s1 s2 ml0
        have hcap' : cap1 ≤ 9223372036854775807 := by omega
        go_wp2_with fail
        go_quiet ((go_at_call 45; exact Calls.quiet_of_same (M0.out _)))
        go_wp2_with fail
        go_quiet (fail)
        by_cases hc0 : cap1 = 0
        · subst hc0
          go_wp2_with fail
          all_goals
            go_roundw
            case rel => exact ⟨_, tail_if hys hrest hfu, by simp only [sliceFits] at hfu ⊢; omega, fun z hz => HYZ.out z (List.mem_of_mem_drop hz), HC.out.below (bdrewN (Below.refl _ _) _), HT.out.below (bdrewN (Below.refl _ _) _), HTC.out.drewN _, bdrewN HBR.out _⟩
            case measure => simp [sliceLen]; omega
        · have M1 := Lib.hid (fun w => mod_any y1 cap1 w (by omega) (by omega) z1)
          have ml1 := modv_lt y1 cap1 (by omega)
          generalize modv y1 cap1 = k2 at *
          have hk2 : k2 < cap1 := by omega
          obtain ⟨b1, o1, c1', r1, rfl, rfl, hR⟩ := hcp (by omega)
          have RR := Lib.hid (hR k2 hk2)
          clear hcp hR
          have hv := HT.out.val _ _ _ _ RR.out
          have hw := HT.out.row _ _ _ _ RR.out
          obtain ⟨x, _, _, x1, x2⟩ := hv
          obtain ⟨_, _, ⟨cs1, f1⟩, ⟨cs2, f2⟩⟩ := hw
          have fr1 := fun j => free_of f1 j
          have fr2 := fun j => free_of f2 j
          have nap : ¬ (b1 = c1' ∧ o1 + k2 = r1 + k2) := HT.out.apart _ _ _ _ _ _ _ _ RR.out RR.out
          clear f1 f2
          go_wp2_with fail
          refine (M1.out _).mono ?_
          rintro e w1 ⟨rfl, rfl⟩
          go_wp2_with fail
          have y20 := Int.emod_nonneg y2 (show (256 : Int) ≠ 0 by decide)
          have y21 := Int.emod_lt_of_pos y2 (show (0 : Int) < 256 by decide)
          have NE : ∀ (W : World) (u : Value), (W.setCell ⟨b1, o1 + k2, none⟩ u).cell? ⟨c1', r1 + k2, none⟩ = W.cell? ⟨c1', r1 + k2, none⟩ := fun W u => World.cell?_setCell_other _ _ _ _ (fun e => nap (by simpa using e))
          have low := HT.out.row _ _ _ _ RR.out
          have LO := Lib.hid (And.intro low.1 low.2.1)
          clear low
          go_region
          go_wp2_with fail
          have C1 := Lib.hid (fun m => ((HC.out.drewN m).write (HT.out.drewN m) RR.out (.int .u8 (y2 % 256))))
          have T1 := Lib.hid (fun m => ((HT.out.drewN m).write RR.out (y2 % 256) y20 (by omega)))
          have U1 := Lib.hid (fun m => (HTC.out.drewN m).write RR.out (.int .u8 (y2 % 256)))
          have B1 := Lib.hid (fun m => ((bdrewN HBR.out m).setCell (p := ⟨b1, o1 + k2, none⟩) LO.out.1 (.int .u8 (y2 % 256))).setCell (p := ⟨c1', r1 + k2, none⟩) LO.out.2 (.int .u8 (y2 % 256)))
          refine (same_any c w0.heap.size R prs _ (C1.out _) (T1.out _) HP.out).mono ?_
          rintro e w3 ⟨rfl, m2, rfl⟩
          go_wp2_with fail
          go_roundw
          case rel => exact ⟨_, tail_if hys hrest hfu, by simp only [sliceFits] at hfu ⊢; omega, fun z hz => HYZ.out z (List.mem_of_mem_drop hz), (C1.out _).drewN _, (T1.out _).drewN _, (U1.out _).drewN _, bdrewN (B1.out _) _⟩
          case measure => simp [sliceLen]; omega
      · have hl1 : prs.length = 0 := by omega
        go_wp2_with fail
        refine (appends_any c w0.heap.size R prs _ HC.out HT.out HP.out).mono ?_
        rintro e w1 ⟨rfl, hb1⟩
        go_wp2_with fail
        go_ret
        exact ⟨rfl, HC.out.below hb1, HT.out.below hb1, HTC.out.then (Touch.of_below hb1)⟩
    · have h3' : n < 3 := by omega
      clear h3
      go_wp2_with fail
      refine (appends_any c w0.heap.size R prs _ HC.out HT.out HP.out).mono ?_
      rintro e w1 ⟨rfl, hb1⟩
      go_wp2_with fail
      go_ret
      exact ⟨rfl, HC.out.below hb1, HT.out.below hb1, HTC.out.then (Touch.of_below hb1)⟩

end
end Go.Proofs.YtfgpophbgjeefaaGreat

namespace Go.Proofs.YtfgpophbgjeefaaGreat
section
open Go.RowKit

/-- 'copy' into a row that is known: of the other blocks none has turned. -/
theorem wpList_copy_at {P : Program} {w : World} {ops : Array Oper} {rest : List Oper} {o : Oper} {a : Act} {Q : Exit → Act → World → Prop} (hgd : o.guard = none) (d s : Operand) (dT sT : TypeId)
    (ho : o.op = .call { callee := .builtin .copy, args := #[d, s], argTypes := #[dT, sT] }) (elem : TypeId) (hu : P.underlying dT = some (.slice elem)) (hsz : (P.info? elem).map (·.size) = some 1)
    (dp sp : Option Addr) (dLen dCap sLen sCap : Nat) (hd : a.eval d = .slice dp dLen dCap) (hs : a.eval s = .slice sp sLen sCap)
    (g off : Nat) (cur : List Value) (t : TypeId) (hg : w.heap[g]? = some (.cells cur.toArray t (0, 0))) (cs : List Value) (hn : cs.length = Nat.min sLen dLen)
    (hpos : 0 < cs.length → dp = some ⟨g, off, none⟩ ∧ ∃ ad, sp = some ad ∧ ∀ j v, cs[j]? = some v → w.cell? (ad.add j) = some v)
    (hfit : off + cs.length ≤ cur.length) (h1 : ∀ v ∈ cs, v.oneCell' = true)
    (h : ∀ w', w'.heap[g]? = some (.cells (splice cur off cs).toArray t (0, 0)) → Touch (fun k => k = g) w w' → wpList P ops Q rest (a.put o.dst (goInt cs.length)) w') :
    wpList P ops Q (o :: rest) a w := by
  by_cases h0 : cs.length = 0
  · obtain rfl : cs = [] := List.eq_nil_of_length_eq_zero h0
    refine wpList_copy_nothing hgd d s dT sT ho elem hu hsz dp sp dLen dCap sLen sCap hd hs (by simpa using hn.symm) ?_
    exact h w (by simpa [splice] using hg) (Touch.refl _ _)
  · obtain ⟨rfl, ad, rfl, hsrc⟩ := hpos (by omega)
    refine wpList_copy_own hgd d s dT sT ho elem hu hsz g off dLen dCap ad sLen sCap hd hs cur.toArray t hg cs hn hsrc (by simpa using hfit) h1 ?_
    exact h _ (by simpa [splice] using setRow_heap w g _ _ t _ hg) ⟨rfl, rfl, rfl, by simp [World.setRow], fun k _ hk => setRow_other w g k _ hk⟩

/-- A block of bytes. -/
def byteRow (w : World) (g : Nat) (cs : List Int) : Prop := w.heap[g]? = some (.cells (cs.map (Value.int .u8)).toArray 5 (0, 0))
def zeros (n : Nat) : List Int := List.replicate n 0

theorem made_zeros (n : Nat) : madeCells #[.int .u8 0] n = ((zeros n).map (Value.int .u8)).toArray := by
  apply Array.ext
  · simp [madeCells, zeros]
  · intro i h1 h2
    simp [madeCells, zeros, Nat.mod_one]

theorem run_makeBytes (w : World) (l c : Int) (h0 : 0 ≤ l) (hlc : l ≤ c) (hc : c ≤ 281474976710656) :
    (Instr.makeSlice 42 (.int .i64 l) (.int .i64 c)).run Tryz.prog w = .ok (.slice (some ⟨w.heap.size, 0, none⟩) l.toNat c.toNat) (w.alloc (.cells ((zeros c.toNat).map (Value.int .u8)).toArray 5)) := by
  obtain ⟨i0, hi, hz0, hz1, hz2⟩ := info_parts byteInfo0
  have h := run_make (P := Tryz.prog) w 42 5 i0 (.int .u8 0) Tryz.underlying42 hi hz0 .i64 .i64 l c h0 hlc (by rw [hz2]; omega) (by omega)
  rw [h]
  simp only [Value.cells, hz1, Nat.mul_one]
  rw [made_zeros]

def madeE (n have' : Int) : Int := if (0 ≤ have' ∧ have' ≤ 100000) ∧ (0 ≤ n ∧ n ≤ have') then 0 else 2
def MadePost (n have' : Int) (w : World) : Ending → World → Prop := fun e w' =>
  (madeE n have' = 0 ∧ e = .returned (.tuple #[.slice (some ⟨w.heap.size, 0, none⟩) n.toNat have'.toNat, .int .i64 0]) ∧ w' = w.alloc (.cells ((zeros have'.toNat).map (Value.int .u8)).toArray 5)) ∨
  (madeE n have' = 2 ∧ e = .returned (.tuple #[.slice none 0 0, .int .i64 2]) ∧ w' = w)

set_option maxHeartbeats 1000000 in
theorem made_any (n h : Int) (w : World) : Calls Tryz.prog 181 #[.int .i64 n, .int .i64 h] w (MadePost n h w) := by
  by_cases h1 : 0 ≤ h ∧ h ≤ 100000
  · by_cases h2 : 0 ≤ n ∧ n ≤ h
    · have E := Lib.hid (show madeE n h = 0 from by unfold madeE; rw [if_pos ⟨h1, h2⟩])
      have MK := fun w => run_makeBytes w n h h2.1 h2.2 (by omega)
      obtain ⟨a1, a2⟩ := h1
      obtain ⟨a3, a4⟩ := h2
      go_enter Tryz.func181, Tryz.ntmps181
      go_wp2_with fail
      refine (within_room_yes _ _ _ _ a1 a2).mono ?_
      rintro e w' ⟨rfl, rfl⟩
      go_wp2_with fail
      refine (within_room_yes _ _ _ _ a3 a4).mono ?_
      rintro e w' ⟨rfl, rfl⟩
      go_wp2_with fail
      go_ret2
      exact Or.inl ⟨E.out, rfl, rfl⟩
    · have E := Lib.hid (show madeE n h = 2 from by unfold madeE; rw [if_neg (fun x => h2 x.2)])
      have H2 := Lib.hid h2
      obtain ⟨a1, a2⟩ := h1
      clear h2
      go_enter Tryz.func181, Tryz.ntmps181
      go_wp2_with fail
      refine (within_room_yes _ _ _ _ a1 a2).mono ?_
      rintro e w' ⟨rfl, rfl⟩
      go_wp2_with fail
      refine (within_room_no _ _ _ _ H2.out).mono ?_
      rintro e w' ⟨rfl, rfl⟩
      go_wp2_with fail
      go_ret2
      exact Or.inr ⟨E.out, rfl, rfl⟩
  · have E := Lib.hid (show madeE n h = 2 from by unfold madeE; rw [if_neg (fun x => h1 x.1)])
    have H1 := Lib.hid h1
    clear h1
    go_enter Tryz.func181, Tryz.ntmps181
    go_wp2_with fail
    refine (within_room_no _ _ _ _ H1.out).mono ?_
    rintro e w' ⟨rfl, rfl⟩
    go_wp2_with fail
    go_ret2
    exact Or.inr ⟨E.out, rfl, rfl⟩

end
end Go.Proofs.YtfgpophbgjeefaaGreat

namespace Go.Proofs.YtfgpophbgjeefaaGreat
section
open Go.RowKit

theorem byteSize : (Tryz.prog.info? 5).map (·.size) = some 1 := by
  obtain ⟨i0, hi, _, h, _⟩ := info_parts byteInfo0
  rw [hi]; simp [h]

/-- What 'copy' of the list zs reads. -/
theorem Reads.src {w : World} {p : Option Addr} {n m : Nat} {zs : List Int} (h : Reads w .u8 (.slice p n m) zs) (hn : zs.length = n) (h0 : 0 < (zs.map (Value.int .u8)).length) :
    ∃ ad, p = some ad ∧ ∀ j v, (zs.map (Value.int .u8))[j]? = some v → w.cell? (ad.add j) = some v := by
  have hc := h.cells hn
  obtain ⟨a, cap, e, hl, hr⟩ := h
  simp only [Value.slice.injEq] at e
  obtain ⟨rfl, _, _⟩ := e
  obtain ⟨b, o, rfl, _⟩ := hr (by intro e; subst e; simp at h0)
  exact ⟨_, rfl, hc _ rfl⟩

theorem splice_zeros (zs : List Int) (H : Nat) : splice ((zeros H).map (Value.int .u8)) 0 (zs.map (Value.int .u8)) = (zs ++ zeros (H - zs.length)).map (Value.int .u8) := by
  simp [splice, zeros]

def CopyRow (zs : List Int) (H : Nat) (w : World) : Ending → World → Prop := fun e w' =>
  ∃ g, w.heap.size ≤ g ∧ e = .returned (.slice (some ⟨g, 0, none⟩) zs.length H) ∧ byteRow w' g (zs ++ zeros (H - zs.length)) ∧ Below w.heap.size w w'

def copE (n : Nat) (h : Int) : Int := if 100000 < n then 4 else if (0 ≤ h ∧ h ≤ 100000) ∧ (n : Int) ≤ h then 0 else 2
def CopyPost (zs : List Int) (h : Int) (w : World) : Ending → World → Prop := fun e w' => Below w.heap.size w w' ∧
  ((copE zs.length h = 0 ∧ ∃ g, w.heap.size ≤ g ∧ e = .returned (.tuple #[.slice (some ⟨g, 0, none⟩) zs.length h.toNat, .int .i64 0]) ∧ byteRow w' g (zs ++ zeros (h.toNat - zs.length))) ∨
  (copE zs.length h ≠ 0 ∧ e = .returned (.tuple #[.slice none 0 0, .int .i64 (copE zs.length h)])))

end
end Go.Proofs.YtfgpophbgjeefaaGreat
