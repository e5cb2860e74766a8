/-
  Mod, Poke: what they give. No conditions.
  Slices of bytes that a call makes: make, copy; Made, Copied and the reference's. No conditions.
  Copied, and the reference's. No conditions.
  twice: the same memory for the program and for the reference. No conditions but the length's.
-/
import Derived.Test.YtjogaohnphafgaaTopCompactPaj
import Derived.BigRegion
import Derived.Laws.MakeOwn
import Derived.Laws.CopyOwn

namespace Go.Proofs.Ytjogaohnphafgaa
section
open Go.RowKit

def InR (R : Rel) (k : Nat) : Prop := ∃ b o c p, R b o c p ∧ (k = b ∨ k = c)

def modv (x n : Int) : Nat := ((x.tmod n + n) % n).toNat
theorem modv_lt (x n : Int) (h : 1 ≤ n) : (modv x n : Int) < n := by
  have t3 : 0 ≤ (x.tmod n + n) % n := Int.emod_nonneg _ (by omega)
  have t4 : (x.tmod n + n) % n < n := Int.emod_lt_of_pos _ (by omega)
  unfold modv
  omega

theorem Twins.write {w : World} {B : Nat} {R : Rel} (h : Twins w B R) {b o c p : Nat} (hr : R b o c p) (z : Int) (z0 : 0 ≤ z) (z1 : z ≤ 255) :
    Twins ((w.setCell ⟨b, o, none⟩ (.int .u8 z)).setCell ⟨c, p, none⟩ (.int .u8 z)) B R := by
  have set1 : ∀ (w : World) (b o b' o' : Nat) (u : Value), ¬ (b = b' ∧ o = o') → (w.setCell ⟨b, o, none⟩ u).cell? ⟨b', o', none⟩ = w.cell? ⟨b', o', none⟩ := fun w b o b' o' u hne =>
    World.cell?_setCell_other _ _ _ _ (fun e => hne (by simpa using e))
  have blk : ∀ (w : World) (b o k : Nat) (u : Value) (cs : Array Value), w.heap[k]? = some (.cells cs 5 (0, 0)) → ∃ cs', (w.setCell ⟨b, o, none⟩ u).heap[k]? = some (.cells cs' 5 (0, 0)) := fun w b o k u cs hk => by
    by_cases e : k = b
    · subst e; exact ⟨_, block_setCell hk o u⟩
    · exact ⟨cs, (Below.heap_setCell w ⟨b, o, none⟩ u k (fun e2 => e e2)).trans hk⟩
  obtain ⟨y, _, _, hb, hc⟩ := h.val b o c p hr
  refine ⟨fun b' o' c' p' hr' => ?_, fun b' o' c' p' hr' => ?_, h.one, h.inj, h.apart⟩
  · by_cases e : b = b' ∧ o = o'
    · obtain ⟨rfl, rfl⟩ := e
      obtain ⟨rfl, rfl⟩ := h.one _ _ _ _ _ _ hr hr'
      have a1 : ¬ (c = b ∧ p = o) := fun e => h.apart _ _ _ _ _ _ _ _ hr hr ⟨e.1.symm, e.2.symm⟩
      refine ⟨z, z0, z1, ?_, ?_⟩
      · rw [set1 _ _ _ _ _ _ a1]
        exact World.cell?_setCell_same _ _ _ hb
      · refine World.cell?_setCell_same _ _ _ (u := .int .u8 y) ?_
        rw [set1 _ _ _ _ _ _ (fun e => a1 ⟨e.1.symm, e.2.symm⟩)]
        exact hc
    · obtain ⟨y', y0, y1, h1, h2⟩ := h.val _ _ _ _ hr'
      have a1 : ¬ (c = b' ∧ p = o') := fun e => h.apart _ _ _ _ _ _ _ _ hr' hr ⟨e.1.symm, e.2.symm⟩
      have a2 : ¬ (b = c' ∧ o = p') := fun e => h.apart _ _ _ _ _ _ _ _ hr hr' e
      have a3 : ¬ (c = c' ∧ p = p') := fun e' => by obtain ⟨rfl, rfl⟩ := e'; exact e (h.inj _ _ _ _ _ _ hr hr')
      refine ⟨y', y0, y1, ?_, ?_⟩
      · rw [set1 _ _ _ _ _ _ a1, set1 _ _ _ _ _ _ e]; exact h1
      · rw [set1 _ _ _ _ _ _ a3, set1 _ _ _ _ _ _ a2]; exact h2
  · obtain ⟨b1, b2, ⟨cs, h1⟩, ⟨ds, h2⟩⟩ := h.row _ _ _ _ hr'
    obtain ⟨cs1, g1⟩ := blk w b o b' (.int .u8 z) cs h1
    obtain ⟨ds1, g2⟩ := blk w b o c' (.int .u8 z) ds h2
    exact ⟨b1, b2, blk _ c p b' (.int .u8 z) cs1 g1, blk _ c p c' (.int .u8 z) ds1 g2⟩

def sliceLen : Value → Nat
  | .slice _ n _ => n
  | _ => 0

def sliceFits : Value → Prop
  | .slice _ n m => n ≤ m
  | _ => True

theorem Reads.tail3 {w : World} {k : IntKind} {a : Option Addr} {n cap : Nat} {zs : List Int} (h : Reads w k (.slice a n cap) zs) (h3 : 3 ≤ n) :
    zs.length = n ∧ ∃ b o, a = some ⟨b, o, none⟩ ∧ w.cell? ⟨b, o, none⟩ = some (.int k (zs.getD 0 0)) ∧ w.cell? ⟨b, o + 1, none⟩ = some (.int k (zs.getD 1 0)) ∧ w.cell? ⟨b, o + 2, none⟩ = some (.int k (zs.getD 2 0)) ∧
      ∀ m, Reads w k (.slice (some ⟨b, o + 3, none⟩) (n - 3) m) (zs.drop 3) := by
  obtain ⟨a', cap', e, hl, hc⟩ := h
  simp only [Value.slice.injEq] at e
  obtain ⟨rfl, rfl, rfl⟩ := e
  obtain ⟨b, o, rfl, hcell⟩ := hc (by intro e; subst e; simp at h3)
  refine ⟨rfl, b, o, rfl, hcell 0 (by omega), hcell 1 (by omega), hcell 2 (by omega), fun m => ⟨_, m, by simp, by simp; omega, fun _ => ⟨b, o + 3, rfl, fun j hj => ?_⟩⟩⟩
  simp only [List.length_drop] at hj
  have := hcell (3 + j) (by omega)
  rw [show o + (3 + j) = o + 3 + j by omega] at this
  rw [this]
  simp [List.getD_eq_getElem?_getD]

theorem tail_nil {w : World} {k : IntKind} {a a' : Option Addr} {n cap m : Nat} {zs : List Int} (h : Reads w k (.slice a n cap) zs) (h3 : n ≤ 3) : Reads w k (.slice a' (n - 3) m) (zs.drop 3) := by
  obtain ⟨_, _, e, _, _⟩ := h
  simp only [Value.slice.injEq] at e
  obtain ⟨_, rfl, _⟩ := e
  have : zs.drop 3 = [] := by simp; omega
  rw [this, show zs.length - 3 = 0 by omega]
  exact ⟨_, m, rfl, by simp, fun h => absurd rfl h⟩

theorem tail_if {w : World} {k : IntKind} {a : Option Addr} {b o n cap m : Nat} {zs : List Int} (h : Reads w k (.slice a n cap) zs) (hr : ∀ m, Reads w k (.slice (some ⟨b, o + 3, none⟩) (n - 3) m) (zs.drop 3)) (hf : sliceFits (.slice a n cap)) :
    Reads w k (.slice (if cap = 3 then some ⟨b, o, none⟩ else some ⟨b, o + 3, none⟩) (n - 3) m) (zs.drop 3) := by
  split
  · simp only [sliceFits] at hf
    exact tail_nil h (by omega)
  · exact hr m

theorem Touch.write {w0 w : World} {R : Rel} (h : Touch (InR R) w0 w) {b o c p : Nat} (hr : R b o c p) (u : Value) : Touch (InR R) w0 ((w.setCell ⟨b, o, none⟩ u).setCell ⟨c, p, none⟩ u) :=
  (h.setCell (p := ⟨b, o, none⟩) (Or.inl ⟨b, o, c, p, hr, Or.inl rfl⟩) u).setCell (p := ⟨c, p, none⟩) (Or.inl ⟨b, o, c, p, hr, Or.inr rfl⟩) u

end
end Go.Proofs.Ytjogaohnphafgaa

namespace Go.Proofs.Ytjogaohnphafgaa
section
open Go.RowKit

/-- 'copy' into a row that is known: of the other blocks none has turned. -/
theorem wpList_copy_at {P : Program} {w : World} {ops : Array Oper} {rest : List Oper} {o : Oper} {a : Act} {Q : Exit → Act → World → Prop} (hgd : o.guard = none) (d s : Operand) (dT sT : TypeId)
    (ho : o.op = .call { callee := .builtin .copy, args := #[d, s], argTypes := #[dT, sT] }) (elem : TypeId) (hu : P.underlying dT = some (.slice elem)) (hsz : (P.info? elem).map (·.size) = some 1)
    (dp sp : Option Addr) (dLen dCap sLen sCap : Nat) (hd : a.eval d = .slice dp dLen dCap) (hs : a.eval s = .slice sp sLen sCap)
    (g off : Nat) (cur : List Value) (t : TypeId) (hg : w.heap[g]? = some (.cells cur.toArray t (0, 0))) (cs : List Value) (hn : cs.length = Nat.min sLen dLen)
    (hpos : 0 < cs.length → dp = some ⟨g, off, none⟩ ∧ ∃ ad, sp = some ad ∧ ∀ j v, cs[j]? = some v → w.cell? (ad.add j) = some v)
    (hfit : off + cs.length ≤ cur.length) (h1 : ∀ v ∈ cs, v.oneCell' = true)
    (h : ∀ w', w'.heap[g]? = some (.cells (splice cur off cs).toArray t (0, 0)) → Touch (fun k => k = g) w w' → wpList P ops Q rest (a.put o.dst (goInt cs.length)) w') :
    wpList P ops Q (o :: rest) a w := by
  by_cases h0 : cs.length = 0
  · obtain rfl : cs = [] := List.eq_nil_of_length_eq_zero h0
    refine wpList_copy_nothing hgd d s dT sT ho elem hu hsz dp sp dLen dCap sLen sCap hd hs (by simpa using hn.symm) ?_
    exact h w (by simpa [splice] using hg) (Touch.refl _ _)
  · obtain ⟨rfl, ad, rfl, hsrc⟩ := hpos (by omega)
    refine wpList_copy_own hgd d s dT sT ho elem hu hsz g off dLen dCap ad sLen sCap hd hs cur.toArray t hg cs hn hsrc (by simpa using hfit) h1 ?_
    exact h _ (by simpa [splice] using setRow_heap w g _ _ t _ hg) ⟨rfl, rfl, rfl, by simp [World.setRow], fun k _ hk => setRow_other w g k _ hk⟩

/-- A block of bytes. -/
def byteRow (w : World) (g : Nat) (cs : List Int) : Prop := w.heap[g]? = some (.cells (cs.map (Value.int .u8)).toArray 5 (0, 0))
def zeros (n : Nat) : List Int := List.replicate n 0

theorem made_zeros (n : Nat) : madeCells #[.int .u8 0] n = ((zeros n).map (Value.int .u8)).toArray := by
  apply Array.ext
  · simp [madeCells, zeros]
  · intro i h1 h2
    simp [madeCells, zeros, Nat.mod_one]

theorem run_makeBytes (w : World) (l c : Int) (h0 : 0 ≤ l) (hlc : l ≤ c) (hc : c ≤ 281474976710656) :
    (Instr.makeSlice 34 (.int .i64 l) (.int .i64 c)).run Try.prog w = .ok (.slice (some ⟨w.heap.size, 0, none⟩) l.toNat c.toNat) (w.alloc (.cells ((zeros c.toNat).map (Value.int .u8)).toArray 5)) := by
  obtain ⟨i0, hi, hz0, hz1, hz2⟩ := info_parts byteInfo0
  have h := run_make (P := Try.prog) w 34 5 i0 (.int .u8 0) Try.underlying34 hi hz0 .i64 .i64 l c h0 hlc (by rw [hz2]; omega) (by omega)
  rw [h]
  simp only [Value.cells, hz1, Nat.mul_one]
  rw [made_zeros]

def madeE (n have' : Int) : Int := if (0 ≤ have' ∧ have' ≤ 100000) ∧ (0 ≤ n ∧ n ≤ have') then 0 else 2
def MadePost (n have' : Int) (w : World) : Ending → World → Prop := fun e w' =>
  (madeE n have' = 0 ∧ e = .returned (.tuple #[.slice (some ⟨w.heap.size, 0, none⟩) n.toNat have'.toNat, .int .i64 0]) ∧ w' = w.alloc (.cells ((zeros have'.toNat).map (Value.int .u8)).toArray 5)) ∨
  (madeE n have' = 2 ∧ e = .returned (.tuple #[.slice none 0 0, .int .i64 2]) ∧ w' = w)

set_option maxHeartbeats 1000000 in
theorem made_any (n h : Int) (w : World) : Calls Try.prog 66 #[.int .i64 n, .int .i64 h] w (MadePost n h w) := by
  by_cases h1 : 0 ≤ h ∧ h ≤ 100000
  · by_cases h2 : 0 ≤ n ∧ n ≤ h
    · have E := Lib.hid (show madeE n h = 0 from by unfold madeE; rw [if_pos ⟨h1, h2⟩])
      have MK := fun w => run_makeBytes w n h h2.1 h2.2 (by omega)
      obtain ⟨a1, a2⟩ := h1
      obtain ⟨a3, a4⟩ := h2
      go_enter Try.func66, Try.ntmps66
      go_wp2_with fail
      refine (within_room_yes _ _ _ _ a1 a2).mono ?_
      rintro e w' ⟨rfl, rfl⟩
      go_wp2_with fail
      refine (within_room_yes _ _ _ _ a3 a4).mono ?_
      rintro e w' ⟨rfl, rfl⟩
      go_wp2_with fail
      go_ret2
      exact Or.inl ⟨E.out, rfl, rfl⟩
    · have E := Lib.hid (show madeE n h = 2 from by unfold madeE; rw [if_neg (fun x => h2 x.2)])
      have H2 := Lib.hid h2
      obtain ⟨a1, a2⟩ := h1
      clear h2
      go_enter Try.func66, Try.ntmps66
      go_wp2_with fail
      refine (within_room_yes _ _ _ _ a1 a2).mono ?_
      rintro e w' ⟨rfl, rfl⟩
      go_wp2_with fail
      refine (within_room_no _ _ _ _ H2.out).mono ?_
      rintro e w' ⟨rfl, rfl⟩
      go_wp2_with fail
      go_ret2
      exact Or.inr ⟨E.out, rfl, rfl⟩
  · have E := Lib.hid (show madeE n h = 2 from by unfold madeE; rw [if_neg (fun x => h1 x.1)])
    have H1 := Lib.hid h1
    clear h1
    go_enter Try.func66, Try.ntmps66
    go_wp2_with fail
    refine (within_room_no _ _ _ _ H1.out).mono ?_
    rintro e w' ⟨rfl, rfl⟩
    go_wp2_with fail
    go_ret2
    exact Or.inr ⟨E.out, rfl, rfl⟩

end
end Go.Proofs.Ytjogaohnphafgaa

namespace Go.Proofs.Ytjogaohnphafgaa
section
open Go.RowKit

theorem byteSize : (Try.prog.info? 5).map (·.size) = some 1 := by
  obtain ⟨i0, hi, _, h, _⟩ := info_parts byteInfo0
  rw [hi]; simp [h]

/-- What 'copy' of the list zs reads. -/
theorem Reads.src {w : World} {p : Option Addr} {n m : Nat} {zs : List Int} (h : Reads w .u8 (.slice p n m) zs) (hn : zs.length = n) (h0 : 0 < (zs.map (Value.int .u8)).length) :
    ∃ ad, p = some ad ∧ ∀ j v, (zs.map (Value.int .u8))[j]? = some v → w.cell? (ad.add j) = some v := by
  have hc := h.cells hn
  obtain ⟨a, cap, e, hl, hr⟩ := h
  simp only [Value.slice.injEq] at e
  obtain ⟨rfl, _, _⟩ := e
  obtain ⟨b, o, rfl, _⟩ := hr (by intro e; subst e; simp at h0)
  exact ⟨_, rfl, hc _ rfl⟩

theorem splice_zeros (zs : List Int) (H : Nat) : splice ((zeros H).map (Value.int .u8)) 0 (zs.map (Value.int .u8)) = (zs ++ zeros (H - zs.length)).map (Value.int .u8) := by
  simp [splice, zeros]

def CopyRow (zs : List Int) (H : Nat) (w : World) : Ending → World → Prop := fun e w' =>
  ∃ g, w.heap.size ≤ g ∧ e = .returned (.slice (some ⟨g, 0, none⟩) zs.length H) ∧ byteRow w' g (zs ++ zeros (H - zs.length)) ∧ Below w.heap.size w w'

def copE (n : Nat) (h : Int) : Int := if 100000 < n then 4 else if (0 ≤ h ∧ h ≤ 100000) ∧ (n : Int) ≤ h then 0 else 2
def CopyPost (zs : List Int) (h : Int) (w : World) : Ending → World → Prop := fun e w' => Below w.heap.size w w' ∧
  ((copE zs.length h = 0 ∧ ∃ g, w.heap.size ≤ g ∧ e = .returned (.tuple #[.slice (some ⟨g, 0, none⟩) zs.length h.toNat, .int .i64 0]) ∧ byteRow w' g (zs ++ zeros (h.toNat - zs.length))) ∨
  (copE zs.length h ≠ 0 ∧ e = .returned (.tuple #[.slice none 0 0, .int .i64 (copE zs.length h)])))

end
end Go.Proofs.Ytjogaohnphafgaa

namespace Go.Proofs.Ytjogaohnphafgaa
section
open Go.RowKit

def bytes (cs : List Int) : Prop := ∀ z ∈ cs, 0 ≤ z ∧ z ≤ 255
theorem bytes_zeros (n : Nat) : bytes (zeros n) := by intro z hz; simp [zeros] at hz; omega
theorem bytes_set {cs : List Int} (h : bytes cs) (k : Nat) (z : Int) (z0 : 0 ≤ z) (z1 : z ≤ 255) : bytes (cs.set k z) := by
  intro y hy
  rcases List.mem_or_eq_of_mem_set hy with h1 | rfl
  · exact h y h1
  · exact ⟨z0, z1⟩

theorem byteRow.cell {w : World} {g : Nat} {cs : List Int} (h : byteRow w g cs) (j : Nat) (hj : j < cs.length) : w.cell? ⟨g, j, none⟩ = some (.int .u8 (cs.getD j 0)) := by
  rw [cell_of h]; simp [List.getD_eq_getElem?_getD, hj]
theorem byteRow.set {w : World} {g : Nat} {cs : List Int} (h : byteRow w g cs) (j : Nat) (z : Int) : byteRow (w.setCell ⟨g, j, none⟩ (.int .u8 z)) g (cs.set j z) := by
  have := block_setCell h j (.int .u8 z)
  unfold byteRow
  rw [this]
  simp [List.map_set]
theorem byteRow.other {w : World} {g g' : Nat} {cs : List Int} (h : byteRow w g cs) (hne : g ≠ g') (j : Nat) (u : Value) : byteRow (w.setCell ⟨g', j, none⟩ u) g cs :=
  (Below.heap_setCell w ⟨g', j, none⟩ u g (fun e => hne e)).trans h

theorem splice_map (cs zs : List Int) : (splice cs 0 zs).map (Value.int .u8) = splice (cs.map (Value.int .u8)) 0 (zs.map (Value.int .u8)) := by simp [splice]
theorem bytes_splice {cs zs : List Int} (h : bytes cs) (hz : bytes zs) : bytes (splice cs 0 zs) := by
  intro z hm
  simp only [splice, List.take_zero, List.nil_append, List.mem_append] at hm
  rcases hm with h1 | h1
  · exact hz z h1
  · exact h z (List.mem_of_mem_drop h1)

theorem copy_src {w W : World} {a : Option Addr} {cap : Nat} {zs : List Int} (hr : Reads w .u8 (.slice a zs.length cap) zs) (hb : Below w.heap.size w W) (g : Nat) :
    0 < (zs.map (Value.int .u8)).length → some (⟨g, 0, none⟩ : Addr) = some ⟨g, 0, none⟩ ∧ ∃ ad, a = some ad ∧ ∀ j v, (zs.map (Value.int .u8))[j]? = some v → W.cell? (ad.add j) = some v :=
  fun h0 => ⟨rfl, (hr.below hb rfl).src rfl h0⟩

/-- Two rows of the call's own that hold the same. -/
def TwicePost (n H : Nat) (w : World) : Ending → World → Prop := fun e w' =>
  ∃ g g' cs, g ≠ g' ∧ w.heap.size ≤ g ∧ w.heap.size ≤ g' ∧ e = .returned (.tuple #[.slice (some ⟨g, 0, none⟩) n H, .slice (some ⟨g', 0, none⟩) n H]) ∧ byteRow w' g cs ∧ byteRow w' g' cs ∧ cs.length = H ∧ bytes cs ∧ Below w.heap.size w w'

end
end Go.Proofs.Ytjogaohnphafgaa
