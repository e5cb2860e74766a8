/-
  Slices of bytes that a call makes: make, copy; Made, Copied and the reference's. No conditions.
  Copied, and the reference's. No conditions.
  twice: the same memory for the program and for the reference. No conditions but the length's.
  A pool in memory; find, length, many: what they give. Conditions: numbers in their bounds.
-/
import Derived.Test.YtbndknbjjdoanaaTopSharedPag
import Derived.Laws.MakeOwn
import Derived.Laws.CopyOwn
import Derived.Test.YtbndknbjjdoanaaTopSharedPac
import Derived.Test.YtbndknbjjdoanaaTopSharedPaf
import Derived.Maps.OwnSet

namespace Go.Proofs.Ytbndknbjjdoanaa
section
open Go.RowKit

/-- 'copy' into a row that is known: of the other blocks none has turned. -/
theorem wpList_copy_at {P : Program} {w : World} {ops : Array Oper} {rest : List Oper} {o : Oper} {a : Act} {Q : Exit → Act → World → Prop} (hgd : o.guard = none) (d s : Operand) (dT sT : TypeId)
    (ho : o.op = .call { callee := .builtin .copy, args := #[d, s], argTypes := #[dT, sT] }) (elem : TypeId) (hu : P.underlying dT = some (.slice elem)) (hsz : (P.info? elem).map (·.size) = some 1)
    (dp sp : Option Addr) (dLen dCap sLen sCap : Nat) (hd : a.eval d = .slice dp dLen dCap) (hs : a.eval s = .slice sp sLen sCap)
    (g off : Nat) (cur : List Value) (t : TypeId) (hg : w.heap[g]? = some (.cells cur.toArray t (0, 0))) (cs : List Value) (hn : cs.length = Nat.min sLen dLen)
    (hpos : 0 < cs.length → dp = some ⟨g, off, none⟩ ∧ ∃ ad, sp = some ad ∧ ∀ j v, cs[j]? = some v → w.cell? (ad.add j) = some v)
    (hfit : off + cs.length ≤ cur.length) (h1 : ∀ v ∈ cs, v.oneCell' = true)
    (h : ∀ w', w'.heap[g]? = some (.cells (splice cur off cs).toArray t (0, 0)) → Touch (fun k => k = g) w w' → wpList P ops Q rest (a.put o.dst (goInt cs.length)) w') :
    wpList P ops Q (o :: rest) a w := by
  by_cases h0 : cs.length = 0
  · obtain rfl : cs = [] := List.eq_nil_of_length_eq_zero h0
    refine wpList_copy_nothing hgd d s dT sT ho elem hu hsz dp sp dLen dCap sLen sCap hd hs (by simpa using hn.symm) ?_
    exact h w (by simpa [splice] using hg) (Touch.refl _ _)
  · obtain ⟨rfl, ad, rfl, hsrc⟩ := hpos (by omega)
    refine wpList_copy_own hgd d s dT sT ho elem hu hsz g off dLen dCap ad sLen sCap hd hs cur.toArray t hg cs hn hsrc (by simpa using hfit) h1 ?_
    exact h _ (by simpa [splice] using setRow_heap w g _ _ t _ hg) ⟨rfl, rfl, rfl, by simp [World.setRow], fun k _ hk => setRow_other w g k _ hk⟩

/-- A block of bytes. -/
def byteRow (w : World) (g : Nat) (cs : List Int) : Prop := w.heap[g]? = some (.cells (cs.map (Value.int .u8)).toArray 5 (0, 0))
def zeros (n : Nat) : List Int := List.replicate n 0

theorem made_zeros (n : Nat) : madeCells #[.int .u8 0] n = ((zeros n).map (Value.int .u8)).toArray := by
  apply Array.ext
  · simp [madeCells, zeros]
  · intro i h1 h2
    simp [madeCells, zeros, Nat.mod_one]

theorem run_makeBytes (w : World) (l c : Int) (h0 : 0 ≤ l) (hlc : l ≤ c) (hc : c ≤ 281474976710656) :
    (Instr.makeSlice 22 (.int .i64 l) (.int .i64 c)).run Try.prog w = .ok (.slice (some ⟨w.heap.size, 0, none⟩) l.toNat c.toNat) (w.alloc (.cells ((zeros c.toNat).map (Value.int .u8)).toArray 5)) := by
  obtain ⟨i0, hi, hz0, hz1, hz2⟩ := info_parts byteInfo0
  have h := run_make (P := Try.prog) w 22 5 i0 (.int .u8 0) Try.underlying22 hi hz0 .i64 .i64 l c h0 hlc (by rw [hz2]; omega) (by omega)
  rw [h]
  simp only [Value.cells, hz1, Nat.mul_one]
  rw [made_zeros]

def madeE (n have' : Int) : Int := if (0 ≤ have' ∧ have' ≤ 100000) ∧ (0 ≤ n ∧ n ≤ have') then 0 else 2
def MadePost (n have' : Int) (w : World) : Ending → World → Prop := fun e w' =>
  (madeE n have' = 0 ∧ e = .returned (.tuple #[.slice (some ⟨w.heap.size, 0, none⟩) n.toNat have'.toNat, .int .i64 0]) ∧ w' = w.alloc (.cells ((zeros have'.toNat).map (Value.int .u8)).toArray 5)) ∨
  (madeE n have' = 2 ∧ e = .returned (.tuple #[.slice none 0 0, .int .i64 2]) ∧ w' = w)

set_option maxHeartbeats 1000000 in
theorem made_any (n h : Int) (w : World) : Calls Try.prog 64 #[.int .i64 n, .int .i64 h] w (MadePost n h w) := by
  by_cases h1 : 0 ≤ h ∧ h ≤ 100000
  · by_cases h2 : 0 ≤ n ∧ n ≤ h
    · have E := Lib.hid (show madeE n h = 0 from by unfold madeE; rw [if_pos ⟨h1, h2⟩])
      have MK := fun w => run_makeBytes w n h h2.1 h2.2 (by omega)
      obtain ⟨a1, a2⟩ := h1
      obtain ⟨a3, a4⟩ := h2
      go_enter Try.func64, Try.ntmps64
      go_wp2_with fail
      refine (within_room_yes _ _ _ _ a1 a2).mono ?_
      rintro e w' ⟨rfl, rfl⟩
      go_wp2_with fail
      refine (within_room_yes _ _ _ _ a3 a4).mono ?_
      rintro e w' ⟨rfl, rfl⟩
      go_wp2_with fail
      go_ret2
      exact Or.inl ⟨E.out, rfl, rfl⟩
    · have E := Lib.hid (show madeE n h = 2 from by unfold madeE; rw [if_neg (fun x => h2 x.2)])
      have H2 := Lib.hid h2
      obtain ⟨a1, a2⟩ := h1
      clear h2
      go_enter Try.func64, Try.ntmps64
      go_wp2_with fail
      refine (within_room_yes _ _ _ _ a1 a2).mono ?_
      rintro e w' ⟨rfl, rfl⟩
      go_wp2_with fail
      refine (within_room_no _ _ _ _ H2.out).mono ?_
      rintro e w' ⟨rfl, rfl⟩
      go_wp2_with fail
      go_ret2
      exact Or.inr ⟨E.out, rfl, rfl⟩
  · have E := Lib.hid (show madeE n h = 2 from by unfold madeE; rw [if_neg (fun x => h1 x.1)])
    have H1 := Lib.hid h1
    clear h1
    go_enter Try.func64, Try.ntmps64
    go_wp2_with fail
    refine (within_room_no _ _ _ _ H1.out).mono ?_
    rintro e w' ⟨rfl, rfl⟩
    go_wp2_with fail
    go_ret2
    exact Or.inr ⟨E.out, rfl, rfl⟩

end
end Go.Proofs.Ytbndknbjjdoanaa

namespace Go.Proofs.Ytbndknbjjdoanaa
section
open Go.RowKit

theorem byteSize : (Try.prog.info? 5).map (·.size) = some 1 := by
  obtain ⟨i0, hi, _, h, _⟩ := info_parts byteInfo0
  rw [hi]; simp [h]

/-- What 'copy' of the list zs reads. -/
theorem Reads.src {w : World} {p : Option Addr} {n m : Nat} {zs : List Int} (h : Reads w .u8 (.slice p n m) zs) (hn : zs.length = n) (h0 : 0 < (zs.map (Value.int .u8)).length) :
    ∃ ad, p = some ad ∧ ∀ j v, (zs.map (Value.int .u8))[j]? = some v → w.cell? (ad.add j) = some v := by
  have hc := h.cells hn
  obtain ⟨a, cap, e, hl, hr⟩ := h
  simp only [Value.slice.injEq] at e
  obtain ⟨rfl, _, _⟩ := e
  obtain ⟨b, o, rfl, _⟩ := hr (by intro e; subst e; simp at h0)
  exact ⟨_, rfl, hc _ rfl⟩

theorem splice_zeros (zs : List Int) (H : Nat) : splice ((zeros H).map (Value.int .u8)) 0 (zs.map (Value.int .u8)) = (zs ++ zeros (H - zs.length)).map (Value.int .u8) := by
  simp [splice, zeros]

def CopyRow (zs : List Int) (H : Nat) (w : World) : Ending → World → Prop := fun e w' =>
  ∃ g, w.heap.size ≤ g ∧ e = .returned (.slice (some ⟨g, 0, none⟩) zs.length H) ∧ byteRow w' g (zs ++ zeros (H - zs.length)) ∧ Below w.heap.size w w'

def copE (n : Nat) (h : Int) : Int := if 100000 < n then 4 else if (0 ≤ h ∧ h ≤ 100000) ∧ (n : Int) ≤ h then 0 else 2
def CopyPost (zs : List Int) (h : Int) (w : World) : Ending → World → Prop := fun e w' => Below w.heap.size w w' ∧
  ((copE zs.length h = 0 ∧ ∃ g, w.heap.size ≤ g ∧ e = .returned (.tuple #[.slice (some ⟨g, 0, none⟩) zs.length h.toNat, .int .i64 0]) ∧ byteRow w' g (zs ++ zeros (h.toNat - zs.length))) ∨
  (copE zs.length h ≠ 0 ∧ e = .returned (.tuple #[.slice none 0 0, .int .i64 (copE zs.length h)])))

end
end Go.Proofs.Ytbndknbjjdoanaa

namespace Go.Proofs.Ytbndknbjjdoanaa
section
open Go.RowKit

def bytes (cs : List Int) : Prop := ∀ z ∈ cs, 0 ≤ z ∧ z ≤ 255
theorem bytes_zeros (n : Nat) : bytes (zeros n) := by intro z hz; simp [zeros] at hz; omega
theorem bytes_set {cs : List Int} (h : bytes cs) (k : Nat) (z : Int) (z0 : 0 ≤ z) (z1 : z ≤ 255) : bytes (cs.set k z) := by
  intro y hy
  rcases List.mem_or_eq_of_mem_set hy with h1 | rfl
  · exact h y h1
  · exact ⟨z0, z1⟩

theorem byteRow.cell {w : World} {g : Nat} {cs : List Int} (h : byteRow w g cs) (j : Nat) (hj : j < cs.length) : w.cell? ⟨g, j, none⟩ = some (.int .u8 (cs.getD j 0)) := by
  rw [cell_of h]; simp [List.getD_eq_getElem?_getD, hj]
theorem byteRow.set {w : World} {g : Nat} {cs : List Int} (h : byteRow w g cs) (j : Nat) (z : Int) : byteRow (w.setCell ⟨g, j, none⟩ (.int .u8 z)) g (cs.set j z) := by
  have := block_setCell h j (.int .u8 z)
  unfold byteRow
  rw [this]
  simp [List.map_set]
theorem byteRow.other {w : World} {g g' : Nat} {cs : List Int} (h : byteRow w g cs) (hne : g ≠ g') (j : Nat) (u : Value) : byteRow (w.setCell ⟨g', j, none⟩ u) g cs :=
  (Below.heap_setCell w ⟨g', j, none⟩ u g (fun e => hne e)).trans h

theorem splice_map (cs zs : List Int) : (splice cs 0 zs).map (Value.int .u8) = splice (cs.map (Value.int .u8)) 0 (zs.map (Value.int .u8)) := by simp [splice]
theorem bytes_splice {cs zs : List Int} (h : bytes cs) (hz : bytes zs) : bytes (splice cs 0 zs) := by
  intro z hm
  simp only [splice, List.take_zero, List.nil_append, List.mem_append] at hm
  rcases hm with h1 | h1
  · exact hz z h1
  · exact h z (List.mem_of_mem_drop h1)

theorem copy_src {w W : World} {a : Option Addr} {cap : Nat} {zs : List Int} (hr : Reads w .u8 (.slice a zs.length cap) zs) (hb : Below w.heap.size w W) (g : Nat) :
    0 < (zs.map (Value.int .u8)).length → some (⟨g, 0, none⟩ : Addr) = some ⟨g, 0, none⟩ ∧ ∃ ad, a = some ad ∧ ∀ j v, (zs.map (Value.int .u8))[j]? = some v → W.cell? (ad.add j) = some v :=
  fun h0 => ⟨rfl, (hr.below hb rfl).src rfl h0⟩

/-- Two rows of the call's own that hold the same. -/
def TwicePost (n H : Nat) (w : World) : Ending → World → Prop := fun e w' =>
  ∃ g g' cs, g ≠ g' ∧ w.heap.size ≤ g ∧ w.heap.size ≤ g' ∧ e = .returned (.tuple #[.slice (some ⟨g, 0, none⟩) n H, .slice (some ⟨g', 0, none⟩) n H]) ∧ byteRow w' g cs ∧ byteRow w' g' cs ∧ cs.length = H ∧ bytes cs ∧ Below w.heap.size w w'

end
end Go.Proofs.Ytbndknbjjdoanaa

namespace Go.Proofs.Ytbndknbjjdoanaa
section
open Go.RowKit
set_option linter.unusedVariables false

/-- A block in memory: where its numbers lie, where its octets. -/
structure Bk where
  a : Nat
  g : Nat
  cs : List Int
  used : Nat
  pin : Bool
structure PoolSt where
  size : Nat
  lastB : Nat
  lastS : Nat
  bl : List (Nat × Bk)
  st : List (Nat × Option (Nat × Nat × Nat) × List Pt)
def lookN {α : Type} (l : List (Nat × α)) (k : Int) : Option α := (l.find? (fun p => decide ((p.1 : Int) = k))).map Prod.snd
theorem lookN_mem {α : Type} {l : List (Nat × α)} {k : Int} {x : α} (h : lookN l k = some x) : ∃ n : Nat, (n : Int) = k ∧ (n, x) ∈ l := by
  unfold lookN at h
  obtain ⟨p, hp, rfl⟩ := Option.map_eq_some_iff.1 h
  have h1 := List.mem_of_find?_eq_some hp
  have h2 := List.find?_some hp
  exact ⟨p.1, by simpa using h2, h1⟩
/-- The octets of a block. -/
def PoolSt.oct (P : PoolSt) (b : Nat) : List Int := match lookN P.bl b with
  | some x => x.cs
  | none => []
def ptCells (l : List Pt) : List Value := l.flatMap fun x => [.int .i64 (x.b : Int), .int .i64 (x.f : Int), .int .i64 (x.t : Int)]
theorem ptCells_app (a b : List Pt) : ptCells (a ++ b) = ptCells a ++ ptCells b := by simp [ptCells]
theorem ptCells_get (l : List Pt) (k : Nat) (p : Pt) (h : l[k]? = some p) : (ptCells l)[k * 3]? = some (.int .i64 (p.b : Int)) ∧ (ptCells l)[k * 3 + 1]? = some (.int .i64 (p.f : Int)) ∧ (ptCells l)[k * 3 + 2]? = some (.int .i64 (p.t : Int)) := by
  induction l generalizing k with
  | nil => simp at h
  | cons q l ih =>
    have e : ptCells (q :: l) = .int .i64 (q.b : Int) :: .int .i64 (q.f : Int) :: .int .i64 (q.t : Int) :: ptCells l := by simp [ptCells]
    rw [e]
    cases k with
    | zero => simp at h; subst h; exact ⟨rfl, rfl, rfl⟩
    | succ k =>
      have := ih k (by simpa using h)
      rw [Nat.succ_mul]
      exact ⟨by simpa using this.1, by simpa [Nat.add_assoc] using this.2.1, by simpa [Nat.add_assoc] using this.2.2⟩

structure PoolMem (w : World) (F : Nat → Prop) (h bp : Nat) (P : PoolSt) (mb ms N1 N2 : Nat) (D1 D2 : DataW Unit) : Prop where
  self : w.heap[h]? = some (.cells #[.pointer (some ⟨bp, 0, none⟩), .int .i64 1, .int .i64 (P.size : Int), .bool false, .int .i64 (P.lastB : Int), .int .i64 (P.lastS : Int), .map (some mb), .map (some ms)] 63 (0, 0))
  fh : F h
  m1 : w.ownsMap Try.prog 3 ptrElem mb N1 D1
  f1 : F mb
  m2 : w.ownsMap Try.prog 3 rowElem ms N2 D2
  f2 : F ms
  l1 : ∀ k z, D1.atKey (.int .i64 k) z = ptrZ ((lookN P.bl k).map Bk.a) z
  z1 : Maps.size D1 = P.bl.length
  l2 : ∀ k z, D2.atKey (.int .i64 k) z = rowZ ((lookN P.st k).map Prod.fst) z
  z2 : Maps.size D2 = P.st.length
  bk : ∀ p ∈ P.bl, w.heap[p.2.a]? = some (.cells #[.slice (some ⟨p.2.g, 0, none⟩) P.size P.size, .int .i64 (p.2.used : Int), .bool p.2.pin] 83 (0, 0)) ∧ byteRow w p.2.g p.2.cs ∧ p.2.cs.length = P.size ∧ bytes p.2.cs ∧ F p.2.a ∧ F p.2.g ∧ p.2.used ≤ P.size
  ia : (P.bl.map fun p => p.2.a).Nodup
  ig : (P.bl.map fun p => p.2.g).Nodup
  kb : (P.bl.map Prod.fst).Nodup
  nb : ∀ p ∈ P.bl, 1 ≤ p.1 ∧ p.1 ≤ P.lastB
  ks : (P.st.map Prod.fst).Nodup
  ns : ∀ p ∈ P.st, 1 ≤ p.1 ∧ p.1 ≤ P.lastS
  st : ∀ p ∈ P.st, w.ownsRow 0 75 3 (rowOf p.2.1) p.2.2.length (ptCells p.2.2) ∧ ∀ k, (rowOf p.2.1).ownBlock = some k → F k
  pt : ∀ p ∈ P.st, ∀ x ∈ p.2.2, ∃ y, lookN P.bl x.b = some y ∧ x.f ≤ x.t ∧ x.t ≤ y.used
  sz : 1 ≤ P.size ∧ P.size ≤ 4096
  mne : mb ≠ ms
  few : P.st.length ≤ 200 ∧ P.bl.length ≤ 2000 ∧ (∀ p ∈ P.st, p.2.2.length ≤ 500 ∧ lenP p.2.2 ≤ 100000) ∧ P.lastB ≤ 1000000000 ∧ P.lastS ≤ 1000000000
theorem PoolMem.same {w w' : World} {F : Nat → Prop} {h bp : Nat} {P : PoolSt} {mb ms N1 N2 : Nat} {D1 D2 : DataW Unit} (m : PoolMem w F h bp P mb ms N1 N2 D1 D2) (hs : ∀ k, F k → k < w.heap.size → w'.heap[k]? = w.heap[k]?) : PoolMem w' F h bp P mb ms N1 N2 D1 D2 :=
  ⟨(hs _ m.fh (lt_of m.self)).trans m.self, m.fh, ownsMap_same m.m1 (hs _ m.f1 m.m1.lt), m.f1, ownsMap_same m.m2 (hs _ m.f2 m.m2.lt), m.f2, m.l1, m.z1, m.l2, m.z2, fun p hp => by
    obtain ⟨a1, a2, a3, a4, a5, a6, a7⟩ := m.bk p hp
    exact ⟨(hs _ a5 (lt_of a1)).trans a1, (hs _ a6 (lt_of a2)).trans a2, a3, a4, a5, a6, a7⟩, m.ia, m.ig, m.kb, m.nb, m.ks, m.ns, fun p hp => by
    obtain ⟨a1, a2⟩ := m.st p hp
    exact ⟨ownsRow_same a1 (fun k hk => hs k (a2 k hk) (a1.lt k hk).2), a2⟩, m.pt, m.sz, m.mne, m.few⟩
theorem PoolMem.below {w w' : World} {F : Nat → Prop} {h bp : Nat} {P : PoolSt} {mb ms N1 N2 : Nat} {D1 D2 : DataW Unit} (m : PoolMem w F h bp P mb ms N1 N2 D1 D2) (hb : Below w.heap.size w w') : PoolMem w' F h bp P mb ms N1 N2 D1 D2 := m.same (fun k _ hk => hb.block k hk)
theorem PoolMem.cells {w : World} {F : Nat → Prop} {h bp : Nat} {P : PoolSt} {mb ms N1 N2 : Nat} {D1 D2 : DataW Unit} (m : PoolMem w F h bp P mb ms N1 N2 D1 D2) :
    w.cell? ⟨h, 0, none⟩ = some (.pointer (some ⟨bp, 0, none⟩)) ∧ w.cell? ⟨h, 1, none⟩ = some (.int .i64 1) ∧ w.cell? ⟨h, 2, none⟩ = some (.int .i64 (P.size : Int)) ∧ w.cell? ⟨h, 3, none⟩ = some (.bool false) ∧ w.cell? ⟨h, 4, none⟩ = some (.int .i64 (P.lastB : Int)) ∧ w.cell? ⟨h, 5, none⟩ = some (.int .i64 (P.lastS : Int)) ∧
      w.cell? ⟨h, 6, none⟩ = some (.map (some mb)) ∧ w.cell? ⟨h, 7, none⟩ = some (.map (some ms)) := by
  refine ⟨?_, ?_, ?_, ?_, ?_, ?_, ?_, ?_⟩ <;> (rw [cell_of m.self]; rfl)

/-- A string's parts. -/
theorem PoolMem.look {w : World} {F : Nat → Prop} {h bp : Nat} {P : PoolSt} {mb ms N1 N2 : Nat} {D1 D2 : DataW Unit} (m : PoolMem w F h bp P mb ms N1 N2 D1 D2) (s : Int) (hs : -9223372036854775808 ≤ s ∧ s ≤ 9223372036854775807) :
    (Instr.lookup 61 (.map (some ms)) (.int .i64 s) true).run Try.prog w = .ok (.tuple #[rowOf (((lookN P.st s).map Prod.fst).getD none), .bool (lookN P.st s).isSome]) w := by
  have hz : (zeroValue 66).run Try.prog w = .ok (.slice none 0 0) w := by kernel_rfl
  have hkey := Maps.keyOf_int_mk (P := Try.prog) (k := 3) Try.underlying3 (a := s) (WalkArith.wf_i64 hs)
  obtain ⟨v, ps, hrun, hv⟩ := m.m2.look_ok (Maps.int_keyed Try.underlying3) Try.underlying61 hz (zd := .nil) (zp := []) rfl hkey
  rw [hrun, m.l2 s .nil] at *
  cases hl : lookN P.st s with
  | none =>
    rw [hl] at hv
    have hh : Maps.has D2 (.int .i64 s) = false := Maps.has_false_of_atKey (fun z => by rw [m.l2, hl]; rfl)
    rw [hh, rowElem_inv (o := none) hv]
    rfl
  | some x =>
    rw [hl] at hv
    have hh : Maps.has D2 (.int .i64 s) = true := Maps.has_true_of_atKey (y := rowD x.1) (fun z => by rw [m.l2, hl]; rfl)
    rw [hh, rowElem_inv (o := x.1) hv]
    rfl

def FindPost (P : PoolSt) (s : Int) (w : World) : Ending → World → Prop := fun e w' => w' = w ∧ match lookN P.st s with
  | none => e = .returned (.tuple #[.slice none 0 0, .int .i64 13])
  | some x => e = .returned (.tuple #[rowOf x.1, .int .i64 0])

set_option maxHeartbeats 1000000 in
set_option maxRecDepth 100000 in
theorem findP_any {w : World} {F : Nat → Prop} {h bp : Nat} {P : PoolSt} {mb ms N1 N2 : Nat} {D1 D2 : DataW Unit} (m : PoolMem w F h bp P mb ms N1 N2 D1 D2) (s : Int) (hs : -9223372036854775808 ≤ s ∧ s ≤ 9223372036854775807) :
    Calls Try.prog 40 #[.pointer (some ⟨h, 0, none⟩), .int .i64 s] w (FindPost P s w) := by
  have LK := m.look s hs
  obtain ⟨c0, c1, c2, c3, c4, c5, c6, c7⟩ := m.cells
  clear m
  cases hl : lookN P.st s with
  | none =>
    rw [hl] at LK
    simp only [Option.map_none, Option.getD_none, Option.isSome_none] at LK
    have HL := Lib.hid hl
    clear hl
    go_enter Try.func40, Try.ntmps40
    go_wp2_with fail
    go_ret2
    refine ⟨rfl, ?_⟩
    rw [HL.out]
    rfl
  | some x =>
    rw [hl] at LK
    simp only [Option.map_some, Option.getD_some, Option.isSome_some] at LK
    have HL := Lib.hid hl
    clear hl
    go_enter Try.func40, Try.ntmps40
    go_wp2_with fail
    go_ret2
    refine ⟨rfl, ?_⟩
    rw [HL.out]
    rfl

set_option maxHeartbeats 1000000 in
set_option maxRecDepth 100000 in
theorem manyP_any {w : World} {F : Nat → Prop} {h bp : Nat} {P : PoolSt} {mb ms N1 N2 : Nat} {D1 D2 : DataW Unit} (m : PoolMem w F h bp P mb ms N1 N2 D1 D2) (n : Nat) (hn : n ≤ 140737488355328) :
    Calls Try.prog 31 #[.pointer (some ⟨h, 0, none⟩), .int .i64 (n : Int)] w (fun e w' => e = .returned (.int .i64 (manyP P.size n : Nat)) ∧ ∃ q, w' = w.drewN q) := by
  obtain ⟨c0, c1, c2, c3, c4, c5, c6, c7⟩ := m.cells
  obtain ⟨s1, s2⟩ := m.sz
  have hdiv : ((n : Int) + (P.size : Int) - 1) / (P.size : Int) = (manyP P.size n : Nat) := by
    unfold manyP
    have e : ((n : Int) + (P.size : Int) - 1) = ((n + P.size - 1 : Nat) : Int) := by omega
    rw [e]
    rfl
  have hne : ((P.size : Int) == 0) = false := by simp; omega
  have HD := Lib.hid hdiv
  clear m hdiv
  go_enter Try.func31, Try.ntmps31
  go_wp2_with fail
  go_quiet (fail)
  go_wp2_with fail
  go_ret
  refine ⟨?_, _, rfl⟩
  rw [← HD.out]
  rfl

end
end Go.Proofs.Ytbndknbjjdoanaa
