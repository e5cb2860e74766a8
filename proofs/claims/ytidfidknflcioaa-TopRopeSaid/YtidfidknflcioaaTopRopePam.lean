/-
  Slices of bytes that a call makes: make, copy; Made, Copied and the reference's. No conditions.
  Copied, and the reference's. No conditions.
  twice: the same memory for the program and for the reference. No conditions but the length's.
  Two copies, one behind the other, in plain Lean; what a replacing leaves. No program.
-/
import Derived.Test.YtidfidknflcioaaTopRopePal
import Derived.Laws.MakeOwn
import Derived.Laws.CopyOwn

namespace Go.Proofs.Ytidfidknflcioaa
section
open Go.RowKit

/-- 'copy' into a row that is known: of the other blocks none has turned. -/
theorem wpList_copy_at {P : Program} {w : World} {ops : Array Oper} {rest : List Oper} {o : Oper} {a : Act} {Q : Exit → Act → World → Prop} (hgd : o.guard = none) (d s : Operand) (dT sT : TypeId)
    (ho : o.op = .call { callee := .builtin .copy, args := #[d, s], argTypes := #[dT, sT] }) (elem : TypeId) (hu : P.underlying dT = some (.slice elem)) (hsz : (P.info? elem).map (·.size) = some 1)
    (dp sp : Option Addr) (dLen dCap sLen sCap : Nat) (hd : a.eval d = .slice dp dLen dCap) (hs : a.eval s = .slice sp sLen sCap)
    (g off : Nat) (cur : List Value) (t : TypeId) (hg : w.heap[g]? = some (.cells cur.toArray t (0, 0))) (cs : List Value) (hn : cs.length = Nat.min sLen dLen)
    (hpos : 0 < cs.length → dp = some ⟨g, off, none⟩ ∧ ∃ ad, sp = some ad ∧ ∀ j v, cs[j]? = some v → w.cell? (ad.add j) = some v)
    (hfit : off + cs.length ≤ cur.length) (h1 : ∀ v ∈ cs, v.oneCell' = true)
    (h : ∀ w', w'.heap[g]? = some (.cells (splice cur off cs).toArray t (0, 0)) → Touch (fun k => k = g) w w' → wpList P ops Q rest (a.put o.dst (goInt cs.length)) w') :
    wpList P ops Q (o :: rest) a w := by
  by_cases h0 : cs.length = 0
  · obtain rfl : cs = [] := List.eq_nil_of_length_eq_zero h0
    refine wpList_copy_nothing hgd d s dT sT ho elem hu hsz dp sp dLen dCap sLen sCap hd hs (by simpa using hn.symm) ?_
    exact h w (by simpa [splice] using hg) (Touch.refl _ _)
  · obtain ⟨rfl, ad, rfl, hsrc⟩ := hpos (by omega)
    refine wpList_copy_own hgd d s dT sT ho elem hu hsz g off dLen dCap ad sLen sCap hd hs cur.toArray t hg cs hn hsrc (by simpa using hfit) h1 ?_
    exact h _ (by simpa [splice] using setRow_heap w g _ _ t _ hg) ⟨rfl, rfl, rfl, by simp [World.setRow], fun k _ hk => setRow_other w g k _ hk⟩

/-- A block of bytes. -/
def byteRow (w : World) (g : Nat) (cs : List Int) : Prop := w.heap[g]? = some (.cells (cs.map (Value.int .u8)).toArray 5 (0, 0))
def zeros (n : Nat) : List Int := List.replicate n 0

theorem made_zeros (n : Nat) : madeCells #[.int .u8 0] n = ((zeros n).map (Value.int .u8)).toArray := by
  apply Array.ext
  · simp [madeCells, zeros]
  · intro i h1 h2
    simp [madeCells, zeros, Nat.mod_one]

theorem run_makeBytes (w : World) (l c : Int) (h0 : 0 ≤ l) (hlc : l ≤ c) (hc : c ≤ 281474976710656) :
    (Instr.makeSlice 32 (.int .i64 l) (.int .i64 c)).run Try.prog w = .ok (.slice (some ⟨w.heap.size, 0, none⟩) l.toNat c.toNat) (w.alloc (.cells ((zeros c.toNat).map (Value.int .u8)).toArray 5)) := by
  obtain ⟨i0, hi, hz0, hz1, hz2⟩ := info_parts byteInfo0
  have h := run_make (P := Try.prog) w 32 5 i0 (.int .u8 0) Try.underlying32 hi hz0 .i64 .i64 l c h0 hlc (by rw [hz2]; omega) (by omega)
  rw [h]
  simp only [Value.cells, hz1, Nat.mul_one]
  rw [made_zeros]

def madeE (n have' : Int) : Int := if (0 ≤ have' ∧ have' ≤ 100000) ∧ (0 ≤ n ∧ n ≤ have') then 0 else 2
def MadePost (n have' : Int) (w : World) : Ending → World → Prop := fun e w' =>
  (madeE n have' = 0 ∧ e = .returned (.tuple #[.slice (some ⟨w.heap.size, 0, none⟩) n.toNat have'.toNat, .int .i64 0]) ∧ w' = w.alloc (.cells ((zeros have'.toNat).map (Value.int .u8)).toArray 5)) ∨
  (madeE n have' = 2 ∧ e = .returned (.tuple #[.slice none 0 0, .int .i64 2]) ∧ w' = w)

end
end Go.Proofs.Ytidfidknflcioaa

namespace Go.Proofs.Ytidfidknflcioaa
section
open Go.RowKit

theorem byteSize : (Try.prog.info? 5).map (·.size) = some 1 := by
  obtain ⟨i0, hi, _, h, _⟩ := info_parts byteInfo0
  rw [hi]; simp [h]

/-- What 'copy' of the list zs reads. -/
theorem Reads.src {w : World} {p : Option Addr} {n m : Nat} {zs : List Int} (h : Reads w .u8 (.slice p n m) zs) (hn : zs.length = n) (h0 : 0 < (zs.map (Value.int .u8)).length) :
    ∃ ad, p = some ad ∧ ∀ j v, (zs.map (Value.int .u8))[j]? = some v → w.cell? (ad.add j) = some v := by
  have hc := h.cells hn
  obtain ⟨a, cap, e, hl, hr⟩ := h
  simp only [Value.slice.injEq] at e
  obtain ⟨rfl, _, _⟩ := e
  obtain ⟨b, o, rfl, _⟩ := hr (by intro e; subst e; simp at h0)
  exact ⟨_, rfl, hc _ rfl⟩

theorem splice_zeros (zs : List Int) (H : Nat) : splice ((zeros H).map (Value.int .u8)) 0 (zs.map (Value.int .u8)) = (zs ++ zeros (H - zs.length)).map (Value.int .u8) := by
  simp [splice, zeros]

def CopyRow (zs : List Int) (H : Nat) (w : World) : Ending → World → Prop := fun e w' =>
  ∃ g, w.heap.size ≤ g ∧ e = .returned (.slice (some ⟨g, 0, none⟩) zs.length H) ∧ byteRow w' g (zs ++ zeros (H - zs.length)) ∧ Below w.heap.size w w'

set_option maxHeartbeats 1000000 in
set_option maxRecDepth 100000 in
theorem copiedRaw_any (v : Value) (zs : List Int) (h : Int) (w : World) (hr : Reads w .u8 v zs) (h1 : (zs.length : Int) ≤ h) (h2 : h ≤ 100000) :
    Calls Try.prog 81 #[v, .int .i64 zs.length, .int .i64 h] w (CopyRow zs h.toNat w) := by
  have HR := Lib.hid hr
  obtain ⟨a, cap, rfl, hl, _⟩ := hr
  have MK := fun w => run_makeBytes w zs.length h (by omega) h1 (by omega)
  have N := Lib.hid (rfl : zs.length = zs.length)
  have HG := Lib.hid (heap_alloc_new w (.cells ((zeros h.toNat).map (Value.int .u8)).toArray 5))
  have HN : Hid ((zs.map (Value.int .u8)).length = Nat.min zs.length zs.length) := Lib.hid (by simp)
  have HFI : Hid (0 + (zs.map (Value.int .u8)).length ≤ ((zeros h.toNat).map (Value.int .u8)).length) := Lib.hid (by simp [zeros]; omega)
  have H1 : Hid (∀ v ∈ zs.map (Value.int .u8), v.oneCell' = true) := Lib.hid (by intro v hv; obtain ⟨z, _, rfl⟩ := List.mem_map.1 hv; rfl)
  have HPO : Hid (0 < (zs.map (Value.int .u8)).length → (some (⟨w.heap.size, 0, none⟩ : Addr) = some ⟨w.heap.size, 0, none⟩) ∧ ∃ ad, a = some ad ∧ ∀ j v, (zs.map (Value.int .u8))[j]? = some v → (w.alloc (.cells ((zeros h.toNat).map (Value.int .u8)).toArray 5)).cell? (ad.add j) = some v) :=
    Lib.hid (fun h0 => ⟨rfl, (HR.out.below (w' := w.alloc (.cells ((zeros h.toNat).map (Value.int .u8)).toArray 5)) (by go_grown) rfl).src rfl h0⟩)
  go_enter Try.func81, Try.ntmps81
  go_wp2_with (with_reducible refine wpList_copy_at rfl (.tmp 11) (.tmp 12) 32 32 rfl 5 Try.underlying32 byteSize (some ⟨w.heap.size, 0, none⟩) a zs.length h.toNat zs.length cap rfl rfl w.heap.size 0 ((zeros h.toNat).map (Value.int .u8)) 5 HG.out (zs.map (Value.int .u8)) HN.out HPO.out HFI.out H1.out ?_)
  intro w' hg ht
  rw [splice_zeros] at hg
  have bel : Below w.heap.size w w' := Below.trans (by go_grown) (ht.below (by simp) (fun k hk => by omega))
  go_wp2_with fail
  go_ret
  exact ⟨w.heap.size, Nat.le_refl _, by simp, hg, bel⟩

def copE (n : Nat) (h : Int) : Int := if 100000 < n then 4 else if (0 ≤ h ∧ h ≤ 100000) ∧ (n : Int) ≤ h then 0 else 2
def CopyPost (zs : List Int) (h : Int) (w : World) : Ending → World → Prop := fun e w' => Below w.heap.size w w' ∧
  ((copE zs.length h = 0 ∧ ∃ g, w.heap.size ≤ g ∧ e = .returned (.tuple #[.slice (some ⟨g, 0, none⟩) zs.length h.toNat, .int .i64 0]) ∧ byteRow w' g (zs ++ zeros (h.toNat - zs.length))) ∨
  (copE zs.length h ≠ 0 ∧ e = .returned (.tuple #[.slice none 0 0, .int .i64 (copE zs.length h)])))

set_option maxHeartbeats 2000000 in
theorem copied_any (v : Value) (zs : List Int) (h : Int) (w : World) (hr : Reads w .u8 v zs) : Calls Try.prog 75 #[v, .int .i64 h] w (CopyPost zs h w) := by
  have HR := Lib.hid hr
  obtain ⟨a, cap, rfl, hl, _⟩ := hr
  by_cases h1 : 100000 < zs.length
  · have E := Lib.hid (show copE zs.length h = 4 from by unfold copE; rw [if_pos h1])
    have h1' : (100000 : Int) < (zs.length : Int) := by omega
    clear h1
    go_enter Try.func75, Try.ntmps75
    go_wp2_with fail
    go_ret2
    exact ⟨Below.refl _ _, Or.inr ⟨by rw [E.out]; decide, by rw [E.out]; rfl⟩⟩
  · have h1' : (zs.length : Int) ≤ 100000 := by omega
    by_cases h2 : 0 ≤ h ∧ h ≤ 100000
    · by_cases h3 : (zs.length : Int) ≤ h
      · have E := Lib.hid (show copE zs.length h = 0 from by unfold copE; rw [if_neg h1, if_pos ⟨h2, h3⟩])
        obtain ⟨a1, a2⟩ := h2
        have RAW := Lib.hid (copiedRaw_any (.slice a zs.length cap) zs h w HR.out h3 a2)
        clear h1
        go_enter Try.func75, Try.ntmps75
        go_wp2_with fail
        refine (within_room_yes _ _ _ _ a1 a2).mono ?_
        rintro e w' ⟨rfl, rfl⟩
        go_wp2_with fail
        refine RAW.out.mono ?_
        rintro e w' ⟨g, hg, rfl, hrow, hbel⟩
        go_wp2_with fail
        go_ret2
        exact ⟨hbel, Or.inl ⟨E.out, g, hg, rfl, hrow⟩⟩
      · have E := Lib.hid (show copE zs.length h = 2 from by unfold copE; rw [if_neg h1, if_neg (fun x => h3 x.2)])
        obtain ⟨a1, a2⟩ := h2
        have h4 : h < (zs.length : Int) := by omega
        clear h1 h3
        go_enter Try.func75, Try.ntmps75
        go_wp2_with fail
        refine (within_room_yes _ _ _ _ a1 a2).mono ?_
        rintro e w' ⟨rfl, rfl⟩
        go_wp2_with fail
        go_ret2
        exact ⟨Below.refl _ _, Or.inr ⟨by rw [E.out]; decide, by rw [E.out]; rfl⟩⟩
    · have E := Lib.hid (show copE zs.length h = 2 from by unfold copE; rw [if_neg h1, if_neg (fun x => h2 x.1)])
      have H2 := Lib.hid h2
      clear h1 h2
      go_enter Try.func75, Try.ntmps75
      go_wp2_with fail
      refine (within_room_no _ _ _ _ H2.out).mono ?_
      rintro e w' ⟨rfl, rfl⟩
      go_wp2_with fail
      go_ret2
      exact ⟨Below.refl _ _, Or.inr ⟨by rw [E.out]; decide, by rw [E.out]; rfl⟩⟩

end
end Go.Proofs.Ytidfidknflcioaa

namespace Go.Proofs.Ytidfidknflcioaa
section
open Go.RowKit

def bytes (cs : List Int) : Prop := ∀ z ∈ cs, 0 ≤ z ∧ z ≤ 255
theorem bytes_zeros (n : Nat) : bytes (zeros n) := by intro z hz; simp [zeros] at hz; omega
theorem bytes_set {cs : List Int} (h : bytes cs) (k : Nat) (z : Int) (z0 : 0 ≤ z) (z1 : z ≤ 255) : bytes (cs.set k z) := by
  intro y hy
  rcases List.mem_or_eq_of_mem_set hy with h1 | rfl
  · exact h y h1
  · exact ⟨z0, z1⟩

theorem byteRow.cell {w : World} {g : Nat} {cs : List Int} (h : byteRow w g cs) (j : Nat) (hj : j < cs.length) : w.cell? ⟨g, j, none⟩ = some (.int .u8 (cs.getD j 0)) := by
  rw [cell_of h]; simp [List.getD_eq_getElem?_getD, hj]
theorem byteRow.set {w : World} {g : Nat} {cs : List Int} (h : byteRow w g cs) (j : Nat) (z : Int) : byteRow (w.setCell ⟨g, j, none⟩ (.int .u8 z)) g (cs.set j z) := by
  have := block_setCell h j (.int .u8 z)
  unfold byteRow
  rw [this]
  simp [List.map_set]
theorem byteRow.other {w : World} {g g' : Nat} {cs : List Int} (h : byteRow w g cs) (hne : g ≠ g') (j : Nat) (u : Value) : byteRow (w.setCell ⟨g', j, none⟩ u) g cs :=
  (Below.heap_setCell w ⟨g', j, none⟩ u g (fun e => hne e)).trans h

theorem splice_map (cs zs : List Int) : (splice cs 0 zs).map (Value.int .u8) = splice (cs.map (Value.int .u8)) 0 (zs.map (Value.int .u8)) := by simp [splice]
theorem bytes_splice {cs zs : List Int} (h : bytes cs) (hz : bytes zs) : bytes (splice cs 0 zs) := by
  intro z hm
  simp only [splice, List.take_zero, List.nil_append, List.mem_append] at hm
  rcases hm with h1 | h1
  · exact hz z h1
  · exact h z (List.mem_of_mem_drop h1)

theorem copy_src {w W : World} {a : Option Addr} {cap : Nat} {zs : List Int} (hr : Reads w .u8 (.slice a zs.length cap) zs) (hb : Below w.heap.size w W) (g : Nat) :
    0 < (zs.map (Value.int .u8)).length → some (⟨g, 0, none⟩ : Addr) = some ⟨g, 0, none⟩ ∧ ∃ ad, a = some ad ∧ ∀ j v, (zs.map (Value.int .u8))[j]? = some v → W.cell? (ad.add j) = some v :=
  fun h0 => ⟨rfl, (hr.below hb rfl).src rfl h0⟩

/-- Two rows of the call's own that hold the same. -/
def TwicePost (n H : Nat) (w : World) : Ending → World → Prop := fun e w' =>
  ∃ g g' cs, g ≠ g' ∧ w.heap.size ≤ g ∧ w.heap.size ≤ g' ∧ e = .returned (.tuple #[.slice (some ⟨g, 0, none⟩) n H, .slice (some ⟨g', 0, none⟩) n H]) ∧ byteRow w' g cs ∧ byteRow w' g' cs ∧ cs.length = H ∧ bytes cs ∧ Below w.heap.size w w'

end
end Go.Proofs.Ytidfidknflcioaa

namespace Go.Proofs.Ytidfidknflcioaa
section

theorem splice_len {α : Type} (ds T : List α) (f : Nat) (h : f + T.length ≤ ds.length) : (splice ds f T).length = ds.length := by
  simp [splice]; omega

theorem splice2 (ds zs T : List Int) (f : Nat) (h : f + zs.length + T.length ≤ ds.length) :
    (splice (splice ds (f + zs.length) T) f zs).take (f + zs.length + T.length) = ds.take f ++ zs ++ T := by
  apply List.ext_getElem?
  intro i
  simp only [splice, List.getElem?_take, List.getElem?_append, List.getElem?_drop, List.length_take, List.length_append, List.length_drop]
  grind

end
end Go.Proofs.Ytidfidknflcioaa
