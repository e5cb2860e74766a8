/-
  The shelf's contracts that this seat's proofs use, laid at its own dump in plain words by the kit's lay-shelf and lay-plain. No conditions.
  slices.Sort of a row of integers of the call's own. No conditions but the length.
  Strings of a pool: how many. No conditions but bounds.
-/
import Derived.Shelf.Small.Bits
import Derived.Shelf.Small.Wraps
import Derived.Shelf.Strconv.Itoa0
import Derived.Shelf.Sort.Plain
import Derived.Ground.Names2Prog
import Derived.Shelf.Slices.SearchI
import Derived.Shelf.Slices.In.SortNone
import Derived.Shelf.Slices.Empties
import Derived.Ground.SlbCloneProg
import Derived.Shelf.Bytes.SlClone
import Derived.Shelf.Bytes.SlEqualAll
import Derived.Shelf.Bytes.Small
import Derived.Test.YtbndknbjjdoanaaProg
import Derived.Test.YtbndknbjjdoanaaTopSharedPbn
import Derived.Shelf.Abstract
import Derived.Lib.SliceRun

namespace Go.Proofs
section
open Go.Shelf
def Try.lays189_ren : Go.Shelf.Ren := ⟨fun | 189 => 52 | 125 => 66 | 257 => 65 | 128 => 81 | 129 => 82 | 294 => 73 | 295 => 74 | 296 => 75 | 297 => 76 | 298 => 77 | 299 => 78 | 216 => 67 | 300 => 79 | 301 => 80 | 328 => 85 | 329 => 86 | 330 => 87 | 331 => 88 | 332 => 89 | 215 => 83 | 343 => 90 | n => n, fun | 28 => 53 | 3 => 3 | 46 => 119 | 0 => 0 | 51 => 134 | 53 => 136 | 4 => 4 | 183 => 128 | 182 => 127 | 131 => 93 | 5 => 5 | 9 => 9 | 218 => 137 | 222 => 141 | 228 => 143 | 229 => 144 | n => n, fun | n => n⟩
theorem Try.lays189 : Go.Proofs.Lays.n189 Try.prog Try.lays189_ren := {
  mixed := by kernel_rfl
  f125 := Try.func66.trans (congrArg some (by kernel_rfl))
  f128 := Try.func81.trans (congrArg some (by kernel_rfl))
  f129 := Try.func82.trans (congrArg some (by kernel_rfl))
  f189 := Try.func52.trans (congrArg some (by kernel_rfl))
  f215 := Try.func83.trans (congrArg some (by kernel_rfl))
  f216 := Try.func67.trans (congrArg some (by kernel_rfl))
  f257 := Try.func65.trans (congrArg some (by kernel_rfl))
  f294 := Try.func73.trans (congrArg some (by kernel_rfl))
  f295 := Try.func74.trans (congrArg some (by kernel_rfl))
  f296 := Try.func75.trans (congrArg some (by kernel_rfl))
  f297 := Try.func76.trans (congrArg some (by kernel_rfl))
  f298 := Try.func77.trans (congrArg some (by kernel_rfl))
  f299 := Try.func78.trans (congrArg some (by kernel_rfl))
  f300 := Try.func79.trans (congrArg some (by kernel_rfl))
  f301 := Try.func80.trans (congrArg some (by kernel_rfl))
  f328 := Try.func85.trans (congrArg some (by kernel_rfl))
  f329 := Try.func86.trans (congrArg some (by kernel_rfl))
  f330 := Try.func87.trans (congrArg some (by kernel_rfl))
  f331 := Try.func88.trans (congrArg some (by kernel_rfl))
  f332 := Try.func89.trans (congrArg some (by kernel_rfl))
  f343 := Try.func90.trans (congrArg some (by kernel_rfl))
  t0 := Try.underlying0
  a0 := Try.isAgg0
  z0 := Try.sizeOf0
  v0 := Try.zeroValue0
  t3 := Try.underlying3
  a3 := Try.isAgg3
  z3 := Try.sizeOf3
  v3 := Try.zeroValue3
  t4 := Try.underlying4
  a4 := Try.isAgg4
  z4 := Try.sizeOf4
  v4 := Try.zeroValue4
  t5 := Try.underlying5
  a5 := Try.isAgg5
  z5 := Try.sizeOf5
  v5 := Try.zeroValue5
  t9 := Try.underlying9
  a9 := Try.isAgg9
  z9 := Try.sizeOf9
  v9 := Try.zeroValue9
  t28 := Try.underlying53
  a28 := Try.isAgg53
  z28 := Try.sizeOf53
  v28 := Try.zeroValue53
  t46 := Try.underlying119
  a46 := Try.isAgg119
  z46 := Try.sizeOf119
  v46 := Try.zeroValue119
  t51 := Try.underlying134
  a51 := Try.isAgg134
  z51 := Try.sizeOf134
  v51 := Try.zeroValue134
  t53 := Try.underlying136
  a53 := Try.isAgg136
  z53 := Try.sizeOf136
  v53 := Try.zeroValue136
  t131 := Try.underlying93
  a131 := Try.isAgg93
  z131 := Try.sizeOf93
  v131 := Try.zeroValue93
  t182 := Try.underlying127
  a182 := Try.isAgg127
  z182 := Try.sizeOf127
  v182 := Try.zeroValue127
  t183 := Try.underlying128
  a183 := Try.isAgg128
  z183 := Try.sizeOf128
  v183 := Try.zeroValue128
  t218 := Try.underlying137
  a218 := Try.isAgg137
  z218 := Try.sizeOf137
  v218 := Try.zeroValue137
  t222 := Try.underlying141
  a222 := Try.isAgg141
  z222 := Try.sizeOf141
  v222 := Try.zeroValue141
  t228 := Try.underlying143
  a228 := Try.isAgg143
  z228 := Try.sizeOf143
  v228 := Try.zeroValue143
  t229 := Try.underlying144
  a229 := Try.isAgg144
  z229 := Try.sizeOf144
  v229 := Try.zeroValue144 }
open Go.Sort Go.RowKit in
theorem Try.slices_Sort_int (blk off cap : Nat) (zs : List Int) (w : World) (hH : Holds (Value.int .i64) w blk off zs.toArray) (hblk : blk < w.heap.size) (hsz : zs.length < 4611686018427387904) :
    Calls Try.prog 52 #[.slice (some ⟨blk, off, none⟩) zs.length cap] w fun e w' =>
      e = .returned (.tuple #[]) ∧ ∃ n os, w' = grow (putRow (Value.int .i64) (Sort.ahead w n) blk off (zs.mergeSort fun x y => decide (x ≤ y)).toArray) os := Any.slices_Sort_int Try.lays189 blk off cap zs w hH hblk hsz
open Go.RowKit Go.Sort in
/-- .. and plain. (LAID: no walk: one application.) -/
theorem Try.slices_Sort_int_none (p : Option Addr) (cap : Nat) (w : World) :
    Calls Try.prog 52 #[.slice p 0 cap] w fun e w' => e = .returned (.tuple #[]) ∧ w' = w := Any.slices_Sort_int_none Try.lays189 p cap w
def Try.laysSlK4_ren : Go.Shelf.Ren := ⟨fun | 4 => 18 | n => n, fun | 22 => 22 | 4 => 4 | 5 => 5 | n => n, fun | n => n⟩
theorem Try.laysSlK4 : Go.Proofs.SlLaysK.n4 Try.prog Try.laysSlK4_ren := {
  mixed := by kernel_rfl
  f4 := Try.func18.trans (congrArg some (by kernel_rfl))
  t4 := Try.underlying4
  a4 := Try.isAgg4
  z4 := Try.sizeOf4
  v4 := Try.zeroValue4
  t22 := Try.underlying22
  a22 := Try.isAgg22
  z22 := Try.sizeOf22
  v22 := Try.zeroValue22
  t5 := Try.underlying5
  i5 := by kernel_rfl }
open Go.RowKit Go.Lib in
/-- bytes.Clone: "Clone returns a copy of b[:len(b)]. The result may have additional unused capacity.": OF A SLICE THAT IS NOT nil IT RETURNS A SLICE THAT IS NOT nil, OF THE SAME BYTES, IN MEMORY OF THE CALL's OWN: in the how-to's words (6f): 'w'.ownsRow B e 1 v' n cells' · 'Below B w w'', B the heap's size at the call. b AT WHATEVER ADDRESS, its cells as 'open_ints' hands them ('a.add i'; the numbers 'xs'). No byte: no cell is asked for. (LAID: no walk: one application.) -/
theorem Try.bytes_Clone_at (a : Addr) (n c : Nat) (xs : List Int) (w : World) (hx : xs.length = n) (hbig : n ≤ 140737488355328) (hc : ∀ i, i < n → w.cell? (a.add i) = some (.int .u8 (xs.getD i 0))) :
    Calls Try.prog 18 #[.slice (some a) n c] w fun e w' => ∃ v', e = .returned v' ∧ w'.ownsRow w.heap.size 5 1 v' n (xs.map (Value.int .u8)) ∧ v' ≠ .slice none 0 0 ∧ Below w.heap.size w w' := Any.bytes_Clone_at Try.laysSlK4 a n c xs w hx hbig hc
open Go.RowKit Go.Lib in
/-- "Clone(nil) returns nil.": the world is as it was. (LAID: no walk: one application.) -/
theorem Try.bytes_Clone_nil (n c : Nat) (w : World) :
    Calls Try.prog 18 #[.slice none n c] w fun e w' => e = .returned (.slice none 0 0) ∧ w' = w := Any.bytes_Clone_nil Try.laysSlK4 n c w
def Try.laysnb115_ren : Go.Shelf.Ren := ⟨fun | 115 => 15 | n => n, fun | 37 => 22 | 4 => 4 | 9 => 9 | 5 => 5 | n => n, fun | n => n⟩
theorem Try.laysnb115 : Go.Proofs.Lays.nb115 Try.prog Try.laysnb115_ren := {
  mixed := by kernel_rfl
  f115 := Try.func15.trans (congrArg some (by kernel_rfl))
  t4 := Try.underlying4
  a4 := Try.isAgg4
  z4 := Try.sizeOf4
  v4 := Try.zeroValue4
  t9 := Try.underlying9
  a9 := Try.isAgg9
  z9 := Try.sizeOf9
  v9 := Try.zeroValue9
  t37 := Try.underlying22
  a37 := Try.isAgg22
  z37 := Try.sizeOf22
  v37 := Try.zeroValue22
  t5 := Try.underlying5
  a5 := Try.isAgg5
  z5 := Try.sizeOf5
  v5 := Try.zeroValue5 }
/-- bytes.Equal: WHOLE. (LAID: no walk: one application.) -/
theorem Try.bytes_Equal_all (p1 p2 : Option Addr) (n c m d : Nat) (xs ys : List Int) (w : World) (hx : xs.length = n) (hy : ys.length = m) (h1 : Lib.BytesIn w p1 n xs) (h2 : Lib.BytesIn w p2 m ys) :
    Calls Try.prog 15 #[.slice p1 n c, .slice p2 m d] w fun e w' => e = .returned (.bool (Lib.bytesOf xs == Lib.bytesOf ys)) ∧ w' = w := Any.bytes_Equal_all Try.laysnb115 p1 p2 n c m d xs ys w hx hy h1 h2
end
end Go.Proofs

namespace Go.Proofs.Ytbndknbjjdoanaa
section
open Go.RowKit Go.Sort
set_option linter.unusedVariables false

theorem sort_own (v : Value) (B : Nat) (xs : List Int) (w : World) (hr : w.ownsRow B 3 1 v xs.length (xs.map fun x => Value.int .i64 x)) (hlen : xs.length ≤ 1000000) (hB : B ≤ w.heap.size) :
    Calls Try.prog 52 #[v] w (fun e w' => e = .returned (.tuple #[]) ∧ w'.ownsRow B 3 1 v (xs.mergeSort fun x y => decide (x ≤ y)).length ((xs.mergeSort fun x y => decide (x ≤ y)).map fun x => Value.int .i64 x) ∧ Below B w w') := by
  rcases hr.2 with ⟨rfl, h0⟩ | ⟨g, cap, cur, rfl, hb, hg, hn, hcm, hs, ht⟩
  · have hz : xs = [] := List.eq_nil_of_length_eq_zero h0
    subst hz
    refine (Try.slices_Sort_int_none none 0 w).mono ?_
    rintro e w' ⟨rfl, rfl⟩
    exact ⟨rfl, by simpa using hr, Below.refl _ _⟩
  · have hcell : ∀ j, j < xs.length → cur[j]? = some (Value.int .i64 (xs.toArray[j]!)) := by
      intro j hj
      rw [← Array.getElem?_toList]
      have h1 : cur.toList[j]? = (cur.toList.take (xs.length * 1))[j]? := (List.getElem?_take_of_lt (by omega)).symm
      rw [h1, ht, List.getElem?_map, List.getElem?_eq_getElem hj, getElem!_pos xs.toArray j (by simpa using hj)]
      simp
    have hH : Holds (Value.int .i64) w g 0 xs.toArray := by
      intro j hj
      have hj' : j < xs.length := by simpa using hj
      exact ⟨by rw [Nat.zero_add, cell_of hg]; exact hcell j hj', free_of hg _⟩
    refine (Try.slices_Sort_int g 0 cap xs w hH (lt_of hg) (by omega)).mono ?_
    rintro e w' ⟨rfl, n, os, rfl⟩
    have hlm : (xs.mergeSort fun x y => decide (x ≤ y)).length = xs.length := List.length_mergeSort _
    generalize (xs.mergeSort fun x y => decide (x ≤ y)) = ys at *
    have hblk : ∀ k, k < w.heap.size → (grow (putRow (Value.int .i64) (Sort.ahead w n) g 0 ys.toArray) os).heap[k]? = (w.heap.modify g (onCells (putCells (Value.int .i64) 0 ys.toArray)))[k]? := by
      intro k hk
      unfold grow putRow mapBlock
      simp only [heap_ahead]
      rw [Array.getElem?_append_left (by simpa using hk)]
    refine ⟨rfl, ⟨by simp, Or.inr ⟨g, cap, putCells (Value.int .i64) 0 ys.toArray cur, by rw [hlm], hb, ?_, by omega, hcm, by simp [putCells, hs], ?_⟩⟩, ?_, ?_, ?_, ?_, ?_⟩
    · rw [hblk g (lt_of hg), Array.getElem?_modify]
      simp [hg, onCells]
    · apply List.ext_getElem?
      intro t
      by_cases h : t < ys.length
      · rw [List.getElem?_take_of_lt (by omega)]
        have hcs : t < cur.size := by omega
        have hts : t < ys.toArray.size := by simpa using h
        simp only [Array.getElem?_toList, putCells, Array.getElem?_mapIdx]
        rw [Array.getElem?_eq_getElem hcs]
        simp only [Option.map_some, Nat.zero_le, Nat.zero_add, hts, and_self, if_true, Nat.sub_zero]
        rw [getElem!_pos ys.toArray t hts, List.getElem?_map, List.getElem?_eq_getElem h]
        simp
      · rw [List.getElem?_eq_none (by simp; omega), List.getElem?_eq_none (by simp; omega)]
    · rfl
    · rfl
    · rfl
    · unfold grow putRow mapBlock
      simp
    · intro k hk
      rw [hblk k (by omega), Array.getElem?_modify, if_neg (by omega)]

end
end Go.Proofs.Ytbndknbjjdoanaa

namespace Go.Proofs.Ytbndknbjjdoanaa
section
open Go.RowKit Go.Maps
set_option linter.unusedVariables false

theorem sub_len : ∀ (ss ys : List Int), ss.Nodup → (∀ x ∈ ss, x ∈ ys) → ss.length ≤ ys.length
  | [], _, _, _ => Nat.zero_le _
  | x :: ss, ys, hn, h => by
    rw [List.nodup_cons] at hn
    have hx := h x (by simp)
    have ih := sub_len ss (ys.erase x) hn.2 (fun y hy => (List.mem_erase_of_ne (fun e => hn.1 (by rw [← e]; exact hy))).2 (h y (by simp [hy])))
    rw [List.length_erase_of_mem hx] at ih
    have : 0 < ys.length := List.length_pos_of_mem hx
    rw [List.length_cons]
    omega
/-- Which strings have come by in a range. -/
def CameS (P : PoolSt) (left : Lit → Bool) (ss : List Int) : Prop := ss.Nodup ∧ ∀ x : Int, x ∈ ss ↔ (lookN P.st x).isSome = true ∧ left (.int .i64 x) = false
theorem CameS.len {P : PoolSt} {left : Lit → Bool} {ss : List Int} (h : CameS P left ss) : ss.length ≤ P.st.length := by
  have sub : ∀ x ∈ ss, x ∈ P.st.map fun q => (q.1 : Int) := fun x hx => by
    obtain ⟨h1, _⟩ := (h.2 x).1 hx
    obtain ⟨q, hq⟩ := Option.isSome_iff_exists.1 h1
    obtain ⟨n, hn, hm⟩ := lookN_mem hq
    exact List.mem_map.2 ⟨_, hm, hn⟩
  have := sub_len _ _ h.1 sub
  simpa using this
theorem CameS.all {P : PoolSt} {left : Lit → Bool} {ss : List Int} (h : CameS P left ss) (hks : (P.st.map Prod.fst).Nodup) (hl : ∀ kl, left kl = false) : ss.length = P.st.length := by
  have sub : ∀ x ∈ P.st.map (fun q => (q.1 : Int)), x ∈ ss := fun x hx => by
    obtain ⟨q, hq, rfl⟩ := List.mem_map.1 hx
    refine (h.2 _).2 ⟨?_, hl _⟩
    rw [lookN_of_mem hks (show (q.1, q.2) ∈ P.st from hq)]
    rfl
  have nd : (P.st.map fun q => (q.1 : Int)).Nodup := by
    have e : (P.st.map fun q => (q.1 : Int)) = (P.st.map Prod.fst).map (fun n : Nat => (n : Int)) := by rw [List.map_map]; rfl
    rw [e]
    exact List.Pairwise.map _ (fun a b hab e => hab (by have : (a : Int) = (b : Int) := e; omega)) hks
  have h1 := sub_len _ _ nd sub
  have h2 := h.len
  simp only [List.length_map] at h1
  omega
theorem CameS.step {P : PoolSt} {left : Lit → Bool} {ss : List Int} (h : CameS P left ss) {x : Int} (hx : (lookN P.st x).isSome = true) (hl : left (.int .i64 x) = true) : CameS P (fun z => left z && !z.sameKey (.int .i64 x)) (ss ++ [x]) := by
  have nx : x ∉ ss := fun e => by
    have := (h.2 x).1 e
    rw [hl] at this
    cases this.2
  refine ⟨?_, fun y => ?_⟩
  · rw [List.nodup_append]
    refine ⟨h.1, by simp, fun a ha b hb => ?_⟩
    simp at hb
    exact fun e => nx (by rw [← hb, ← e]; exact ha)
  · rw [List.mem_append, h.2 y]
    by_cases e : y = x
    · subst e
      simp [hx, Lit.sameKey]
    · have e2 : (Lit.int .i64 y).sameKey (.int .i64 x) = false := by
        simp [Lit.sameKey, e]
      simp [e, e2]

/-- 'append(out, x)' of an element, and where the row lies then. -/
theorem wpList_append_at {P : Program} {ops : Array Oper} {rest : List Oper} {o : Oper} {a : Act} {Q : Exit → Act → World → Prop} (hgd : o.guard = none) (s x : Operand) (t : TypeId)
    (ho : o.op = .call { callee := .builtin .append, args := #[s, x], argTypes := #[t, t] })
    (base : Nat) (e : TypeId) (i : TypeInfo) (z : Value) (size bytes : Nat) (ht : P.underlying t = some (.slice e)) (hi : P.info? e = some i) (hz : i.zero = some z)
    (hsize : i.size = size) (hby : i.bytes = bytes) (hzs : z.cells.size = size) (hsz : 0 < size)
    (v : Value) (n : Nat) (xs : List Value) (wr : World) (e' : TypeId) (us : List Value) (hs : a.eval s = v) (hown : wr.ownsRow base e size v n xs)
    (hx : a.eval x = .slice (some ⟨wr.heap.size, 0, none⟩) 1 1) (hl : us.length = size) (h1 : ∀ u ∈ us, u.oneCell' = true)
    (h63 : n + 1 ≤ maxLen) (hbytes : (n + 1) * bytes ≤ 140737488355328) (hbase : base ≤ wr.heap.size)
    (h : ∀ g cap w', w'.ownsRow base e size (.slice (some ⟨g, 0, none⟩) (n + 1) cap) (n + 1) (xs ++ us) → wr.grownBy w' v.ownBlock → (v.ownBlock = some g ∨ wr.heap.size ≤ g) → wpList P ops Q rest (a.put o.dst (.slice (some ⟨g, 0, none⟩) (n + 1) cap)) w') :
    wpList P ops Q (o :: rest) a (wr.alloc (.cells us.toArray e')) := by
  refine wpList_plain hgd fun K hK => ?_
  have hnews : ∀ j u, us[j]? = some u → (wr.alloc (.cells us.toArray e')).cell? ((⟨wr.heap.size, 0, none⟩ : Addr).add j) = some u := by
    intro j u hj
    have e1 : (⟨wr.heap.size, 0, none⟩ : Addr).add j = ⟨wr.heap.size, j, none⟩ := by unfold Addr.add; split <;> simp_all
    rw [e1, cell_of_row _ _ _ _ _ _ (heap_alloc_new wr _)]
    simpa using hj
  obtain ⟨g, cap, w', hr, hown', hg', hp⟩ := run_append_place (P := P) (wr.alloc (.cells us.toArray e')) base t o.type e i z size bytes ht hi hz hsize hby hzs hsz v n xs (hown.alloc _) ⟨wr.heap.size, 0, none⟩ 1 1 us (by omega) hnews h1 (by omega) h63 hbytes (by simp; omega)
  unfold Oper.wp execOp
  simp only [ho, resolve, invoke, builtin, Sem.run_bind, Sem.run_pure, Result.andThen_ok, List.map_toArray, List.map_cons, List.map_nil, hs, hx, hr]
  have hg2 : wr.grownBy w' v.ownBlock := ⟨hg'.os, hg'.tape, hg'.output, Nat.le_trans (by simp) hg'.size, fun k hk hne => (hg'.block k (by simp; omega) hne).trans (heap_alloc_old wr _ hk)⟩
  exact hK _ _ (h g cap w' hown' hg2 (hp.imp id (fun x => by simp at x; omega)))

def SsPost (P : PoolSt) (w : World) : Ending → World → Prop := fun e w' => Below w.heap.size w w' ∧ ∃ a c, e = .returned (.slice a P.st.length c)

set_option maxHeartbeats 2000000 in
set_option maxRecDepth 100000 in
theorem strings_any {w : World} {Z : Nat → Prop} {h bp : Nat} {P : PoolSt} {n : Nat} (s : SP w Z h bp P n) :
    Calls Try.prog 24 #[.pointer (some ⟨h, 0, none⟩)] w (SsPost P w) := by
  obtain ⟨i0, hi0, hz0, hz1, hz2⟩ := info_parts infoInt
  obtain ⟨mb, ms, D1, D2, F, G, b, p, hZ⟩ := s
  have c7 := p.pm.cells.2.2.2.2.2.2.2
  have hown := p.pm.m2
  have few := p.pm.few.1
  have HM := Lib.hid p.pm
  clear p
  go_enter Try.func24, Try.ntmps24
  go_wp2_with (first
    | (at_range; refine wpList_range_own _ rfl _ 61 rfl 3 66 intKey Try.underlying61 rowElem ms P.st.length D2 rfl hown ?_; intro w0 hrg0 hg0 hs0)
    | fail)
  have hb0 : Below w.heap.size w w0 := (Below.refl _ w).grown hg0 (Nat.le_refl _) (fun k e => by cases e)
  go_frame
  go_loopw [3] (fun out wr => ∃ (left : Lit → Bool) (cnt : Nat) (ss : List Int), wr.ownsRow w.heap.size 3 1 out ss.length (ss.map fun x => Value.int .i64 x) ∧ wr.ranges Try.prog 3 rowElem ms w.heap.size P.st.length D2 left cnt ∧ CameS P left ss ∧ Below w.heap.size w wr)
    (fun _ wr => wr.rangeLeft ms w.heap.size)
  case atStart =>
    exact ⟨_, _, [], World.ownsRow_nil _ _ _ _, hrg0, ⟨List.nodup_nil, fun x => by
      constructor
      · intro hx
        simp at hx
      · rintro ⟨h1, h2⟩
        obtain ⟨q, hq⟩ := Option.isSome_iff_exists.1 h1
        have h3 := Maps.has_true_of_atKey (y := rowD q.1) (fun z => by rw [HM.out.l2 x, hq]; rfl)
        rw [h3] at h2
        cases h2⟩, hb0⟩
  case round =>
    obtain ⟨left, cnt, ss, hrow, hrg, hC, hbr⟩ := hrel
    have HBR := Lib.hid hbr
    have HR := Lib.hid hrow
    have hss : ss.length ≤ 200 := Nat.le_trans hC.len few
    go_wp2_with (first
      | (at_next; refine wpList_next_ranges _ rfl _ rfl 3 intKey rowElem (fun x : Int => .int .i64 x) (fun c : Option (Nat × Nat × Nat) => rowOf c) (fun key kl hkey => by obtain ⟨x, rfl, _⟩ := Maps.keyOf_int_inv Try.underlying3 hkey; exact ⟨x, rfl⟩) (fun v y hv => rowElem_shape hv) ms w.heap.size P.st.length D2 left cnt rfl hrg ?_ ?_)
      | fail)
    · intro hc0 hl0
      have HS := Lib.hid (hC.all HM.out.ks hl0)
      have SO := Lib.hid (sort_own u3 w.heap.size ss wr hrow (by omega) hbr.size)
      obtain ⟨oa, oc, rfl⟩ := wrow_sh hrow
      clear hrow hrg hC hbr
      go_wp2_with fail
      refine SO.out.mono ?_
      rintro e w3 ⟨rfl, hr3, hb3⟩
      have FIN : Hid (SsPost P w (.returned (.slice oa ss.length oc)) w3) := Lib.hid ⟨HBR.out.trans hb3, oa, oc, by rw [HS.out]⟩
      clear hr3 hb3
      go_wp2_with fail
      go_ret
      exact FIN.out
    · intro x c kl y ps w2 cnt2 hkey hlk hv hat hrg2 hlt hg2 hs2 hen
      obtain ⟨x', ex, rfl, hwx⟩ := Maps.keyOf_int_inv Try.underlying3 hkey
      cases ex
      obtain ⟨sn, ⟨so, l⟩, rfl, hmem, hy⟩ := look_hasS HM.out.l2 hat
      have hacc : (lookN P.st (sn : Int)).isSome = true := by
        rw [lookN_of_mem HM.out.ks hmem]
        rfl
      have B2 := Lib.hid (hbr.grown hg2 hbr.size (fun k e => by cases e; exact Nat.le_refl _))
      have hC2 := hC.step (x := (sn : Int)) hacc hlk
      have hne : ∀ j, u3.ownBlock = some j → j ≠ w.heap.size := fun j hj e => by
        obtain ⟨cur, hc⟩ := row_block HR.out hj
        obtain ⟨o, ho, hw⟩ := hrg.iter_walk
        rw [e] at hc
        rw [hc] at ho
        cases ho
        simp [Obj.isWalk] at hw
      have OR : Hid (w2.ownsRow w.heap.size 3 1 u3 ss.length (ss.map fun x => Value.int .i64 x)) := Lib.hid (ownsRow_same hrow (fun j hj => hg2.block j (HR.out.lt j hj).2 (fun e => hne j hj (Option.some.inj e))))
      have hw2 := B2.out.size
      have HRG := Lib.hid hrg2
      have HNE := Lib.hid hne
      have HRL := Lib.hid hrg.left_eq
      have HLT := Lib.hid hlt
      have HC2 := Lib.hid hC2
      clear hs2 hat hv hacc hbr hrow hg2 hne hlk hrg2 hC hC2 hrg hlt hkey hmem hy
      go_wp2_with (at_builtin; go_must (refine wpList_append_at rfl (.tmp 14) (.tmp 16) 53 rfl w.heap.size 3 i0 (.int .i64 0) 1 8 Try.underlying53 hi0 hz0 hz1 hz2 rfl (by decide) u3 ss.length (ss.map fun x => Value.int .i64 x) w2 _ [.int .i64 (sn : Int)] rfl OR.out rfl rfl (by intro u hu; simp at hu; subst hu; rfl) (by unfold maxLen; omega) (by omega) hw2 ?_))
      intro gb cap w5 hown5 hgr hpl
      have FIN : Hid (w5.ownsRow w.heap.size 3 1 (.slice (some ⟨gb, 0, none⟩) (ss.length + 1) cap) (ss ++ [(sn : Int)]).length ((ss ++ [(sn : Int)]).map fun x => Value.int .i64 x) ∧ Below w.heap.size w w5) := Lib.hid ⟨by simpa using hown5, B2.out.grown hgr B2.out.size (fun j hj => (HR.out.lt j hj).1)⟩
      have RG : Hid (w5.ranges Try.prog 3 rowElem ms w.heap.size P.st.length D2 (fun z => left z && !z.sameKey (.int .i64 (sn : Int))) cnt2) := Lib.hid (HRG.out.of_walks (KeepsWalks.of_grownBy hgr (fun j o hj ho => by
        obtain ⟨cur, hc⟩ := row_block OR.out hj
        rw [hc] at ho
        cases ho
        rfl)))
      clear hown5 hgr hpl
      go_wp2_with fail
      go_roundw
      case rel => exact ⟨_, cnt2, ss ++ [(sn : Int)], FIN.out.1, RG.out, HC2.out, FIN.out.2⟩
      case measure => rw [RG.out.left_eq, HRL.out]; exact HLT.out

end
end Go.Proofs.Ytbndknbjjdoanaa
