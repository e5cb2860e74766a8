/-
  The shelf's contracts that this seat's proofs use, laid at its own dump in plain words by the kit's lay-shelf and lay-plain. No conditions.
  The reference's queue with its book; slices.Clone of chunks. Conditions: numbers in their bounds.
  Frames told by a function (slot number to value): loops and cuts over wide frames with ONE name for all slots. No conditions.
-/
import Derived.Shelf.Small.Bits
import Derived.Shelf.Small.Wraps
import Derived.Shelf.Strconv.Itoa0
import Derived.Shelf.Sort.Plain
import Derived.Ground.Names2Prog
import Derived.Shelf.Slices.SearchI
import Derived.Shelf.Slices.In.SortNone
import Derived.Shelf.Slices.Empties
import Derived.Ground.SlgnProg
import Derived.Shelf.SlicesE.Clone
import Derived.Test.YtfnmjlnpfoclbaaGreatProg
import Derived.Test.YtfnmjlnpfoclbaaGreatQueueRunsPaz
import Derived.Test.YtfnmjlnpfoclbaaGreatQueueRunsPba
import Derived.Deep.LoopGhost
import Derived.Deep.Cut
import Derived.Test.YtfnmjlnpfoclbaaGreatQueueRunsPaa

namespace Go.Proofs
section
open Go.Shelf
def Tryz.lays189_ren : Go.Shelf.Ren := ⟨fun | 189 => 84 | 125 => 95 | 257 => 94 | 128 => 108 | 129 => 109 | 294 => 99 | 295 => 100 | 296 => 101 | 297 => 102 | 298 => 103 | 299 => 104 | 216 => 105 | 300 => 106 | 301 => 107 | 328 => 112 | 329 => 113 | 330 => 114 | 331 => 115 | 332 => 116 | 215 => 117 | 343 => 119 | n => n, fun | 28 => 25 | 3 => 3 | 46 => 147 | 0 => 0 | 51 => 157 | 53 => 159 | 4 => 4 | 183 => 150 | 182 => 149 | 131 => 128 | 5 => 5 | 9 => 9 | 218 => 161 | 222 => 165 | 228 => 167 | 229 => 49 | n => n, fun | n => n⟩
theorem Tryz.lays189 : Go.Proofs.Lays.n189 Tryz.prog Tryz.lays189_ren := {
  mixed := by kernel_rfl
  f125 := Tryz.func95.trans (congrArg some (by kernel_rfl))
  f128 := Tryz.func108.trans (congrArg some (by kernel_rfl))
  f129 := Tryz.func109.trans (congrArg some (by kernel_rfl))
  f189 := Tryz.func84.trans (congrArg some (by kernel_rfl))
  f215 := Tryz.func117.trans (congrArg some (by kernel_rfl))
  f216 := Tryz.func105.trans (congrArg some (by kernel_rfl))
  f257 := Tryz.func94.trans (congrArg some (by kernel_rfl))
  f294 := Tryz.func99.trans (congrArg some (by kernel_rfl))
  f295 := Tryz.func100.trans (congrArg some (by kernel_rfl))
  f296 := Tryz.func101.trans (congrArg some (by kernel_rfl))
  f297 := Tryz.func102.trans (congrArg some (by kernel_rfl))
  f298 := Tryz.func103.trans (congrArg some (by kernel_rfl))
  f299 := Tryz.func104.trans (congrArg some (by kernel_rfl))
  f300 := Tryz.func106.trans (congrArg some (by kernel_rfl))
  f301 := Tryz.func107.trans (congrArg some (by kernel_rfl))
  f328 := Tryz.func112.trans (congrArg some (by kernel_rfl))
  f329 := Tryz.func113.trans (congrArg some (by kernel_rfl))
  f330 := Tryz.func114.trans (congrArg some (by kernel_rfl))
  f331 := Tryz.func115.trans (congrArg some (by kernel_rfl))
  f332 := Tryz.func116.trans (congrArg some (by kernel_rfl))
  f343 := Tryz.func119.trans (congrArg some (by kernel_rfl))
  t0 := Tryz.underlying0
  a0 := Tryz.isAgg0
  z0 := Tryz.sizeOf0
  v0 := Tryz.zeroValue0
  t3 := Tryz.underlying3
  a3 := Tryz.isAgg3
  z3 := Tryz.sizeOf3
  v3 := Tryz.zeroValue3
  t4 := Tryz.underlying4
  a4 := Tryz.isAgg4
  z4 := Tryz.sizeOf4
  v4 := Tryz.zeroValue4
  t5 := Tryz.underlying5
  a5 := Tryz.isAgg5
  z5 := Tryz.sizeOf5
  v5 := Tryz.zeroValue5
  t9 := Tryz.underlying9
  a9 := Tryz.isAgg9
  z9 := Tryz.sizeOf9
  v9 := Tryz.zeroValue9
  t28 := Tryz.underlying25
  a28 := Tryz.isAgg25
  z28 := Tryz.sizeOf25
  v28 := Tryz.zeroValue25
  t46 := Tryz.underlying147
  a46 := Tryz.isAgg147
  z46 := Tryz.sizeOf147
  v46 := Tryz.zeroValue147
  t51 := Tryz.underlying157
  a51 := Tryz.isAgg157
  z51 := Tryz.sizeOf157
  v51 := Tryz.zeroValue157
  t53 := Tryz.underlying159
  a53 := Tryz.isAgg159
  z53 := Tryz.sizeOf159
  v53 := Tryz.zeroValue159
  t131 := Tryz.underlying128
  a131 := Tryz.isAgg128
  z131 := Tryz.sizeOf128
  v131 := Tryz.zeroValue128
  t182 := Tryz.underlying149
  a182 := Tryz.isAgg149
  z182 := Tryz.sizeOf149
  v182 := Tryz.zeroValue149
  t183 := Tryz.underlying150
  a183 := Tryz.isAgg150
  z183 := Tryz.sizeOf150
  v183 := Tryz.zeroValue150
  t218 := Tryz.underlying161
  a218 := Tryz.isAgg161
  z218 := Tryz.sizeOf161
  v218 := Tryz.zeroValue161
  t222 := Tryz.underlying165
  a222 := Tryz.isAgg165
  z222 := Tryz.sizeOf165
  v222 := Tryz.zeroValue165
  t228 := Tryz.underlying167
  a228 := Tryz.isAgg167
  z228 := Tryz.sizeOf167
  v228 := Tryz.zeroValue167
  t229 := Tryz.underlying49
  a229 := Tryz.isAgg49
  z229 := Tryz.sizeOf49
  v229 := Tryz.zeroValue49 }
open Go.Sort Go.RowKit in
theorem Tryz.slices_Sort_int (blk off cap : Nat) (zs : List Int) (w : World) (hH : Holds (Value.int .i64) w blk off zs.toArray) (hblk : blk < w.heap.size) (hsz : zs.length < 4611686018427387904) :
    Calls Tryz.prog 84 #[.slice (some ⟨blk, off, none⟩) zs.length cap] w fun e w' =>
      e = .returned (.tuple #[]) ∧ ∃ n os, w' = grow (putRow (Value.int .i64) (Sort.ahead w n) blk off (zs.mergeSort fun x y => decide (x ≤ y)).toArray) os := Any.slices_Sort_int Tryz.lays189 blk off cap zs w hH hblk hsz
open Go.RowKit Go.Sort in
/-- .. and plain. (LAID: no walk: one application.) -/
theorem Tryz.slices_Sort_int_none (p : Option Addr) (cap : Nat) (w : World) :
    Calls Tryz.prog 84 #[.slice p 0 cap] w fun e w' => e = .returned (.tuple #[]) ∧ w' = w := Any.slices_Sort_int_none Tryz.lays189 p cap w
def Tryz.laysSlE041_f69_ren : Go.Shelf.Ren := ⟨fun | 41 => 69 | n => n, fun | 22 => 81 | 23 => 101 | 4 => 4 | n => n, fun | n => n⟩
theorem Tryz.laysSlE041_f69 : Go.Proofs.SlLaysE0.n41 Tryz.prog Tryz.laysSlE041_f69_ren := {
  mixed := by kernel_rfl
  f41 := ⟨Tryz.f69.name, by decide, Tryz.func69.trans (congrArg some (by kernel_rfl))⟩
  t4 := Tryz.underlying4
  a4 := Tryz.isAgg4
  z4 := Tryz.sizeOf4
  v4 := Tryz.zeroValue4
  t22 := Tryz.underlying81
  a22 := Tryz.isAgg81
  z22 := Tryz.sizeOf81
  v22 := Tryz.zeroValue81 }
open Go.RowKit Go.Lib in
/-- slices.Clone: "Clone returns a copy of the slice. The elements are copied using assignment, so this is a shallow clone. The result may have additional unused capacity. The result preserves the nilness of s.": OF A SLICE THAT IS NOT nil IT RETURNS A SLICE THAT IS NOT nil, OF THE SAME CELLS, IN MEMORY OF THE CALL's OWN ('ownsRow': the how-to's 6f); below the heap's size at the call all is as it was. (LAID AT THE INSTANCE 'slices.Clone[[]cornref1.chunk,cornref1.chunk]': no walk: one application.) -/
theorem Tryz.slices_Clone_f69 (i0 : TypeInfo) (z : Value) (size bytes : Nat) (hi : Tryz.prog.info? 101 = some i0) (hz0 : i0.zero = some z) (hz1 : i0.size = size) (hz2 : i0.bytes = bytes) (hzs : z.cells.size = size) (hsz : 0 < size) (z23 : ∀ w, (Go.sizeOf 101).run Tryz.prog w = .ok size w) (b off n c : Nat) (news : List Value) (w : World) (hl : news.length = n * size) (hn : n ≤ maxLen) (hbig : n * bytes ≤ 140737488355328) (hc : ∀ j u, news[j]? = some u → w.cell? ⟨b, off + j, none⟩ = some u) (h1 : ∀ u ∈ news, u.oneCell' = true) :
    Calls Tryz.prog 69 #[.slice (some ⟨b, off, none⟩) n c] w fun e w' => ∃ v', e = .returned v' ∧ w'.ownsRow w.heap.size 101 size v' n news ∧ v' ≠ .slice none 0 0 ∧ Below w.heap.size w w' := AnyE.slices_Clone Tryz.laysSlE041_f69 i0 z size bytes hi hz0 hz1 hz2 hzs hsz z23 b off n c news w hl hn hbig hc h1
def Tryz.laysSlE041_f85_ren : Go.Shelf.Ren := ⟨fun | 41 => 85 | n => n, fun | 22 => 64 | 23 => 98 | 4 => 4 | n => n, fun | n => n⟩
theorem Tryz.laysSlE041_f85 : Go.Proofs.SlLaysE0.n41 Tryz.prog Tryz.laysSlE041_f85_ren := {
  mixed := by kernel_rfl
  f41 := ⟨Tryz.f85.name, by decide, Tryz.func85.trans (congrArg some (by kernel_rfl))⟩
  t4 := Tryz.underlying4
  a4 := Tryz.isAgg4
  z4 := Tryz.sizeOf4
  v4 := Tryz.zeroValue4
  t22 := Tryz.underlying64
  a22 := Tryz.isAgg64
  z22 := Tryz.sizeOf64
  v22 := Tryz.zeroValue64 }
open Go.RowKit Go.Lib in
/-- slices.Clone: "Clone returns a copy of the slice. The elements are copied using assignment, so this is a shallow clone. The result may have additional unused capacity. The result preserves the nilness of s.": OF A SLICE THAT IS NOT nil IT RETURNS A SLICE THAT IS NOT nil, OF THE SAME CELLS, IN MEMORY OF THE CALL's OWN ('ownsRow': the how-to's 6f); below the heap's size at the call all is as it was. (LAID AT THE INSTANCE 'slices.Clone[[]ledger.Lease,ledger.Lease]': no walk: one application.) -/
theorem Tryz.slices_Clone_f85 (i0 : TypeInfo) (z : Value) (size bytes : Nat) (hi : Tryz.prog.info? 98 = some i0) (hz0 : i0.zero = some z) (hz1 : i0.size = size) (hz2 : i0.bytes = bytes) (hzs : z.cells.size = size) (hsz : 0 < size) (z23 : ∀ w, (Go.sizeOf 98).run Tryz.prog w = .ok size w) (b off n c : Nat) (news : List Value) (w : World) (hl : news.length = n * size) (hn : n ≤ maxLen) (hbig : n * bytes ≤ 140737488355328) (hc : ∀ j u, news[j]? = some u → w.cell? ⟨b, off + j, none⟩ = some u) (h1 : ∀ u ∈ news, u.oneCell' = true) :
    Calls Tryz.prog 85 #[.slice (some ⟨b, off, none⟩) n c] w fun e w' => ∃ v', e = .returned v' ∧ w'.ownsRow w.heap.size 98 size v' n news ∧ v' ≠ .slice none 0 0 ∧ Below w.heap.size w w' := AnyE.slices_Clone Tryz.laysSlE041_f85 i0 z size bytes hi hz0 hz1 hz2 hzs hsz z23 b off n c news w hl hn hbig hc h1
open Go.RowKit Go.Lib in
/-- The same at nil: nil comes back; the world is as it was; nothing is asked of the element's type. (LAID AT THE INSTANCE 'slices.Clone[[]cornref1.chunk,cornref1.chunk]': no walk: one application.) -/
theorem Tryz.slices_Clone_nil_f69 (n c : Nat) (w : World) :
    Calls Tryz.prog 69 #[.slice none n c] w fun e w' => e = .returned (.slice none 0 0) ∧ w' = w := AnyE.slices_Clone_nil Tryz.laysSlE041_f69 n c w
open Go.RowKit Go.Lib in
/-- The same at nil: nil comes back; the world is as it was; nothing is asked of the element's type. (LAID AT THE INSTANCE 'slices.Clone[[]ledger.Lease,ledger.Lease]': no walk: one application.) -/
theorem Tryz.slices_Clone_nil_f85 (n c : Nat) (w : World) :
    Calls Tryz.prog 85 #[.slice none n c] w fun e w' => e = .returned (.slice none 0 0) ∧ w' = w := AnyE.slices_Clone_nil Tryz.laysSlE041_f85 n c w
end
end Go.Proofs

namespace Go.Proofs.YtfnmjlnpfoclbaaGreat
section
open Go.RowKit
set_option linter.unusedVariables false

theorem infoRCh : (Tryz.prog.info? 101).map (fun i => (i.zero, i.size, i.bytes)) = some (some (.agg #[.slice none 0 0, .int .i64 0, .int .i64 0]), 3, 40) := by kernel_rfl
theorem qcells_one (L : List QCh) : ∀ u ∈ L.flatMap QCh.cells, u.oneCell' = true := by
  intro u hu
  obtain ⟨c, _, hc⟩ := List.mem_flatMap.1 hu
  simp [QCh.cells] at hc
  rcases hc with rfl | rfl | rfl <;> rfl

def OwnChs (L : List QCh) (w : World) : Ending → World → Prop := fun e w' =>
  ∃ v, e = .returned v ∧ w'.ownsRow w.heap.size 101 3 v L.length (L.flatMap QCh.cells) ∧ Below w.heap.size w w'
theorem clone_chs (v : Value) (B : Nat) (L : List QCh) (w : World) (hr : w.ownsRow B 101 3 v L.length (L.flatMap QCh.cells)) (hmax : L.length ≤ 1000000) :
    Calls Tryz.prog 69 #[v] w (OwnChs L w) := by
  obtain ⟨i0, hi0, hz0, hz1, hz2⟩ := info_parts infoRCh
  rcases hr.2 with ⟨rfl, h0⟩ | ⟨g, cap, cur, rfl, hb, hg, hn, hcm, hs, ht⟩
  · have hz : L = [] := by cases L with | nil => rfl | cons x xs => simp at h0
    subst hz
    refine (Tryz.slices_Clone_nil_f69 0 0 w).mono ?_
    rintro e w' ⟨rfl, hw⟩
    obtain rfl := hw
    exact ⟨_, rfl, World.ownsRow_nil _ _ _ _, Below.refl _ _⟩
  · have hc := hr.cells (g := g) rfl
    refine (Tryz.slices_Clone_f69 i0 _ 3 40 hi0 hz0 hz1 hz2 rfl (by decide) Tryz.sizeOf101 g 0 L.length cap (L.flatMap QCh.cells) w (qflat_len L) (by unfold maxLen; omega) (by omega) (fun j u hj => by
      have := hc j u hj
      rw [Addr.add_lit] at this
      exact this) (qcells_one L)).mono ?_
    rintro e w' ⟨v', rfl, h1, _, h2⟩
    exact ⟨v', rfl, h1, h2⟩

/-- The reference's queue, its book, and the book's plain state. -/
structure RR (w : World) (I : QuId) (L : List QCh) (bst : BookSt) (F G : Nat → Prop) : Prop where
  qu : ∃ cv, RqMem w F I L cv
  bk : RB w G I.bp bst false
  dis : ∀ k, F k → ¬ G k
  fl : ∀ k, F k → k < w.heap.size
  gl : ∀ k, G k → k < w.heap.size
  pol : polErr I.k I.s I.m = 0
  sz : 1 ≤ I.sz ∧ I.sz ≤ 100000 ∧ I.sz ≤ I.m
  good : Good bst
  ok : QChsOk L
def RRPost (w w' : World) (I : QuId) (L : List QCh) (bst : BookSt) (F G : Nat → Prop) : Prop := ∃ F' G', RR w' I L bst F' G' ∧ QLater w w' F F' ∧ QLater w w' G G' ∧ Touch (fun k => F k ∨ G k) w w'
theorem RR.below {w w' : World} {I : QuId} {L : List QCh} {bst : BookSt} {F G : Nat → Prop} (h : RR w I L bst F G) (hb : Below w.heap.size w w') : RR w' I L bst F G := by
  obtain ⟨cv, hm⟩ := h.qu
  have hs := hb.size
  exact ⟨⟨cv, hm.below hb⟩, h.bk.below hb, h.dis, fun k hk => by have := h.fl k hk; omega, fun k hk => by have := h.gl k hk; omega, h.pol, h.sz, h.good, h.ok⟩
theorem RRPost.of_below {w w' : World} {I : QuId} {L : List QCh} {bst : BookSt} {F G : Nat → Prop} (h : RR w I L bst F G) (hb : Below w.heap.size w w') : RRPost w w' I L bst F G :=
  ⟨F, G, h.below hb, fun k hk => Or.inl hk, fun k hk => Or.inl hk, Touch.of_below hb⟩

/-- The room of a new chunk: grown. -/
theorem roomR_any (I : QuId) (hp : polErr I.k I.s I.m = 0) (hz : 1 ≤ I.sz ∧ I.sz ≤ 100000 ∧ I.sz ≤ I.m) (w : World) :
    Calls Tryz.prog 70 #[.agg #[.int .i64 I.k, .int .i64 I.s, .int .i64 I.m], .int .i64 0, .int .i64 I.sz] w (GPost (roomQ I : Nat) true w) ∧ 1 ≤ roomQ I ∧ roomQ I ≤ 100000 := by
  obtain ⟨zn, hzn⟩ : ∃ zn : Nat, I.sz = zn := ⟨I.sz.toNat, by omega⟩
  have hE : growE I.k I.s I.m ((0 : Nat) : Int) I.sz = 0 := by rw [hzn]; exact growE_zero hp (by omega) (by omega)
  have hg3 := growV_new I.k I.s I.m 0 zn hp (by omega) (by omega) (by rw [← hzn]; exact hE)
  rw [← hzn] at hg3
  have hr : ((roomQ I : Nat) : Int) = growV I.k I.s I.m ((0 : Nat) : Int) I.sz := by unfold roomQ; omega
  obtain ⟨p1, p2, p3⟩ := polOk_of hp
  have hV : growV I.k I.s I.m ((0 : Nat) : Int) I.sz = min (wishI I.k I.s 0 I.sz) I.m := by
    unfold growV gV
    rw [if_pos ⟨hp, by omega, by omega⟩, if_neg (by omega), if_neg (by omega)]
    rfl
  refine ⟨?_, by omega, by omega⟩
  rw [hr, hV]
  exact grown_new I.k I.s I.m 0 I.sz w p1 p2 p3 (by omega) (by omega) (by omega) (by omega)

end
end Go.Proofs.YtfnmjlnpfoclbaaGreat

namespace Go.Proofs.YtfnmjlnpfoclbaaGreat
section
open Go.RowKit
set_option linter.unusedVariables false

/-- The slots as a list. -/
def slotsOf (n : Nat) (f : Nat → Value) : List Value := (List.range n).map f
theorem slots_eq {n : Nat} {l : List Value} (h : l.length = n) : slotsOf n (fun i => l.getD i undef) = l := by
  unfold slotsOf
  refine List.ext_getElem (by simp [h]) (fun i h1 h2 => ?_)
  simp [List.getD_eq_getElem?_getD, h2]
/-- A loop: I: what holds of the slots (by their numbers) and the world at its head. -/
theorem wp_loop_framed {P : Program} {Q : Exit → Act → World → Prop} {w : World} {c : Code} (n : Nat) (I : Nat → (Nat → Value) → World → Prop) (l : List Value) (ds : List Deferred) (hl : l.length = n) (n₀ : Nat) (h₀ : I n₀ (fun i => l.getD i undef) w)
    (round : ∀ g f w, I g f w → ∀ (J : Nat → Act → World → Prop) (K : Act → World → Prop), (∀ k l' w', List.length l' = n → I k (fun i => l'.getD i undef) w' → J k ⟨l'.toArray, ds⟩ w') → (∀ a' w', Handed J g a' w' → K a' w') → c.wp P (Exit.then K Q) ⟨(slotsOf n f).toArray, ds⟩ w) : (Code.loop c).wp P Q ⟨l.toArray, ds⟩ w := by
  refine wp_loop_ghost_k (fun k a' w' => ∃ f, a' = ⟨(slotsOf n f).toArray, ds⟩ ∧ I k f w') n₀ ⟨_, by rw [slots_eq hl], h₀⟩ ?_
  rintro g a' w' ⟨f, rfl, hI⟩ J K hJ hK
  exact round g f w' hI J K (fun k l' w' h1 h2 => hJ k _ w' ⟨_, by rw [slots_eq h1], h2⟩) hK
/-- A statement that is cut around. -/
theorem wp_cut_framed {P : Program} {K : Act → World → Prop} {Q' : Exit → Act → World → Prop} {w : World} {s : Code} (n : Nat) (R : (Nat → Value) → World → Prop) (l : List Value) (ds : List Deferred) 
    (first : ∀ (J K' : Act → World → Prop), (∀ l' w', List.length l' = n → R (fun i => l'.getD i undef) w' → J ⟨l'.toArray, ds⟩ w') → (∀ a' w', Met J a' w' → K' a' w') → s.wp P (Exit.then K' Q') ⟨l.toArray, ds⟩ w)
    (rest : ∀ f w', R f w' → K ⟨(slotsOf n f).toArray, ds⟩ w') : s.wp P (Exit.then K Q') ⟨l.toArray, ds⟩ w := by
  refine wp_cut (fun a' w' => ∃ f, a' = ⟨(slotsOf n f).toArray, ds⟩ ∧ R f w') ?_ ?_
  · rintro a' w' ⟨f, rfl, hR⟩
    exact rest f w' hR
  · intro J K' hJ hK
    exact first J K' (fun l' w' h1 h2 => hJ _ w' ⟨_, by rw [slots_eq h1], h2⟩) hK

end
end Go.Proofs.YtfnmjlnpfoclbaaGreat
