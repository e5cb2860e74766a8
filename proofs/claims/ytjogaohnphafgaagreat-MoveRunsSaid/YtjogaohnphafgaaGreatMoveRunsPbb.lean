/-
  The reference's heap: octets of a block, anew. No conditions but bounds.
  The reference's heap: the blocks that lie somewhere, by its own insertion. No conditions but bounds.
-/
import Derived.Test.YtjogaohnphafgaaGreatMoveRunsPba
import Derived.Test.YtjogaohnphafgaaGreatMoveRunsPan
import Derived.Test.YtjogaohnphafgaaGreatMoveRunsPao
import Derived.Test.YtjogaohnphafgaaGreatMoveRunsPav

namespace Go.Proofs.YtjogaohnphafgaaGreat
section
open Go.RowKit
set_option linter.unusedVariables false

theorem run_append_nothing {P : Program} (w : World) (t ty e : TypeId) (i : TypeInfo) (ht : P.underlying t = some (.slice e)) (hi : P.info? e = some i) (b off n cap c : Nat) (hle : n ≤ cap) :
    (Builtin.append_ #[t, t] ty #[.slice (some ⟨b, off, none⟩) n cap, .slice none 0 c]).run P w = .ok (.slice (some ⟨b, off, none⟩) n cap) w := by
  simp [Builtin.append_, run_underlying ht, sizeOf, typeInfo, hi, Builtin.lenOf, Builtin.firstCells, hle, storeCells]
/-- Octets behind an empty slice that is not nil: a row of one's own. -/
theorem append_octets {w : World} {B g0 : Nat} {a : Option Addr} {n c : Nat} {zs : List Int} (hs : w.heap[g0]? = some (.cells #[] 5 (0, 0))) (hB : B ≤ g0) (hr : Reads w .u8 (.slice a n c) zs) (hn : n ≤ 1000000) (ty : TypeId) :
    ∃ v w', (Builtin.append_ #[38, 38] ty #[.slice (some ⟨g0, 0, none⟩) 0 0, .slice a n c]).run Tryz.prog w = .ok v w' ∧ w'.ownsRow B 5 1 v n (zs.map (Value.int .u8)) ∧ Below w.heap.size w w' := by
  obtain ⟨i0, hi0, hz0, hz1, hz2⟩ := info_parts byteInfo0
  obtain ⟨hl, had⟩ : zs.length = n ∧ (0 < n → ∃ b o, a = some ⟨b, o, none⟩) := by
    obtain ⟨a', c', e, _, h⟩ := hr
    simp only [Value.slice.injEq] at e
    obtain ⟨rfl, rfl, rfl⟩ := e
    refine ⟨rfl, fun h0 => ?_⟩
    obtain ⟨b, o, e, _⟩ := h (by intro e; rw [e] at h0; simp at h0)
    exact ⟨b, o, e⟩
  by_cases h0 : n = 0
  · subst h0
    have hz : zs = [] := List.eq_nil_of_length_eq_zero hl
    subst hz
    have own : w.ownsRow B 5 1 (.slice (some ⟨g0, 0, none⟩) 0 0) 0 [] := ⟨rfl, Or.inr ⟨g0, 0, #[], rfl, hB, hs, Nat.le_refl _, Nat.zero_le _, rfl, rfl⟩⟩
    refine ⟨_, w, ?_, own, Below.refl _ _⟩
    cases a with
    | none => exact run_append_nothing w _ ty _ i0 Tryz.underlying38 hi0 g0 0 0 0 c (Nat.le_refl _)
    | some a => exact run_append_room_cells (P := Tryz.prog) (w := w) 38 ty 5 i0 Tryz.underlying38 hi0 g0 0 0 0 a 0 c [] (by simp) (fun j u h => by simp at h) (by simp) (Nat.le_refl _) (by simp) (by simp)
  · obtain ⟨b, o, rfl⟩ := had (by omega)
    obtain ⟨v', w', h1, h2, h3⟩ := run_append_arg_grows (P := Tryz.prog) (w := w) 38 ty 5 i0 (.int .u8 0) 1 1 Tryz.underlying38 hi0 hz0 hz1 hz2 rfl (by decide) ⟨g0, 0, none⟩ 0 0 [] rfl (by simp) ⟨b, o, none⟩ n c (zs.map (Value.int .u8)) (by simp [hl]) (hr.cells hl _ rfl) (by omega) (by unfold maxLen; omega) (by omega)
    refine ⟨v', w', h1, ?_, (Below.refl _ w).grown h3 (Nat.le_refl _) (by simp)⟩
    have := row_low h2 (show B ≤ w.heap.size by have := lt_of hs; omega)
    rw [Nat.zero_add] at this
    exact this

theorem RfMem.octR {w : World} {F : Nat → Prop} {rp pp M : Nat} {S : HpSt} {kept : List (List Blk)} {vm vb vk : Value} {vks : List Value} (m : RfMem w F rp pp M S kept vm vb vk vks) (at' len c : Nat) (a : Option Addr) (hl : at' + len ≤ S.mem.length) (ha : 0 < len → ∃ g, vm = .slice (some ⟨g, 0, none⟩) S.mem.length S.mem.length ∧ a = some ⟨g, at', none⟩) :
    Reads w .u8 (.slice a len c) (octB S.mem ⟨0, at', len⟩) := by
  have e : (octB S.mem ⟨0, at', len⟩).length = len := by unfold octB; rw [List.length_take, List.length_drop]; simp only; omega
  refine ⟨a, c, by rw [e], by rw [e]; have := m.big.1; omega, fun hne => ?_⟩
  have hpos : 0 < len := by
    rcases Nat.eq_zero_or_pos len with h | h
    · exact absurd (List.eq_nil_of_length_eq_zero (e.trans h)) hne
    · exact h
  obtain ⟨g, hv, rfl⟩ := ha hpos
  refine ⟨g, at', rfl, fun j hj => ?_⟩
  rw [e] at hj
  have h1 : S.mem[at' + j]? = some (S.mem[at' + j]'(by omega)) := List.getElem?_eq_getElem (by omega)
  have h2 : (octB S.mem ⟨0, at', len⟩)[j]? = S.mem[at' + j]? := by unfold octB; rw [List.getElem?_take, if_pos hj, List.getElem?_drop]
  have hr := m.mem.1
  rw [hv] at hr
  obtain ⟨g', hg, hc, _⟩ := wrow_cell hr (j := at' + j) (u := .int .u8 (S.mem[at' + j]'(by omega))) (by rw [List.getElem?_map, h1]; rfl)
  cases hg
  rw [hc, List.getD_eq_getElem?_getD, h2, h1]
  rfl

def OctPost (S : HpSt) (q : Int) (w : World) : Ending → World → Prop := fun e w' => Below w.heap.size w w' ∧ ∃ v, e = .returned (.tuple #[v, .int .i64 (fndE S q)]) ∧ w'.ownsRow w.heap.size 5 1 v (blkAt S q).len ((octB S.mem (blkAt S q)).map (Value.int .u8))

set_option maxHeartbeats 4000000 in
set_option maxRecDepth 100000 in
theorem octetsR_any {w : World} {F : Nat → Prop} {rp pp M : Nat} {S : HpSt} {kept : List (List Blk)} {vm vb vk : Value} {vks : List Value} (m : RfMem w F rp pp M S kept vm vb vk vks) (q : Int) :
    Calls Tryz.prog 76 #[.pointer (some ⟨rp, 0, none⟩), .int .i64 q] w (OctPost S q w) := by
  have BK := Lib.hid (blockR_any m q)
  unfold BkPost at BK
  have HM := Lib.hid m
  have hin := blkAt_in (S := S) (q := q) (fun x hx => (m.hb x hx).2.2)
  have FIN : Hid (∀ v w', Below w.heap.size w w' → w'.ownsRow w.heap.size 5 1 v (blkAt S q).len ((octB S.mem (blkAt S q)).map (Value.int .u8)) → OctPost S q w (.returned (.tuple #[v, .int .i64 (fndE S q)])) w') := Lib.hid (fun v w' h1 h2 => ⟨h1, v, rfl, h2⟩)
  obtain ⟨X, hX⟩ : ∃ X, blkAt S q = X := ⟨_, rfl⟩
  rw [hX] at hin
  rw [hX] at FIN
  rw [hX] at BK
  generalize fndE S q = E at *
  clear m hX
  obtain ⟨h, p, n⟩ := X
  simp only at hin FIN BK
  have hbig := HM.out.big.1
  go_enter Tryz.func76, Tryz.ntmps76
  go_wp2_with fail
  refine BK.out.mono ?_
  rintro e w2 ⟨rfl, hb2⟩
  have HB2 := Lib.hid (hb2.alloc hb2.size (.cells #[.int .i64 (h : Int), .int .i64 (p : Int), .int .i64 (n : Int)] 78))
  have RS2 := heap_alloc_new w2 (.cells #[.int .i64 (h : Int), .int .i64 (p : Int), .int .i64 (n : Int)] 78)
  clear BK
  go_upto_region 2 with fail
  obtain ⟨r, hr⟩ : ∃ r, w2.heap.size = r := ⟨_, rfl⟩
  rw [hr] at RS2 ⊢
  generalize w2.alloc (.cells #[.int .i64 (h : Int), .int .i64 (p : Int), .int .i64 (n : Int)] 78) = W at *
  obtain ⟨q0, q1, q2⟩ := cells3h RS2
  have c6 := (HM.out.below HB2.out).cells.2.2.2.2.2.2.1
  clear hb2 hr RS2
  have S0 : BelM W W.drew := (Below.refl _ W).drew
  have e6 : ∀ z : WIn (BelM W), z.w.cell? ⟨rp, 6, none⟩ = some vm := fun z => old_cell z.h c6
  have e1 : ∀ z : WIn (BelM W), z.w.cell? ⟨r, 1, none⟩ = some (.int .i64 (p : Int)) := fun z => old_cell z.h q1
  have e2 : ∀ z : WIn (BelM W), z.w.cell? ⟨r, 2, none⟩ = some (.int .i64 (n : Int)) := fun z => old_cell z.h q2
  haveI ne : Nonempty (WIn (BelM W)) := ⟨⟨W.drew, S0⟩⟩
  have hpn : (p : Int) + (n : Int) ≤ 100000 := by omega
  have RUN : Hid (∀ (A : Option Addr) (C : Nat), (0 < n → ∃ g, vm = .slice (some ⟨g, 0, none⟩) S.mem.length S.mem.length ∧ A = some ⟨g, p, none⟩) → ∀ (W1 : World) (g0 : Nat), W1.heap[g0]? = some (.cells #[] 5 (0, 0)) → w.heap.size ≤ g0 → Below w.heap.size w W1 → ∃ v w9, (Builtin.append_ #[38, 38] 38 #[.slice (some ⟨g0, 0, none⟩) 0 0, .slice A n C]).run Tryz.prog W1 = .ok v w9 ∧ w9.ownsRow w.heap.size 5 1 v n ((octB S.mem ⟨h, p, n⟩).map (Value.int .u8)) ∧ Below w.heap.size w w9) := Lib.hid (fun A C hA W1 g0 hg hB hb => by
    obtain ⟨v, w9, h1, h2, h3⟩ := append_octets hg hB ((HM.out.below hb).octR p n C A hin hA) (by omega) 38
    exact ⟨v, w9, h1, h2, hb.trans (h3.mono hb.size)⟩)
  rcases HM.out.msh with ⟨hvm, h0⟩ | ⟨g, hvm⟩
  · obtain rfl : p = 0 := by omega
    obtain rfl : n = 0 := by omega
    have RUN := Lib.hid (RUN.out none 0 (fun h => absurd h (by omega)))
    rw [hvm] at e6
    refine wp_normal ?_
    refine wp_region_plan 13 (BelM W) rfl ?_
    refine wpN_pure [1, 2, 3, 5, 7, 9, 14] (by kernel_rfl) (by kernel_rfl) (by kernel_rfl) (fun _ _ _ _ _ h => h) (fun _ => S0) ?_
    simp only [pick, List.map_cons, List.map_nil, List.getElem?_cons_succ, List.getElem?_cons_zero, Option.getD_some]
    repeat (go_big_quiet_step (fail))
    refine wpQuiet_nil ?_
    refine wpN_seg [4, 6, 8, 10, 11, 12] (by kernel_rfl) (by kernel_rfl) (by kernel_rfl) (by kernel_rfl) (by decide) (fun _ _ _ _ _ h => h) S0 ?_
    simp only [pick, List.map_cons, List.map_nil, List.getElem?_cons_succ, List.getElem?_cons_zero, Option.getD_some]
    repeat (go_big_quiet_step (fail))
    refine wpQuiet_nil ?_
    clear e6 e1 e2 ne
    refine wpN_one 0 _ (by kernel_rfl) rfl ?_
    refine NextAt.held ?_
    intro K hK
    go_simp
    have AZ : ((W.alloc (.cells #[] 5)).drew).heap[W.heap.size]? = _ := heap_alloc_new W (.cells #[] 5)
    have BZ : BelM W ((W.alloc (.cells #[] 5)).drew) := ((Below.refl _ _).alloc (Nat.le_refl _) _).drew
    refine hK _ _ BZ ?_
    clear hK K
    obtain ⟨v, w9, hrun, hrow, hb9⟩ := RUN.out _ W.heap.size AZ HB2.out.size (HB2.out.trans (BZ.mono HB2.out.size))
    refine wpN_one 13 _ (by kernel_rfl) rfl ?_
    refine NextAt.free (by kernel_rfl) ?_
    intro K hK
    refine step_append_known rfl (.tmp 14) (.tmp 26) 38 rfl _ _ _ (by rfl) (by rfl) hrun ?_
    go_simp
    refine hK _ _ ?_
    clear hK K
    refine wpN_pure [15, 16] (by kernel_rfl) (by kernel_rfl) (by kernel_rfl) (fun _ _ _ _ _ h => h) (fun h => by cases h) ?_
    simp only [pick, List.map_cons, List.map_nil, List.getElem?_cons_succ, List.getElem?_cons_zero, Option.getD_some]
    repeat (go_big_quiet_step (fail))
    refine wpQuiet_nil ?_
    refine wpN_done (by kernel_rfl) ?_
    have FF := Lib.hid (FIN.out _ _ hb9 hrow)
    clear hrun hrow hb9 S0 AZ BZ
    go_wp2_with fail
    go_ret2
    exact FF.out
  · rw [hvm] at e6
    obtain ⟨N, hN⟩ : ∃ N, S.mem.length = N := ⟨_, rfl⟩
    rw [hN] at e6 hin hbig
    have RUN := Lib.hid (RUN.out (if N = p then some ⟨g, 0, none⟩ else some ⟨g, p, none⟩) (N - p) (fun h => ⟨g, hvm, if_neg (by omega)⟩))
    clear hN
    refine wp_normal ?_
    refine wp_region_plan 13 (BelM W) rfl ?_
    refine wpN_pure [1, 2, 3, 5, 7, 9, 14] (by kernel_rfl) (by kernel_rfl) (by kernel_rfl) (fun _ _ _ _ _ h => h) (fun _ => S0) ?_
    simp only [pick, List.map_cons, List.map_nil, List.getElem?_cons_succ, List.getElem?_cons_zero, Option.getD_some]
    repeat (go_big_quiet_step (fail))
    refine wpQuiet_nil ?_
    refine wpN_seg [4, 6, 8, 10, 11, 12] (by kernel_rfl) (by kernel_rfl) (by kernel_rfl) (by kernel_rfl) (by decide) (fun _ _ _ _ _ h => h) S0 ?_
    simp only [pick, List.map_cons, List.map_nil, List.getElem?_cons_succ, List.getElem?_cons_zero, Option.getD_some]
    repeat (go_big_quiet_step (fail))
    refine wpQuiet_nil ?_
    rw [show p + n - p = n by omega]
    generalize (if N = p then (some ⟨g, 0, none⟩ : Option Addr) else some ⟨g, p, none⟩) = A at *
    generalize N - p = C at *
    clear e6 e1 e2 ne
    refine wpN_one 0 _ (by kernel_rfl) rfl ?_
    refine NextAt.held ?_
    intro K hK
    go_simp
    have AZ : ((W.alloc (.cells #[] 5)).drew).heap[W.heap.size]? = _ := heap_alloc_new W (.cells #[] 5)
    have BZ : BelM W ((W.alloc (.cells #[] 5)).drew) := ((Below.refl _ _).alloc (Nat.le_refl _) _).drew
    refine hK _ _ BZ ?_
    clear hK K
    obtain ⟨v, w9, hrun, hrow, hb9⟩ := RUN.out _ W.heap.size AZ HB2.out.size (HB2.out.trans (BZ.mono HB2.out.size))
    refine wpN_one 13 _ (by kernel_rfl) rfl ?_
    refine NextAt.free (by kernel_rfl) ?_
    intro K hK
    refine step_append_known rfl (.tmp 14) (.tmp 26) 38 rfl _ _ _ (by rfl) (by rfl) hrun ?_
    go_simp
    refine hK _ _ ?_
    clear hK K
    refine wpN_pure [15, 16] (by kernel_rfl) (by kernel_rfl) (by kernel_rfl) (fun _ _ _ _ _ h => h) (fun h => by cases h) ?_
    simp only [pick, List.map_cons, List.map_nil, List.getElem?_cons_succ, List.getElem?_cons_zero, Option.getD_some]
    repeat (go_big_quiet_step (fail))
    refine wpQuiet_nil ?_
    refine wpN_done (by kernel_rfl) ?_
    have FF := Lib.hid (FIN.out _ _ hb9 hrow)
    clear hrun hrow hb9 S0 AZ BZ
    go_wp2_with fail
    go_ret2
    exact FF.out

end
end Go.Proofs.YtjogaohnphafgaaGreat

namespace Go.Proofs.YtjogaohnphafgaaGreat
section
open Go.RowKit
set_option linter.unusedVariables false

/-- x on its way down to its place k. -/
def InsI (old : List Blk) (x : Blk) (k : Nat) (l : List Blk) : Prop := ∃ P Q, l = P ++ x :: Q ∧ P ++ Q = old ∧ P.length = k ∧ ∀ q ∈ Q, x.at' < q.at'
theorem InsI.start (old : List Blk) (x : Blk) : InsI old x old.length (old ++ [x]) := ⟨old, [], rfl, List.append_nil _, rfl, by simp⟩
theorem InsI.here {old : List Blk} {x : Blk} {k : Nat} {l : List Blk} (h : InsI old x k l) : l[k]? = some x ∧ l.length = old.length + 1 := by
  obtain ⟨P, Q, rfl, rfl, rfl, _⟩ := h
  simp
  omega
theorem InsI.step {old : List Blk} {x y : Blk} {k : Nat} {l : List Blk} (h : InsI old x (k + 1) l) (hy : l[k]? = some y) (hlt : x.at' < y.at') : InsI old x k ((l.set (k + 1) y).set k x) := by
  obtain ⟨P, Q, rfl, rfl, hk, hq⟩ := h
  rcases List.eq_nil_or_concat P with rfl | ⟨P', z, rfl⟩
  · simp at hk
  · rw [List.concat_eq_append] at *
    have hk' : P'.length = k := by simp at hk; exact hk
    subst hk'
    have hz : z = y := by simpa using hy
    subst hz
    refine ⟨P', z :: Q, ?_, by simp, rfl, ?_⟩
    · simp
    · intro q hq'
      rcases List.mem_cons.1 hq' with rfl | h'
      · exact hlt
      · exact hq q h'
theorem InsI.done {old : List Blk} {x : Blk} {k : Nat} {l : List Blk} (h : InsI old x k l) (hs : old.Pairwise (fun a b => a.at' ≤ b.at')) (he : k = 0 ∨ ∃ y, l[k - 1]? = some y ∧ ¬ x.at' < y.at') : l.Pairwise (fun a b => a.at' ≤ b.at') ∧ l.Perm (old ++ [x]) := by
  obtain ⟨P, Q, rfl, rfl, hk, hq⟩ := h
  obtain ⟨s1, s2, s3⟩ := List.pairwise_append.1 hs
  refine ⟨List.pairwise_append.2 ⟨s1, List.pairwise_cons.2 ⟨fun q h => Nat.le_of_lt (hq q h), s2⟩, fun a ha b hb => ?_⟩, ?_⟩
  · have hax : a.at' ≤ x.at' := by
      rcases List.eq_nil_or_concat P with rfl | ⟨P', z, rfl⟩
      · simp at ha
      · rw [List.concat_eq_append] at *
        have hz : z.at' ≤ x.at' := by
          rcases he with h0 | ⟨y, hy, hny⟩
          · rw [h0] at hk; simp at hk
          · rw [← hk] at hy
            simp at hy
            subst hy
            omega
        rcases List.mem_append.1 ha with h' | h'
        · have := (List.pairwise_append.1 s1).2.2 a h' z (by simp)
          omega
        · rw [List.mem_singleton.1 h']; exact hz
    rcases List.mem_cons.1 hb with rfl | h'
    · exact hax
    · exact s3 a ha b h'
  · rw [List.append_assoc]
    exact List.Perm.append_left P (List.perm_append_singleton x Q).symm

/-- Three cells of a row written. -/
def put3 (w : World) (g o : Nat) (x : Blk) : World := ((w.setCell ⟨g, o, none⟩ (.int .i64 (x.h : Int))).setCell ⟨g, o + 1, none⟩ (.int .i64 (x.at' : Int))).setCell ⟨g, o + 2, none⟩ (.int .i64 (x.len : Int))
theorem put3_row {w : World} {B g n cap k : Nat} {l : List Blk} {x : Blk} (h : w.ownsRow B 78 3 (.slice (some ⟨g, 0, none⟩) n cap) n (l.flatMap Blk.cells)) (hk : k < l.length) :
    (put3 w g (k * 3) x).ownsRow B 78 3 (.slice (some ⟨g, 0, none⟩) n cap) n ((l.set k x).flatMap Blk.cells) := by
  obtain ⟨y, hy⟩ : ∃ y, l[k]? = some y := ⟨_, List.getElem?_eq_getElem hk⟩
  obtain ⟨yh, ya, yl⟩ := y
  obtain ⟨xh, xa, xl⟩ := x
  have h1 := wrow_set h (k * 3) (.int .i64 (xh : Int))
  rw [show k * 3 = k * 3 + 0 from rfl, blk_flat_set (y := ⟨xh, ya, yl⟩) hy (by decide) rfl] at h1
  have y1 : (l.set k ⟨xh, ya, yl⟩)[k]? = some ⟨xh, ya, yl⟩ := by simp [hk]
  have h2 := wrow_set h1 (k * 3 + 1) (.int .i64 (xa : Int))
  rw [blk_flat_set (y := ⟨xh, xa, yl⟩) y1 (by decide) rfl, List.set_set] at h2
  have y2 : (l.set k ⟨xh, xa, yl⟩)[k]? = some ⟨xh, xa, yl⟩ := by simp [hk]
  have h3 := wrow_set h2 (k * 3 + 2) (.int .i64 (xl : Int))
  rw [blk_flat_set (y := ⟨xh, xa, xl⟩) y2 (by decide) rfl, List.set_set] at h3
  exact h3
theorem put3_below {w W : World} {B g : Nat} (h : Below B w W) (hg : B ≤ g) (o : Nat) (x : Blk) : Below B w (put3 W g o x) := below3p h hg
where
  below3p {w W : World} {B g : Nat} (h : Below B w W) (hg : B ≤ g) {o : Nat} {x : Blk} : Below B w (put3 W g o x) :=
    ((h.setCell (p := ⟨g, o, none⟩) hg _).setCell (p := ⟨g, o + 1, none⟩) hg _).setCell (p := ⟨g, o + 2, none⟩) hg _
theorem lieL_take {l : List Blk} {i : Nat} {x : Blk} (hx : l[i]? = some x) : lieL (l.take (i + 1)) = lieL (l.take i) ++ (if x.len = 0 then [] else [x]) := by
  unfold lieL
  rw [List.take_add_one, hx, List.filter_append]
  by_cases h : x.len = 0 <;> simp [h]

theorem rowB_cells {w : World} {B g n c i : Nat} {l : List Blk} {x : Blk} (h : w.ownsRow B 78 3 (.slice (some ⟨g, 0, none⟩) n c) n (l.flatMap Blk.cells)) (hx : l[i]? = some x) :
    w.cell? ⟨g, i * 3, none⟩ = some (.int .i64 (x.h : Int)) ∧ w.cell? ⟨g, i * 3 + 1, none⟩ = some (.int .i64 (x.at' : Int)) ∧ w.cell? ⟨g, i * 3 + 2, none⟩ = some (.int .i64 (x.len : Int)) ∧ ∀ j, w.frozen? ⟨g, j, none⟩ = false := by
  have key : ∀ r (u : Value), r < 3 → x.cells[r]? = some u → w.cell? ⟨g, i * 3 + r, none⟩ = some u := fun r u hr hu => by
    obtain ⟨g', e, h1, _⟩ := wrow_cell h (j := i * 3 + r) (u := u) (by rw [blk_get l i r x hx hr]; exact hu)
    cases e
    exact h1
  obtain ⟨cur, hc⟩ := row_block h (k := g) (by simp [Value.ownBlock])
  exact ⟨key 0 _ (by decide) rfl, key 1 _ (by decide) rfl, key 2 _ (by decide) rfl, fun j => free_of hc _⟩

def LyPost (S : HpSt) (w : World) : Ending → World → Prop := fun e w' => ∃ v L, e = .returned v ∧ SortedL (lieL S.bl) L ∧ w'.ownsRow w.heap.size 78 3 v L.length (L.flatMap Blk.cells) ∧ Below w.heap.size w w'

set_option maxHeartbeats 4000000 in
set_option maxRecDepth 100000 in
theorem lyingR_any {w : World} {F : Nat → Prop} {rp pp M : Nat} {S : HpSt} {kept : List (List Blk)} {vm vb vk : Value} {vks : List Value} (m : RfMem w F rp pp M S kept vm vb vk vks) :
    Calls Tryz.prog 92 #[.pointer (some ⟨rp, 0, none⟩)] w (LyPost S w) := by
  obtain ⟨i0, hi0, hz0, hz1, hz2⟩ := info_parts infoBlk
  have c7 := m.cells.2.2.2.2.2.2.2.1
  have HM := Lib.hid m
  obtain ⟨N, hN⟩ : ∃ N, S.bl.length = N := ⟨_, rfl⟩
  have HN := Lib.hid hN
  have hfew := m.big.2.1
  obtain ⟨a, cap, hvb, _⟩ := m.row.1.sh
  have HVB := Lib.hid hvb
  rw [hvb, hN] at c7
  rw [hN] at hfew
  have mixed : Tryz.prog.follows .mixedOrders = true := by kernel_rfl
  clear m hN hvb
  go_enter Tryz.func92, Tryz.ntmps92
  go_wp2_with fail
  go_loopw [3, 12] (fun v i wr => ∃ (k : Nat) (L : List Blk), k ≤ N ∧ i = .int .i64 (k : Int) ∧ SortedL (lieL (S.bl.take k)) L ∧ wr.ownsRow w.heap.size 78 3 v L.length (L.flatMap Blk.cells) ∧ L.length ≤ k ∧ Below w.heap.size w wr) (fun _ i _ => N - (intOf i).toNat)
  case atStart => exact ⟨0, [], Nat.zero_le _, rfl, ⟨by simp [lieL], List.Pairwise.nil⟩, World.ownsRow_nil _ _ _ _, Nat.zero_le _, Below.refl _ _⟩
  case round =>
    obtain ⟨k, L, hk, rfl, hs, hrow, hLk, hb⟩ := hrel
    by_cases hlt : k < N
    · obtain ⟨x, hx⟩ : ∃ x, S.bl[k]? = some x := ⟨_, List.getElem?_eq_getElem (by have := HN.out; omega)⟩
      obtain ⟨g, off, cap2, hv2, d0, d1, d2, _⟩ := oblk_cells HM.out.row.1 hx
      have hv3 := HVB.out
      rw [hv2] at hv3
      simp only [Value.slice.injEq] at hv3
      obtain ⟨rfl, k6, rfl⟩ := hv3
      clear k6
      have d0 := old_cell hb d0
      have d1 := old_cell hb d1
      have d2 := old_cell hb d2
      have LT := Lib.hid (lieL_take hx)
      have B1 := hb.alloc hb.size (.cells #[.int .i64 (x.h : Int), .int .i64 (x.at' : Int), .int .i64 (x.len : Int)] 78)
      have HB1 := Lib.hid B1
      have HS := Lib.hid hs
      have hrow1 := row_kept hrow (show Below wr.heap.size wr (wr.alloc (.cells #[.int .i64 (x.h : Int), .int .i64 (x.at' : Int), .int .i64 (x.len : Int)] 78)) from (Below.refl _ _).alloc (Nat.le_refl _) _)
      have HR1 := Lib.hid hrow1
      clear hx hv2 hs hrow hb B1 hrow1
      by_cases hz : x.len = 0
      · have hz' : ((x.len : Int) == 0) = true := by rw [hz]; rfl
        have lt := LT.out
        rw [if_pos hz, List.append_nil] at lt
        have LT := Lib.hid lt
        clear lt hz
        go_wp2_with fail
        go_roundw
        case measure => simp only [intOf]; omega
        case rel => exact ⟨k + 1, L, by omega, by go_num, by rw [LT.out]; exact HS.out, HR1.out, by omega, HB1.out⟩
      · have hz' : ((x.len : Int) == 0) = false := beq_eq_false_iff_ne.2 (by omega)
        have lt := LT.out
        rw [if_neg hz] at lt
        have LT := Lib.hid lt
        clear lt hz
        obtain ⟨n, hn⟩ : ∃ n, L.length = n := ⟨_, rfl⟩
        have Hn := Lib.hid hn
        rw [hn] at HR1 hLk
        obtain ⟨va, vc, hv⟩ := wrow_sh HR1.out
        subst hv
        clear hn
        have szB := HB1.out.size
        go_wp2_with (at_builtin; go_must (refine wpList_append_w rfl (.tmp 19) (.tmp 21) 39 rfl w.heap.size 78 i0 (.agg #[.int .i64 0, .int .i64 0, .int .i64 0]) 3 24 Tryz.underlying39 hi0 hz0 hz1 hz2 rfl (by decide) _ _ _ (wr.alloc (.cells #[.int .i64 (x.h : Int), .int .i64 (x.at' : Int), .int .i64 (x.len : Int)] 78)) _ [.int .i64 (x.h : Int), .int .i64 (x.at' : Int), .int .i64 (x.len : Int)] rfl (by exact HR1.out) (by simp [Act.eval]) rfl (by intro u hu; simp at hu; rcases hu with rfl | rfl | rfl <;> rfl) (by unfold maxLen; omega) (by omega) szB ?_))
        intro v' w' hown' hgr hb'
        obtain ⟨gg, cc, hv, hgg⟩ : ∃ gg cc, v' = .slice (some ⟨gg, 0, none⟩) (n + 1) cc ∧ w.heap.size ≤ gg := by
          rcases hown'.2 with ⟨_, h0⟩ | ⟨gg, cc, cur, hv, hgB, _⟩
          · omega
          · exact ⟨gg, cc, hv, hgB⟩
        subst hv
        have OWN : Hid (w'.ownsRow w.heap.size 78 3 (.slice (some ⟨gg, 0, none⟩) (n + 1) cc) (n + 1) ((L ++ [x]).flatMap Blk.cells)) := Lib.hid (by
          rw [List.flatMap_append]
          exact hown')
        have BB := Lib.hid (HB1.out.trans hb')
        have IS : Hid (InsI L x n (L ++ [x])) := Lib.hid (by have := InsI.start L x; rwa [Hn.out] at this)
        have DONE : Hid (∀ (j : Nat) (l : List Blk), InsI L x j l → (j = 0 ∨ ∃ y, l[j - 1]? = some y ∧ ¬ x.at' < y.at') → SortedL (lieL (S.bl.take (k + 1))) l ∧ l.length = n + 1) := Lib.hid (fun j l hi he => by
          obtain ⟨h1, h2⟩ := hi.done HS.out.2 he
          refine ⟨⟨?_, h1⟩, by rw [hi.here.2, Hn.out]⟩
          rw [LT.out]
          exact h2.trans (HS.out.1.append_right [x]))
        clear hown' hgr hb' HR1 HB1 szB d0 d1 d2
        go_wp2_with fail
        go_loopw [6] (fun v wr => ∃ (j : Nat) (l : List Blk), v = .int .i64 (j : Int) ∧ j ≤ n ∧ InsI L x j l ∧ wr.ownsRow w.heap.size 78 3 (.slice (some ⟨gg, 0, none⟩) (n + 1) cc) (n + 1) (l.flatMap Blk.cells) ∧ Below w.heap.size w wr) (fun v _ => (intOf v).toNat)
        case atStart => exact ⟨n, L ++ [x], by go_num, Nat.le_refl _, IS.out, OWN.out, BB.out⟩
        case round =>
          obtain ⟨j, l, rfl, hj, hi, hrow, hb⟩ := hrel
          obtain ⟨hxj, hll⟩ := hi.here
          rw [Hn.out] at hll
          have HI := Lib.hid hi
          have HROW := Lib.hid hrow
          have HB := Lib.hid hb
          cases j with
          | zero =>
            have DN := Lib.hid (DONE.out 0 l hi (Or.inl rfl))
            clear hi hrow hb hxj
            go_upto_region 8 with fail
            go_quiet (fail)
            go_wp2_with fail
            go_roundw
            case measure => simp only [intOf]; omega
            case rel => exact ⟨k + 1, l, by omega, by go_num, DN.out.1, by rw [DN.out.2]; exact HROW.out, by rw [DN.out.2]; omega, bdrewN HB.out _⟩
          | succ j =>
            obtain ⟨y, hy⟩ : ∃ y, l[j]? = some y := ⟨_, List.getElem?_eq_getElem (by omega)⟩
            obtain ⟨x0, x1, x2, fz⟩ := rowB_cells hrow hxj
            obtain ⟨y0, y1, y2, _⟩ := rowB_cells hrow hy
            by_cases hgo : x.at' < y.at'
            · have hgo' : (x.at' : Int) < (y.at' : Int) := by omega
              have NX := Lib.hid (hi.step hy hgo)
              have HY1 := Lib.hid hy
              have HX1 := Lib.hid hxj
              clear hi hrow hb hxj hgo hy
              go_upto_region 8 with fail
              go_quiet (fail)
              go_upto_region 10 with fail
              have RW : Hid ((wr.drewN nq).ownsRow w.heap.size 78 3 (.slice (some ⟨gg, 0, none⟩) (n + 1) cc) (n + 1) (l.flatMap Blk.cells)) := Lib.hid (row_kept HROW.out (bdrewN (Below.refl _ _) nq))
              have BW := Lib.hid (bdrewN HB.out nq)
              generalize wr.drewN nq = W at *
              have HY : Hid (l[j]? = some y) := HY1
              have HX : Hid (l[j + 1]? = some x) := HX1
              obtain ⟨c0, c1, c2, f⟩ := rowB_cells RW.out HY.out
              obtain ⟨e0, e1, e2, _⟩ := rowB_cells RW.out HX.out
              have RD : Hid (W.drew.ownsRow w.heap.size 78 3 (.slice (some ⟨gg, 0, none⟩) (n + 1) cc) (n + 1) (l.flatMap Blk.cells)) := Lib.hid (row_kept RW.out (Below.refl _ _).drew)
              have R1 := Lib.hid (put3_row (k := j + 1) (x := y) RD.out (by omega))
              have B1 := Lib.hid (put3_below BW.out.drew hgg ((j + 1) * 3) y)
              obtain ⟨q0, q1, q2, k0⟩ := rowB_cells (i := j) (x := y) R1.out (by rw [List.getElem?_set_ne (by omega)]; exact HY.out)
              have R2 := Lib.hid (put3_row (k := j) (x := x) R1.out (by rw [List.length_set]; omega))
              have B2 := Lib.hid (put3_below B1.out hgg (j * 3) x)
              have zp1 : (((j + 1 : Nat)) : Int) < ((n : Int) + 1) := by omega
              have zp2 : ((j : Nat) : Int) < ((n : Int) + 1) := by omega
              have S0 : (fun y : World => y = W.drew) W.drew := rfl
              have b0 : ∀ z : WIn (fun y : World => y = W.drew), z.w.cell? ⟨gg, j * 3, none⟩ = some (.int .i64 (y.h : Int)) := fun z => by rw [z.h]; exact c0
              have b1 : ∀ z : WIn (fun y : World => y = W.drew), z.w.cell? ⟨gg, j * 3 + 1, none⟩ = some (.int .i64 (y.at' : Int)) := fun z => by rw [z.h]; exact c1
              have b2 : ∀ z : WIn (fun y : World => y = W.drew), z.w.cell? ⟨gg, j * 3 + 2, none⟩ = some (.int .i64 (y.len : Int)) := fun z => by rw [z.h]; exact c2
              have a0 : ∀ z : WIn (fun y : World => y = W.drew), z.w.cell? ⟨gg, (j + 1) * 3, none⟩ = some (.int .i64 (x.h : Int)) := fun z => by rw [z.h]; exact e0
              have a1 : ∀ z : WIn (fun y : World => y = W.drew), z.w.cell? ⟨gg, (j + 1) * 3 + 1, none⟩ = some (.int .i64 (x.at' : Int)) := fun z => by rw [z.h]; exact e1
              have a2 : ∀ z : WIn (fun y : World => y = W.drew), z.w.cell? ⟨gg, (j + 1) * 3 + 2, none⟩ = some (.int .i64 (x.len : Int)) := fun z => by rw [z.h]; exact e2
              haveI ne : Nonempty (WIn (fun y : World => y = W.drew)) := ⟨⟨W.drew, S0⟩⟩
              have f0 := f ((j + 1) * 3)
              have f1 := f ((j + 1) * 3 + 1)
              have f2 := f ((j + 1) * 3 + 2)
              have k1 := k0 (j * 3)
              have k2 := k0 (j * 3 + 1)
              have k3 := k0 (j * 3 + 2)
              clear f k0
              refine wp_normal ?_
              refine wp_region_plan 15 (fun y : World => y = W.drew) rfl ?_
              refine wpN_pure [0, 1, 2, 3, 4, 5, 6, 7, 8, 10, 11, 12] (by kernel_rfl) (by kernel_rfl) (by kernel_rfl) (fun _ _ _ _ _ h => h) (fun _ => S0) ?_
              simp only [pick, List.map_cons, List.map_nil, List.getElem?_cons_succ, List.getElem?_cons_zero, Option.getD_some]
              repeat (go_big_quiet_step (fail))
              refine wpQuiet_nil ?_
              refine wpN_segX [9, 13, 15] [9, 13] (by kernel_rfl) (by kernel_rfl) (by kernel_rfl) (by kernel_rfl) (by decide) (fun _ _ _ _ _ h => h) S0 ?_
              simp only [pick, List.map_cons, List.map_nil, List.getElem?_cons_succ, List.getElem?_cons_zero, Option.getD_some]
              repeat (go_big_quiet_step (fail))
              refine wpQuiet_nil ?_
              clear b0 b1 b2 a0 a1 a2 ne
              refine wpN_pure [14] (by kernel_rfl) (by kernel_rfl) (by kernel_rfl) (fun _ _ _ _ _ h => h) (fun _ => S0) ?_
              simp only [pick, List.map_cons, List.map_nil, List.getElem?_cons_succ, List.getElem?_cons_zero, Option.getD_some]
              repeat (go_big_quiet_step (fail))
              refine wpQuiet_nil ?_
              refine wpN_one 15 _ (by kernel_rfl) rfl ?_
              refine NextAt.free (by kernel_rfl) ?_
              intro K hK
              go_simp
              refine hK _ _ ?_
              clear hK K
              have eX : put3 W.drew gg ((j + 1) * 3) y = (((W.setCell ⟨gg, (j + 1) * 3, none⟩ (.int .i64 (y.h : Int))).setCell ⟨gg, (j + 1) * 3 + 1, none⟩ (.int .i64 (y.at' : Int))).setCell ⟨gg, (j + 1) * 3 + 2, none⟩ (.int .i64 (y.len : Int))).drew := rfl
              rw [← eX]
              clear eX
              generalize put3 W.drew gg ((j + 1) * 3) y = W1 at *
              clear S0 c0 c1 c2 e0 e1 e2 f0 f1 f2
              refine wpN_pure [16] (by kernel_rfl) (by kernel_rfl) (by kernel_rfl) (fun _ _ _ _ _ h => h) (fun h => by cases h) ?_
              simp only [pick, List.map_cons, List.map_nil, List.getElem?_cons_succ, List.getElem?_cons_zero, Option.getD_some]
              repeat (go_big_quiet_step (fail))
              refine wpQuiet_nil ?_
              refine wpN_one 17 _ (by kernel_rfl) rfl ?_
              refine NextAt.free (by kernel_rfl) ?_
              intro K hK
              go_simp
              refine hK _ _ ?_
              clear hK K
              refine wpN_done (by kernel_rfl) ?_
              have eX : put3 W1 gg (j * 3) x = ((W1.setCell ⟨gg, j * 3, none⟩ (.int .i64 (x.h : Int))).setCell ⟨gg, j * 3 + 1, none⟩ (.int .i64 (x.at' : Int))).setCell ⟨gg, j * 3 + 2, none⟩ (.int .i64 (x.len : Int)) := rfl
              rw [← eX]
              clear eX
              generalize put3 W1 gg (j * 3) x = W2 at *
              clear q0 q1 q2 k1 k2 k3
              go_wp2_with fail
              go_roundw
              case measure => simp only [intOf]; omega
              case rel => exact ⟨j, _, by go_num, by omega, NX.out, R2.out, B2.out⟩
            · have hgo' : ¬ (x.at' : Int) < (y.at' : Int) := by omega
              have DN := Lib.hid (DONE.out (j + 1) l hi (Or.inr ⟨y, hy, hgo⟩))
              clear hi hrow hb hxj hgo hy
              go_upto_region 8 with fail
              go_quiet (fail)
              go_wp2_with fail
              go_roundw
              case measure => simp only [intOf]; omega
              case rel => exact ⟨k + 1, l, by omega, by go_num, DN.out.1, by rw [DN.out.2]; exact HROW.out, by rw [DN.out.2]; omega, bdrewN HB.out _⟩
    · obtain rfl : k = N := by omega
      have ek : S.bl.take k = S.bl := List.take_of_length_le (by have := HN.out; omega)
      rw [ek] at hs
      have FIN : Hid (LyPost S w (.returned u3) wr) := Lib.hid ⟨u3, L, rfl, hs, hrow, hb⟩
      clear hs hrow hb ek
      go_wp2_with fail
      go_ret
      exact FIN.out

end
end Go.Proofs.YtjogaohnphafgaaGreat
