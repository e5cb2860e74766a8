/-
  slices.Chunk of octets: what it hands on. Conditions: numbers in their bounds.
-/
import Derived.RangeFuncNested
import Derived.RangeFuncBound
import Derived.RangeFuncCalls
import Derived.RangeFuncLeaves
import Derived.Shelf.Abstract
import Derived.Shelf.RegionOpen
import Derived.WalkKit
import Derived.OwnWalkIn
import Derived.TacticsInMore
import Derived.LoopNIn
import Derived.LoopIn
import Derived.Test.YtbndknbjjdoanaaTopSharedPaq
import Derived.Test.YtbndknbjjdoanaaTopSharedPah
namespace Go.Proofs.Ytbndknbjjdoanaa
open Go.RowKit Go.Shelf
attribute [local go_sem] Oper.semAt_some
set_option linter.unusedVariables false

/-- A round leaves the iterator's two boxes as they were. -/
def KpC (Bs Bn : Nat) (W W' : World) : Prop := W'.heap[Bs]? = W.heap[Bs]? ∧ W'.heap[Bn]? = W.heap[Bn]?
def chunkPart (b off N size j : Nat) : Value := .slice (some ⟨b, off + j * size, none⟩) (min size (N - j * size)) (min size (N - j * size))

set_option maxHeartbeats 2000000 in
set_option maxRecDepth 100000 in
theorem chunk1_in (n : Nat) (hn : 1 ≤ n) (l Bs Bn b off N cap size M : Nat) (hs1 : 1 ≤ size) (hs2 : size ≤ 100000) (hN : N ≤ 1000000) (hcap : N ≤ cap) (hcap2 : cap ≤ 9223372036854775807)
    (hM : N ≤ M * size) (hM2 : ∀ k, k < M → k * size < N) (J Jx : List Nat → World → Prop) (hJ : ∀ pre A q, J pre A → J pre (A.drewN q))
    (hY : ∀ pre x W, J pre W → pre.length < M → YieldAt Fence.wide (n - 1) Try.prog l #[chunkPart b off N size x] W fun e W' =>
      (e = .returned (.bool true) ∧ J (pre ++ [x]) W' ∧ KpC Bs Bn W W') ∨ (e = .returned (.bool false) ∧ Jx (pre ++ [x]) W'))
    (W : World) (hBs : W.heap[Bs]? = some (.cells #[.slice (some ⟨b, off, none⟩) N cap] 22 (0, 0))) (hBn : W.heap[Bn]? = some (.cells #[.int .i64 size] 3 (0, 0))) (h0 : J [] W) :
    CallsIn Fence.wide n Try.prog 72 #[.func (.yield l) #[] #[], .pointer (some ⟨Bs, 0, none⟩), .pointer (some ⟨Bn, 0, none⟩)] W fun e W' => (∃ v, e = .returned v) ∧
      ((∃ ys, ys = List.range M ∧ J ys W') ∨ (∃ pre, (∃ k, k ≤ M ∧ pre = List.range k) ∧ Jx pre W')) := by
  refine callsIn_of_wp Try.func72 rfl trivial ?_ rfl
  simp only [Try.ntmps72, List.size_toArray, List.length_cons, List.length_nil, Nat.reduceAdd, Nat.reduceSub, Array.replicate_succ, Array.replicate_zero, List.push_toArray, List.append_toArray, List.nil_append, List.cons_append]
  gi_wp2
  gi_loopw [4, 5] (fun i _ wr => ∃ k : Nat, k ≤ M ∧ i = .int .i64 (k * size : Nat) ∧ J (List.range k) wr ∧ KpC Bs Bn W wr) (fun i _ _ => M * size - (intOf i).toNat)
  case atStart => exact ⟨0, Nat.zero_le _, by simp, h0, rfl, rfl⟩
  case round =>
    obtain ⟨k, hk, rfl, hJs, hk1, hk2⟩ := hrel
    have cs : wr.cell? ⟨Bs, 0, none⟩ = some (.slice (some ⟨b, off, none⟩) N cap) := by rw [cell_of (hk1.trans hBs)]; rfl
    have cn : wr.cell? ⟨Bn, 0, none⟩ = some (.int .i64 size) := by rw [cell_of (hk2.trans hBn)]; rfl
    have HK := Lib.hid (And.intro hk1 hk2)
    have HN2 := Lib.hid hM2
    have HM1 := Lib.hid hM
    by_cases hlt : k < M
    · have hP := hM2 k hlt
      have eP : (k + 1) * size = k * size + size := Nat.succ_mul _ _
      have hle : (k + 1) * size ≤ M * size := Nat.mul_le_mul_right _ hlt
      have HY2 := fun q => hY _ k (wr.drewN q) (hJ _ _ q hJs) (by rw [List.length_range]; exact hlt)
      unfold chunkPart at HY2
      rw [eP] at hle
      have HLE := Lib.hid hle
      have HEP := Lib.hid eP
      clear hM hM2 hk1 hk2 hle eP hY
      generalize hPP : k * size = P at *
      by_cases hA : size ≤ N - P
      · have hMIN : min size (N - P) = size := Nat.min_eq_left hA
        gi_wp2
        gi_quiet (fail)
        obtain ⟨fn, tmps, assign, body, hy, hR⟩ := HY2 nq
        rw [hMIN] at hy
        gi_wp2
        refine hR.mono ?_
        rintro e W3 (⟨rfl, hJ3, hk3⟩ | ⟨rfl, hJx3⟩)
        · have k3 : KpC Bs Bn W W3 := ⟨hk3.1.trans HK.out.1, hk3.2.trans HK.out.2⟩
          have cn3 : W3.cell? ⟨Bn, 0, none⟩ = some (.int .i64 size) := by rw [cell_of (k3.2.trans hBn)]; rfl
          gi_wp2
          go_roundw
          case rel => exact ⟨k + 1, by omega, by rw [HEP.out]; simp, by rw [List.range_succ]; exact hJ3, k3⟩
          case measure => have := HLE.out; simp [intOf]; omega
        · gi_wp2
          refine bodyPost_ret (results_none rfl _ _ _) rfl ?_
          exact ⟨⟨_, rfl⟩, .inr ⟨_, ⟨k + 1, by omega, (List.range_succ).symm⟩, hJx3⟩⟩
      · have hMIN : min size (N - P) = N - P := Nat.min_eq_right (by omega)
        gi_wp2
        gi_quiet (fail)
        obtain ⟨fn, tmps, assign, body, hy, hR⟩ := HY2 nq
        rw [hMIN] at hy
        gi_wp2
        refine hR.mono ?_
        rintro e W3 (⟨rfl, hJ3, hk3⟩ | ⟨rfl, hJx3⟩)
        · have k3 : KpC Bs Bn W W3 := ⟨hk3.1.trans HK.out.1, hk3.2.trans HK.out.2⟩
          have cn3 : W3.cell? ⟨Bn, 0, none⟩ = some (.int .i64 size) := by rw [cell_of (k3.2.trans hBn)]; rfl
          gi_wp2
          go_roundw
          case rel => exact ⟨k + 1, by omega, by rw [HEP.out]; simp, by rw [List.range_succ]; exact hJ3, k3⟩
          case measure => have := HLE.out; simp [intOf]; omega
        · gi_wp2
          refine bodyPost_ret (results_none rfl _ _ _) rfl ?_
          exact ⟨⟨_, rfl⟩, .inr ⟨_, ⟨k + 1, by omega, (List.range_succ).symm⟩, hJx3⟩⟩
    · obtain rfl : k = M := by omega
      gi_wp2
      go_end0
      exact ⟨⟨_, rfl⟩, .inl ⟨_, rfl, hJs⟩⟩

set_option maxRecDepth 100000 in
theorem chunkMk_any (a : Option Addr) (N cap size : Nat) (w : World) (h : 1 ≤ size) :
    Calls Try.prog 61 #[.slice a N cap, .int .i64 size] w (fun e w' => e = .returned (.func (.func 72) #[] #[.pointer (some ⟨w.heap.size, 0, none⟩), .pointer (some ⟨w.heap.size + 1, 0, none⟩)]) ∧
      w' = (w.alloc (.cells #[.slice a N cap] 22)).alloc (.cells #[.int .i64 size] 3)) := by
  go_enter Try.func61, Try.ntmps61
  go_wp2_with fail
  go_ret
  exact ⟨by simp, rfl⟩

/-- An empty slice has no parts. -/
theorem chunk0_in (n : Nat) (l Bs Bn : Nat) (a : Option Addr) (cap size : Nat) (hs1 : 1 ≤ size) (J : List Nat → World → Prop)
    (W : World) (hBs : W.heap[Bs]? = some (.cells #[.slice a 0 cap] 22 (0, 0))) (h0 : J [] W) :
    CallsIn Fence.wide n Try.prog 72 #[.func (.yield l) #[] #[], .pointer (some ⟨Bs, 0, none⟩), .pointer (some ⟨Bn, 0, none⟩)] W fun e W' => (∃ v, e = .returned v) ∧ J [] W' := by
  have cs : W.cell? ⟨Bs, 0, none⟩ = some (.slice a 0 cap) := by rw [cell_of hBs]; rfl
  refine callsIn_of_wp Try.func72 rfl trivial ?_ rfl
  simp only [Try.ntmps72, List.size_toArray, List.length_cons, List.length_nil, Nat.reduceAdd, Nat.reduceSub, Array.replicate_succ, Array.replicate_zero, List.push_toArray, List.append_toArray, List.nil_append, List.cons_append]
  gi_wp2
  gi_loopw [4, 5] (fun i _ wr => i = .int .i64 0 ∧ wr = W) (fun _ _ _ => 0)
  case atStart => exact ⟨rfl, rfl⟩
  case round =>
    obtain ⟨rfl, rfl⟩ := hrel
    gi_wp2
    go_end0
    exact ⟨⟨_, rfl⟩, h0⟩

theorem grown_drewN (w : World) (q : Nat) : w.grownBy (w.drewN q) none := ⟨rfl, rfl, rfl, Nat.le_refl _, fun _ _ _ => rfl⟩

/-- How the parts of N octets are counted. -/
def Parts' (N size M : Nat) : Prop := N ≤ M * size ∧ ∀ k, k < M → k * size < N

theorem chunk_stops (n : Nat) (hn : 1 ≤ n) (Bs Bn b off N cap size M : Nat) (hs1 : 1 ≤ size) (hs2 : size ≤ 100000) (hN : N ≤ 1000000) (hcap : N ≤ cap) (hcap2 : cap ≤ 9223372036854775807) (hM : Parts' N size M)
    (w : World) (hBs : w.heap[Bs]? = some (.cells #[.slice (some ⟨b, off, none⟩) N cap] 22 (0, 0))) (hBn : w.heap[Bn]? = some (.cells #[.int .i64 size] 3 (0, 0))) :
    SeqStopsK Fence.wide n Try.prog 72 #[.pointer (some ⟨Bs, 0, none⟩), .pointer (some ⟨Bn, 0, none⟩)] (fun j : Nat => #[chunkPart b off N size j]) (KpC Bs Bn)
      (fun ys => ys = List.range M) (fun pre => ∃ k, k ≤ M ∧ pre = List.range k) M w := fun l J Jx W hW hJ _ hY h0 => by
  have hs := (hW.block Bs (lt_of hBs)).trans hBs
  have hb := (hW.block Bn (lt_of hBn)).trans hBn
  exact chunk1_in n hn l Bs Bn b off N cap size M hs1 hs2 hN hcap hcap2 hM.1 hM.2 J Jx (fun pre A q h => hJ pre A (A.drewN q) none h (grown_drewN A q) (by simp)) hY W hs hb h0
theorem chunk_stops0 (n : Nat) (Bs Bn b off cap size : Nat) (a : Option Addr) (hs1 : 1 ≤ size)
    (w : World) (hBs : w.heap[Bs]? = some (.cells #[.slice a 0 cap] 22 (0, 0))) :
    SeqStopsK Fence.wide n Try.prog 72 #[.pointer (some ⟨Bs, 0, none⟩), .pointer (some ⟨Bn, 0, none⟩)] (fun j : Nat => #[chunkPart b off 0 size j]) (KpC Bs Bn)
      (fun ys => ys = List.range 0) (fun pre => ∃ k, k ≤ 0 ∧ pre = List.range k) 0 w := fun l J Jx W hW hJ _ hY h0 => by
  have hs := (hW.block Bs (lt_of hBs)).trans hBs
  exact (chunk0_in n l Bs Bn a cap size hs1 J W hs h0).mono fun e W' ⟨he, hj⟩ => ⟨he, .inl ⟨[], rfl, hj⟩⟩

theorem KpC.trans {Bs Bn : Nat} {A B C : World} (h : KpC Bs Bn A B) (k : KpC Bs Bn B C) : KpC Bs Bn A C := ⟨k.1.trans h.1, k.2.trans h.2⟩
/-- A block of the walk's own is no box. -/
theorem KpC.put {Bs Bn : Nat} {B : Nat} (hs : Bs < B) (hn : Bn < B) (W : World) (l : Nat) (o o' : Obj) (hl : B ≤ l) : KpC Bs Bn W (W.putObj l o') := by
  have f : ∀ j, j < B → (W.putObj l o').heap[j]? = W.heap[j]? := fun j hj => by
    simp only [World.putObj]
    rw [Array.getElem?_setIfInBounds_ne (by omega)]
  exact ⟨f Bs hs, f Bn hn⟩

theorem parts_count (N size : Nat) (h : 1 ≤ size) : Parts' N size ((N + size - 1) / size) := by
  refine ⟨?_, fun k hk => ?_⟩
  · have h1 := Nat.div_add_mod (N + size - 1) size
    have h2 := Nat.mod_lt (N + size - 1) (show size > 0 by omega)
    rw [Nat.mul_comm] at h1
    omega
  · have h1 : (k + 1) * size ≤ N + size - 1 := Nat.le_trans (Nat.mul_le_mul_right _ hk) (Nat.div_mul_le_self _ _)
    rw [Nat.succ_mul] at h1
    omega

def partZ (zs : List Int) (size j : Nat) : List Int := (zs.drop (j * size)).take size
theorem partZ_len (zs : List Int) (size j : Nat) : (partZ zs size j).length = min size (zs.length - j * size) := by unfold partZ; rw [List.length_take, List.length_drop]
theorem partZ_flat (zs : List Int) (size : Nat) : ∀ k, (List.range k).flatMap (partZ zs size) = zs.take (k * size)
  | 0 => by simp
  | k + 1 => by
    rw [List.range_succ, List.flatMap_append, partZ_flat zs size k]
    simp only [List.flatMap_cons, List.flatMap_nil, List.append_nil, partZ]
    rw [Nat.succ_mul, List.take_add]

/-- The parts of a row that is read. -/
theorem chunk_seqR {w : World} {N gn M c : Nat} {la : Option Addr} {zs : List Int} (hr : Reads w .u8 (.slice la N c) zs) (hz : zs.length = N) (hN : N ≤ 1000000) (hc1 : N ≤ c) (hc2 : c ≤ 9223372036854775807) (hg1 : 1 ≤ gn) (hg2 : gn ≤ 100000) (hM : Parts' N gn M)
    {Bs Bn : Nat} (hBs : w.heap[Bs]? = some (.cells #[.slice la N c] 22 (0, 0))) (hBn : w.heap[Bn]? = some (.cells #[.int .i64 gn] 3 (0, 0))) :
    ∃ b off, SeqStopsK Fence.wide 8 Try.prog 72 #[.pointer (some ⟨Bs, 0, none⟩), .pointer (some ⟨Bn, 0, none⟩)] (fun j : Nat => #[chunkPart b off N gn j]) (KpC Bs Bn) (fun ys => ys = List.range M) (fun pre => ∃ k, k ≤ M ∧ pre = List.range k) M w ∧
      ∀ W j, Reads W .u8 (.slice la N c) zs → Reads W .u8 (chunkPart b off N gn j) (partZ zs gn j) := by
  by_cases h0 : N = 0
  · have hM0 : M = 0 := by
      rcases Nat.eq_zero_or_pos M with h | h
      · exact h
      · have := hM.2 0 h; omega
    subst hM0
    rw [h0] at hBs ⊢
    refine ⟨0, 0, chunk_stops0 8 Bs Bn 0 0 _ gn _ hg1 w hBs, fun W j _ => ?_⟩
    have e : partZ zs gn j = [] := by
      apply List.eq_nil_of_length_eq_zero
      rw [partZ_len]; omega
    rw [e]
    exact ⟨_, _, by unfold chunkPart; rw [Nat.zero_sub, Nat.min_zero]; rfl, by simp, fun h => absurd rfl h⟩
  · obtain ⟨g, sp, rfl⟩ : ∃ g sp, la = some ⟨g, sp, none⟩ := by
      obtain ⟨a, cap, he, _, hne⟩ := hr
      simp only [Value.slice.injEq] at he
      obtain ⟨rfl, _, _⟩ := he
      obtain ⟨b, o, hb, _⟩ := hne (by intro e; rw [e] at hz; simp at hz; omega)
      exact ⟨b, o, hb⟩
    refine ⟨g, sp, chunk_stops 8 (by omega) Bs Bn g sp N c gn M hg1 hg2 (by omega) hc1 hc2 hM w hBs hBn, fun W j hR => ?_⟩
    obtain ⟨a', c', he, _, hne⟩ := hR
    simp only [Value.slice.injEq] at he
    obtain ⟨rfl, _, _⟩ := he
    have hl : (partZ zs gn j).length = min gn (N - j * gn) := by rw [partZ_len, hz]
    refine ⟨some ⟨g, sp + j * gn, none⟩, min gn (N - j * gn), by unfold chunkPart; rw [hl], by rw [hl]; have := Nat.min_le_left gn (N - j * gn); omega, fun hx => ⟨g, sp + j * gn, rfl, fun i hi => ?_⟩⟩
    rw [hl] at hi
    obtain ⟨b', o', hb, hh⟩ := hne (by intro e; rw [e] at hz; simp at hz; omega)
    simp only [Option.some.injEq, Addr.mk.injEq, and_true] at hb
    obtain ⟨rfl, rfl⟩ := hb
    have h1 := Nat.lt_min.1 hi
    have := hh (j * gn + i) (by rw [hz]; omega)
    rw [show sp + j * gn + i = sp + (j * gn + i) by omega, this]
    unfold partZ
    rw [List.getD_eq_getElem?_getD, List.getD_eq_getElem?_getD, List.getElem?_take, if_pos h1.1, List.getElem?_drop]

end Go.Proofs.Ytbndknbjjdoanaa
