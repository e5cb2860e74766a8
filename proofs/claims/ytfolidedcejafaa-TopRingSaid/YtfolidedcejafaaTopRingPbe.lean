/-
  The iterator of slices.Chunk over octets: what it gives. Conditions: numbers in their bounds.
  slices.Chunk over octets, as the law on a range over a function wants it. Conditions: numbers in their bounds.
-/
import Derived.RangeFuncNested
import Derived.RangeFuncBound
import Derived.RangeFuncCalls
import Derived.RangeFuncLeaves
import Derived.Shelf.Abstract
import Derived.Shelf.RegionOpen
import Derived.WalkKit
import Derived.OwnWalkIn
import Derived.TacticsInMore
import Derived.LoopNIn
import Derived.LoopIn
import Derived.Test.YtfolidedcejafaaTopRingPbd

namespace Go.Proofs.Ytfolidedcejafaa
section
open Go.RowKit Go.Shelf
attribute [local go_sem] Oper.semAt_some
set_option linter.unusedVariables false

/-- A round leaves the iterator's two boxes as they were. -/
def KpC (Bs Bn : Nat) (W W' : World) : Prop := W'.heap[Bs]? = W.heap[Bs]? ∧ W'.heap[Bn]? = W.heap[Bn]?
def chunkPart (b off N size j : Nat) : Value := .slice (some ⟨b, off + j * size, none⟩) (min size (N - j * size)) (min size (N - j * size))

set_option maxHeartbeats 2000000 in
set_option maxRecDepth 100000 in
theorem chunk1_in (n : Nat) (hn : 1 ≤ n) (l Bs Bn b off N cap size M : Nat) (hs1 : 1 ≤ size) (hs2 : size ≤ 100000) (hN : N ≤ 1000000) (hcap : N ≤ cap) (hcap2 : cap ≤ 9223372036854775807)
    (hM : N ≤ M * size) (hM2 : ∀ k, k < M → k * size < N) (J Jx : List Nat → World → Prop) (hJ : ∀ pre A q, J pre A → J pre (A.drewN q))
    (hY : ∀ pre x W, J pre W → pre.length < M → YieldAt Fence.wide (n - 1) Try.prog l #[chunkPart b off N size x] W fun e W' =>
      (e = .returned (.bool true) ∧ J (pre ++ [x]) W' ∧ KpC Bs Bn W W') ∨ (e = .returned (.bool false) ∧ Jx (pre ++ [x]) W'))
    (W : World) (hBs : W.heap[Bs]? = some (.cells #[.slice (some ⟨b, off, none⟩) N cap] 46 (0, 0))) (hBn : W.heap[Bn]? = some (.cells #[.int .i64 size] 3 (0, 0))) (h0 : J [] W) :
    CallsIn Fence.wide n Try.prog 76 #[.func (.yield l) #[] #[], .pointer (some ⟨Bs, 0, none⟩), .pointer (some ⟨Bn, 0, none⟩)] W fun e W' => (∃ v, e = .returned v) ∧
      ((∃ ys, ys = List.range M ∧ J ys W') ∨ (∃ pre, (∃ k, k ≤ M ∧ pre = List.range k) ∧ Jx pre W')) := by
  refine callsIn_of_wp Try.func76 rfl trivial ?_ rfl
  simp only [Try.ntmps76, List.size_toArray, List.length_cons, List.length_nil, Nat.reduceAdd, Nat.reduceSub, Array.replicate_succ, Array.replicate_zero, List.push_toArray, List.append_toArray, List.nil_append, List.cons_append]
  gi_wp2
  gi_loopw [4, 5] (fun i _ wr => ∃ k : Nat, k ≤ M ∧ i = .int .i64 (k * size : Nat) ∧ J (List.range k) wr ∧ KpC Bs Bn W wr) (fun i _ _ => M * size - (intOf i).toNat)
  case atStart => exact ⟨0, Nat.zero_le _, by simp, h0, rfl, rfl⟩
  case round =>
    obtain ⟨k, hk, rfl, hJs, hk1, hk2⟩ := hrel
    have cs : wr.cell? ⟨Bs, 0, none⟩ = some (.slice (some ⟨b, off, none⟩) N cap) := by rw [cell_of (hk1.trans hBs)]; rfl
    have cn : wr.cell? ⟨Bn, 0, none⟩ = some (.int .i64 size) := by rw [cell_of (hk2.trans hBn)]; rfl
    have HK := Lib.hid (And.intro hk1 hk2)
    have HN2 := Lib.hid hM2
    have HM1 := Lib.hid hM
    by_cases hlt : k < M
    · have hP := hM2 k hlt
      have eP : (k + 1) * size = k * size + size := Nat.succ_mul _ _
      have hle : (k + 1) * size ≤ M * size := Nat.mul_le_mul_right _ hlt
      have HY2 := fun q => hY _ k (wr.drewN q) (hJ _ _ q hJs) (by rw [List.length_range]; exact hlt)
      unfold chunkPart at HY2
      rw [eP] at hle
      have HLE := Lib.hid hle
      have HEP := Lib.hid eP
      clear hM hM2 hk1 hk2 hle eP hY
      generalize hPP : k * size = P at *
      by_cases hA : size ≤ N - P
      · have hMIN : min size (N - P) = size := Nat.min_eq_left hA
        gi_wp2
        gi_quiet (fail)
        obtain ⟨fn, tmps, assign, body, hy, hR⟩ := HY2 nq
        rw [hMIN] at hy
        gi_wp2
        refine hR.mono ?_
        rintro e W3 (⟨rfl, hJ3, hk3⟩ | ⟨rfl, hJx3⟩)
        · have k3 : KpC Bs Bn W W3 := ⟨hk3.1.trans HK.out.1, hk3.2.trans HK.out.2⟩
          have cn3 : W3.cell? ⟨Bn, 0, none⟩ = some (.int .i64 size) := by rw [cell_of (k3.2.trans hBn)]; rfl
          gi_wp2
          go_roundw
          case rel => exact ⟨k + 1, by omega, by rw [HEP.out]; simp, by rw [List.range_succ]; exact hJ3, k3⟩
          case measure => have := HLE.out; simp [intOf]; omega
        · gi_wp2
          refine bodyPost_ret (results_none rfl _ _ _) rfl ?_
          exact ⟨⟨_, rfl⟩, .inr ⟨_, ⟨k + 1, by omega, (List.range_succ).symm⟩, hJx3⟩⟩
      · have hMIN : min size (N - P) = N - P := Nat.min_eq_right (by omega)
        gi_wp2
        gi_quiet (fail)
        obtain ⟨fn, tmps, assign, body, hy, hR⟩ := HY2 nq
        rw [hMIN] at hy
        gi_wp2
        refine hR.mono ?_
        rintro e W3 (⟨rfl, hJ3, hk3⟩ | ⟨rfl, hJx3⟩)
        · have k3 : KpC Bs Bn W W3 := ⟨hk3.1.trans HK.out.1, hk3.2.trans HK.out.2⟩
          have cn3 : W3.cell? ⟨Bn, 0, none⟩ = some (.int .i64 size) := by rw [cell_of (k3.2.trans hBn)]; rfl
          gi_wp2
          go_roundw
          case rel => exact ⟨k + 1, by omega, by rw [HEP.out]; simp, by rw [List.range_succ]; exact hJ3, k3⟩
          case measure => have := HLE.out; simp [intOf]; omega
        · gi_wp2
          refine bodyPost_ret (results_none rfl _ _ _) rfl ?_
          exact ⟨⟨_, rfl⟩, .inr ⟨_, ⟨k + 1, by omega, (List.range_succ).symm⟩, hJx3⟩⟩
    · obtain rfl : k = M := by omega
      gi_wp2
      go_end0
      exact ⟨⟨_, rfl⟩, .inl ⟨_, rfl, hJs⟩⟩

set_option maxRecDepth 100000 in
theorem chunkMk_any (a : Option Addr) (N cap size : Nat) (w : World) (h : 1 ≤ size) :
    Calls Try.prog 59 #[.slice a N cap, .int .i64 size] w (fun e w' => e = .returned (.func (.func 76) #[] #[.pointer (some ⟨w.heap.size, 0, none⟩), .pointer (some ⟨w.heap.size + 1, 0, none⟩)]) ∧
      w' = (w.alloc (.cells #[.slice a N cap] 46)).alloc (.cells #[.int .i64 size] 3)) := by
  go_enter Try.func59, Try.ntmps59
  go_wp2_with fail
  go_ret
  exact ⟨by simp, rfl⟩

/-- An empty slice has no parts. -/
theorem chunk0_in (n : Nat) (l Bs Bn : Nat) (a : Option Addr) (cap size : Nat) (hs1 : 1 ≤ size) (J : List Nat → World → Prop)
    (W : World) (hBs : W.heap[Bs]? = some (.cells #[.slice a 0 cap] 46 (0, 0))) (h0 : J [] W) :
    CallsIn Fence.wide n Try.prog 76 #[.func (.yield l) #[] #[], .pointer (some ⟨Bs, 0, none⟩), .pointer (some ⟨Bn, 0, none⟩)] W fun e W' => (∃ v, e = .returned v) ∧ J [] W' := by
  have cs : W.cell? ⟨Bs, 0, none⟩ = some (.slice a 0 cap) := by rw [cell_of hBs]; rfl
  refine callsIn_of_wp Try.func76 rfl trivial ?_ rfl
  simp only [Try.ntmps76, List.size_toArray, List.length_cons, List.length_nil, Nat.reduceAdd, Nat.reduceSub, Array.replicate_succ, Array.replicate_zero, List.push_toArray, List.append_toArray, List.nil_append, List.cons_append]
  gi_wp2
  gi_loopw [4, 5] (fun i _ wr => i = .int .i64 0 ∧ wr = W) (fun _ _ _ => 0)
  case atStart => exact ⟨rfl, rfl⟩
  case round =>
    obtain ⟨rfl, rfl⟩ := hrel
    gi_wp2
    go_end0
    exact ⟨⟨_, rfl⟩, h0⟩

end
end Go.Proofs.Ytfolidedcejafaa

namespace Go.Proofs.Ytfolidedcejafaa
section
open Go.RowKit Go.Shelf
set_option linter.unusedVariables false

theorem grown_drewN (w : World) (q : Nat) : w.grownBy (w.drewN q) none := ⟨rfl, rfl, rfl, Nat.le_refl _, fun _ _ _ => rfl⟩

/-- How the parts of N octets are counted. -/
def Parts' (N size M : Nat) : Prop := N ≤ M * size ∧ ∀ k, k < M → k * size < N

theorem chunk_stops (n : Nat) (hn : 1 ≤ n) (Bs Bn b off N cap size M : Nat) (hs1 : 1 ≤ size) (hs2 : size ≤ 100000) (hN : N ≤ 1000000) (hcap : N ≤ cap) (hcap2 : cap ≤ 9223372036854775807) (hM : Parts' N size M)
    (w : World) (hBs : w.heap[Bs]? = some (.cells #[.slice (some ⟨b, off, none⟩) N cap] 46 (0, 0))) (hBn : w.heap[Bn]? = some (.cells #[.int .i64 size] 3 (0, 0))) :
    SeqStopsK Fence.wide n Try.prog 76 #[.pointer (some ⟨Bs, 0, none⟩), .pointer (some ⟨Bn, 0, none⟩)] (fun j : Nat => #[chunkPart b off N size j]) (KpC Bs Bn)
      (fun ys => ys = List.range M) (fun pre => ∃ k, k ≤ M ∧ pre = List.range k) M w := fun l J Jx W hW hJ _ hY h0 => by
  have hs := (hW.block Bs (lt_of hBs)).trans hBs
  have hb := (hW.block Bn (lt_of hBn)).trans hBn
  exact chunk1_in n hn l Bs Bn b off N cap size M hs1 hs2 hN hcap hcap2 hM.1 hM.2 J Jx (fun pre A q h => hJ pre A (A.drewN q) none h (grown_drewN A q) (by simp)) hY W hs hb h0
theorem chunk_stops0 (n : Nat) (Bs Bn b off cap size : Nat) (a : Option Addr) (hs1 : 1 ≤ size)
    (w : World) (hBs : w.heap[Bs]? = some (.cells #[.slice a 0 cap] 46 (0, 0))) :
    SeqStopsK Fence.wide n Try.prog 76 #[.pointer (some ⟨Bs, 0, none⟩), .pointer (some ⟨Bn, 0, none⟩)] (fun j : Nat => #[chunkPart b off 0 size j]) (KpC Bs Bn)
      (fun ys => ys = List.range 0) (fun pre => ∃ k, k ≤ 0 ∧ pre = List.range k) 0 w := fun l J Jx W hW hJ _ hY h0 => by
  have hs := (hW.block Bs (lt_of hBs)).trans hBs
  exact (chunk0_in n l Bs Bn a cap size hs1 J W hs h0).mono fun e W' ⟨he, hj⟩ => ⟨he, .inl ⟨[], rfl, hj⟩⟩

theorem KpC.trans {Bs Bn : Nat} {A B C : World} (h : KpC Bs Bn A B) (k : KpC Bs Bn B C) : KpC Bs Bn A C := ⟨k.1.trans h.1, k.2.trans h.2⟩
/-- A block of the walk's own is no box. -/
theorem KpC.put {Bs Bn : Nat} {B : Nat} (hs : Bs < B) (hn : Bn < B) (W : World) (l : Nat) (o o' : Obj) (hl : B ≤ l) : KpC Bs Bn W (W.putObj l o') := by
  have f : ∀ j, j < B → (W.putObj l o').heap[j]? = W.heap[j]? := fun j hj => by
    simp only [World.putObj]
    rw [Array.getElem?_setIfInBounds_ne (by omega)]
  exact ⟨f Bs hs, f Bn hn⟩

theorem parts_count (N size : Nat) (h : 1 ≤ size) : Parts' N size ((N + size - 1) / size) := by
  refine ⟨?_, fun k hk => ?_⟩
  · have h1 := Nat.div_add_mod (N + size - 1) size
    have h2 := Nat.mod_lt (N + size - 1) (show size > 0 by omega)
    rw [Nat.mul_comm] at h1
    omega
  · have h1 : (k + 1) * size ≤ N + size - 1 := Nat.le_trans (Nat.mul_le_mul_right _ hk) (Nat.div_mul_le_self _ _)
    rw [Nat.succ_mul] at h1
    omega

end
end Go.Proofs.Ytfolidedcejafaa
