/-
  The octets of a block, shared with the memory. No conditions but bounds.
-/
import Derived.Test.YtjogaohnphafgaaTopCompactPat
import Derived.Deep.Cut
import Derived.Deep.CutBlock
import Derived.Deep.DeepCutAuto
import Derived.Deep.QuietTactic
namespace Go.Proofs.Ytjogaohnphafgaa
open Go.RowKit
set_option linter.unusedVariables false

theorem HpMem.memory {w : World} {F : Nat → Prop} {hp bp : Nat} {S : HpSt} {vm vb vh : Value} {vhs : List Value} (m : HpMem w F hp bp S vm vb vh vhs) :
    ∃ a cap, vm = .slice a S.mem.length cap ∧ S.mem.length ≤ cap ∧ cap ≤ 9223372036854775807 ∧ (0 < S.mem.length → ∃ g, a = some ⟨g, 0, none⟩) := by
  rcases m.mem.1.2 with ⟨h1, h2⟩ | ⟨g, cap, cur, h1, _, hg, hle, hmx, hsz, htk⟩
  · exact ⟨none, 0, by rw [h1, h2], by omega, by omega, fun h => by omega⟩
  · unfold maxLen at hmx
    exact ⟨_, cap, h1, hle, by omega, fun _ => ⟨g, rfl⟩⟩
def OcPost (vm : Value) (at' len n : Nat) (w : World) : Ending → World → Prop := fun e w' => ∃ a, e = .returned (.slice a len len) ∧ (0 < len → ∃ g cap, vm = .slice (some ⟨g, 0, none⟩) n cap ∧ a = some ⟨g, at', none⟩) ∧ Below w.heap.size w w'

set_option maxHeartbeats 4000000 in
set_option maxRecDepth 100000 in
theorem octetsM_any {w : World} {F : Nat → Prop} {hp bp : Nat} {S : HpSt} {vm vb vh : Value} {vhs : List Value} (m : HpMem w F hp bp S vm vb vh vhs) (h : Int) (at' len : Nat) (hl : at' + len ≤ S.mem.length) :
    Calls Try.prog 32 #[.pointer (some ⟨hp, 0, none⟩), .agg #[.int .i64 h, .int .i64 (at' : Int), .int .i64 (len : Int)]] w (OcPost vm at' len S.mem.length w) := by
  have B0 : Below w.heap.size w (w.alloc (.cells #[.int .i64 h, .int .i64 (at' : Int), .int .i64 (len : Int)] 52)) := (Below.refl _ w).alloc (Nat.le_refl _) _
  have RS0 := heap_alloc_new w (.cells #[.int .i64 h, .int .i64 (at' : Int), .int .i64 (len : Int)] 52)
  have M0 := m.below B0
  have c6 := M0.cells.2.2.2.2.2.2.1
  obtain ⟨a, cap, hvm, hcap, hcap2, hsh⟩ := m.memory
  have HVM := Lib.hid hvm
  have HSH := Lib.hid hsh
  rw [hvm] at c6
  have hbig := m.big.1
  obtain ⟨n, hn⟩ : ∃ n, S.mem.length = n := ⟨_, rfl⟩
  rw [hn] at c6 hl hcap hbig HVM HSH ⊢
  have HB0 := Lib.hid B0
  have q1 : (w.alloc (.cells #[.int .i64 h, .int .i64 (at' : Int), .int .i64 (len : Int)] 52)).cell? ⟨w.heap.size, 1, none⟩ = some (.int .i64 (at' : Int)) := (cell_of RS0 1).trans rfl
  have q2 : (w.alloc (.cells #[.int .i64 h, .int .i64 (at' : Int), .int .i64 (len : Int)] 52)).cell? ⟨w.heap.size, 2, none⟩ = some (.int .i64 (len : Int)) := (cell_of RS0 2).trans rfl
  clear m M0 B0 hvm hsh hn RS0
  go_enter Try.func32, Try.ntmps32
  go_upto_region 1 with fail
  generalize w.alloc (.cells #[.int .i64 h, .int .i64 (at' : Int), .int .i64 (len : Int)] 52) = W0 at *
  by_cases h0 : len = 0
  · subst h0
    go_quiet (fail)
    go_wp2_with fail
    go_ret
    exact ⟨a, by first | rfl | simp, fun h => by omega, bdrewN HB0.out _⟩
  · obtain ⟨g, rfl⟩ := HSH.out (by omega)
    have hsub : at' + len - at' = len := by omega
    have HSB := Lib.hid hsub
    clear hsub
    go_quiet (fail)
    go_wp2_with fail
    go_ret
    refine ⟨some ⟨g, at', none⟩, ?_, fun _ => ⟨g, cap, HVM.out, rfl⟩, bdrewN HB0.out _⟩
    have e := HSB.out
    first
    | (simp only [e]; rfl)
    | simp [e, Addr.add]

end Go.Proofs.Ytjogaohnphafgaa
