/-
  A book with one account, number 1, with limit M, which holds n: Take and Give. No conditions but bounds.
-/
import Derived.Test.YtjogaohnphafgaaTopCompactPao
namespace Go.Proofs.Ytjogaohnphafgaa
open Go.RowKit
set_option linter.unusedVariables false

structure BkIn (w : World) (G : Nat → Prop) (bp M n : Nat) (b : BookSt) : Prop where
  bk : BookAt w G bp b 1
  acc : b.acc 1 = some ((M : Int), (n : Int), 0)
  bud : b.budget = 10000000
  tot : b.total = (n : Int)
  ent : b.entries.length ≤ 10000
  le : n ≤ M ∧ M ≤ 10000000
  gl : ∀ k, G k → k < w.heap.size
theorem BkIn.same {w w' : World} {G : Nat → Prop} {bp M n : Nat} {b : BookSt} (h : BkIn w G bp M n b) (hs : ∀ k, G k → w'.heap[k]? = w.heap[k]?) (hz : w.heap.size ≤ w'.heap.size) : BkIn w' G bp M n b :=
  ⟨h.bk.same (fun k hk _ => hs k hk), h.acc, h.bud, h.tot, h.ent, h.le, fun k hk => Nat.lt_of_lt_of_le (h.gl k hk) hz⟩
theorem BkIn.below {w w' : World} {G : Nat → Prop} {bp M n : Nat} {b : BookSt} (h : BkIn w G bp M n b) (hb : Below w.heap.size w w') : BkIn w' G bp M n b := h.same (fun k hk => hb.block k (h.gl k hk)) hb.size
theorem BkIn.touch {w w' : World} {G Z : Nat → Prop} {bp M n : Nat} {b : BookSt} (h : BkIn w G bp M n b) (ht : Touch Z w w') (hd : ∀ k, Z k → ¬ G k) : BkIn w' G bp M n b := h.same (fun k hk => ht.block k (h.gl k hk) (fun e => hd k e hk)) ht.size
def tk1E (M n z : Nat) : Int := if M < n + z then 12 else 0
def tk1N (M n z : Nat) : Nat := if M < n + z then n else n + z
theorem BookAt.narrowK {w : World} {F : Nat → Prop} {p : Nat} {st : BookSt} {N : Nat} (h : BookAt w F p st N) : BookAt w (fun k => F k ∧ k < w.heap.size) p st N := by
  obtain ⟨mb, blk, lv, ev, D, hm⟩ := h
  refine ⟨mb, blk, lv, ev, D, ⟨hm.self, ⟨hm.fp, lt_of hm.self⟩, hm.map, ⟨hm.fmap, hm.map.lt⟩, hm.look, hm.anone, ?_, hm.inj, hm.lrow, ?_, hm.erow, ?_⟩⟩
  · intro o b hb
    obtain ⟨l, h, s, h1, h2, h3⟩ := hm.asome o b hb
    exact ⟨l, h, s, h1, h2, h3, lt_of h2⟩
  · intro k hk
    obtain ⟨cur, h1⟩ := row_block hm.lrow hk
    exact ⟨hm.flea k hk, lt_of h1⟩
  · intro k hk
    obtain ⟨cur, h1⟩ := row_block hm.erow hk
    exact ⟨hm.fent k hk, lt_of h1⟩
set_option maxHeartbeats 1000000 in
set_option maxRecDepth 100000 in
def BelW (w : World) (W : World) : Prop := Below w.heap.size w W
theorem narrowB {w : World} {F : Nat → Prop} {p : Nat} {st : BookSt} {N : Nat} {w0 : World} (h : BookAt w (fun k => F k ∨ w0.heap.size ≤ k) p st N) : BookAt w (fun k => (F k ∨ w0.heap.size ≤ k) ∧ k < w.heap.size) p st N := BookAt.narrowK h

end Go.Proofs.Ytjogaohnphafgaa
