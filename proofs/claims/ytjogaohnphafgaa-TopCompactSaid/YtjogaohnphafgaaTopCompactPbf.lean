/-
  octets and put of a ring: what they give. Conditions: numbers in their bounds.
  put of a ring: what it leaves. Conditions: numbers in their bounds.
  wants, move, Reserve of a ring: what they give. Conditions: numbers in their bounds.
-/
import Derived.Test.YtjogaohnphafgaaTopCompactPbe
import Derived.Deep.RegionWith

namespace Go.Proofs.Ytjogaohnphafgaa
section
open Go.RowKit

theorem cat2 {wB : World} {S1 S2 : Value} {l1 l2 : List Int} (r1 : Reads wB .u8 S1 l1) (r2 : Reads wB .u8 S2 l2) :
    ∀ k (hk : k < [(S1, l1), (S2, l2)].length), (wB.alloc (.cells #[S1, S2] 34)).cell? ⟨wB.heap.size, k, none⟩ = some ([(S1, l1), (S2, l2)][k].1) ∧
      Reads (wB.alloc (.cells #[S1, S2] 34)) .u8 ([(S1, l1), (S2, l2)][k].1) ([(S1, l1), (S2, l2)][k].2) := by
  have W1 : Below wB.heap.size wB (wB.alloc (.cells #[S1, S2] 34)) := (Below.refl wB.heap.size wB).alloc (Nat.le_refl _) _
  have q1 := r1.below W1 rfl
  have q2 := r2.below W1 rfl
  have hn : (wB.alloc (.cells #[S1, S2] 34)).heap[wB.heap.size]? = some (.cells #[S1, S2] 34 (0, 0)) := heap_alloc_new wB _
  intro k hk
  match k, hk with
  | 0, _ => exact ⟨by rw [cell_of hn]; rfl, q1⟩
  | 1, _ => exact ⟨by rw [cell_of hn]; rfl, q2⟩

/-- The memory's octets. -/
def memRow (w : World) (g : Option Nat) (R : Nat) (cs : List Int) : Prop := cs.length = R ∧ match g with | none => R = 0 | some b => byteRow w b cs
theorem memRow.nil {w : World} {g : Option Nat} {R : Nat} {cs : List Int} (h : memRow w g R cs) (hg : g = none) : R = 0 := by subst hg; exact h.2
theorem memRow.keep {w w' : World} {g : Option Nat} {R : Nat} {cs : List Int} (h : memRow w g R cs) (hk : ∀ b, g = some b → w'.heap[b]? = w.heap[b]?) : memRow w' g R cs := by
  refine ⟨h.1, ?_⟩
  cases g with
  | none => exact h.2
  | some b => exact (hk b rfl).trans h.2

/-- Where an octet's cell lies. -/
def cellN (st R n : Nat) : Nat := if R = 0 then 0 else (st + n) % R
theorem cellN_le (st R n : Nat) : cellN st R n ≤ R := by
  unfold cellN; split
  · omega
  · exact Nat.le_of_lt (Nat.mod_lt _ (by omega))

/-- n octets from cell c on. -/
def octL (cs : List Int) (c n : Nat) : List Int := (cs.drop c).take (min (c + n) cs.length - c) ++ cs.take (n - (min (c + n) cs.length - c))
theorem octL_len (cs : List Int) (c n : Nat) (hc : c ≤ cs.length) (hn : n ≤ cs.length) : (octL cs c n).length = n := by
  unfold octL
  simp only [List.length_append, List.length_take, List.length_drop]
  omega

theorem reads_part {w : World} {b : Nat} {cs : List Int} (h : byteRow w b cs) (c k : Nat) (hk : c + k ≤ cs.length) (hl : cs.length ≤ 1000000) (f : Option Addr) (hf : 0 < k → f = some ⟨b, c, none⟩) : Reads w .u8 (.slice f k k) ((cs.drop c).take k) := by
  have hlen : ((cs.drop c).take k).length = k := by rw [List.length_take, List.length_drop]; omega
  refine ⟨f, k, by rw [hlen], by omega, fun hne => ?_⟩
  have h0 : 0 < k := by
    rcases Nat.eq_zero_or_pos k with h0 | h0
    · subst h0; simp at hne
    · exact h0
  refine ⟨b, c, hf h0, fun j hj => ?_⟩
  rw [hlen] at hj
  rw [h.cell (c + j) (by omega)]
  simp [List.getD_eq_getElem?_getD, hj]

end
end Go.Proofs.Ytjogaohnphafgaa

namespace Go.Proofs.Ytjogaohnphafgaa
section
open Go.RowKit

/-- A slice of the call's own, apart from block g. -/
def OwnAt (pl : Value) (n g : Nat) : Prop := (pl = .slice none 0 0 ∧ n = 0) ∨ ∃ b c, pl = .slice (some ⟨b, 0, none⟩) n c ∧ b ≠ g ∧ n ≤ c ∧ c ≤ maxLen
theorem OwnAt.of {W : World} {B e n g : Nat} {v : Value} {xs : List Value} (h : W.ownsRow B e 1 v n xs) (hg : g < B) : OwnAt v n g := by
  rcases h.2 with ⟨rfl, h0⟩ | ⟨b, cap, cur, rfl, hb, _, h1, h2, _⟩
  · exact Or.inl ⟨rfl, h0⟩
  · exact Or.inr ⟨b, cap, rfl, by omega, h1, h2⟩

def putD (R c n : Nat) : Nat := min (c + n) R - c
def putL (cs : List Int) (c : Nat) (zs : List Int) : List Int := splice (splice cs c (zs.take (putD cs.length c zs.length))) 0 (zs.drop (putD cs.length c zs.length))

theorem putL_len (cs : List Int) (c : Nat) (zs : List Int) (hc : c ≤ cs.length) (hn : zs.length ≤ cs.length) : (putL cs c zs).length = cs.length := by
  have h1 : (splice cs c (zs.take (putD cs.length c zs.length))).length = cs.length := splice_len _ _ _ (by rw [List.length_take]; unfold putD; omega)
  unfold putL
  rw [splice_len _ _ _ (by rw [List.length_drop, h1]; unfold putD; omega), h1]

end
end Go.Proofs.Ytjogaohnphafgaa

namespace Go.Proofs.Ytjogaohnphafgaa
section
open Go.RowKit

def wantsV (k s m : Int) (R : Nat) (len n : Int) : Int := if 100000 - len < n then 0 else growV k s m R (len + n)
def wantsE (k s m : Int) (R : Nat) (len n : Int) : Int := if 100000 - len < n then 4 else growE k s m R (len + n)

end
end Go.Proofs.Ytjogaohnphafgaa
