/-
  slices.Clone, slices.Grow (of nil) and slices.Concat at []byte: what they give. No conditions but lengths.
-/
import Derived.Test.YtfgpophbgjeefaaSplice
import Derived.Deep.Upon
import Derived.Lib.AppendZeros
namespace Go.Proofs.Ytfgpophbgjeefaa
open Go.RowKit

theorem infoB1 : (Try.prog.info? 5).map (fun i => (i.zero, i.size, i.bytes)) = some (some (.int .u8 0), 1, 1) := by kernel_rfl

theorem row_base2 {B : Nat} {v : Value} {n : Nat} {xs : List Value} {e : TypeId} {W : World} (h : W.ownsRow B e 1 v n xs) {k : Nat} (hk : v.ownBlock = some k) : B ≤ k := by
  rcases h.2 with ⟨rfl, _⟩ | ⟨g, cap, cur, rfl, hb, _⟩
  · simp [Value.ownBlock] at hk
  · simp [Value.ownBlock] at hk; omega

theorem ownsRow_lt2 {W : World} {B e : Nat} {v : Value} {n : Nat} {xs : List Value} (h : W.ownsRow B e 1 v n xs) : ∃ a c, v = .slice a n c ∧ n ≤ c ∧ c ≤ maxLen := by
  rcases h.2 with ⟨rfl, rfl⟩ | ⟨g, cap, cur, rfl, _, _, h1, h2, _⟩
  · exact ⟨_, _, rfl, Nat.le_refl _, Nat.zero_le _⟩
  · exact ⟨_, _, rfl, h1, h2⟩

def OwnBytes (zs : List Int) (w : World) : Ending → World → Prop := fun e w' =>
  ∃ v, e = .returned v ∧ w'.ownsRow w.heap.size 5 1 v zs.length (zs.map (Value.int .u8)) ∧ Below w.heap.size w w'

def catLen (els : List (Value × List Int)) (k : Nat) : Nat := ((els.take k).map Prod.snd).flatten.length
theorem catLen_succ (els : List (Value × List Int)) (k : Nat) (h : k < els.length) : catLen els (k + 1) = catLen els k + els[k].2.length := by
  unfold catLen
  rw [List.take_add_one, List.getElem?_eq_getElem h, List.map_append, List.flatten_append, List.length_append]
  congr 1
  simp
theorem catLen_le (els : List (Value × List Int)) (k : Nat) : catLen els k ≤ (els.map Prod.snd).flatten.length := by
  unfold catLen
  rw [List.map_take]
  conv => rhs; rw [← List.take_append_drop k (els.map Prod.snd)]
  rw [List.flatten_append, List.length_append]
  omega
theorem cat_succ (els : List (Value × List Int)) (k : Nat) (h : k < els.length) : ((els.take (k + 1)).map Prod.snd).flatten = ((els.take k).map Prod.snd).flatten ++ els[k].2 := by
  rw [List.take_add_one, List.getElem?_eq_getElem h, List.map_append, List.flatten_append]
  congr 1
  simp

end Go.Proofs.Ytfgpophbgjeefaa
