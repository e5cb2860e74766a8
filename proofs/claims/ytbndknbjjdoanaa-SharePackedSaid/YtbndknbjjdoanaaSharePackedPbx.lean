/-
  SharePacked: the plain part. No conditions.
-/
import Derived.Test.YtbndknbjjdoanaaSharePackedPbw
namespace Go.Proofs.Ytbndknbjjdoanaa
open Go.RowKit
set_option linter.unusedVariables false

def noPins (P : PoolSt) : Prop := ∀ p ∈ P.bl, p.2.pin = false
theorem noPins.at {P : PoolSt} (h : noPins P) (x : Pt) : pinAt P x = false := by
  unfold pinAt
  cases hl : lookN P.bl x.b with
  | none => rfl
  | some y =>
    obtain ⟨n, _, hm⟩ := lookN_mem hl
    exact h _ hm
theorem noPins.zero {P : PoolSt} (h : noPins P) (l : List Pt) : pinsN P l = 0 := by
  unfold pinsN
  rw [List.filter_eq_nil_iff.2 (fun x _ => by rw [h.at x]; simp)]
  rfl
theorem shE_no {P : PoolSt} (h : noPins P) (hf : P.bl.length ≤ 2000) (l : List Pt) : shE P l = if P.st.length = 200 ∨ 500 < l.length ∨ 100000 < lenP l then 4 else 0 := by
  unfold shE
  split
  · rfl
  · rw [h.zero l]
    unfold tkE
    rw [if_neg (by omega), if_pos rfl]
theorem tkE_vals (P : PoolSt) (n m : Nat) : tkE P n m = 0 ∨ tkE P n m = 4 ∨ tkE P n m = 12 := by
  unfold tkE
  split
  · simp
  · split
    · simp
    · split <;> simp
theorem growAll_pins {P : PoolSt} {zs : List Int} : ∀ {bks : List Bk}, noPins P → (∀ y ∈ bks, y.pin = false) → noPins (P.growAll bks)
  | [], h, _ => h
  | y :: l, h, hb => by
    rw [growAll_cons]
    refine growAll_pins (zs := zs) (fun p hp => ?_) (fun z hz => hb z (by simp [hz]))
    rcases List.mem_append.1 hp with hp | hp
    · exact h p hp
    · have e : p = (P.lastB + 1, y) := by simpa using hp
      rw [e]
      exact hb y (by simp)
theorem Fills.nopin {size : Nat} {zs : List Int} {bks : List Bk} (h : Fills size zs bks) : ∀ y ∈ bks, y.pin = false := fun y hy => by
  obtain ⟨j, hj⟩ := List.getElem?_of_mem hy
  obtain ⟨a, g, rfl⟩ := h j y hj
  rfl
theorem swept_pins {P : PoolSt} (h : noPins P) : noPins P.swept := fun p hp => h p (List.mem_filter.1 hp).1

/-- A sweep leaves the octets of what stands. -/
theorem swept_oct {P : PoolSt} {s : Nat × Option (Nat × Nat × Nat) × List Pt} (hs : s ∈ P.st) : octP P.swept.oct s.2.2 = octP P.oct s.2.2 := octP_same (fun x hx => by
  have hk := keeps_of hs hx
  unfold PoolSt.oct
  show (match lookN (P.bl.filter fun p => P.keeps (p.1 : Int)) (x.b : Int) with | some x => x.cs | none => []) = _
  rw [lookN_filter (fun k => P.keeps k), hk, if_pos rfl]
  rfl)
theorem keeps_iff {P : PoolSt} {k : Int} : P.keeps k = true ↔ ∃ s ∈ P.st, ∃ x ∈ s.2.2, (x.b : Int) = k := by
  unfold PoolSt.keeps
  rw [List.any_eq_true]
  constructor
  · rintro ⟨s, hs, h⟩
    obtain ⟨x, hx, e⟩ := List.any_eq_true.1 h
    exact ⟨s, hs, x, hx, by simpa using e⟩
  · rintro ⟨s, hs, x, hx, e⟩
    exact ⟨s, hs, List.any_eq_true.2 ⟨x, hx, by simpa using e⟩⟩
/-- How many blocks one string alone keeps, if no two parts lie in one. -/
theorem swept_count {P : PoolSt} {s : Nat} {o : Option (Nat × Nat × Nat)} {l : List Pt} (hst : P.st = [(s, o, l)]) (hkb : (P.bl.map Prod.fst).Nodup) (hpt : PtsOf P l) (hd : (l.map Pt.b).Nodup) : P.swept.bl.length = l.length := by
  have hp : (P.swept.bl.map Prod.fst).Perm (l.map Pt.b) := by
    refine (List.perm_ext_iff_of_nodup (hkb.sublist (List.filter_sublist.map _)) hd).2 (fun b => ?_)
    constructor
    · intro hb
      obtain ⟨p, hp, rfl⟩ := List.mem_map.1 hb
      obtain ⟨s', hs', x, hx, e⟩ := keeps_iff.1 (List.mem_filter.1 hp).2
      rw [hst] at hs'
      obtain rfl : s' = (s, o, l) := by simpa using hs'
      exact List.mem_map.2 ⟨x, hx, by omega⟩
    · intro hb
      obtain ⟨x, hx, rfl⟩ := List.mem_map.1 hb
      obtain ⟨y, hy, _⟩ := hpt x hx
      obtain ⟨n, hn, hm⟩ := lookN_mem hy
      refine List.mem_map.2 ⟨(n, y), List.mem_filter.2 ⟨hm, keeps_iff.2 ⟨(s, o, l), by rw [hst]; simp, x, hx, by simp; omega⟩⟩, by simp only; omega⟩
  have := hp.length_eq
  simpa using this
theorem swept_empty {P : PoolSt} (h : P.st = []) : P.swept.bl = [] := by
  show P.bl.filter _ = []
  refine List.filter_eq_nil_iff.2 (fun p _ hk => ?_)
  obtain ⟨s, hs, _⟩ := keeps_iff.1 hk
  rw [h] at hs
  simp at hs
/-- No two parts of a packed string lie in one block. -/
theorem PkS.nodup {P : PoolSt} {s : Nat} {o : Option (Nat × Nat × Nat)} {l : List Pt} (h : PkS P s l) (hst : (s, o, l) ∈ P.st) (hsz : 1 ≤ P.size) : (l.map Pt.b).Nodup := by
  obtain ⟨hl, hk⟩ := h
  have pos : ∀ (k : Nat) (x : Pt), l[k]? = some x → 0 < x.t := fun k x hx => by
    have h1 := hk k x hx
    have hlt := (List.getElem?_eq_some_iff.1 hx).1
    have h2 : k * P.size < lenP l := by
      rw [hl] at hlt
      unfold manyP at hlt
      have h3 : (k + 1) * P.size ≤ lenP l + P.size - 1 := Nat.le_trans (Nat.mul_le_mul_right _ hlt) (Nat.div_mul_le_self _ _)
      rw [Nat.succ_mul] at h3
      omega
    have := h1.2.1
    omega
  refine List.pairwise_iff_getElem.2 (fun i j hi hj hij e => ?_)
  rw [List.length_map] at hi hj
  simp only [List.getElem_map] at e
  have hxi : l[i]? = some l[i] := List.getElem?_eq_getElem hi
  have hxj : l[j]? = some l[j] := List.getElem?_eq_getElem hj
  refine (hk i _ hxi).2.2.2 ⟨(s, o, l), hst, j, l[j], hxj, ?_, rfl, e.symm, ?_, ?_⟩
  · intro h2; omega
  · show l[j].f < P.size
    rw [(hk j _ hxj).1]
    omega
  · show (0 : Nat) < l[j].t
    exact pos j _ hxj
theorem fillPts_nodup (lb size : Nat) (zs : List Int) (k : Nat) : ((fillPts lb size zs k).map Pt.b).Nodup := by
  unfold fillPts
  rw [List.map_map]
  have e : (Pt.b ∘ fun j => (⟨lb + 1 + j, 0, (partZ zs size j).length⟩ : Pt)) = fun j => lb + 1 + j := by funext j; rfl
  rw [e]
  refine List.pairwise_iff_getElem.2 (fun i j hi hj hij e => ?_)
  simp at e
  omega
theorem growAll_nodup : ∀ {P : PoolSt} (bks : List Bk), (∀ p ∈ P.bl, p.1 ≤ P.lastB) → (P.bl.map Prod.fst).Nodup → ((P.growAll bks).bl.map Prod.fst).Nodup
  | _, [], _, h => h
  | P, x :: l, hn, h => by
    refine growAll_nodup (P := P.grow x) l (grow_nb x hn) ?_
    show ((P.bl ++ [(P.lastB + 1, x)]).map Prod.fst).Nodup
    rw [List.map_append, List.nodup_append]
    refine ⟨h, by simp, fun a ha b hb => ?_⟩
    obtain ⟨p, hp, rfl⟩ := List.mem_map.1 ha
    simp at hb
    have := hn p hp
    omega
theorem manyP_ge {size n : Nat} (hs : 1 ≤ size) : n ≤ manyP size n * size := by
  unfold manyP
  have h1 := Nat.div_add_mod (n + size - 1) size
  have h2 := Nat.mod_lt (n + size - 1) (show size > 0 by omega)
  rw [Nat.mul_comm] at h1
  omega
theorem lookN_last {α : Type} {l : List (Nat × α)} {n : Nat} {x : α} (h : ∀ p ∈ l, p.1 ≠ n) : lookN (l ++ [(n, x)]) (n : Int) = some x := by rw [lookN_snoc _ _ _ _ h, if_pos rfl]

end Go.Proofs.Ytbndknbjjdoanaa
