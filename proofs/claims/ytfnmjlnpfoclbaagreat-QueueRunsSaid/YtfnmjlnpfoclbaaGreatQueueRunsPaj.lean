/-
  A ring in memory; cell and cells: what they give. Conditions: numbers in their bounds.
  Replace: what it gives for a policy that is right and a slice of the call's own. No conditions beyond the theorems' own.
  octets and put of a ring: what they give. Conditions: numbers in their bounds.
  put of a ring: what it leaves. Conditions: numbers in their bounds.
  move of a ring: what it gives. Conditions: numbers in their bounds; the ring's blocks are not the book's.
  A queue in memory; its Len and Room. Conditions: numbers in their bounds.
-/
import Derived.Test.YtfnmjlnpfoclbaaGreatQueueRunsPag
import Derived.Test.YtfnmjlnpfoclbaaGreatQueueRunsPai
import Derived.Deep.RegionWith
import Derived.Deep.Cut

namespace Go.Proofs.YtfnmjlnpfoclbaaGreat
section
open Go.RowKit

def ringCells (bp : Nat) (o k s m : Int) (mv : Value) (st len : Int) : Array Value :=
  #[.pointer (some ⟨bp, 0, none⟩), .int .i64 o, .int .i64 k, .int .i64 s, .int .i64 m, .bool false, mv, .int .i64 st, .int .i64 len]
/-- The ring's memory: nil, or a block. -/
def memOf (g : Option Nat) (R : Nat) : Value := match g with | none => .slice none R R | some b => .slice (some ⟨b, 0, none⟩) R R
theorem memOf_sh (g : Option Nat) (R : Nat) : ∃ a, memOf g R = .slice a R R ∧ (∀ b, g = some b → a = some ⟨b, 0, none⟩) ∧ (g = none → a = none) := by
  cases g with
  | none => exact ⟨none, rfl, fun b h => (by cases h), fun _ => rfl⟩
  | some b => exact ⟨_, rfl, fun c h => (by cases h; rfl), fun h => (by cases h)⟩

def CellsPost (g : Option Nat) (at' n R : Nat) (w : World) : Ending → World → Prop := fun e w' =>
  ∃ f1 f2, e = .returned (.tuple #[.slice f1 (min (at' + n) R - at') (min (at' + n) R - at'), .slice f2 (n - (min (at' + n) R - at')) (n - (min (at' + n) R - at'))]) ∧
    (∀ b, g = some b → (at' < min (at' + n) R → f1 = some ⟨b, at', none⟩) ∧ (0 < n - (min (at' + n) R - at') → f2 = some ⟨b, 0, none⟩)) ∧ ∃ q, w' = w.drewN q

theorem cells_mk {b at' n R q A B : Nat} {w : World} {f1 f2 : Option Addr} (hA : A = min (at' + n) R - at') (hB : B = n - A) (h1 : at' < min (at' + n) R → f1 = some ⟨b, at', none⟩) (h2 : 0 < B → f2 = some ⟨b, 0, none⟩) :
    CellsPost (some b) at' n R w (.returned (.tuple #[.slice f1 A A, .slice f2 B B])) (w.drewN q) := by
  subst hA hB
  refine ⟨f1, f2, rfl, fun b' hb' => ?_, q, rfl⟩
  obtain rfl : b = b' := by simpa using hb'
  exact ⟨h1, h2⟩

end
end Go.Proofs.YtfnmjlnpfoclbaaGreat

namespace Go.Proofs.YtfnmjlnpfoclbaaGreat
section
open Go.RowKit

theorem Reads.touch {F : Nat → Prop} {w w' : World} {k : IntKind} {v : Value} {zs : List Int} (h : Reads w k v zs) (ht : Touch F w w') (hF : ∀ b o n c, v = .slice (some ⟨b, o, none⟩) n c → ¬ F b) : Reads w' k v zs := by
  obtain ⟨a, cap, rfl, hl, hc⟩ := h
  refine ⟨a, cap, rfl, hl, fun hne => ?_⟩
  obtain ⟨b, o, rfl, h1⟩ := hc hne
  refine ⟨b, o, rfl, fun j hj => ?_⟩
  have h2 := h1 j hj
  have hb : b < w.heap.size := World.block_lt_of_cell? w ⟨b, o + j, none⟩ h2
  have h3 := ht.block b hb (hF b o _ _ rfl)
  unfold World.cell? at h2 ⊢
  rw [h3]
  exact h2

theorem Reads.take {w : World} {k : IntKind} {a : Option Addr} {n c : Nat} {zs : List Int} (h : Reads w k (.slice a n c) zs) (m : Nat) (hm : m ≤ zs.length) : Reads w k (.slice a m c) (zs.take m) := by
  obtain ⟨a', cap, e, hl, hc⟩ := h
  simp only [Value.slice.injEq] at e
  obtain ⟨rfl, rfl, rfl⟩ := e
  have hlm : (zs.take m).length = m := by rw [List.length_take]; omega
  refine ⟨a, c, by rw [hlm], by omega, fun hne => ?_⟩
  have h0 : 0 < m := by
    rcases Nat.eq_zero_or_pos m with h0 | h0
    · subst h0; simp at hne
    · exact h0
  obtain ⟨b, o, rfl, h1⟩ := hc (by intro e; subst e; simp at hm; omega)
  refine ⟨b, o, rfl, fun j hj => ?_⟩
  rw [hlm] at hj
  rw [h1 j (by omega)]
  simp [List.getD_eq_getElem?_getD, hj]

theorem Reads.dropZ {w : World} {k : IntKind} {b o n c : Nat} {zs : List Int} (h : Reads w k (.slice (some ⟨b, o, none⟩) n c) zs) (t : Nat) (ht : t ≤ zs.length) (z : Option Addr) (hz : t < zs.length → z = some ⟨b, o + t, none⟩) (m : Nat) : Reads w k (.slice z (n - t) m) (zs.drop t) := by
  obtain ⟨a', cap, e, hl, hc⟩ := h
  simp only [Value.slice.injEq] at e
  obtain ⟨rfl, rfl, rfl⟩ := e
  have hlm : (zs.drop t).length = zs.length - t := by rw [List.length_drop]
  refine ⟨z, m, by rw [hlm], by omega, fun hne => ?_⟩
  have h0 : t < zs.length := by
    rcases Nat.lt_or_ge t zs.length with h0 | h0
    · exact h0
    · exact absurd (List.drop_eq_nil_of_le h0) hne
  obtain ⟨b', o', e1, h1⟩ := hc (by intro e; subst e; simp at h0)
  simp only [Option.some.injEq, Addr.mk.injEq, and_true] at e1
  obtain ⟨rfl, rfl⟩ := e1
  refine ⟨b, o + t, hz h0, fun j hj => ?_⟩
  rw [hlm] at hj
  rw [Nat.add_assoc, h1 (t + j) (by omega)]
  simp [List.getD_eq_getElem?_getD]

theorem splice_mapF (cs zs : List Int) (F : Nat) : (splice cs F zs).map (Value.int .u8) = splice (cs.map (Value.int .u8)) F (zs.map (Value.int .u8)) := by simp [splice]

theorem bytes_spliceF {cs zs : List Int} {F : Nat} (h : bytes cs) (hz : bytes zs) : bytes (splice cs F zs) := by
  intro z hm
  simp only [splice, List.mem_append] at hm
  rcases hm with hm | hm | hm
  · exact h z (List.mem_of_mem_take hm)
  · exact hz z hm
  · exact h z (List.mem_of_mem_drop hm)

def ReplPost (k s m : Int) (g : Nat) (cs : List Int) (n cap f t : Nat) (zs : List Int) (N : Nat) (w : World) : Ending → World → Prop := fun e w' =>
  ∃ g' ds, e = .returned (.tuple #[.slice (some ⟨g', 0, none⟩) N (growV k s m cap N).toNat, .bool (decide (cap < N)), .int .i64 0]) ∧ byteRow w' g' ds ∧ ds.length = (growV k s m cap N).toNat ∧ bytes ds ∧
    ds.take N = cs.take f ++ zs ++ (cs.take n).drop t ∧ (g' = g ∨ w.heap.size ≤ g') ∧ Touch (fun k => k = g) w w'

end
end Go.Proofs.YtfnmjlnpfoclbaaGreat

namespace Go.Proofs.YtfnmjlnpfoclbaaGreat
section
open Go.RowKit

theorem cat2 {wB : World} {S1 S2 : Value} {l1 l2 : List Int} (r1 : Reads wB .u8 S1 l1) (r2 : Reads wB .u8 S2 l2) :
    ∀ k (hk : k < [(S1, l1), (S2, l2)].length), (wB.alloc (.cells #[S1, S2] 42)).cell? ⟨wB.heap.size, k, none⟩ = some ([(S1, l1), (S2, l2)][k].1) ∧
      Reads (wB.alloc (.cells #[S1, S2] 42)) .u8 ([(S1, l1), (S2, l2)][k].1) ([(S1, l1), (S2, l2)][k].2) := by
  have W1 : Below wB.heap.size wB (wB.alloc (.cells #[S1, S2] 42)) := (Below.refl wB.heap.size wB).alloc (Nat.le_refl _) _
  have q1 := r1.below W1 rfl
  have q2 := r2.below W1 rfl
  have hn : (wB.alloc (.cells #[S1, S2] 42)).heap[wB.heap.size]? = some (.cells #[S1, S2] 42 (0, 0)) := heap_alloc_new wB _
  intro k hk
  match k, hk with
  | 0, _ => exact ⟨by rw [cell_of hn]; rfl, q1⟩
  | 1, _ => exact ⟨by rw [cell_of hn]; rfl, q2⟩

/-- The memory's octets. -/
def memRow (w : World) (g : Option Nat) (R : Nat) (cs : List Int) : Prop := cs.length = R ∧ match g with | none => R = 0 | some b => byteRow w b cs
theorem memRow.nil {w : World} {g : Option Nat} {R : Nat} {cs : List Int} (h : memRow w g R cs) (hg : g = none) : R = 0 := by subst hg; exact h.2
theorem memRow.keep {w w' : World} {g : Option Nat} {R : Nat} {cs : List Int} (h : memRow w g R cs) (hk : ∀ b, g = some b → w'.heap[b]? = w.heap[b]?) : memRow w' g R cs := by
  refine ⟨h.1, ?_⟩
  cases g with
  | none => exact h.2
  | some b => exact (hk b rfl).trans h.2

/-- Where an octet's cell lies. -/
def cellN (st R n : Nat) : Nat := if R = 0 then 0 else (st + n) % R
theorem cellN_le (st R n : Nat) : cellN st R n ≤ R := by
  unfold cellN; split
  · omega
  · exact Nat.le_of_lt (Nat.mod_lt _ (by omega))

/-- n octets from cell c on. -/
def octL (cs : List Int) (c n : Nat) : List Int := (cs.drop c).take (min (c + n) cs.length - c) ++ cs.take (n - (min (c + n) cs.length - c))
theorem octL_len (cs : List Int) (c n : Nat) (hc : c ≤ cs.length) (hn : n ≤ cs.length) : (octL cs c n).length = n := by
  unfold octL
  simp only [List.length_append, List.length_take, List.length_drop]
  omega

theorem reads_part {w : World} {b : Nat} {cs : List Int} (h : byteRow w b cs) (c k : Nat) (hk : c + k ≤ cs.length) (hl : cs.length ≤ 1000000) (f : Option Addr) (hf : 0 < k → f = some ⟨b, c, none⟩) : Reads w .u8 (.slice f k k) ((cs.drop c).take k) := by
  have hlen : ((cs.drop c).take k).length = k := by rw [List.length_take, List.length_drop]; omega
  refine ⟨f, k, by rw [hlen], by omega, fun hne => ?_⟩
  have h0 : 0 < k := by
    rcases Nat.eq_zero_or_pos k with h0 | h0
    · subst h0; simp at hne
    · exact h0
  refine ⟨b, c, hf h0, fun j hj => ?_⟩
  rw [hlen] at hj
  rw [h.cell (c + j) (by omega)]
  simp [List.getD_eq_getElem?_getD, hj]

end
end Go.Proofs.YtfnmjlnpfoclbaaGreat

namespace Go.Proofs.YtfnmjlnpfoclbaaGreat
section
open Go.RowKit

/-- A slice of the call's own, apart from block g. -/
def OwnAt (pl : Value) (n g : Nat) : Prop := (pl = .slice none 0 0 ∧ n = 0) ∨ ∃ b c, pl = .slice (some ⟨b, 0, none⟩) n c ∧ b ≠ g ∧ n ≤ c ∧ c ≤ maxLen
theorem OwnAt.of {W : World} {B e n g : Nat} {v : Value} {xs : List Value} (h : W.ownsRow B e 1 v n xs) (hg : g < B) : OwnAt v n g := by
  rcases h.2 with ⟨rfl, h0⟩ | ⟨b, cap, cur, rfl, hb, _, h1, h2, _⟩
  · exact Or.inl ⟨rfl, h0⟩
  · exact Or.inr ⟨b, cap, rfl, by omega, h1, h2⟩

def putD (R c n : Nat) : Nat := min (c + n) R - c
def putL (cs : List Int) (c : Nat) (zs : List Int) : List Int := splice (splice cs c (zs.take (putD cs.length c zs.length))) 0 (zs.drop (putD cs.length c zs.length))

theorem putL_len (cs : List Int) (c : Nat) (zs : List Int) (hc : c ≤ cs.length) (hn : zs.length ≤ cs.length) : (putL cs c zs).length = cs.length := by
  have h1 : (splice cs c (zs.take (putD cs.length c zs.length))).length = cs.length := splice_len _ _ _ (by rw [List.length_take]; unfold putD; omega)
  unfold putL
  rw [splice_len _ _ _ (by rw [List.length_drop, h1]; unfold putD; omega), h1]

end
end Go.Proofs.YtfnmjlnpfoclbaaGreat

namespace Go.Proofs.YtfnmjlnpfoclbaaGreat
section
open Go.RowKit

theorem BookAt.narrow {w : World} {F : Nat → Prop} {p : Nat} {st : BookSt} {N : Nat} (h : BookAt w F p st N) : BookAt w (fun k => F k ∧ k < w.heap.size) p st N := by
  obtain ⟨mb, blk, lv, ev, D, hm⟩ := h
  refine ⟨mb, blk, lv, ev, D, ⟨hm.self, ⟨hm.fp, lt_of hm.self⟩, hm.map, ⟨hm.fmap, hm.map.lt⟩, hm.look, hm.anone, ?_, hm.inj, hm.lrow, ?_, hm.erow, ?_⟩⟩
  · intro o b hb
    obtain ⟨l, h, s, h1, h2, h3⟩ := hm.asome o b hb
    exact ⟨l, h, s, h1, h2, h3, lt_of h2⟩
  · intro k hk
    obtain ⟨cur, h1⟩ := row_block hm.lrow hk
    exact ⟨hm.flea k hk, lt_of h1⟩
  · intro k hk
    obtain ⟨cur, h1⟩ := row_block hm.erow hk
    exact ⟨hm.fent k hk, lt_of h1⟩

/-- What an account has, and the book's numbers, in their bounds. -/
structure Sound (st : BookSt) (o l h s : Int) : Prop where
  acc : st.acc o = some (l, h, s)
  ow : 1 ≤ o ∧ o ≤ 40
  l0 : 0 ≤ l ∧ l ≤ 1000000000
  h0 : 0 ≤ h ∧ h ≤ 1000000000
  s0 : 0 ≤ s ∧ s ≤ 1000000000
  b0 : 0 ≤ st.budget ∧ st.budget ≤ 1000000000
  t0 : 0 ≤ st.total ∧ st.total ≤ 1000000000
  en : st.entries.length ≤ 10000

theorem copy_fact (w : World) (g size : Nat) (sp : Option Addr) (n sCap : Nat) (cur cs : List Value) (hg : w.heap[g]? = some (.cells cur.toArray 5 (0, 0))) (hn : cs.length = Nat.min n size) (hnn : cs.length = n)
    (hpos : 0 < cs.length → ∃ ad, sp = some ad ∧ ∀ j v, cs[j]? = some v → w.cell? (ad.add j) = some v) (hfit : 0 + cs.length ≤ cur.length) (h1 : ∀ v ∈ cs, v.oneCell' = true) :
    ∃ w', (Builtin.copy_ #[42, 42] 3 #[.slice (some ⟨g, 0, none⟩) size size, .slice sp n sCap]).run Tryz.prog w = .ok (.int .i64 n) w' ∧ w'.heap[g]? = some (.cells (splice cur 0 cs).toArray 5 (0, 0)) ∧ Touch (fun k => k = g) w w' := by
  by_cases h0 : cs.length = 0
  · obtain rfl : cs = [] := List.eq_nil_of_length_eq_zero h0
    have hrun := run_copy_none (P := Tryz.prog) w 42 42 3 5 (some ⟨g, 0, none⟩) sp size size n sCap Tryz.underlying42 byteSize (by simpa using hn.symm)
    refine ⟨w, ?_, by simpa [splice] using hg, Touch.refl _ _⟩
    rw [hrun]
    simp at hnn
    rw [← hnn]
    rfl
  · obtain ⟨ad, rfl, hsrc⟩ := hpos (by omega)
    have hrun := run_copy_row (P := Tryz.prog) w 42 42 3 5 g 0 size size ad n sCap cur.toArray 5 cs Tryz.underlying42 byteSize hg hn hsrc (by simpa using hfit) h1
    refine ⟨w.setRow g (cur.toArray.toList.take 0 ++ (cs ++ cur.toArray.toList.drop (0 + cs.length))).toArray, ?_, by simpa [splice] using setRow_heap w g _ (cs ++ List.drop cs.length cur).toArray 5 _ hg, ⟨rfl, rfl, rfl, by simp [World.setRow], fun k _ hk => setRow_other w g k _ hk⟩⟩
    rw [hrun, hnn]
    rfl

end
end Go.Proofs.YtfnmjlnpfoclbaaGreat

namespace Go.Proofs.YtfnmjlnpfoclbaaGreat
section
open Go.RowKit
set_option linter.unusedVariables false

structure QCh where
  b : Nat
  os : List Int
  fr : Nat
  to : Nat
def QCh.zero : QCh := ⟨0, [], 0, 0⟩
def QCh.cells (c : QCh) : List Value := [.slice (some ⟨c.b, 0, none⟩) c.os.length c.os.length, .int .i64 c.fr, .int .i64 c.to]

/-- Cells of chunks, one after the other. -/
theorem qflat_at : ∀ (L : List QCh) (k j : Nat), k < L.length → j < 3 → (L.flatMap QCh.cells)[k * 3 + j]? = ((L.getD k QCh.zero).cells)[j]?
  | [], k, _, h, _ => by simp at h
  | e :: r, 0, j, _, hj => by
    simp only [List.flatMap_cons, Nat.zero_mul, Nat.zero_add]
    rw [List.getElem?_append_left (by show j < 3; exact hj)]
    rfl
  | e :: r, k + 1, j, hk, hj => by
    simp only [List.flatMap_cons]
    rw [List.getElem?_append_right (by show 3 ≤ (k + 1) * 3 + j; omega), show (k + 1) * 3 + j - (QCh.cells e).length = k * 3 + j by show (k + 1) * 3 + j - 3 = k * 3 + j; omega]
    exact qflat_at r k j (by simpa using hk) hj
theorem qflat_len : ∀ L : List QCh, (L.flatMap QCh.cells).length = L.length * 3
  | [] => by simp
  | e :: r => by rw [List.flatMap_cons, List.length_append, qflat_len r, List.length_cons]; show 3 + r.length * 3 = _; omega
theorem qflat_take : ∀ (L : List QCh) (k : Nat), (L.flatMap QCh.cells).take (k * 3) = (L.take k).flatMap QCh.cells
  | [], k => by simp
  | e :: r, 0 => by simp
  | e :: r, k + 1 => by
    rw [List.flatMap_cons, List.take_append, show (k + 1) * 3 - (QCh.cells e).length = k * 3 by show (k + 1) * 3 - 3 = k * 3; omega, qflat_take r k, List.take_succ_cons, List.flatMap_cons, List.take_of_length_le (by show 3 ≤ (k + 1) * 3; omega)]

def qsum (f : QCh → Nat) (L : List QCh) : Nat := (L.map f).sum
theorem qsum_take (f : QCh → Nat) : ∀ (L : List QCh) (k : Nat), k < L.length → qsum f (L.take (k + 1)) = qsum f (L.take k) + f (L.getD k QCh.zero)
  | [], k, h => by simp at h
  | x :: l, 0, _ => by simp [qsum]
  | x :: l, k + 1, h => by
    have := qsum_take f l k (by simpa using h)
    simp only [qsum, List.take_succ_cons, List.map_cons, List.sum_cons, List.getD_cons_succ] at this ⊢
    omega
theorem qsum_le (f : QCh → Nat) (B : Nat) : ∀ (L : List QCh), (∀ x ∈ L, f x ≤ B) → qsum f L ≤ L.length * B
  | [], _ => by simp [qsum]
  | x :: l, h => by
    have := qsum_le f B l (fun y hy => h y (by simp [hy]))
    have := h x (by simp)
    simp only [qsum, List.map_cons, List.sum_cons, List.length_cons, Nat.add_mul] at *
    omega
theorem qsum_app (f : QCh → Nat) (L M : List QCh) : qsum f (L ++ M) = qsum f L + qsum f M := by simp [qsum]
theorem qgetD_in {L : List QCh} {k : Nat} (h : k < L.length) : L.getD k QCh.zero ∈ L := by rw [List.getD_eq_getElem?_getD, List.getElem?_eq_getElem h]; simp

def QCh.len (c : QCh) : Nat := c.to - c.fr
def QCh.room (c : QCh) : Nat := c.os.length
def QChsOk (L : List QCh) : Prop := L.length ≤ 500 ∧ ∀ c ∈ L, c.fr ≤ c.to ∧ c.to ≤ c.os.length ∧ c.os.length ≤ 100000
theorem QChsOk.sum {L : List QCh} (h : QChsOk L) (k : Nat) : qsum QCh.len (L.take k) ≤ 50000000 := by
  have h1 := qsum_le QCh.len 100000 (L.take k) (fun x hx => by have := h.2 x (List.mem_of_mem_take hx); unfold QCh.len; omega)
  have h3 := h.1
  have h4 : (L.take k).length ≤ 500 := by rw [List.length_take]; omega
  have := Nat.mul_le_mul_right 100000 h4
  omega
theorem QChsOk.sumR {L : List QCh} (h : QChsOk L) (k : Nat) : qsum QCh.room (L.take k) ≤ 50000000 := by
  have h1 := qsum_le QCh.room 100000 (L.take k) (fun x hx => (h.2 x (List.mem_of_mem_take hx)).2.2)
  have h3 := h.1
  have h4 : (L.take k).length ≤ 500 := by rw [List.length_take]; omega
  have := Nat.mul_le_mul_right 100000 h4
  omega

/-- The chunks, as a reader sees them. -/
def QChsIn (w : World) (v : Value) (L : List QCh) : Prop :=
  ∃ a cap, v = .slice a L.length cap ∧ L.length ≤ cap ∧ cap ≤ 9223372036854775807 ∧ ∀ k, k < L.length → ∃ b o, a = some ⟨b, o, none⟩ ∧
    w.cell? ⟨b, o + k * 3, none⟩ = some (.slice (some ⟨(L.getD k QCh.zero).b, 0, none⟩) (L.getD k QCh.zero).os.length (L.getD k QCh.zero).os.length) ∧ w.cell? ⟨b, o + k * 3 + 1, none⟩ = some (.int .i64 (L.getD k QCh.zero).fr) ∧ w.cell? ⟨b, o + k * 3 + 2, none⟩ = some (.int .i64 (L.getD k QCh.zero).to)
theorem qadd_spot (g j : Nat) : (⟨g, 0, none⟩ : Addr).add j = ⟨g, 0 + j, none⟩ := by unfold Addr.add; split <;> simp_all
theorem QChsIn.own {w : World} {B e : Nat} {v : Value} {L : List QCh} (h : w.ownsRow B e 3 v L.length (L.flatMap QCh.cells)) : QChsIn w v L := by
  rcases h.2 with ⟨rfl, h0⟩ | ⟨g, cap, cur, rfl, hb, hg, hn, hc, hs, ht⟩
  · have : L = [] := by cases L with | nil => rfl | cons x l => simp at h0
    subst this
    exact ⟨none, 0, rfl, by simp, by omega, fun k hk => by simp at hk⟩
  · refine ⟨some ⟨g, 0, none⟩, cap, rfl, hn, by unfold maxLen at hc; omega, fun k hk => ⟨g, 0, rfl, ?_⟩⟩
    have f : ∀ j u, j < 3 → (L.getD k QCh.zero).cells[j]? = some u → w.cell? ⟨g, 0 + (k * 3 + j), none⟩ = some u := fun j u hj hu => by
      have hx := qflat_at L k j hk hj
      rw [hu] at hx
      have := h.cells (g := g) rfl (k * 3 + j) _ hx
      rwa [qadd_spot] at this
    exact ⟨f 0 _ (by omega) rfl, f 1 _ (by omega) rfl, f 2 _ (by omega) rfl⟩

def quCells (bp : Nat) (o k s m sz : Int) (cv : Value) : Array Value :=
  #[.pointer (some ⟨bp, 0, none⟩), .int .i64 o, .int .i64 k, .int .i64 s, .int .i64 m, .int .i64 sz, .bool false, cv]
/-- What a queue is: its book, owner, policy and size. -/
structure QuId where
  r : Nat
  bp : Nat
  o : Int
  k : Int
  s : Int
  m : Int
  sz : Int

structure QuMem (w : World) (F : Nat → Prop) (I : QuId) (L : List QCh) (cv : Value) : Prop where
  self : w.heap[I.r]? = some (.cells (quCells I.bp I.o I.k I.s I.m I.sz cv) 79 (0, 0))
  fr : F I.r
  crow : w.ownsRow 0 103 3 cv L.length (L.flatMap QCh.cells)
  fc : ∀ k, cv.ownBlock = some k → F k
  mem : ∀ c ∈ L, byteRow w c.b c.os ∧ F c.b
  inj : (L.map QCh.b).Nodup

theorem QuMem.same {w w' : World} {F : Nat → Prop} {I : QuId} {L : List QCh} {cv : Value} (h : QuMem w F I L cv) (hs : SameOn F w w') : QuMem w' F I L cv where
  self := (hs _ h.fr (lt_of h.self)).trans h.self
  fr := h.fr
  crow := ownsRow_same h.crow (fun k hk => hs k (h.fc k hk) (h.crow.lt k hk).2)
  fc := h.fc
  mem := fun c hc => ⟨(hs _ (h.mem c hc).2 (lt_of (h.mem c hc).1)).trans (h.mem c hc).1, (h.mem c hc).2⟩
  inj := h.inj
theorem QuMem.below {w w' : World} {F : Nat → Prop} {I : QuId} {L : List QCh} {cv : Value} (h : QuMem w F I L cv) (hs : Below w.heap.size w w') : QuMem w' F I L cv := h.same (Below.same_on hs)
theorem QuMem.wider {w : World} {F G : Nat → Prop} {I : QuId} {L : List QCh} {cv : Value} (h : QuMem w F I L cv) (hG : ∀ k, F k → G k) : QuMem w G I L cv where
  self := h.self
  fr := hG _ h.fr
  crow := h.crow
  fc := fun k hk => hG _ (h.fc k hk)
  mem := fun c hc => ⟨(h.mem c hc).1, hG _ (h.mem c hc).2⟩
  inj := h.inj
theorem QuMem.narrow {w : World} {F : Nat → Prop} {I : QuId} {L : List QCh} {cv : Value} (h : QuMem w F I L cv) : QuMem w (fun k => F k ∧ k < w.heap.size) I L cv where
  self := h.self
  fr := ⟨h.fr, lt_of h.self⟩
  crow := h.crow
  fc := fun k hk => ⟨h.fc k hk, (h.crow.lt k hk).2⟩
  mem := fun c hc => ⟨(h.mem c hc).1, (h.mem c hc).2, lt_of (h.mem c hc).1⟩
  inj := h.inj
theorem QuMem.chs {w : World} {F : Nat → Prop} {I : QuId} {L : List QCh} {cv : Value} (h : QuMem w F I L cv) : QChsIn w cv L := QChsIn.own h.crow

theorem within_ring_yes (n lo hi : Int) (w : World) (h1 : lo ≤ n) (h2 : n ≤ hi) :
    Calls Tryz.prog 24 #[.int .i64 n, .int .i64 lo, .int .i64 hi] w fun e w' => e = .returned (.bool true) ∧ w = w' := by
  go_enter Tryz.func24, Tryz.ntmps24
  go_wp2
  go_ret
  exact ⟨rfl, rfl⟩
theorem within_ring_no (n lo hi : Int) (w : World) (h : ¬ (lo ≤ n ∧ n ≤ hi)) :
    Calls Tryz.prog 24 #[.int .i64 n, .int .i64 lo, .int .i64 hi] w fun e w' => e = .returned (.bool false) ∧ w = w' := by
  by_cases h1 : lo ≤ n
  · have h2 : hi < n := by omega
    clear h
    go_enter Tryz.func24, Tryz.ntmps24
    go_wp2
    go_ret
    first | exact ⟨rfl, rfl⟩ | exact ⟨ret_bool (decide_eq_false (by omega)), rfl⟩
  · have h2 : n < lo := by omega
    clear h h1
    go_enter Tryz.func24, Tryz.ntmps24
    go_wp2
    go_ret
    first | exact ⟨rfl, rfl⟩ | exact ⟨ret_bool (decide_eq_false (by omega)), rfl⟩

def QIntPost (n : Int) (w : World) : Ending → World → Prop := fun e w' => e = .returned (.int .i64 n) ∧ Below w.heap.size w w'

set_option maxHeartbeats 1000000 in
set_option maxRecDepth 100000 in
theorem qLen_at (r : Nat) (L : List QCh) (cv : Value) (w : World) (c7 : w.cell? ⟨r, 7, none⟩ = some cv) (hc : QChsIn w cv L) (hok : QChsOk L) :
    Calls Tryz.prog 12 #[.pointer (some ⟨r, 0, none⟩)] w (QIntPost (qsum QCh.len L : Nat) w) := by
  obtain ⟨a, cap, rfl, h1, h2, hc⟩ := hc
  have HC := Lib.hid hc
  have OK := Lib.hid hok
  clear hc hok
  have b63 : L.length ≤ 500 := OK.out.1
  go_enter Tryz.func12, Tryz.ntmps12
  go_wp2_with fail
  go_loopw [3, 11] (fun n i wr => ∃ k : Nat, k ≤ L.length ∧ i = .int .i64 k ∧ n = .int .i64 (qsum QCh.len (L.take k) : Nat) ∧ Below w.heap.size w wr) (fun _ i _ => L.length - (intOf i).toNat)
  case atStart => exact ⟨0, Nat.zero_le _, rfl, by simp [qsum], Below.refl _ _⟩
  case round =>
    obtain ⟨k, hk, rfl, rfl, hb⟩ := hrel
    have hs := OK.out.sum k
    have hsz := hb.size
    have BL := Lib.hid hb
    by_cases hlt : k < L.length
    · obtain ⟨b, o, rfl, d0, d1, d2⟩ := HC.out k hlt
      have e0 := old_cell hb d0
      have e1 := old_cell hb d1
      have e2 := old_cell hb d2
      have S := Lib.hid (qsum_take QCh.len L k hlt)
      obtain ⟨q1, q2, q3⟩ := OK.out.2 _ (qgetD_in hlt)
      clear d0 d1 d2 hb
      generalize L.getD k QCh.zero = x at *
      generalize qsum QCh.len (L.take k) = N at *
      go_wp2_with fail
      go_round
      case rel => exact ⟨k + 1, by omega, by go_num, by rw [S.out]; unfold QCh.len; congr 1; omega, BL.out.alloc hsz _⟩
      case measure => simp [intOf]; omega
    · obtain rfl : k = L.length := by omega
      clear hlt hk hb
      rw [List.take_length] at hs ⊢
      go_wp2_with fail
      go_ret
      exact ⟨rfl, BL.out⟩

set_option maxHeartbeats 1000000 in
set_option maxRecDepth 100000 in
theorem qRoom_at (r : Nat) (L : List QCh) (cv : Value) (w : World) (c7 : w.cell? ⟨r, 7, none⟩ = some cv) (hc : QChsIn w cv L) (hok : QChsOk L) :
    Calls Tryz.prog 11 #[.pointer (some ⟨r, 0, none⟩)] w (QIntPost (qsum QCh.room L : Nat) w) := by
  obtain ⟨a, cap, rfl, h1, h2, hc⟩ := hc
  have HC := Lib.hid hc
  have OK := Lib.hid hok
  clear hc hok
  have b63 : L.length ≤ 500 := OK.out.1
  go_enter Tryz.func11, Tryz.ntmps11
  go_wp2_with fail
  go_loopw [3, 11] (fun n i wr => ∃ k : Nat, k ≤ L.length ∧ i = .int .i64 k ∧ n = .int .i64 (qsum QCh.room (L.take k) : Nat) ∧ Below w.heap.size w wr) (fun _ i _ => L.length - (intOf i).toNat)
  case atStart => exact ⟨0, Nat.zero_le _, rfl, by simp [qsum], Below.refl _ _⟩
  case round =>
    obtain ⟨k, hk, rfl, rfl, hb⟩ := hrel
    have hs := OK.out.sumR k
    have hsz := hb.size
    have BL := Lib.hid hb
    by_cases hlt : k < L.length
    · obtain ⟨b, o, rfl, d0, d1, d2⟩ := HC.out k hlt
      have e0 := old_cell hb d0
      have e1 := old_cell hb d1
      have e2 := old_cell hb d2
      have S := Lib.hid (qsum_take QCh.room L k hlt)
      obtain ⟨q1, q2, q3⟩ := OK.out.2 _ (qgetD_in hlt)
      clear d0 d1 d2 hb
      generalize L.getD k QCh.zero = x at *
      generalize qsum QCh.room (L.take k) = N at *
      have S2 : Hid (qsum QCh.room (L.take (k + 1)) = N + x.os.length) := Lib.hid S.out
      clear S
      generalize x.os.length = xl at *
      go_wp2_with fail
      go_round
      case rel => exact ⟨k + 1, by omega, by go_num, by rw [S2.out]; congr 1, BL.out.alloc hsz _⟩
      case measure => simp [intOf]; omega
    · obtain rfl : k = L.length := by omega
      clear hlt hk hb
      rw [List.take_length] at hs ⊢
      go_wp2_with fail
      go_ret
      exact ⟨rfl, BL.out⟩

theorem qLen_any (I : QuId) (F : Nat → Prop) (L : List QCh) (cv : Value) (w : World) (h : QuMem w F I L cv) (hok : QChsOk L) :
    Calls Tryz.prog 12 #[.pointer (some ⟨I.r, 0, none⟩)] w (QIntPost (qsum QCh.len L : Nat) w) :=
  qLen_at I.r L cv w (by rw [cell_of h.self]; rfl) h.chs hok
theorem qRoom_any (I : QuId) (F : Nat → Prop) (L : List QCh) (cv : Value) (w : World) (h : QuMem w F I L cv) (hok : QChsOk L) :
    Calls Tryz.prog 11 #[.pointer (some ⟨I.r, 0, none⟩)] w (QIntPost (qsum QCh.room L : Nat) w) :=
  qRoom_at I.r L cv w (by rw [cell_of h.self]; rfl) h.chs hok

end
end Go.Proofs.YtfnmjlnpfoclbaaGreat
