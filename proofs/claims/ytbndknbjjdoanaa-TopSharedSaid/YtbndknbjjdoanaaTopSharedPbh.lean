/-
  Append of a pool: the plain part. No conditions.
  A ring in memory; cell and cells: what they give. Conditions: numbers in their bounds.
  Replace: what it gives for a policy that is right and a slice of the call's own. No conditions beyond the theorems' own.
  octets and put of a ring: what they give. Conditions: numbers in their bounds.
  put of a ring: what it leaves. Conditions: numbers in their bounds.
-/
import Derived.Test.YtbndknbjjdoanaaTopSharedPbf
import Derived.Test.YtbndknbjjdoanaaTopSharedPal
import Derived.Test.YtbndknbjjdoanaaTopSharedPam
import Derived.Test.YtbndknbjjdoanaaTopSharedPap

namespace Go.Proofs.Ytbndknbjjdoanaa
section
open Go.RowKit
set_option linter.unusedVariables false

/-- How many octets go into the last part's own block. -/
def spareP (P : PoolSt) (l : List Pt) (n : Nat) : Nat := match l.getLast? with
  | none => 0
  | some z => match lookN P.bl (z.b : Int) with
    | none => 0
    | some y => if z.t = y.used then min (P.size - z.t) n else 0
def apB (P : PoolSt) (l : List Pt) (os : List Int) (sp : Nat) : PoolSt := if sp = 0 then P else match l.getLast? with
  | none => P
  | some z => match lookN P.bl (z.b : Int) with
    | none => P
    | some y => P.setB z.b ⟨y.a, y.g, splice y.cs y.used (os.take sp), y.used + sp, y.pin⟩
def apL (l : List Pt) (sp : Nat) : List Pt := if sp = 0 then l else match l.getLast? with
  | none => l
  | some z => l.dropLast ++ [⟨z.b, z.f, z.t + sp⟩]
/-- What is known where there is spare room. -/
structure Spare (P : PoolSt) (l : List Pt) (os : List Int) (sp : Nat) (l0 : List Pt) (z : Pt) (y : Bk) : Prop where
  l : l = l0 ++ [z]
  look : lookN P.bl (z.b : Int) = some y
  t : z.t = y.used
  pos : 0 < sp
  room : y.used + sp ≤ P.size
  le : sp ≤ os.length
theorem Spare.apB {P : PoolSt} {l : List Pt} {os : List Int} {sp : Nat} {l0 : List Pt} {z : Pt} {y : Bk} (h : Spare P l os sp l0 z y) : apB P l os sp = P.setB z.b ⟨y.a, y.g, splice y.cs y.used (os.take sp), y.used + sp, y.pin⟩ := by
  have hp := h.pos
  unfold Go.Proofs.Ytbndknbjjdoanaa.apB
  rw [if_neg (by omega), h.l, List.getLast?_append]
  simp [h.look]
theorem Spare.apL {P : PoolSt} {l : List Pt} {os : List Int} {sp : Nat} {l0 : List Pt} {z : Pt} {y : Bk} (h : Spare P l os sp l0 z y) : apL l sp = l0 ++ [⟨z.b, z.f, z.t + sp⟩] := by
  have hp := h.pos
  unfold Go.Proofs.Ytbndknbjjdoanaa.apL
  rw [if_neg (by omega), h.l, List.getLast?_append]
  simp
/-- The ways of the spare room. -/
theorem spare_ways {P : PoolSt} {l : List Pt} (n : Nat) (ho : PtsOf P l) :
    (l = [] ∧ spareP P l n = 0) ∨ ∃ l0 z y, l = l0 ++ [z] ∧ lookN P.bl (z.b : Int) = some y ∧ z.f ≤ z.t ∧ z.t ≤ y.used ∧ ((z.t ≠ y.used ∧ spareP P l n = 0) ∨ (z.t = y.used ∧ spareP P l n = min (P.size - z.t) n)) := by
  rcases List.eq_nil_or_concat l with rfl | ⟨l0, z, rfl⟩
  · exact Or.inl ⟨rfl, rfl⟩
  · right
    rw [List.concat_eq_append] at ho ⊢
    obtain ⟨y, hy, h1, h2⟩ := ho z (by simp)
    have e : spareP P (l0 ++ [z]) n = if z.t = y.used then min (P.size - z.t) n else 0 := by
      unfold spareP
      rw [List.getLast?_append]
      simp [hy]
    refine ⟨l0, z, y, rfl, hy, h1, h2, ?_⟩
    by_cases hz : z.t = y.used
    · right
      rw [e, if_pos hz]
      exact ⟨hz, rfl⟩
    · left
      rw [e, if_neg hz]
      exact ⟨hz, rfl⟩
theorem flatMap_same {α β : Type} {f g : α → List β} : ∀ {l : List α}, (∀ x ∈ l, f x = g x) → l.flatMap f = l.flatMap g
  | [], _ => rfl
  | x :: l, h => by rw [List.flatMap_cons, List.flatMap_cons, h x (by simp), flatMap_same (fun y hy => h y (by simp [hy]))]
theorem splice_take {α : Type} (ds T : List α) (f k : Nat) (hf : f ≤ ds.length) (hk : k ≤ f) : (splice ds f T).take k = ds.take k := by
  unfold splice
  rw [List.take_append_of_le_length (by rw [List.length_take]; omega), List.take_take, Nat.min_eq_left hk]
theorem splice_ext {α : Type} (ds T : List α) (f : Nat) (hf : f ≤ ds.length) : (splice ds f T).take (f + T.length) = ds.take f ++ T := by
  unfold splice
  have e : (ds.take f).length = f := by rw [List.length_take]; omega
  rw [← List.append_assoc, List.take_append_of_le_length (by rw [List.length_append, e]; exact Nat.le_refl _)]
  rw [List.take_of_length_le (by rw [List.length_append, e]; exact Nat.le_refl _)]
theorem apB_facts {w : World} {F : Nat → Prop} {h bp : Nat} {P : PoolSt} {mb ms N1 N2 : Nat} {D1 D2 : DataW Unit} (m : PoolMem w F h bp P mb ms N1 N2 D1 D2) {l : List Pt} (ho : PtsOf P l) {os : List Int} {sp : Nat} (hs : sp = 0 ∨ ∃ l0 z y, Spare P l os sp l0 z y) :
    PtsOf (apB P l os sp) (apL l sp) ∧ octP (apB P l os sp).oct (apL l sp) = octP P.oct l ++ os.take sp ∧ (∀ l', PtsOf P l' → octP (apB P l os sp).oct l' = octP P.oct l') ∧ (apL l sp).length = l.length ∧ lenP (apL l sp) = lenP l + sp ∧
      (apB P l os sp).bl.length = P.bl.length ∧ (apB P l os sp).lastB = P.lastB ∧ (apB P l os sp).size = P.size ∧ (apB P l os sp).lastS = P.lastS ∧ (apB P l os sp).st = P.st ∧ (∀ p ∈ (apB P l os sp).bl, p.1 ≤ (apB P l os sp).lastB) := by
  rcases hs with rfl | ⟨l0, z, y, hsp⟩
  · have e1 : apB P l os 0 = P := by unfold apB; rw [if_pos rfl]
    have e2 : apL l 0 = l := by unfold apL; rw [if_pos rfl]
    rw [e1, e2]
    exact ⟨ho, by simp, fun _ _ => rfl, rfl, rfl, rfl, rfl, rfl, rfl, rfl, m.lt⟩
  · rw [hsp.apB, hsp.apL]
    obtain ⟨y1, y2, y3, y4, y5, y6, y7, y8, y9⟩ := m.blkOf hsp.look
    have hzt := hsp.t
    have hpos := hsp.pos
    have hroom := hsp.room
    have hle := hsp.le
    have hlt : (os.take sp).length = sp := by rw [List.length_take]; omega
    have old : ∀ x : Pt, (∃ y', lookN P.bl (x.b : Int) = some y' ∧ x.f ≤ x.t ∧ x.t ≤ y'.used) → octPt (P.setB z.b ⟨y.a, y.g, splice y.cs y.used (os.take sp), y.used + sp, y.pin⟩).oct x = octPt P.oct x := fun x ⟨y', hy', x1, x2⟩ => setB_octPt hsp.look (fun e => by
      rw [e, hsp.look] at hy'
      rw [← Option.some.inj hy'] at x2
      show ((splice y.cs y.used (os.take sp)).take x.t).drop x.f = _
      rw [splice_take _ _ _ _ (by omega) x2])
    have hlook : lookN (P.setB z.b ⟨y.a, y.g, splice y.cs y.used (os.take sp), y.used + sp, y.pin⟩).bl (z.b : Int) = some ⟨y.a, y.g, splice y.cs y.used (os.take sp), y.used + sp, y.pin⟩ := by
      show lookN (putB P.bl z.b _) _ = _
      rw [putB_look, if_pos rfl, hsp.look]
      rfl
    have ho' := ho
    rw [hsp.l] at ho'
    obtain ⟨yz, hyz, z1, z2⟩ := ho' z (by simp)
    have ptsNew : ∀ x : Pt, (∃ y', lookN P.bl (x.b : Int) = some y' ∧ x.f ≤ x.t ∧ x.t ≤ y'.used) → ∃ y', lookN (P.setB z.b ⟨y.a, y.g, splice y.cs y.used (os.take sp), y.used + sp, y.pin⟩).bl (x.b : Int) = some y' ∧ x.f ≤ x.t ∧ x.t ≤ y'.used := fun x ⟨y', hy', x1, x2⟩ => by
      show ∃ y', lookN (putB P.bl z.b _) _ = some y' ∧ _
      rw [putB_look]
      by_cases e : (z.b : Int) = (x.b : Int)
      · rw [if_pos e, hy']
        rw [← e, hsp.look] at hy'
        rw [← Option.some.inj hy'] at x2
        exact ⟨_, rfl, x1, by show x.t ≤ y.used + sp; omega⟩
      · rw [if_neg e]
        exact ⟨y', hy', x1, x2⟩
    refine ⟨?_, ?_, ?_, ?_, ?_, ?_, rfl, rfl, rfl, rfl, ?_⟩
    · intro x hx
      rcases List.mem_append.1 hx with hx | hx
      · exact ptsNew x (ho' x (by simp [hx]))
      · have e : x = ⟨z.b, z.f, z.t + sp⟩ := by simpa using hx
        subst e
        exact ⟨_, hlook, by show z.f ≤ z.t + sp; omega, by show z.t + sp ≤ y.used + sp; omega⟩
    · rw [octP_app, hsp.l, octP_app, List.append_assoc]
      congr 1
      · unfold octP
        exact (flatMap_same (fun x hx => old x (ho' x (by simp [hx]))))
      · unfold octP
        simp only [List.flatMap_cons, List.flatMap_nil, List.append_nil]
        unfold octPt
        simp only
        rw [oct_of hlook, oct_of hsp.look]
        simp only
        have h1 : z.t + sp = y.used + (os.take sp).length := by omega
        rw [h1, splice_ext _ _ _ (by omega), List.drop_append_of_le_length (by rw [List.length_take]; omega), hzt]
    · intro l' hl'
      unfold octP
      exact (flatMap_same (fun x hx => old x (hl' x hx)))
    · rw [hsp.l]
      simp
    · rw [hsp.l, lenP_app, lenP_app]
      have e : ∀ x : Pt, lenP [x] = x.n := fun x => by simp [lenP]
      rw [e, e]
      unfold Pt.n
      simp only
      omega
    · exact putB_len _ _ _
    · intro p hp
      rcases putB_mem hp with rfl | ⟨hp, _⟩
      · exact y9
      · exact m.lt p hp

end
end Go.Proofs.Ytbndknbjjdoanaa

namespace Go.Proofs.Ytbndknbjjdoanaa
section
open Go.RowKit

def ringCells (bp : Nat) (o k s m : Int) (mv : Value) (st len : Int) : Array Value :=
  #[.pointer (some ⟨bp, 0, none⟩), .int .i64 o, .int .i64 k, .int .i64 s, .int .i64 m, .bool false, mv, .int .i64 st, .int .i64 len]
/-- The ring's memory: nil, or a block. -/
def memOf (g : Option Nat) (R : Nat) : Value := match g with | none => .slice none R R | some b => .slice (some ⟨b, 0, none⟩) R R
theorem memOf_sh (g : Option Nat) (R : Nat) : ∃ a, memOf g R = .slice a R R ∧ (∀ b, g = some b → a = some ⟨b, 0, none⟩) ∧ (g = none → a = none) := by
  cases g with
  | none => exact ⟨none, rfl, fun b h => (by cases h), fun _ => rfl⟩
  | some b => exact ⟨_, rfl, fun c h => (by cases h; rfl), fun h => (by cases h)⟩

def CellsPost (g : Option Nat) (at' n R : Nat) (w : World) : Ending → World → Prop := fun e w' =>
  ∃ f1 f2, e = .returned (.tuple #[.slice f1 (min (at' + n) R - at') (min (at' + n) R - at'), .slice f2 (n - (min (at' + n) R - at')) (n - (min (at' + n) R - at'))]) ∧
    (∀ b, g = some b → (at' < min (at' + n) R → f1 = some ⟨b, at', none⟩) ∧ (0 < n - (min (at' + n) R - at') → f2 = some ⟨b, 0, none⟩)) ∧ ∃ q, w' = w.drewN q

theorem cells_mk {b at' n R q A B : Nat} {w : World} {f1 f2 : Option Addr} (hA : A = min (at' + n) R - at') (hB : B = n - A) (h1 : at' < min (at' + n) R → f1 = some ⟨b, at', none⟩) (h2 : 0 < B → f2 = some ⟨b, 0, none⟩) :
    CellsPost (some b) at' n R w (.returned (.tuple #[.slice f1 A A, .slice f2 B B])) (w.drewN q) := by
  subst hA hB
  refine ⟨f1, f2, rfl, fun b' hb' => ?_, q, rfl⟩
  obtain rfl : b = b' := by simpa using hb'
  exact ⟨h1, h2⟩

end
end Go.Proofs.Ytbndknbjjdoanaa

namespace Go.Proofs.Ytbndknbjjdoanaa
section
open Go.RowKit

theorem Reads.touch {F : Nat → Prop} {w w' : World} {k : IntKind} {v : Value} {zs : List Int} (h : Reads w k v zs) (ht : Touch F w w') (hF : ∀ b o n c, v = .slice (some ⟨b, o, none⟩) n c → ¬ F b) : Reads w' k v zs := by
  obtain ⟨a, cap, rfl, hl, hc⟩ := h
  refine ⟨a, cap, rfl, hl, fun hne => ?_⟩
  obtain ⟨b, o, rfl, h1⟩ := hc hne
  refine ⟨b, o, rfl, fun j hj => ?_⟩
  have h2 := h1 j hj
  have hb : b < w.heap.size := World.block_lt_of_cell? w ⟨b, o + j, none⟩ h2
  have h3 := ht.block b hb (hF b o _ _ rfl)
  unfold World.cell? at h2 ⊢
  rw [h3]
  exact h2

theorem Reads.take {w : World} {k : IntKind} {a : Option Addr} {n c : Nat} {zs : List Int} (h : Reads w k (.slice a n c) zs) (m : Nat) (hm : m ≤ zs.length) : Reads w k (.slice a m c) (zs.take m) := by
  obtain ⟨a', cap, e, hl, hc⟩ := h
  simp only [Value.slice.injEq] at e
  obtain ⟨rfl, rfl, rfl⟩ := e
  have hlm : (zs.take m).length = m := by rw [List.length_take]; omega
  refine ⟨a, c, by rw [hlm], by omega, fun hne => ?_⟩
  have h0 : 0 < m := by
    rcases Nat.eq_zero_or_pos m with h0 | h0
    · subst h0; simp at hne
    · exact h0
  obtain ⟨b, o, rfl, h1⟩ := hc (by intro e; subst e; simp at hm; omega)
  refine ⟨b, o, rfl, fun j hj => ?_⟩
  rw [hlm] at hj
  rw [h1 j (by omega)]
  simp [List.getD_eq_getElem?_getD, hj]

theorem Reads.dropZ {w : World} {k : IntKind} {b o n c : Nat} {zs : List Int} (h : Reads w k (.slice (some ⟨b, o, none⟩) n c) zs) (t : Nat) (ht : t ≤ zs.length) (z : Option Addr) (hz : t < zs.length → z = some ⟨b, o + t, none⟩) (m : Nat) : Reads w k (.slice z (n - t) m) (zs.drop t) := by
  obtain ⟨a', cap, e, hl, hc⟩ := h
  simp only [Value.slice.injEq] at e
  obtain ⟨rfl, rfl, rfl⟩ := e
  have hlm : (zs.drop t).length = zs.length - t := by rw [List.length_drop]
  refine ⟨z, m, by rw [hlm], by omega, fun hne => ?_⟩
  have h0 : t < zs.length := by
    rcases Nat.lt_or_ge t zs.length with h0 | h0
    · exact h0
    · exact absurd (List.drop_eq_nil_of_le h0) hne
  obtain ⟨b', o', e1, h1⟩ := hc (by intro e; subst e; simp at h0)
  simp only [Option.some.injEq, Addr.mk.injEq, and_true] at e1
  obtain ⟨rfl, rfl⟩ := e1
  refine ⟨b, o + t, hz h0, fun j hj => ?_⟩
  rw [hlm] at hj
  rw [Nat.add_assoc, h1 (t + j) (by omega)]
  simp [List.getD_eq_getElem?_getD]

theorem splice_mapF (cs zs : List Int) (F : Nat) : (splice cs F zs).map (Value.int .u8) = splice (cs.map (Value.int .u8)) F (zs.map (Value.int .u8)) := by simp [splice]

theorem bytes_spliceF {cs zs : List Int} {F : Nat} (h : bytes cs) (hz : bytes zs) : bytes (splice cs F zs) := by
  intro z hm
  simp only [splice, List.mem_append] at hm
  rcases hm with hm | hm | hm
  · exact h z (List.mem_of_mem_take hm)
  · exact hz z hm
  · exact h z (List.mem_of_mem_drop hm)

def ReplPost (k s m : Int) (g : Nat) (cs : List Int) (n cap f t : Nat) (zs : List Int) (N : Nat) (w : World) : Ending → World → Prop := fun e w' =>
  ∃ g' ds, e = .returned (.tuple #[.slice (some ⟨g', 0, none⟩) N (growV k s m cap N).toNat, .bool (decide (cap < N)), .int .i64 0]) ∧ byteRow w' g' ds ∧ ds.length = (growV k s m cap N).toNat ∧ bytes ds ∧
    ds.take N = cs.take f ++ zs ++ (cs.take n).drop t ∧ (g' = g ∨ w.heap.size ≤ g') ∧ Touch (fun k => k = g) w w'

end
end Go.Proofs.Ytbndknbjjdoanaa

namespace Go.Proofs.Ytbndknbjjdoanaa
section
open Go.RowKit

theorem cat2 {wB : World} {S1 S2 : Value} {l1 l2 : List Int} (r1 : Reads wB .u8 S1 l1) (r2 : Reads wB .u8 S2 l2) :
    ∀ k (hk : k < [(S1, l1), (S2, l2)].length), (wB.alloc (.cells #[S1, S2] 22)).cell? ⟨wB.heap.size, k, none⟩ = some ([(S1, l1), (S2, l2)][k].1) ∧
      Reads (wB.alloc (.cells #[S1, S2] 22)) .u8 ([(S1, l1), (S2, l2)][k].1) ([(S1, l1), (S2, l2)][k].2) := by
  have W1 : Below wB.heap.size wB (wB.alloc (.cells #[S1, S2] 22)) := (Below.refl wB.heap.size wB).alloc (Nat.le_refl _) _
  have q1 := r1.below W1 rfl
  have q2 := r2.below W1 rfl
  have hn : (wB.alloc (.cells #[S1, S2] 22)).heap[wB.heap.size]? = some (.cells #[S1, S2] 22 (0, 0)) := heap_alloc_new wB _
  intro k hk
  match k, hk with
  | 0, _ => exact ⟨by rw [cell_of hn]; rfl, q1⟩
  | 1, _ => exact ⟨by rw [cell_of hn]; rfl, q2⟩

theorem concat2 {wB : World} {S1 S2 : Value} {l1 l2 : List Int} (r1 : Reads wB .u8 S1 l1) (r2 : Reads wB .u8 S2 l2) (hl : (l1 ++ l2).length ≤ 100000000) :
    Calls Try.prog 16 #[.slice (some ⟨wB.heap.size, 0, none⟩) 2 2] (wB.alloc (.cells #[S1, S2] 22)) (OwnBytes (l1 ++ l2) (wB.alloc (.cells #[S1, S2] 22))) := by
  have e : ([(S1, l1), (S2, l2)].map Prod.snd).flatten = l1 ++ l2 := by simp
  have h := concat_any wB.heap.size [(S1, l1), (S2, l2)] _ (cat2 r1 r2) (by rw [e]; exact hl) (by simp)
  rw [e] at h
  exact h

/-- The memory's octets. -/
def memRow (w : World) (g : Option Nat) (R : Nat) (cs : List Int) : Prop := cs.length = R ∧ match g with | none => R = 0 | some b => byteRow w b cs
theorem memRow.nil {w : World} {g : Option Nat} {R : Nat} {cs : List Int} (h : memRow w g R cs) (hg : g = none) : R = 0 := by subst hg; exact h.2
theorem memRow.keep {w w' : World} {g : Option Nat} {R : Nat} {cs : List Int} (h : memRow w g R cs) (hk : ∀ b, g = some b → w'.heap[b]? = w.heap[b]?) : memRow w' g R cs := by
  refine ⟨h.1, ?_⟩
  cases g with
  | none => exact h.2
  | some b => exact (hk b rfl).trans h.2

/-- Where an octet's cell lies. -/
def cellN (st R n : Nat) : Nat := if R = 0 then 0 else (st + n) % R
theorem cellN_le (st R n : Nat) : cellN st R n ≤ R := by
  unfold cellN; split
  · omega
  · exact Nat.le_of_lt (Nat.mod_lt _ (by omega))

/-- n octets from cell c on. -/
def octL (cs : List Int) (c n : Nat) : List Int := (cs.drop c).take (min (c + n) cs.length - c) ++ cs.take (n - (min (c + n) cs.length - c))
theorem octL_len (cs : List Int) (c n : Nat) (hc : c ≤ cs.length) (hn : n ≤ cs.length) : (octL cs c n).length = n := by
  unfold octL
  simp only [List.length_append, List.length_take, List.length_drop]
  omega

theorem reads_part {w : World} {b : Nat} {cs : List Int} (h : byteRow w b cs) (c k : Nat) (hk : c + k ≤ cs.length) (hl : cs.length ≤ 1000000) (f : Option Addr) (hf : 0 < k → f = some ⟨b, c, none⟩) : Reads w .u8 (.slice f k k) ((cs.drop c).take k) := by
  have hlen : ((cs.drop c).take k).length = k := by rw [List.length_take, List.length_drop]; omega
  refine ⟨f, k, by rw [hlen], by omega, fun hne => ?_⟩
  have h0 : 0 < k := by
    rcases Nat.eq_zero_or_pos k with h0 | h0
    · subst h0; simp at hne
    · exact h0
  refine ⟨b, c, hf h0, fun j hj => ?_⟩
  rw [hlen] at hj
  rw [h.cell (c + j) (by omega)]
  simp [List.getD_eq_getElem?_getD, hj]

end
end Go.Proofs.Ytbndknbjjdoanaa

namespace Go.Proofs.Ytbndknbjjdoanaa
section
open Go.RowKit

/-- A slice of the call's own, apart from block g. -/
def OwnAt (pl : Value) (n g : Nat) : Prop := (pl = .slice none 0 0 ∧ n = 0) ∨ ∃ b c, pl = .slice (some ⟨b, 0, none⟩) n c ∧ b ≠ g ∧ n ≤ c ∧ c ≤ maxLen
theorem OwnAt.of {W : World} {B e n g : Nat} {v : Value} {xs : List Value} (h : W.ownsRow B e 1 v n xs) (hg : g < B) : OwnAt v n g := by
  rcases h.2 with ⟨rfl, h0⟩ | ⟨b, cap, cur, rfl, hb, _, h1, h2, _⟩
  · exact Or.inl ⟨rfl, h0⟩
  · exact Or.inr ⟨b, cap, rfl, by omega, h1, h2⟩

def putD (R c n : Nat) : Nat := min (c + n) R - c
def putL (cs : List Int) (c : Nat) (zs : List Int) : List Int := splice (splice cs c (zs.take (putD cs.length c zs.length))) 0 (zs.drop (putD cs.length c zs.length))

theorem putL_len (cs : List Int) (c : Nat) (zs : List Int) (hc : c ≤ cs.length) (hn : zs.length ≤ cs.length) : (putL cs c zs).length = cs.length := by
  have h1 : (splice cs c (zs.take (putD cs.length c zs.length))).length = cs.length := splice_len _ _ _ (by rw [List.length_take]; unfold putD; omega)
  unfold putL
  rw [splice_len _ _ _ (by rw [List.length_drop, h1]; unfold putD; omega), h1]

end
end Go.Proofs.Ytbndknbjjdoanaa
