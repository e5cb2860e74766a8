/-
  SharePacked: the plain part. No conditions.
  What the strings of a pool hold, after each of its doings. No conditions but bounds.
  Len of a pool. Conditions: numbers in their bounds.
-/
import Derived.Test.YtbndknbjjdoanaaTopSharedPbd
import Derived.Test.YtbndknbjjdoanaaTopSharedPbm

namespace Go.Proofs.Ytbndknbjjdoanaa
section
open Go.RowKit
set_option linter.unusedVariables false

def noPins (P : PoolSt) : Prop := ∀ p ∈ P.bl, p.2.pin = false
theorem noPins.at {P : PoolSt} (h : noPins P) (x : Pt) : pinAt P x = false := by
  unfold pinAt
  cases hl : lookN P.bl x.b with
  | none => rfl
  | some y =>
    obtain ⟨n, _, hm⟩ := lookN_mem hl
    exact h _ hm
theorem noPins.zero {P : PoolSt} (h : noPins P) (l : List Pt) : pinsN P l = 0 := by
  unfold pinsN
  rw [List.filter_eq_nil_iff.2 (fun x _ => by rw [h.at x]; simp)]
  rfl
theorem shE_no {P : PoolSt} (h : noPins P) (hf : P.bl.length ≤ 2000) (l : List Pt) : shE P l = if P.st.length = 200 ∨ 500 < l.length ∨ 100000 < lenP l then 4 else 0 := by
  unfold shE
  split
  · rfl
  · rw [h.zero l]
    unfold tkE
    rw [if_neg (by omega), if_pos rfl]
theorem tkE_vals (P : PoolSt) (n m : Nat) : tkE P n m = 0 ∨ tkE P n m = 4 ∨ tkE P n m = 12 := by
  unfold tkE
  split
  · simp
  · split
    · simp
    · split <;> simp
theorem growAll_pins {P : PoolSt} {zs : List Int} : ∀ {bks : List Bk}, noPins P → (∀ y ∈ bks, y.pin = false) → noPins (P.growAll bks)
  | [], h, _ => h
  | y :: l, h, hb => by
    rw [growAll_cons]
    refine growAll_pins (zs := zs) (fun p hp => ?_) (fun z hz => hb z (by simp [hz]))
    rcases List.mem_append.1 hp with hp | hp
    · exact h p hp
    · have e : p = (P.lastB + 1, y) := by simpa using hp
      rw [e]
      exact hb y (by simp)
theorem Fills.nopin {size : Nat} {zs : List Int} {bks : List Bk} (h : Fills size zs bks) : ∀ y ∈ bks, y.pin = false := fun y hy => by
  obtain ⟨j, hj⟩ := List.getElem?_of_mem hy
  obtain ⟨a, g, rfl⟩ := h j y hj
  rfl
theorem swept_pins {P : PoolSt} (h : noPins P) : noPins P.swept := fun p hp => h p (List.mem_filter.1 hp).1

/-- A sweep leaves the octets of what stands. -/
theorem swept_oct {P : PoolSt} {s : Nat × Option (Nat × Nat × Nat) × List Pt} (hs : s ∈ P.st) : octP P.swept.oct s.2.2 = octP P.oct s.2.2 := octP_same (fun x hx => by
  have hk := keeps_of hs hx
  unfold PoolSt.oct
  show (match lookN (P.bl.filter fun p => P.keeps (p.1 : Int)) (x.b : Int) with | some x => x.cs | none => []) = _
  rw [lookN_filter (fun k => P.keeps k), hk, if_pos rfl]
  rfl)
theorem keeps_iff {P : PoolSt} {k : Int} : P.keeps k = true ↔ ∃ s ∈ P.st, ∃ x ∈ s.2.2, (x.b : Int) = k := by
  unfold PoolSt.keeps
  rw [List.any_eq_true]
  constructor
  · rintro ⟨s, hs, h⟩
    obtain ⟨x, hx, e⟩ := List.any_eq_true.1 h
    exact ⟨s, hs, x, hx, by simpa using e⟩
  · rintro ⟨s, hs, x, hx, e⟩
    exact ⟨s, hs, List.any_eq_true.2 ⟨x, hx, by simpa using e⟩⟩
/-- How many blocks one string alone keeps, if no two parts lie in one. -/
theorem swept_count {P : PoolSt} {s : Nat} {o : Option (Nat × Nat × Nat)} {l : List Pt} (hst : P.st = [(s, o, l)]) (hkb : (P.bl.map Prod.fst).Nodup) (hpt : PtsOf P l) (hd : (l.map Pt.b).Nodup) : P.swept.bl.length = l.length := by
  have hp : (P.swept.bl.map Prod.fst).Perm (l.map Pt.b) := by
    refine (List.perm_ext_iff_of_nodup (hkb.sublist (List.filter_sublist.map _)) hd).2 (fun b => ?_)
    constructor
    · intro hb
      obtain ⟨p, hp, rfl⟩ := List.mem_map.1 hb
      obtain ⟨s', hs', x, hx, e⟩ := keeps_iff.1 (List.mem_filter.1 hp).2
      rw [hst] at hs'
      obtain rfl : s' = (s, o, l) := by simpa using hs'
      exact List.mem_map.2 ⟨x, hx, by omega⟩
    · intro hb
      obtain ⟨x, hx, rfl⟩ := List.mem_map.1 hb
      obtain ⟨y, hy, _⟩ := hpt x hx
      obtain ⟨n, hn, hm⟩ := lookN_mem hy
      refine List.mem_map.2 ⟨(n, y), List.mem_filter.2 ⟨hm, keeps_iff.2 ⟨(s, o, l), by rw [hst]; simp, x, hx, by simp; omega⟩⟩, by simp only; omega⟩
  have := hp.length_eq
  simpa using this
theorem swept_empty {P : PoolSt} (h : P.st = []) : P.swept.bl = [] := by
  show P.bl.filter _ = []
  refine List.filter_eq_nil_iff.2 (fun p _ hk => ?_)
  obtain ⟨s, hs, _⟩ := keeps_iff.1 hk
  rw [h] at hs
  simp at hs
/-- No two parts of a packed string lie in one block. -/
theorem PkS.nodup {P : PoolSt} {s : Nat} {o : Option (Nat × Nat × Nat)} {l : List Pt} (h : PkS P s l) (hst : (s, o, l) ∈ P.st) (hsz : 1 ≤ P.size) : (l.map Pt.b).Nodup := by
  obtain ⟨hl, hk⟩ := h
  have pos : ∀ (k : Nat) (x : Pt), l[k]? = some x → 0 < x.t := fun k x hx => by
    have h1 := hk k x hx
    have hlt := (List.getElem?_eq_some_iff.1 hx).1
    have h2 : k * P.size < lenP l := by
      rw [hl] at hlt
      unfold manyP at hlt
      have h3 : (k + 1) * P.size ≤ lenP l + P.size - 1 := Nat.le_trans (Nat.mul_le_mul_right _ hlt) (Nat.div_mul_le_self _ _)
      rw [Nat.succ_mul] at h3
      omega
    have := h1.2.1
    omega
  refine List.pairwise_iff_getElem.2 (fun i j hi hj hij e => ?_)
  rw [List.length_map] at hi hj
  simp only [List.getElem_map] at e
  have hxi : l[i]? = some l[i] := List.getElem?_eq_getElem hi
  have hxj : l[j]? = some l[j] := List.getElem?_eq_getElem hj
  refine (hk i _ hxi).2.2.2 ⟨(s, o, l), hst, j, l[j], hxj, ?_, rfl, e.symm, ?_, ?_⟩
  · intro h2; omega
  · show l[j].f < P.size
    rw [(hk j _ hxj).1]
    omega
  · show (0 : Nat) < l[j].t
    exact pos j _ hxj
theorem fillPts_nodup (lb size : Nat) (zs : List Int) (k : Nat) : ((fillPts lb size zs k).map Pt.b).Nodup := by
  unfold fillPts
  rw [List.map_map]
  have e : (Pt.b ∘ fun j => (⟨lb + 1 + j, 0, (partZ zs size j).length⟩ : Pt)) = fun j => lb + 1 + j := by funext j; rfl
  rw [e]
  refine List.pairwise_iff_getElem.2 (fun i j hi hj hij e => ?_)
  simp at e
  omega
theorem growAll_nodup : ∀ {P : PoolSt} (bks : List Bk), (∀ p ∈ P.bl, p.1 ≤ P.lastB) → (P.bl.map Prod.fst).Nodup → ((P.growAll bks).bl.map Prod.fst).Nodup
  | _, [], _, h => h
  | P, x :: l, hn, h => by
    refine growAll_nodup (P := P.grow x) l (grow_nb x hn) ?_
    show ((P.bl ++ [(P.lastB + 1, x)]).map Prod.fst).Nodup
    rw [List.map_append, List.nodup_append]
    refine ⟨h, by simp, fun a ha b hb => ?_⟩
    obtain ⟨p, hp, rfl⟩ := List.mem_map.1 ha
    simp at hb
    have := hn p hp
    omega
theorem manyP_ge {size n : Nat} (hs : 1 ≤ size) : n ≤ manyP size n * size := by
  unfold manyP
  have h1 := Nat.div_add_mod (n + size - 1) size
  have h2 := Nat.mod_lt (n + size - 1) (show size > 0 by omega)
  rw [Nat.mul_comm] at h1
  omega
theorem lookN_last {α : Type} {l : List (Nat × α)} {n : Nat} {x : α} (h : ∀ p ∈ l, p.1 ≠ n) : lookN (l ++ [(n, x)]) (n : Int) = some x := by rw [lookN_snoc _ _ _ _ h, if_pos rfl]

end
end Go.Proofs.Ytbndknbjjdoanaa

namespace Go.Proofs.Ytbndknbjjdoanaa
section
open Go.RowKit
set_option linter.unusedVariables false

/-- What a string holds. -/
def PoolSt.con (P : PoolSt) (s : Int) : Option (List Int) := (lookN P.st s).map fun q => octP P.oct q.2
theorem con_of {P : PoolSt} {s : Int} {q : Option (Nat × Nat × Nat) × List Pt} (h : lookN P.st s = some q) : P.con s = some (octP P.oct q.2) := by unfold PoolSt.con; rw [h]; rfl
theorem con_none {P : PoolSt} {s : Int} (h : lookN P.st s = none) : P.con s = none := by unfold PoolSt.con; rw [h]; rfl
theorem octP_pts {M M' : Nat → List Int} : ∀ {l : List Pt}, (∀ x ∈ l, octPt M' x = octPt M x) → octP M' l = octP M l
  | [], _ => rfl
  | x :: l, h => by rw [octP_cons, octP_cons, h x (by simp), octP_pts (fun y hy => h y (by simp [hy]))]
/-- The same strings, the same octets in their parts. -/
theorem con_same {P Q : PoolSt} (hst : Q.st = P.st) (h : ∀ q ∈ P.st, ∀ x ∈ q.2.2, octPt Q.oct x = octPt P.oct x) (s : Int) : Q.con s = P.con s := by
  unfold PoolSt.con
  rw [hst]
  cases hl : lookN P.st s with
  | none => rfl
  | some q =>
    obtain ⟨n, _, hm⟩ := lookN_mem hl
    exact congrArg some (octP_pts (h _ hm))
theorem con_swept (P : PoolSt) (s : Int) : P.swept.con s = P.con s := by
  unfold PoolSt.con
  show (lookN P.st s).map _ = _
  cases hl : lookN P.st s with
  | none => rfl
  | some q =>
    obtain ⟨n, _, hm⟩ := lookN_mem hl
    exact congrArg some (swept_oct hm)
theorem con_setS {P : PoolSt} {sn : Nat} {o : Option (Nat × Nat × Nat)} {m : List Pt} {q : Option (Nat × Nat × Nat) × List Pt} (h : lookN P.st (sn : Int) = some q) (s : Int) : (P.setS sn o m).con s = if (sn : Int) = s then some (octP P.oct m) else P.con s := by
  unfold PoolSt.con
  show (lookN (putS P.st sn o m) s).map _ = _
  rw [putS_look]
  by_cases e : (sn : Int) = s
  · rw [if_pos e, if_pos e, ← e, h]
    rfl
  · rw [if_neg e, if_neg e]
    rfl
theorem con_grow {P : PoolSt} {x : Bk} (hn : ∀ p ∈ P.bl, p.1 ≤ P.lastB) (hp : ∀ q ∈ P.st, PtsOf P q.2.2) (s : Int) : (P.grow x).con s = P.con s := con_same (P := P) (Q := P.grow x) rfl (fun q hq z hz => by
  obtain ⟨y, hy, _⟩ := hp q hq z hz
  exact octPt_look (P := P) (Q := P.grow x) ((grow_old hn hy).trans hy.symm)) s
theorem con_growAll {P : PoolSt} (bks : List Bk) (hn : ∀ p ∈ P.bl, p.1 ≤ P.lastB) (hp : ∀ q ∈ P.st, PtsOf P q.2.2) (s : Int) : (P.growAll bks).con s = P.con s := con_same (growAll_st _ _) (fun q hq z hz => by
  obtain ⟨y, hy, _⟩ := hp q hq z hz
  exact oct_growAll hn bks hy) s
theorem con_add {P : PoolSt} {o : Option (Nat × Nat × Nat)} {l : List Pt} (hn : ∀ q ∈ P.st, q.1 ≤ P.lastS) (s : Int) : (P.add o l).con s = if ((P.lastS + 1 : Nat) : Int) = s then some (octP P.oct l) else P.con s := by
  unfold PoolSt.con
  show (lookN (P.st ++ [(P.lastS + 1, o, l)]) s).map _ = _
  rw [lookN_snoc _ _ _ _ (fun p hp => by have := hn p hp; omega)]
  split
  · rfl
  · rfl
theorem con_SetI {P : PoolSt} {sn : Nat} {q : Option (Nat × Nat × Nat) × List Pt} {S : List Nat} {T : List Int} {Q : PoolSt} {m : List Pt} {o : Option (Nat × Nat × Nat)} (h : SetI P sn q.2 S T q.2.length Q m) (hq : lookN P.st (sn : Int) = some q) (hT : T.length = lenP q.2) (s : Int) : (Q.setS sn o m).con s = if (sn : Int) = s then some T else P.con s := by
  rw [con_setS (by rw [h.st]; exact hq)]
  by_cases e : (sn : Int) = s
  · rw [if_pos e, if_pos e, tgt_all T m q.2 h.len hT (fun i x x' hx hx' => h.did i x x' (List.getElem?_eq_some_iff.1 hx).1 hx hx')]
  · rw [if_neg e, if_neg e]
    unfold PoolSt.con
    rw [h.st]
    cases hl : lookN P.st s with
    | none => rfl
    | some p =>
      obtain ⟨n, hn, hm⟩ := lookN_mem hl
      exact congrArg some (octP_pts (h.rest _ hm (by simp only; omega)))
theorem con_drop (P : PoolSt) (x s : Int) : (P.drop x).con s = if s = x then none else P.con s := by
  unfold PoolSt.con
  show (lookN (P.st.filter fun p => decide (¬ (p.1 : Int) = x)) s).map _ = _
  rw [lookN_filter (fun k => decide (¬ k = x))]
  by_cases e : s = x
  · rw [if_neg (by simp [e]), if_pos e]
    rfl
  · rw [if_pos (by simp [e]), if_neg e]
    rfl
theorem lenP_mono (l : List Pt) {j k : Nat} (h : j ≤ k) : lenP (l.take j) ≤ lenP (l.take k) := by
  have e : l.take j = (l.take k).take j := by rw [List.take_take, Nat.min_eq_left h]
  have h1 : lenP (l.take k) = lenP ((l.take k).take j) + lenP ((l.take k).drop j) := by rw [← lenP_app, List.take_append_drop]
  rw [e]
  omega
/-- A part of one string is written, and no other part lies there. -/
theorem con_write {P : PoolSt} {sn : Nat} {o : Option (Nat × Nat × Nat)} {l : List Pt} (hl : lookN P.st (sn : Int) = some (o, l)) (hok : ∀ x ∈ l, x.ok P.oct) {k : Nat} {z : Pt} (hz : l[k]? = some z) {y y' : Bk} (hy : lookN P.bl (z.b : Int) = some y) (hzt : z.f ≤ z.t ∧ z.t ≤ y.cs.length) {c : Nat} {xs : List Int} (h0 : 0 < xs.length) (hf : c + xs.length ≤ z.n) (hcs : y'.cs = splice y.cs (z.f + c) xs)
    (hap : ∀ q ∈ P.st, ∀ (i : Nat) (u : Pt), q.2.2[i]? = some u → ¬ (q.1 = sn ∧ i = k) → u.b = z.b → u.t ≤ z.f + c ∨ z.f + c + xs.length ≤ u.f) (s : Int) :
    (P.setB z.b y').con s = if (sn : Int) = s then some (splice (octP P.oct l) (lenP (l.take k) + c) xs) else P.con s := by
  obtain ⟨n, hn, hm⟩ := lookN_mem hl
  have en : n = sn := by omega
  subst en
  have hzn : z.n = z.t - z.f := rfl
  have out : ∀ q ∈ P.st, ∀ (i : Nat) (u : Pt), q.2.2[i]? = some u → ¬ (q.1 = n ∧ i = k) → octPt (P.setB z.b y').oct u = octPt P.oct u := fun q hq i u hu hne => setB_octPt hy (fun e => by
    rw [hcs]
    exact splice_out _ _ _ _ _ (by omega) (hap q hq i u hu hne e))
  by_cases e : (n : Int) = s
  · rw [if_pos e, ← e]
    have h1 : (P.setB z.b y').con (n : Int) = some (octP (P.setB z.b y').oct l) := con_of (P := P.setB z.b y') hl
    rw [h1]
    congr 1
    have hlp := lenP_part hz
    have hL : (octP P.oct l).length = lenP l := octP_len hok
    refine tgt_all _ l l rfl (by rw [splice_len _ _ _ (by omega), hL]) (fun i x x' hx hx' => ?_)
    rw [hx] at hx'
    cases hx'
    by_cases ei : i = k
    · subst ei
      rw [hz] at hx
      cases hx
      have h2 := tgt_write (M := P.oct) hok (os := xs) (at' := lenP (l.take i) + c) (by omega) hz (f := c) (t := c + xs.length) (by omega) (by omega) (by omega)
      rw [h2, show lenP (l.take i) + c - (lenP (l.take i) + c) = 0 by omega, List.drop_zero, show c + xs.length - c = xs.length by omega, List.take_length]
      have h3 : lookN (P.setB z.b y').bl (z.b : Int) = some y' := by rw [setB_lookQ hy, if_pos rfl]
      rw [octPt_of h3, octPt_of hy, hcs]
      exact splice_in _ _ _ _ _ hzt.2 (by omega)
    · rw [out _ hm i x hx (fun e2 => ei e2.2)]
      refine (tgt_skip hok (by omega) hx ?_).symm
      have h4 := lenP_take hx
      have h5 := lenP_take hz
      rcases Nat.lt_or_ge i k with h6 | h6
      · have := lenP_mono l (show i + 1 ≤ k by omega)
        left; omega
      · have := lenP_mono l (show k + 1 ≤ i by omega)
        right; left; omega
  · rw [if_neg e]
    unfold PoolSt.con
    show (lookN P.st s).map _ = _
    cases hl2 : lookN P.st s with
    | none => rfl
    | some q =>
      obtain ⟨n2, hn2, hm2⟩ := lookN_mem hl2
      refine congrArg some (octP_pts (fun u hu => ?_))
      obtain ⟨i, hi⟩ := List.getElem?_of_mem hu
      exact out _ hm2 i u hi (fun e2 => e (by have := e2.1; simp only at this; omega))
/-- A block is turned, but not what is in it. -/
theorem con_pin {P : PoolSt} {bb : Nat} {y y' : Bk} (hy : lookN P.bl (bb : Int) = some y) (hcs : y'.cs = y.cs) (s : Int) : (P.setB bb y').con s = P.con s := con_same (P := P) (Q := P.setB bb y') rfl (fun q hq u hu => setB_octPt hy (fun _ => by rw [hcs])) s

end
end Go.Proofs.Ytbndknbjjdoanaa

namespace Go.Proofs.Ytbndknbjjdoanaa
section
open Go.RowKit
set_option linter.unusedVariables false

def LnPost (P : PoolSt) (x : Int) (w : World) : Ending → World → Prop := fun e w' => Below w.heap.size w w' ∧ match lookN P.st x with
  | none => e = .returned (.tuple #[.int .i64 0, .int .i64 13])
  | some q => e = .returned (.tuple #[.int .i64 (lenP q.2 : Nat), .int .i64 0])

set_option maxHeartbeats 1000000 in
set_option maxRecDepth 100000 in
theorem len_any {w : World} {Z : Nat → Prop} {h bp : Nat} {P : PoolSt} {n : Nat} (s : SP w Z h bp P n) (x : Int) (hx : -9223372036854775808 ≤ x ∧ x ≤ 9223372036854775807) :
    Calls Try.prog 25 #[.pointer (some ⟨h, 0, none⟩), .int .i64 x] w (LnPost P x w) := by
  obtain ⟨mb, ms, D1, D2, F, G, b, p, hZ⟩ := s
  have FI := Lib.hid (findP_any p.pm x hx)
  cases hl : lookN P.st x with
  | none =>
    have HL := Lib.hid hl
    clear hl p
    go_enter Try.func25, Try.ntmps25
    go_wp2_with fail
    refine FI.out.mono ?_
    rintro e w2 ⟨rfl, he⟩
    rw [HL.out] at he
    subst he
    have FIN : Hid (LnPost P x w2 (.returned (.tuple #[.int .i64 0, .int .i64 13])) w2) := Lib.hid (by
      refine ⟨Below.refl _ _, ?_⟩
      rw [HL.out])
    go_wp2_with fail
    go_ret2
    exact FIN.out
  | some q =>
    obtain ⟨o, l⟩ := q
    have HL := Lib.hid hl
    have STR := p.pm.str hl
    obtain ⟨ra, rc, hrow, _, _, _⟩ := STR.2.2.2.2.2.1
    have HROW := Lib.hid hrow
    have LE := Lib.hid (lengthP_any (rowOf o) l w STR.2.2.2.2.2.1 STR.2.2.2.2.2.2)
    rw [hrow] at LE
    have hlp := STR.2.2.2.2.1
    obtain ⟨N, hN⟩ : ∃ N, lenP l = N := ⟨_, rfl⟩
    have HN := Lib.hid hN
    rw [hN] at LE hlp
    clear hl hrow hN STR p
    go_enter Try.func25, Try.ntmps25
    go_wp2_with fail
    refine FI.out.mono ?_
    rintro e w2 ⟨hw2, he⟩
    obtain rfl := hw2.symm
    rw [HL.out] at he
    simp only [HROW.out] at he
    subst he
    go_wp2_with fail
    refine LE.out.mono ?_
    rintro e w3 ⟨rfl, hb3⟩
    have FIN : Hid (LnPost P x w (.returned (.tuple #[.int .i64 (N : Int), .int .i64 0])) w3) := Lib.hid (by
      refine ⟨hb3, ?_⟩
      rw [HL.out]
      simp only
      rw [HN.out])
    clear hb3
    go_wp2_with fail
    go_ret2
    exact FIN.out

end
end Go.Proofs.Ytbndknbjjdoanaa
