/-
  What the strings of a pool hold after a look, and after what is looked at is written. No conditions but bounds.
  The beginning of a row over a pool and its book: awakeRoom, book, held, a new pool. No conditions.
-/
import Derived.Test.YtbndknbjjdoanaaTopSharedPbp
import Derived.Test.YtbndknbjjdoanaaTopSharedPbq
import Derived.Test.YtbndknbjjdoanaaTopSharedPbn
import Derived.Test.YtbndknbjjdoanaaTopSharedPae
import Derived.Test.YtbndknbjjdoanaaTopSharedPaf

namespace Go.Proofs.Ytbndknbjjdoanaa
section
open Go.RowKit
set_option linter.unusedVariables false

theorem setB_oct {P : PoolSt} {b : Nat} {y y' : Bk} (hy : lookN P.bl (b : Int) = some y) (hcs : y'.cs = y.cs) : (P.setB b y').oct = P.oct := by
  funext n
  unfold PoolSt.oct
  cases hl : lookN P.bl (n : Int) with
  | none =>
    have h1 : lookN (P.setB b y').bl (n : Int) = none := by
      show lookN (putB P.bl b y') _ = _
      rw [putB_look]
      split
      · rw [hl]; rfl
      · exact hl
    rw [h1]
  | some u =>
    rw [setB_lookQ hl]
    by_cases e : (b : Int) = (n : Int)
    · rw [if_pos e]
      rw [← e, hy] at hl
      cases hl
      exact hcs
    · rw [if_neg e]
/-- A look at what no other part has. -/
theorem con_look_own {P : PoolSt} (k0 : PoolOk P) {sn : Nat} {o : Option (Nat × Nat × Nat)} {l : List Pt} (hl : lookN P.st (sn : Int) = some (o, l)) {k : Nat} {z : Pt} (hz : l[k]? = some z) {y : Bk} (hy : lookN P.bl (z.b : Int) = some y) {f t : Nat} (h1 : lenP (l.take k) ≤ f) (h2 : f < lenP (l.take k) + z.n) (h3 : f < t)
    (hno : ¬ HitS P (lookPt z (lenP (l.take k)) f t) (sn : Int) (k : Int) (fun _ _ => false)) (hcs : z.t ≤ y.cs.length) (c : Int) (s : Int) :
    ((P.setB z.b ⟨y.a, y.g, y.cs, y.used, true⟩).setB z.b ⟨y.a, y.g, splice y.cs (lookPt z (lenP (l.take k)) f t).f [c], y.used, true⟩).con s = if (sn : Int) = s then some (splice (octP P.oct l) f [c]) else P.con s := by
  obtain ⟨n, hn, hm⟩ := lookN_mem hl
  have en : n = sn := by omega
  subst en
  have hzn : z.n = z.t - z.f := rfl
  have ho := setB_oct (P := P) (y' := ⟨y.a, y.g, y.cs, y.used, true⟩) hy rfl
  have hok := k0.ok _ hm
  have hz1 := (hok z (List.mem_of_getElem? hz)).1
  have hlook : lookN (P.setB z.b ⟨y.a, y.g, y.cs, y.used, true⟩).bl (z.b : Int) = some ⟨y.a, y.g, y.cs, y.used, true⟩ := by rw [setB_lookQ hy, if_pos rfl]
  have h := con_write (P := P.setB z.b ⟨y.a, y.g, y.cs, y.used, true⟩) (y' := ⟨y.a, y.g, splice y.cs (lookPt z (lenP (l.take k)) f t).f [c], y.used, true⟩) hl (by rw [ho]; exact hok) hz hlook ⟨hz1, hcs⟩ (c := f - lenP (l.take k)) (xs := [c]) (by simp) (by simp; omega) rfl (fun q hq i u hu hne hb => by
    have h5 := apart_of (F := z.f + (f - lenP (l.take k))) (T' := min (z.f + (t - lenP (l.take k))) z.t) (O := fun _ _ => false) hno hq hu hne rfl hb
    simp only [List.length_singleton]
    omega) s
  rw [h, ho, show lenP (l.take k) + (f - lenP (l.take k)) = f by omega, con_pin (y' := ⟨y.a, y.g, y.cs, y.used, true⟩) hy rfl s]
/-- A look at what another part has too: the part has a block of its own by then. -/
theorem look_new {P : PoolSt} (k0 : PoolOk P) {sn : Nat} {o0 : Option (Nat × Nat × Nat)} {l : List Pt} (hl : lookN P.st (sn : Int) = some (o0, l)) {k : Nat} {z : Pt} (hz : l[k]? = some z) (a g : Nat) (o : Option (Nat × Nat × Nat)) :
    lookN ((P.grow (newBk P.size a g (octPt P.oct z))).setS sn o (l.set k ⟨P.lastB + 1, 0, z.n⟩)).swept.bl ((P.lastB + 1 : Nat) : Int) = some (newBk P.size a g (octPt P.oct z)) ∧
    ∀ s : Int, ((P.grow (newBk P.size a g (octPt P.oct z))).setS sn o (l.set k ⟨P.lastB + 1, 0, z.n⟩)).swept.con s = P.con s := by
  obtain ⟨n, hn, hm⟩ := lookN_mem hl
  have en : n = sn := by omega
  subst en
  have hk : k < l.length := (List.getElem?_eq_some_iff.1 hz).1
  have hok := k0.ok _ hm
  have hlen := octPt_len (hok z (List.mem_of_getElem? hz))
  constructor
  · refine swept_look (grow_new k0.nb) ?_
    have hlk2 : lookN ((P.grow (newBk P.size a g (octPt P.oct z))).setS n o (l.set k (⟨P.lastB + 1, 0, z.n⟩ : Pt))).st (n : Int) = some (o, l.set k (⟨P.lastB + 1, 0, z.n⟩ : Pt)) := by
      show lookN (putS P.st n o _) _ = _
      rw [putS_look, if_pos rfl, hl]
      rfl
    obtain ⟨n', hn', hm'⟩ := lookN_mem hlk2
    exact keeps_of hm' (x := ⟨P.lastB + 1, 0, z.n⟩) (List.mem_of_getElem? (i := k) (by rw [List.getElem?_set, if_pos rfl, if_pos hk]))
  · intro s
    rw [con_swept, con_setS (P := P.grow (newBk P.size a g (octPt P.oct z))) (q := (o0, l)) hl, con_grow k0.nb k0.pts]
    by_cases e : (n : Int) = s
    · rw [if_pos e, ← e, con_of hl]
      congr 1
      have e1 : l.set k (⟨P.lastB + 1, 0, z.n⟩ : Pt) = l.take k ++ (⟨P.lastB + 1, 0, z.n⟩ : Pt) :: l.drop (k + 1) := List.set_eq_take_append_cons_drop.trans (if_pos hk)
      have e2 : l = l.take k ++ z :: l.drop (k + 1) := by rw [← drop_at hz, List.take_append_drop]
      have old : ∀ l' : List Pt, (∀ x ∈ l', x ∈ l) → octP (P.grow (newBk P.size a g (octPt P.oct z))).oct l' = octP P.oct l' := fun l' hl' => octP_pts (fun x hx => by
        obtain ⟨y, hy, _⟩ := k0.pts _ hm x (hl' x hx)
        exact octPt_look (P := P) (Q := P.grow (newBk P.size a g (octPt P.oct z))) ((grow_old k0.nb hy).trans hy.symm))
      have new : octPt (P.grow (newBk P.size a g (octPt P.oct z))).oct ⟨P.lastB + 1, 0, z.n⟩ = octPt P.oct z := by
        rw [octPt_of (x := ⟨P.lastB + 1, 0, z.n⟩) (grow_new k0.nb)]
        show ((octPt P.oct z ++ _).take z.n).drop 0 = _
        rw [List.drop_zero, List.take_append_of_le_length (by omega), List.take_of_length_le (by omega)]
      rw [e1, octP_app, octP_cons, new, old _ (fun x hx => List.mem_of_mem_take hx), old _ (fun x hx => List.mem_of_mem_drop hx)]
      conv => rhs; rw [e2, octP_app, octP_cons]
    · rw [if_neg e]
/-- No other part lies in the new block. -/
theorem look_alone {P : PoolSt} (k0 : PoolOk P) {sn : Nat} {o0 : Option (Nat × Nat × Nat)} {l : List Pt} (hl : lookN P.st (sn : Int) = some (o0, l)) {k : Nat} (x : Pt) (hx : P.lastB < x.b) (o : Option (Nat × Nat × Nat)) :
    ∀ q ∈ putS P.st sn o (l.set k x), ∀ (i : Nat) (u : Pt), q.2.2[i]? = some u → u.b = x.b → q.1 = sn ∧ i = k := by
  obtain ⟨n, hn, hm⟩ := lookN_mem hl
  have oldB : ∀ r ∈ P.st, ∀ y ∈ r.2.2, y.b ≤ P.lastB := fun r hr y hy => by
    obtain ⟨b, hb, _⟩ := k0.pts r hr y hy
    obtain ⟨j, hj, hjm⟩ := lookN_mem hb
    have := k0.nb _ hjm
    simp only at this
    omega
  intro q hq i u hu hb
  rcases putS_mem hq with rfl | hq
  · refine ⟨rfl, ?_⟩
    simp only at hu
    rw [List.getElem?_set] at hu
    split at hu
    · next e => exact e.symm
    · have := oldB _ hm u (List.mem_of_getElem? hu)
      omega
  · have := oldB _ hq u (List.mem_of_getElem? hu)
    omega
/-- A pack leaves what the strings hold. -/
theorem con_pack {P : PoolSt} (k0 : PoolOk P) {sn : Nat} {q : Option (Nat × Nat × Nat) × List Pt} (hl : lookN P.st (sn : Int) = some q) {bks : List Bk} (hf : Fills P.size (octP P.oct q.2) bks) (hb : bks.length = manyP P.size (lenP q.2)) (o : Option (Nat × Nat × Nat)) (s : Int) :
    ((P.growAll bks).setS sn o (fillPts P.lastB P.size (octP P.oct q.2) bks.length)).swept.con s = P.con s := by
  obtain ⟨n, hn, hm⟩ := lookN_mem hl
  have hL : (octP P.oct q.2).length = lenP q.2 := octP_len (k0.ok _ hm)
  have hge := manyP_ge (size := P.size) (n := lenP q.2) k0.sz
  rw [con_swept, con_setS (P := P.growAll bks) (q := q) (by rw [growAll_st]; exact hl), con_growAll bks k0.nb k0.pts, hf.oct k0.nb _ (Nat.le_refl _), List.take_of_length_le (by rw [hL, hb]; exact hge)]
  by_cases e : (sn : Int) = s
  · rw [if_pos e, ← e, con_of hl]
  · rw [if_neg e]

end
end Go.Proofs.Ytbndknbjjdoanaa

namespace Go.Proofs.Ytbndknbjjdoanaa
section
open Go.RowKit Go.ChangeMaps Go.MapKept
set_option linter.unusedVariables false

/-- The book of the statements: one account, number 1, with the greatest budget. -/
def bigStB : BookSt := openSt (newSt 10000000) 1 10000000
def BigPostB (w : World) : Ending → World → Prop := fun e w' =>
  ∃ p, e = .returned (.pointer (some ⟨p, 0, none⟩)) ∧ BookAt w' (fun k => w.heap.size ≤ k) p bigStB 1 ∧ Below w.heap.size w w'

set_option maxHeartbeats 1000000 in
set_option maxRecDepth 100000 in
theorem bigBookB_any (w : World) : Calls Try.prog 6 #[] w (BigPostB w) := by
  go_enter Try.func6, Try.ntmps6
  go_wp2_with fail
  refine (newBook_ok _ _ (by omega) (by omega)).mono ?_
  rintro e w1 ⟨p, rfl, hb, hbel⟩
  have O := Lib.hid (open_new p 1 10000000 w1 _ _ 0 hb (by simp [newSt]) (by unfold maxLen; omega) (by omega) ⟨by omega, by omega⟩ rfl)
  have hsz := hbel.size
  clear hb
  go_wp2_with fail
  refine O.out.mono ?_
  rintro e w2 ⟨rfl, hb2, ht2⟩
  go_wp2_with fail
  go_ret
  refine ⟨p, rfl, hb2.wider (fun k hk => by rcases hk with hk | hk <;> omega), ?_⟩
  exact hbel.trans (ht2.below hsz (fun k hk => hk))

set_option maxHeartbeats 1000000 in
set_option maxRecDepth 100000 in
theorem awakeRoomB_any (w : World) : Calls Try.prog 5 #[] w (LawPost w) := by
  go_enter Try.func5, Try.ntmps5
  go_wp2_with fail
  refine (classOf_bad _ _ (by omega)).mono ?_
  rintro e w1 ⟨rfl, hb⟩
  go_wp2_with fail
  go_ret
  exact ⟨rfl, hb⟩

theorem heldB_any (p : Nat) (w : World) (F : Nat → Prop) (st : BookSt) (N : Nat) (hb : BookAt w F p st N) : Calls Try.prog 17 #[.pointer (some ⟨p, 0, none⟩)] w (fun e w' => e = .returned (.int .i64 (heldV st 1)) ∧ w' = w) := by
  have HH := Lib.hid (held_any p 1 w F st N hb)
  clear hb
  go_enter Try.func17, Try.ntmps17
  go_wp2_with fail
  refine HH.out.mono ?_
  rintro e w1 ⟨rfl, rfl⟩
  go_wp2_with fail
  go_ret
  exact ⟨rfl, rfl⟩
theorem SP.held {w : World} {Z : Nat → Prop} {h bp : Nat} {P : PoolSt} {n : Nat} (s : SP w Z h bp P n) : Calls Try.prog 17 #[.pointer (some ⟨bp, 0, none⟩)] w (fun e w' => e = .returned (.int .i64 ((P.size * n : Nat) : Int)) ∧ w' = w) := by
  obtain ⟨mb, ms, D1, D2, F, G, b, p, hz⟩ := s
  have h1 := heldB_any bp w G b 1 p.bk
  have e : heldV b 1 = ((P.size * n : Nat) : Int) := by
    unfold heldV
    rw [if_pos (by omega), p.acc]
  rw [e] at h1
  exact h1

/-- A pool without strings. -/
def newP (size : Nat) : PoolSt := ⟨size, 0, 0, [], []⟩
theorem map_empty {P : Program} {k : TypeId} {R : Value → Option (DataW Unit × List MemPlace)} {w : World} {b c : Nat} (h : w.heap[b]? = some (.map #[] c)) : w.ownsMap P k R b 0 (.map []) := ⟨#[], c, h, ⟨by simp, stamped_empty c, by simp⟩, Nat.le_refl _, rfl⟩
def NpPost (G : Nat → Prop) (p : Nat) (size : Int) (w : World) : Ending → World → Prop := fun e w' =>
  Below w.heap.size w w' ∧ ((¬ (1 ≤ size ∧ size ≤ 4096) ∧ e = .returned (.tuple #[.pointer none, .int .i64 2])) ∨ ((1 ≤ size ∧ size ≤ 4096) ∧ ∃ h, e = .returned (.tuple #[.pointer (some ⟨h, 0, none⟩), .int .i64 0]) ∧ ∃ Z, SP w' Z h p (newP size.toNat) 0 ∧ ∀ k, Z k → G k ∨ w.heap.size ≤ k))
theorem newSP (w : World) (G : Nat → Prop) (p : Nat) (hb : BookAt w G p bigStB 1) (sz : Nat) (hs : 1 ≤ sz ∧ sz ≤ 4096) (w' : World) (hw : w' = ((w.alloc (.map #[] 0)).alloc (.map #[] 0)).alloc (.cells (poolCells p 1 (sz : Int) w.heap.size (w.heap.size + 1)) 63)) :
    ∃ Z, SP w' Z (w.heap.size + 2) p (newP sz) 0 ∧ ∀ k, Z k → G k ∨ w.heap.size ≤ k := by
  have h1 := heap_alloc_new w (.map #[] 0)
  have h2 := heap_alloc_new (w.alloc (.map #[] 0)) (.map #[] 0)
  have h3 := heap_alloc_new ((w.alloc (.map #[] 0)).alloc (.map #[] 0)) (.cells (poolCells p 1 (sz : Int) w.heap.size (w.heap.size + 1)) 63)
  simp only [World.size_alloc] at h2 h3
  have h2 := (heap_alloc_old ((w.alloc (.map #[] 0)).alloc (.map #[] 0)) (.cells (poolCells p 1 (sz : Int) w.heap.size (w.heap.size + 1)) 63) (by simp)).trans h2
  have h1 := (heap_alloc_old ((w.alloc (.map #[] 0)).alloc (.map #[] 0)) (.cells (poolCells p 1 (sz : Int) w.heap.size (w.heap.size + 1)) 63) (by simp; omega)).trans ((heap_alloc_old (w.alloc (.map #[] 0)) (.map #[] 0) (by simp)).trans h1)
  have hB : Below w.heap.size w (((w.alloc (.map #[] 0)).alloc (.map #[] 0)).alloc (.cells (poolCells p 1 (sz : Int) w.heap.size (w.heap.size + 1)) 63)) := (((Below.refl _ w).alloc (Nat.le_refl _) _).alloc (by simp) _).alloc (by simp; omega) _
  have hsz : (((w.alloc (.map #[] 0)).alloc (.map #[] 0)).alloc (.cells (poolCells p 1 (sz : Int) w.heap.size (w.heap.size + 1)) 63)).heap.size = w.heap.size + 3 := by simp
  have hbk := hb.narrow''.same (Below.same_on hB)
  subst hw
  have pm : PoolMem (((w.alloc (.map #[] 0)).alloc (.map #[] 0)).alloc (.cells (poolCells p 1 (sz : Int) w.heap.size (w.heap.size + 1)) 63)) (fun k => k = w.heap.size ∨ k = w.heap.size + 1 ∨ k = w.heap.size + 2) (w.heap.size + 2) p (newP sz) w.heap.size (w.heap.size + 1) 0 0 (.map []) (.map []) :=
    ⟨h3, Or.inr (Or.inr rfl), map_empty h1, Or.inl rfl, map_empty h2, Or.inr (Or.inl rfl), fun k z => rfl, rfl, fun k z => rfl, rfl, fun p hp => by simp [newP] at hp, by simp [newP], by simp [newP], by simp [newP], fun p hp => by simp [newP] at hp, by simp [newP], fun p hp => by simp [newP] at hp, fun p hp => by simp [newP] at hp, fun p hp => by simp [newP] at hp, hs, by omega, by simp [newP]⟩
  have pb : PB (((w.alloc (.map #[] 0)).alloc (.map #[] 0)).alloc (.cells (poolCells p 1 (sz : Int) w.heap.size (w.heap.size + 1)) 63)) (w.heap.size + 2) p (newP sz) w.heap.size (w.heap.size + 1) 0 0 (.map []) (.map []) (fun k => k = w.heap.size ∨ k = w.heap.size + 1 ∨ k = w.heap.size + 2) (fun k => G k ∧ k < w.heap.size) bigStB 0 :=
    ⟨pm, hbk, fun k hk hg => by have := hg.2; omega, fun k hk => by rw [hsz]; omega, fun k hk => by rw [hsz]; have := hk.2; omega, by rw [Nat.mul_zero]; rfl, rfl, by rw [Nat.mul_zero]; rfl, by decide, by omega⟩
  refine ⟨_, SP.of pb, fun k hk => ?_⟩
  rcases hk with hk | hk
  · right; omega
  · exact Or.inl hk.1

set_option maxHeartbeats 2000000 in
set_option maxRecDepth 100000 in
theorem newPoolB_any (p : Nat) (size : Int) (w : World) (G : Nat → Prop) (hb : BookAt w G p bigStB 1) :
    Calls Try.prog 7 #[.pointer (some ⟨p, 0, none⟩), .int .i64 1, .int .i64 size] w (NpPost G p size w) := by
  have hmm := @run_makeMap Try.prog
  have HE := Lib.hid (held_any p 1 w G bigStB 1 hb)
  have h0 : heldE bigStB 1 = 0 := by decide
  rw [h0] at HE
  by_cases hs : 1 ≤ size ∧ size ≤ 4096
  · have HS := Lib.hid hs
    obtain ⟨sz, rfl⟩ : ∃ sz : Nat, size = sz := ⟨size.toNat, by omega⟩
    have NS := Lib.hid (newSP w G p hb sz (by omega) _ rfl)
    obtain ⟨s1, s2⟩ := hs
    generalize heldV bigStB 1 = hv at *
    clear hb
    go_enter Try.func7, Try.ntmps7
    go_wp2_with fail
    refine (within_share_yes _ _ _ _ s1 s2).mono ?_
    rintro e w' ⟨rfl, rfl⟩
    go_wp2_with fail
    refine HE.out.mono ?_
    rintro e w' ⟨rfl, rfl⟩
    go_wp2_with fail
    go_ret2
    exact ⟨by go_grown, Or.inr ⟨HS.out, _, rfl, NS.out⟩⟩
  · have HS := Lib.hid hs
    clear hs hb
    go_enter Try.func7, Try.ntmps7
    go_wp2_with fail
    refine (within_share_no _ _ _ _ HS.out).mono ?_
    rintro e w' ⟨rfl, rfl⟩
    go_wp2_with fail
    go_ret2
    exact ⟨Below.refl _ _, Or.inl ⟨HS.out, rfl⟩⟩

end
end Go.Proofs.Ytbndknbjjdoanaa
