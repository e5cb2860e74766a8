/-
  Leaves of a rope. Conditions: numbers in their bounds.
  The beginning of a row over a rope and its book: awakeRoom, book, a new rope. Conditions: the rope's numbers are right.
  A rope with its book as one thing; Replace over it. Conditions: numbers in their bounds.
-/
import Derived.Test.YtidfidknflcioaaTopRopePbm

namespace Go.Proofs.Ytidfidknflcioaa
section
open Go.RowKit
set_option linter.unusedVariables false

set_option maxHeartbeats 1000000 in
set_option maxRecDepth 100000 in
theorem leaves_any (I : RopI) (L : List Lm) (lv : Value) (F : Nat → Prop) (w : World) (hm : RopeMem w F I L lv) (hl : L.length ≤ 60000) :
    Calls Try.prog 10 #[.pointer (some ⟨I.r, 0, none⟩)] w (SzRet (L.map Lm.sz) w) := by
  have SZ := Lib.hid (sizes_any I L lv F w hm hl)
  clear hm hl
  go_enter Try.func10, Try.ntmps10
  go_wp2_with fail
  refine SZ.out.mono ?_
  rintro e w1 ⟨v1, rfl, hrow1, hb1⟩
  have FIN := Lib.hid (And.intro (SzIn.row hrow1) hb1)
  clear hrow1 hb1
  go_wp2_with fail
  go_ret
  exact ⟨_, rfl, FIN.out.1, FIN.out.2⟩

set_option maxHeartbeats 2000000 in
set_option maxRecDepth 100000 in
theorem equal_leaves (v1 v2 : Value) (L : List Sz) (w : World) (hl : L.length ≤ 1000000) (h1 : SzIn w v1 L) (h2 : SzIn w v2 L) :
    Calls Try.prog 9 #[v1, v2] w (fun e w' => e = .returned (.bool true) ∧ ∃ q, w' = w.drewN q) := by
  obtain ⟨a1, c1, rfl, _, _, hc1⟩ := h1
  obtain ⟨a2, c2, rfl, _, _, hc2⟩ := h2
  have HC1 := Lib.hid hc1
  have HC2 := Lib.hid hc2
  clear hc1 hc2
  go_enter Try.func9, Try.ntmps9
  go_wp2_with fail
  go_loopg [13] L.length (fun g s13 wr => ∃ k q : Nat, k ≤ L.length ∧ L.length - k ≤ g ∧ s13 = .int .i64 k ∧ wr = w.drewN q)
  case atStart => exact ⟨0, 0, Nat.zero_le _, by omega, rfl, rfl⟩
  case round =>
    obtain ⟨k, q, hk, hg, rfl, rfl⟩ := hrel
    by_cases hlt : k < L.length
    · obtain ⟨e, he⟩ : ∃ e, L[k]? = some e := ⟨_, List.getElem?_eq_getElem hlt⟩
      obtain ⟨b1, o1, rfl, p0, p1⟩ := HC1.out k e he
      obtain ⟨b2, o2, rfl, q0, q1⟩ := HC2.out k e he
      obtain ⟨e1, e2⟩ := e
      clear he
      go_wp2_with fail
      go_region
      go_wp2
      go_roundg (L.length - (k + 1))
      case measure => omega
      case rel => exact ⟨k + 1, q + 1, by omega, by omega, by go_num, rfl⟩
    · have : k = L.length := by omega
      subst this
      go_wp2
      go_ret
      exact ⟨rfl, q, rfl⟩

/-- The sizes behind a Replace depend on sizes alone. -/
theorem replC_sz (p : RPar) (l : List Lc) (f t : Nat) (os : List Int) (hp : 1 ≤ p.leaf) (hft : f ≤ t) (ht : t ≤ (totS (l.map szC)).1) : (replC p l f t os).map szC = insS p (rmS p (l.map szC) f t) f os.length := by
  unfold replC
  have T1 : (totS ((delC p l f t).map szC)).1 = (totS (l.map szC)).1 - (t - f) := by
    rw [← octC_len, octC_del p l f t hft, List.length_append, List.length_take, List.length_drop, octC_len]
    omega
  rw [insC_sz p _ f os hp (fun x hx => by
    by_cases hnil : delC p l f t = []
    · rw [hnil] at T1 ⊢
      have h0 : f = 0 := by have h1 : (0 : Nat) = (totS (l.map szC)).1 - (t - f) := T1; omega
      rw [h0]
      exact Nat.zero_le _
    · have h1 := (endsS_in ((delC p l f t).map szC) f (by rw [T1]; omega) (by simpa using hnil)).2
      rw [getD_sz, hx] at h1
      exact h1), delC_sz]

end
end Go.Proofs.Ytidfidknflcioaa

namespace Go.Proofs.Ytidfidknflcioaa
section
open Go.RowKit
set_option linter.unusedVariables false

theorem RB.far {w w' : World} {I : RopI} {L : List Lm} {lv : Value} {bst : BookSt} {F G T : Nat → Prop} (h : RB w I L lv bst F G) (ht : Touch T w w') (hT : ∀ k, F k ∨ G k → ¬ T k) : RB w' I L lv bst F G :=
  ⟨h.rm.same (fun k hk hl => ht.block k hl (hT k (Or.inl hk))), h.bk.same (fun k hk hl => ht.block k hl (hT k (Or.inr hk))), h.dis, fun k hk => Nat.lt_of_lt_of_le (h.fl k hk) ht.size, fun k hk => Nat.lt_of_lt_of_le (h.gl k hk) ht.size, h.own, h.pok, h.acc, h.bud, h.tot, h.ent, h.room, h.oct, h.each⟩

/-- The book of the statements: one account, number 1, with the greatest budget. -/
def bigSt : BookSt := openSt (newSt 10000000) 1 10000000
def BigPost (w : World) : Ending → World → Prop := fun e w' =>
  ∃ p, e = .returned (.pointer (some ⟨p, 0, none⟩)) ∧ BookAt w' (fun k => w.heap.size ≤ k) p bigSt 1 ∧ Below w.heap.size w w'

set_option maxHeartbeats 1000000 in
set_option maxRecDepth 100000 in
theorem bigBook_any (w : World) : Calls Try.prog 6 #[] w (BigPost w) := by
  go_enter Try.func6, Try.ntmps6
  go_wp2_with fail
  refine (newBook_ok _ _ (by omega) (by omega)).mono ?_
  rintro e w1 ⟨p, rfl, hb, hbel⟩
  have O := Lib.hid (open_new p 1 10000000 w1 _ _ 0 hb (by simp [newSt]) (by unfold maxLen; omega) (by omega) ⟨by omega, by omega⟩ rfl)
  have hsz := hbel.size
  clear hb
  go_wp2_with fail
  refine O.out.mono ?_
  rintro e w2 ⟨rfl, hb2, ht2⟩
  go_wp2_with fail
  go_ret
  refine ⟨p, rfl, hb2.wider (fun k hk => by rcases hk with hk | hk <;> omega), ?_⟩
  exact hbel.trans (ht2.below hsz (fun k hk => hk))

theorem awakeRoom2_any (w : World) : Calls Try.prog 5 #[] w (LawPost w) := by
  go_enter Try.func5, Try.ntmps5
  go_wp2_with fail
  refine (classOf_bad _ _ (by omega)).mono ?_
  rintro e w1 ⟨rfl, hb⟩
  go_wp2_with fail
  go_ret
  exact ⟨rfl, hb⟩

theorem heldE_big : heldE bigSt 1 = 0 := by decide

theorem ropeErr0_zero {k s m l : Int} (h : ropeErr0 k s m l = 0) : polErr k s m = 0 ∧ 1 ≤ l ∧ l ≤ 4096 ∧ l ≤ m := by
  unfold ropeErr0 at h
  split at h
  · rename_i h0
    split at h
    · split at h
      · omega
      · omega
    · omega
  · contradiction

/-- A new rope with its book. -/
theorem RB.new {w : World} {h p : Nat} {k s m : Int} {l : Nat} {G : Nat → Prop} (hc : w.heap[h]? = some (.cells (ropeCells p 1 k s m l) 69 (0, 0))) (hb : BookAt w G p bigSt 1) (hG : ∀ k, G k → k < h) (hok : ropeErr0 k s m l = 0) :
    RB w ⟨h, p, 1, ⟨k, s, m, l⟩⟩ [] (.slice none 0 0) bigSt (fun x => x = h) G := by
  obtain ⟨h1, h2, h3, h4⟩ := ropeErr0_zero hok
  have hlt := lt_of hc
  refine ⟨⟨hc, World.ownsRow_nil _ _ _ _, fun x hx => by simp at hx, by simp, rfl, fun k hk => by simp [Value.ownBlock] at hk⟩, hb, fun k hk hg => by have := hG k hg; omega, fun k hk => by omega, fun k hk => by have := hG k hk; omega, rfl, ⟨h1, ?_⟩, rfl, rfl, rfl, by decide, by decide, by decide, fun x hx => by simp at hx⟩
  exact ⟨by show 1 ≤ l; omega, by show l ≤ 4096; omega, h4⟩

end
end Go.Proofs.Ytidfidknflcioaa

namespace Go.Proofs.Ytidfidknflcioaa
section
open Go.RowKit
set_option linter.unusedVariables false

structure RS where
  I : RopI
  L : List Lm
  lv : Value
  b : BookSt
  F : Nat → Prop
  G : Nat → Prop
def RS.At (r : RS) (w : World) : Prop := RB w r.I r.L r.lv r.b r.F r.G
def RS.T (r : RS) (k : Nat) : Prop := r.F k ∨ r.G k
def RS.sz (r : RS) : List Sz := r.L.map Lm.sz
def RS.lc (r : RS) : List Lc := r.L.map Lm.lc
theorem RS.At.lt {r : RS} {w : World} (h : r.At w) {k : Nat} (hk : r.T k) : k < w.heap.size := hk.elim (h.fl k) (h.gl k)
theorem RS.At.szC {r : RS} {w : World} (h : r.At w) : r.lc.map szC = r.sz := map_szC (fun y hy => (h.rm.mem y hy).2.1)
theorem RS.At.far {r : RS} {w w' : World} {T : Nat → Prop} (h : r.At w) (ht : Touch T w w') (hT : ∀ k, r.T k → ¬ T k) : r.At w' := RB.far h ht hT
theorem RS.At.below {r : RS} {w w' : World} (h : r.At w) (ht : Below w.heap.size w w') : r.At w' := RB.same h ht

/-- The sizes behind a Replace. -/
def nextS (p : RPar) (l : List Sz) (f t : Int) (n : Nat) : List Sz := if repE p l f t n = 0 then insS p (rmS p l f.toNat t.toNat) f.toNat n else l

theorem repE_range {p : RPar} {l : List Sz} {f t : Int} {n : Nat} (h : repE p l f t n = 0) : 0 ≤ f ∧ f ≤ t ∧ t ≤ ((totS l).1 : Int) := by
  by_cases h2 : betE (totS l).1 f t = 0
  · unfold betE at h2
    by_cases h3 : 0 ≤ f ∧ f ≤ ((totS l).1 : Int) ∧ f ≤ t ∧ t ≤ ((totS l).1 : Int)
    · omega
    · rw [if_neg h3] at h2; omega
  · unfold repE at h
    rw [if_neg h2] at h
    omega

def RsPost (r : RS) (f t : Int) (os : List Int) (w : World) : Ending → World → Prop := fun e w' =>
  e = .returned (.int .i64 (repE r.I.p r.sz f t os.length)) ∧ ∃ r' : RS, r'.I = r.I ∧ r'.At w' ∧ r'.sz = nextS r.I.p r.sz f t os.length ∧
    r'.lc = (if repE r.I.p r.sz f t os.length = 0 then replC r.I.p r.lc f.toNat t.toNat os else r.lc) ∧ (∀ k, r'.T k → r.T k ∨ w.heap.size ≤ k) ∧ Touch r.T w w'

theorem replace_rs (r : RS) (f t : Int) (a : Option Addr) (n c : Nat) (os : List Int) (w : World) (h : r.At w) (hr : Reads w .u8 (.slice a n c) os) (hn : os.length = n) (hnb : n ≤ 281474976710656) (hbz : bytes os) (hnG : os ≠ [] → ∀ b, (Value.slice a n c).ownBlock = some b → ¬ r.G b) :
    Calls Try.prog 8 #[.pointer (some ⟨r.I.r, 0, none⟩), .int .i64 f, .int .i64 t, .slice a n c] w (RsPost r f t os w) := by
  refine (replaceR_any r.I r.L r.lv r.b r.F r.G f t a n c os w h hr hn hnb hbz hnG).mono ?_
  rintro e w' ⟨rfl, L', lv', b', F', G', h', hl, hF, hG, ht⟩
  have e1 : ∀ y ∈ L', y.ok := fun y hy => (h'.rm.mem y hy).2.1
  refine ⟨rfl, ⟨r.I, L', lv', b', F', G'⟩, rfl, h', ?_, hl, fun k hk => ?_, ht⟩
  · show L'.map Lm.sz = _
    rw [← map_szC e1, hl]
    unfold nextS
    by_cases he : repE r.I.p (r.L.map Lm.sz) f t os.length = 0
    · have hrg := repE_range he
      have h2 : (r.L.map Lm.lc).map Go.Proofs.Ytidfidknflcioaa.szC = r.L.map Lm.sz := map_szC (fun y hy => (h.rm.mem y hy).2.1)
      rw [if_pos he]
      show _ = if repE r.I.p (r.L.map Lm.sz) f t os.length = 0 then _ else _
      rw [if_pos he, replC_sz r.I.p _ _ _ os h.pok.leaf.1 (by omega) (by rw [h2]; omega), h2]
      rfl
    · rw [if_neg he]
      show _ = if repE r.I.p (r.L.map Lm.sz) f t os.length = 0 then _ else _
      rw [if_neg he, map_szC (fun y hy => (h.rm.mem y hy).2.1)]
      rfl
  · rcases hk with hk | hk
    · exact (hF k hk).imp Or.inl id
    · exact (hG k hk).imp Or.inr id

theorem leaves_rs (r : RS) (w : World) (h : r.At w) : Calls Try.prog 10 #[.pointer (some ⟨r.I.r, 0, none⟩)] w (SzRet r.sz w) := leaves_any r.I r.L r.lv r.F w h.rm (by have := h.len; omega)

/-- Two ropes of the same numbers and sizes, apart from each other and from what lies below B. -/
structure Pair (w : World) (B : Nat) (x y : RS) : Prop where
  ax : x.At w
  ay : y.At w
  par : x.I.p = y.I.p
  sz : x.sz = y.sz
  ap : ∀ k, x.T k → ¬ y.T k
  bx : ∀ k, x.T k → B ≤ k
  by' : ∀ k, y.T k → B ≤ k
theorem Pair.below {w w' : World} {B : Nat} {x y : RS} (h : Pair w B x y) (hb : Below w.heap.size w w') : Pair w' B x y := ⟨h.ax.below hb, h.ay.below hb, h.par, h.sz, h.ap, h.bx, h.by'⟩
/-- The first one has turned. -/
structure Half (w : World) (B : Nat) (x x' y : RS) (f t : Int) (n : Nat) : Prop where
  id : x'.I = x.I
  ax : x'.At w
  ay : y.At w
  par : x.I.p = y.I.p
  szx : x.sz = y.sz
  sz : x'.sz = nextS x.I.p x.sz f t n
  ap : ∀ k, x'.T k → ¬ y.T k
  bx : ∀ k, x'.T k → B ≤ k
  by' : ∀ k, y.T k → B ≤ k
theorem Half.below {w w' : World} {B : Nat} {x x' y : RS} {f t : Int} {n : Nat} (h : Half w B x x' y f t n) (hb : Below w.heap.size w w') : Half w' B x x' y f t n := ⟨h.id, h.ax.below hb, h.ay.below hb, h.par, h.szx, h.sz, h.ap, h.bx, h.by'⟩
theorem Pair.half {w w' : World} {B : Nat} {x x' y : RS} {f t : Int} {n : Nat} (h : Pair w B x y) (hB : B ≤ w.heap.size) (hi : x'.I = x.I) (ha : x'.At w') (hs : x'.sz = nextS x.I.p x.sz f t n) (hT : ∀ k, x'.T k → x.T k ∨ w.heap.size ≤ k) (ht : Touch x.T w w') : Half w' B x x' y f t n :=
  ⟨hi, ha, h.ay.far ht (fun k hk hx => h.ap k hx hk), h.par, h.sz, hs, fun k hk hy => (hT k hk).elim (fun hx => h.ap k hx hy) (fun hx => by have := h.ay.lt hy; omega), fun k hk => (hT k hk).elim (h.bx k) (fun hx => by omega), h.by'⟩
theorem Half.full {w w' : World} {B : Nat} {x x' y y' : RS} {f t : Int} {n : Nat} (h : Half w B x x' y f t n) (hB : B ≤ w.heap.size) (hi : y'.I = y.I) (ha : y'.At w') (hs : y'.sz = nextS y.I.p y.sz f t n) (hT : ∀ k, y'.T k → y.T k ∨ w.heap.size ≤ k) (ht : Touch y.T w w') : Pair w' B x' y' :=
  ⟨h.ax.far ht (fun k hk hy => h.ap k hk hy), ha, by rw [h.id, hi]; exact h.par, by rw [h.sz, hs, h.par, h.szx], fun k hk hy => (hT k hy).elim (fun hx => h.ap k hk hx) (fun hx => by have := h.ax.lt hk; omega), h.bx, fun k hk => (hT k hk).elim (h.by' k) (fun hx => by omega)⟩

end
end Go.Proofs.Ytidfidknflcioaa
