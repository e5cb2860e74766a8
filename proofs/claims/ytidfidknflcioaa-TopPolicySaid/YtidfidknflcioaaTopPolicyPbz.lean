/-
  A rope with its book as one thing; Replace over it. Conditions: numbers in their bounds.
-/
import Derived.Test.YtidfidknflcioaaTopPolicyPby
namespace Go.Proofs.Ytidfidknflcioaa
open Go.RowKit
set_option linter.unusedVariables false

structure RS where
  I : RopI
  L : List Lm
  lv : Value
  b : BookSt
  F : Nat → Prop
  G : Nat → Prop
def RS.At (r : RS) (w : World) : Prop := RB w r.I r.L r.lv r.b r.F r.G
def RS.T (r : RS) (k : Nat) : Prop := r.F k ∨ r.G k
def RS.sz (r : RS) : List Sz := r.L.map Lm.sz
def RS.lc (r : RS) : List Lc := r.L.map Lm.lc
theorem RS.At.lt {r : RS} {w : World} (h : r.At w) {k : Nat} (hk : r.T k) : k < w.heap.size := hk.elim (h.fl k) (h.gl k)
theorem RS.At.szC {r : RS} {w : World} (h : r.At w) : r.lc.map szC = r.sz := map_szC (fun y hy => (h.rm.mem y hy).2.1)
theorem RS.At.far {r : RS} {w w' : World} {T : Nat → Prop} (h : r.At w) (ht : Touch T w w') (hT : ∀ k, r.T k → ¬ T k) : r.At w' := RB.far h ht hT
theorem RS.At.below {r : RS} {w w' : World} (h : r.At w) (ht : Below w.heap.size w w') : r.At w' := RB.same h ht

/-- The sizes behind a Replace. -/
def nextS (p : RPar) (l : List Sz) (f t : Int) (n : Nat) : List Sz := if repE p l f t n = 0 then insS p (rmS p l f.toNat t.toNat) f.toNat n else l

theorem repE_range {p : RPar} {l : List Sz} {f t : Int} {n : Nat} (h : repE p l f t n = 0) : 0 ≤ f ∧ f ≤ t ∧ t ≤ ((totS l).1 : Int) := by
  by_cases h2 : betE (totS l).1 f t = 0
  · unfold betE at h2
    by_cases h3 : 0 ≤ f ∧ f ≤ ((totS l).1 : Int) ∧ f ≤ t ∧ t ≤ ((totS l).1 : Int)
    · omega
    · rw [if_neg h3] at h2; omega
  · unfold repE at h
    rw [if_neg h2] at h
    omega

def RsPost (r : RS) (f t : Int) (os : List Int) (w : World) : Ending → World → Prop := fun e w' =>
  e = .returned (.int .i64 (repE r.I.p r.sz f t os.length)) ∧ ∃ r' : RS, r'.I = r.I ∧ r'.At w' ∧ r'.sz = nextS r.I.p r.sz f t os.length ∧
    r'.lc = (if repE r.I.p r.sz f t os.length = 0 then replC r.I.p r.lc f.toNat t.toNat os else r.lc) ∧ (∀ k, r'.T k → r.T k ∨ w.heap.size ≤ k) ∧ Touch r.T w w'

theorem replace_rs (r : RS) (f t : Int) (a : Option Addr) (n c : Nat) (os : List Int) (w : World) (h : r.At w) (hr : Reads w .u8 (.slice a n c) os) (hn : os.length = n) (hnb : n ≤ 281474976710656) (hbz : bytes os) (hnG : os ≠ [] → ∀ b, (Value.slice a n c).ownBlock = some b → ¬ r.G b) :
    Calls Try.prog 8 #[.pointer (some ⟨r.I.r, 0, none⟩), .int .i64 f, .int .i64 t, .slice a n c] w (RsPost r f t os w) := by
  refine (replaceR_any r.I r.L r.lv r.b r.F r.G f t a n c os w h hr hn hnb hbz hnG).mono ?_
  rintro e w' ⟨rfl, L', lv', b', F', G', h', hl, hF, hG, ht⟩
  have e1 : ∀ y ∈ L', y.ok := fun y hy => (h'.rm.mem y hy).2.1
  refine ⟨rfl, ⟨r.I, L', lv', b', F', G'⟩, rfl, h', ?_, hl, fun k hk => ?_, ht⟩
  · show L'.map Lm.sz = _
    rw [← map_szC e1, hl]
    unfold nextS
    by_cases he : repE r.I.p (r.L.map Lm.sz) f t os.length = 0
    · have hrg := repE_range he
      have h2 : (r.L.map Lm.lc).map Go.Proofs.Ytidfidknflcioaa.szC = r.L.map Lm.sz := map_szC (fun y hy => (h.rm.mem y hy).2.1)
      rw [if_pos he]
      show _ = if repE r.I.p (r.L.map Lm.sz) f t os.length = 0 then _ else _
      rw [if_pos he, replC_sz r.I.p _ _ _ os h.pok.leaf.1 (by omega) (by rw [h2]; omega), h2]
      rfl
    · rw [if_neg he]
      show _ = if repE r.I.p (r.L.map Lm.sz) f t os.length = 0 then _ else _
      rw [if_neg he, map_szC (fun y hy => (h.rm.mem y hy).2.1)]
      rfl
  · rcases hk with hk | hk
    · exact (hF k hk).imp Or.inl id
    · exact (hG k hk).imp Or.inr id

theorem leaves_rs (r : RS) (w : World) (h : r.At w) : Calls Try.prog 10 #[.pointer (some ⟨r.I.r, 0, none⟩)] w (SzRet r.sz w) := leaves_any r.I r.L r.lv r.F w h.rm (by have := h.len; omega)

/-- Two ropes of the same numbers and sizes, apart from each other and from what lies below B. -/
structure Pair (w : World) (B : Nat) (x y : RS) : Prop where
  ax : x.At w
  ay : y.At w
  par : x.I.p = y.I.p
  sz : x.sz = y.sz
  ap : ∀ k, x.T k → ¬ y.T k
  bx : ∀ k, x.T k → B ≤ k
  by' : ∀ k, y.T k → B ≤ k
theorem Pair.below {w w' : World} {B : Nat} {x y : RS} (h : Pair w B x y) (hb : Below w.heap.size w w') : Pair w' B x y := ⟨h.ax.below hb, h.ay.below hb, h.par, h.sz, h.ap, h.bx, h.by'⟩
/-- The first one has turned. -/
structure Half (w : World) (B : Nat) (x x' y : RS) (f t : Int) (n : Nat) : Prop where
  id : x'.I = x.I
  ax : x'.At w
  ay : y.At w
  par : x.I.p = y.I.p
  szx : x.sz = y.sz
  sz : x'.sz = nextS x.I.p x.sz f t n
  ap : ∀ k, x'.T k → ¬ y.T k
  bx : ∀ k, x'.T k → B ≤ k
  by' : ∀ k, y.T k → B ≤ k
theorem Half.below {w w' : World} {B : Nat} {x x' y : RS} {f t : Int} {n : Nat} (h : Half w B x x' y f t n) (hb : Below w.heap.size w w') : Half w' B x x' y f t n := ⟨h.id, h.ax.below hb, h.ay.below hb, h.par, h.szx, h.sz, h.ap, h.bx, h.by'⟩
theorem Pair.half {w w' : World} {B : Nat} {x x' y : RS} {f t : Int} {n : Nat} (h : Pair w B x y) (hB : B ≤ w.heap.size) (hi : x'.I = x.I) (ha : x'.At w') (hs : x'.sz = nextS x.I.p x.sz f t n) (hT : ∀ k, x'.T k → x.T k ∨ w.heap.size ≤ k) (ht : Touch x.T w w') : Half w' B x x' y f t n :=
  ⟨hi, ha, h.ay.far ht (fun k hk hx => h.ap k hx hk), h.par, h.sz, hs, fun k hk hy => (hT k hk).elim (fun hx => h.ap k hx hy) (fun hx => by have := h.ay.lt hy; omega), fun k hk => (hT k hk).elim (h.bx k) (fun hx => by omega), h.by'⟩
theorem Half.full {w w' : World} {B : Nat} {x x' y y' : RS} {f t : Int} {n : Nat} (h : Half w B x x' y f t n) (hB : B ≤ w.heap.size) (hi : y'.I = y.I) (ha : y'.At w') (hs : y'.sz = nextS y.I.p y.sz f t n) (hT : ∀ k, y'.T k → y.T k ∨ w.heap.size ≤ k) (ht : Touch y.T w w') : Pair w' B x' y' :=
  ⟨h.ax.far ht (fun k hk hy => h.ap k hk hy), ha, by rw [h.id, hi]; exact h.par, by rw [h.sz, hs, h.par, h.szx], fun k hk hy => (hT k hy).elim (fun hx => h.ap k hk hx) (fun hx => by have := h.ax.lt hk; omega), h.bx, fun k hk => (hT k hk).elim (h.by' k) (fun hx => by omega)⟩

end Go.Proofs.Ytidfidknflcioaa
