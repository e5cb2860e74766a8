/-
  The book in memory, and what check, account, NewBook and Held give. No conditions.
-/
import Derived.Test.YtclpkmplifcfjaaWatchSlicesPaf
import Derived.Test.YtclpkmplifcfjaaWatchSlicesPah
namespace Go.Proofs.Ytclpkmplifcfjaa
open Go.RowKit

structure Lea where
  no : Int
  owner : Int
  amount : Int
  untl : Int
structure Ent where
  kind : Int
  owner : Int
  other : Int
  amount : Int
  lease : Int
  untl : Int
def Lea.cells (l : Lea) : List Value := [.int .i64 l.no, .int .i64 l.owner, .int .i64 l.amount, .int .i64 l.untl]
def Ent.cells (e : Ent) : List Value := [.int .i64 e.kind, .int .i64 e.owner, .int .i64 e.other, .int .i64 e.amount, .int .i64 e.lease, .int .i64 e.untl]

theorem getD_mem' {zs : List Int} {k : Nat} (h : k < zs.length) : zs.getD k 0 ∈ zs := by rw [List.getD_eq_getElem?_getD, List.getElem?_eq_getElem h]; simp

/-- A book: acc o: the limit of the account, what it holds, what is leased to it. -/
structure BookSt where
  budget : Int
  total : Int
  time : Int
  last : Int
  acc : Int → Option (Int × Int × Int)
  leases : List Lea
  entries : List Ent

/-- How a pointer to a block's beginning reads. -/
def ptrElem : Value → Option (DataW Unit × List MemPlace)
  | .pointer none => some (.nil, [])
  | .pointer (some ⟨b, 0, none⟩) => some (.lit (.int .i64 b), [])
  | _ => none
def ptrOf : Option Nat → Value
  | none => .pointer none
  | some b => .pointer (some ⟨b, 0, none⟩)
def ptrD : Option Nat → DataW Unit
  | none => .nil
  | some b => .lit (.int .i64 b)
/-- What is read of a key, beside what stands for none. -/
def ptrZ (o : Option Nat) (z : DataW Unit) : DataW Unit := match o with
  | none => z
  | some b => .lit (.int .i64 b)
theorem ptrZ_nil (o : Option Nat) : ptrZ o .nil = ptrD o := by cases o <;> rfl
theorem ptrElem_of (o : Option Nat) : ptrElem (ptrOf o) = some (ptrD o, []) := by cases o <;> rfl
theorem ptrElem_inv {v : Value} {o : Option Nat} {ps : List MemPlace} (h : ptrElem v = some (ptrD o, ps)) : v = ptrOf o := by
  unfold ptrElem at h
  split at h
  · cases o with
    | none => rfl
    | some b => simp [ptrD] at h
  · next b' =>
    cases o with
    | none => simp [ptrD] at h
    | some b =>
      simp only [ptrD, Option.some.injEq, Prod.mk.injEq, DataW.lit.injEq, Lit.int.injEq, true_and] at h
      have : b' = b := by omega
      subst this; rfl
  · cases h

def bookCells (st : BookSt) (mb : Nat) (lv ev : Value) : Array Value :=
  #[.int .i64 st.budget, .int .i64 st.total, .int .i64 st.time, .int .i64 st.last, .map (some mb), lv, ev]

theorem intKey : Maps.Keyed Try.prog 3 := Maps.int_keyed Try.underlying3

theorem ownsRow_same {w w' : World} {B e size n : Nat} {v : Value} {xs : List Value} (h : w.ownsRow B e size v n xs) (hs : ∀ k, v.ownBlock = some k → w'.heap[k]? = w.heap[k]?) : w'.ownsRow B e size v n xs := by
  refine ⟨h.1, ?_⟩
  rcases h.2 with hn | ⟨g, cap, cur, rfl, hb, hgg, rest⟩
  · exact .inl hn
  · exact .inr ⟨g, cap, cur, rfl, hb, (hs g rfl).trans hgg, rest⟩
theorem ownsMap_same {w w' : World} {k : TypeId} {R : Value → Option (DataW Unit × List MemPlace)} {b n : Nat} {D : DataW Unit} (h : w.ownsMap Try.prog k R b n D) (hs : w'.heap[b]? = w.heap[b]?) : w'.ownsMap Try.prog k R b n D := by
  obtain ⟨es, clock, hb, rest⟩ := h
  exact ⟨es, clock, hs.trans hb, rest⟩

/-- A new book. -/
def newSt (b : Int) : BookSt := ⟨b, 0, 0, 0, fun _ => none, [], []⟩

/-- The error of an owner and numbers. -/
def chkE (owner : Int) (nums : List Int) : Int := if (1 ≤ owner ∧ owner ≤ 40) ∧ ∀ z ∈ nums, 0 ≤ z ∧ z ≤ 10000000 then 0 else 2
theorem chkE_vals (owner : Int) (nums : List Int) : chkE owner nums = 0 ∨ chkE owner nums = 2 := by unfold chkE; split <;> simp
theorem chkE_zero {owner : Int} {nums : List Int} (h : chkE owner nums = 0) : (1 ≤ owner ∧ owner ≤ 40) ∧ ∀ z ∈ nums, 0 ≤ z ∧ z ≤ 10000000 := by
  unfold chkE at h; split at h
  · assumption
  · simp at h

def ChkPost (err : Int) (w : World) : Ending → World → Prop := fun e w' => e = .returned (.int .i64 err) ∧ w = w'

/-- What account finds. -/
def AccPost (o : Option Nat) (err : Int) (w : World) : Ending → World → Prop := fun e w' => e = .returned (.tuple #[ptrOf o, .int .i64 err]) ∧ w = w'

end Go.Proofs.Ytclpkmplifcfjaa
