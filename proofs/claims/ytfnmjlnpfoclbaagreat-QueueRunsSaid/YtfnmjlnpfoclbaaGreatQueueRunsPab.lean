/-
  Fair and FairOf: what they give, for all arguments. No conditions.
  The book in memory, and what check, account, NewBook and Held give. No conditions.
-/
import Derived.Test.YtfnmjlnpfoclbaaGreatQueueRunsPaa

namespace Go.Proofs.YtfnmjlnpfoclbaaGreat
section
open Go.RowKit

/-- The elements of a slice that came in, for a walk: the address is known where there is an element. -/
theorem Reads.open {w : World} {k : IntKind} {v : Value} {zs : List Int} (h : Reads w k v zs) : ∃ a cap, v = .slice a zs.length cap ∧ zs.length ≤ 9223372036854775807 ∧
    ∀ j, j < zs.length → ∃ b o, a = some ⟨b, o, none⟩ ∧ w.cell? ⟨b, o + j, none⟩ = some (.int k (zs.getD j 0)) := by
  obtain ⟨a, cap, rfl, hl, hc⟩ := h
  refine ⟨a, cap, rfl, hl, fun j hj => ?_⟩
  obtain ⟨b, o, ha, hcell⟩ := hc (by intro e; subst e; simp at hj)
  exact ⟨b, o, ha, hcell j hj⟩

def SumPost (r : Int) (w : World) : Ending → World → Prop := fun e w' => e = .returned (.int .i64 r) ∧ w = w'

/-- A list of integers that came in, as the round of a loop reads it. -/
theorem old_cell {w wr : World} {b o : Nat} {v : Value} (hb : Below w.heap.size w wr) (h : w.cell? ⟨b, o, none⟩ = some v) : wr.cell? ⟨b, o, none⟩ = some v :=
  (hb.cell (p := ⟨b, o, none⟩) (World.block_lt_of_cell? w ⟨b, o, none⟩ h)).trans h

/-- A call that gives back a new list of integers and an error. -/
def RetRowB (err : Int) (zs : List Int) (w : World) : Ending → World → Prop := fun e w' =>
  ∃ v, e = .returned (.tuple #[v, .int .i64 err]) ∧ w'.ownsRow w.heap.size 3 1 v zs.length (zs.map (Value.int .i64)) ∧ Below w.heap.size w w'

end
end Go.Proofs.YtfnmjlnpfoclbaaGreat

namespace Go.Proofs.YtfnmjlnpfoclbaaGreat
section
open Go.RowKit

structure Lea where
  no : Int
  owner : Int
  amount : Int
  untl : Int
structure Ent where
  kind : Int
  owner : Int
  other : Int
  amount : Int
  lease : Int
  untl : Int
def Lea.cells (l : Lea) : List Value := [.int .i64 l.no, .int .i64 l.owner, .int .i64 l.amount, .int .i64 l.untl]
def Ent.cells (e : Ent) : List Value := [.int .i64 e.kind, .int .i64 e.owner, .int .i64 e.other, .int .i64 e.amount, .int .i64 e.lease, .int .i64 e.untl]

theorem getD_mem' {zs : List Int} {k : Nat} (h : k < zs.length) : zs.getD k 0 ∈ zs := by rw [List.getD_eq_getElem?_getD, List.getElem?_eq_getElem h]; simp

/-- A book: acc o: the limit of the account, what it holds, what is leased to it. -/
structure BookSt where
  budget : Int
  total : Int
  time : Int
  last : Int
  acc : Int → Option (Int × Int × Int)
  leases : List Lea
  entries : List Ent

/-- How a pointer to a block's beginning reads. -/
def ptrElem : Value → Option (DataW Unit × List MemPlace)
  | .pointer none => some (.nil, [])
  | .pointer (some ⟨b, 0, none⟩) => some (.lit (.int .i64 b), [])
  | _ => none
def ptrOf : Option Nat → Value
  | none => .pointer none
  | some b => .pointer (some ⟨b, 0, none⟩)
def ptrD : Option Nat → DataW Unit
  | none => .nil
  | some b => .lit (.int .i64 b)
/-- What is read of a key, beside what stands for none. -/
def ptrZ (o : Option Nat) (z : DataW Unit) : DataW Unit := match o with
  | none => z
  | some b => .lit (.int .i64 b)
theorem ptrZ_nil (o : Option Nat) : ptrZ o .nil = ptrD o := by cases o <;> rfl
theorem ptrElem_of (o : Option Nat) : ptrElem (ptrOf o) = some (ptrD o, []) := by cases o <;> rfl
theorem ptrElem_inv {v : Value} {o : Option Nat} {ps : List MemPlace} (h : ptrElem v = some (ptrD o, ps)) : v = ptrOf o := by
  unfold ptrElem at h
  split at h
  · cases o with
    | none => rfl
    | some b => simp [ptrD] at h
  · next b' =>
    cases o with
    | none => simp [ptrD] at h
    | some b =>
      simp only [ptrD, Option.some.injEq, Prod.mk.injEq, DataW.lit.injEq, Lit.int.injEq, true_and] at h
      have : b' = b := by omega
      subst this; rfl
  · cases h

def bookCells (st : BookSt) (mb : Nat) (lv ev : Value) : Array Value :=
  #[.int .i64 st.budget, .int .i64 st.total, .int .i64 st.time, .int .i64 st.last, .map (some mb), lv, ev]

theorem intKey : Maps.Keyed Tryz.prog 3 := Maps.int_keyed Tryz.underlying3

structure BookMem (w : World) (F : Nat → Prop) (p : Nat) (st : BookSt) (N mb : Nat) (blk : Int → Option Nat) (lv ev : Value) (D : DataW Unit) : Prop where
  self : w.heap[p]? = some (.cells (bookCells st mb lv ev) 107 (0, 0))
  fp : F p
  map : w.ownsMap Tryz.prog 3 ptrElem mb N D
  fmap : F mb
  look : ∀ o z, D.atKey (.int .i64 o) z = ptrZ (blk o) z
  anone : ∀ o, blk o = none ↔ st.acc o = none
  asome : ∀ o b, blk o = some b → ∃ l h s, st.acc o = some (l, h, s) ∧ w.heap[b]? = some (.cells #[.int .i64 l, .int .i64 h, .int .i64 s] 112 (0, 0)) ∧ F b
  inj : ∀ o o' b, blk o = some b → blk o' = some b → o = o'
  lrow : w.ownsRow 0 98 4 lv st.leases.length (st.leases.flatMap Lea.cells)
  flea : ∀ k, lv.ownBlock = some k → F k
  erow : w.ownsRow 0 61 6 ev st.entries.length (st.entries.flatMap Ent.cells)
  fent : ∀ k, ev.ownBlock = some k → F k

def BookAt (w : World) (F : Nat → Prop) (p : Nat) (st : BookSt) (N : Nat) : Prop := ∃ mb blk lv ev D, BookMem w F p st N mb blk lv ev D

theorem ownsRow_same {w w' : World} {B e size n : Nat} {v : Value} {xs : List Value} (h : w.ownsRow B e size v n xs) (hs : ∀ k, v.ownBlock = some k → w'.heap[k]? = w.heap[k]?) : w'.ownsRow B e size v n xs := by
  refine ⟨h.1, ?_⟩
  rcases h.2 with hn | ⟨g, cap, cur, rfl, hb, hgg, rest⟩
  · exact .inl hn
  · exact .inr ⟨g, cap, cur, rfl, hb, (hs g rfl).trans hgg, rest⟩
theorem ownsMap_same {w w' : World} {k : TypeId} {R : Value → Option (DataW Unit × List MemPlace)} {b n : Nat} {D : DataW Unit} (h : w.ownsMap Tryz.prog k R b n D) (hs : w'.heap[b]? = w.heap[b]?) : w'.ownsMap Tryz.prog k R b n D := by
  obtain ⟨es, clock, hb, rest⟩ := h
  exact ⟨es, clock, hs.trans hb, rest⟩

/-- The book stays what it is while other blocks are turned. -/
theorem BookMem.same {w w' : World} {F : Nat → Prop} {p : Nat} {st : BookSt} {N mb : Nat} {blk : Int → Option Nat} {lv ev : Value} {D : DataW Unit} (h : BookMem w F p st N mb blk lv ev D) (hs : SameOn F w w') : BookMem w' F p st N mb blk lv ev D where
  self := (hs p h.fp (lt_of h.self)).trans h.self
  fp := h.fp
  map := ownsMap_same h.map (hs mb h.fmap h.map.lt)
  fmap := h.fmap
  look := h.look
  anone := h.anone
  asome := fun o b hb => by
    obtain ⟨l, x, s, h1, h2, h3⟩ := h.asome o b hb
    exact ⟨l, x, s, h1, (hs b h3 (lt_of h2)).trans h2, h3⟩
  inj := h.inj
  lrow := ownsRow_same h.lrow (fun k hk => hs k (h.flea k hk) (h.lrow.lt k hk).2)
  flea := h.flea
  erow := ownsRow_same h.erow (fun k hk => hs k (h.fent k hk) (h.erow.lt k hk).2)
  fent := h.fent
theorem BookMem.wider {w : World} {F G : Nat → Prop} {p : Nat} {st : BookSt} {N mb : Nat} {blk : Int → Option Nat} {lv ev : Value} {D : DataW Unit} (h : BookMem w F p st N mb blk lv ev D) (hG : ∀ k, F k → G k) : BookMem w G p st N mb blk lv ev D where
  self := h.self
  fp := hG _ h.fp
  map := h.map
  fmap := hG _ h.fmap
  look := h.look
  anone := h.anone
  asome := fun o b hb => by
    obtain ⟨l, x, s, h1, h2, h3⟩ := h.asome o b hb
    exact ⟨l, x, s, h1, h2, hG _ h3⟩
  inj := h.inj
  lrow := h.lrow
  flea := fun k hk => hG _ (h.flea k hk)
  erow := h.erow
  fent := fun k hk => hG _ (h.fent k hk)
theorem BookAt.same {w w' : World} {F : Nat → Prop} {p : Nat} {st : BookSt} {N : Nat} (h : BookAt w F p st N) (hs : SameOn F w w') : BookAt w' F p st N := by
  obtain ⟨mb, blk, lv, ev, D, h⟩ := h; exact ⟨mb, blk, lv, ev, D, h.same hs⟩
theorem BookAt.wider {w : World} {F G : Nat → Prop} {p : Nat} {st : BookSt} {N : Nat} (h : BookAt w F p st N) (hG : ∀ k, F k → G k) : BookAt w G p st N := by
  obtain ⟨mb, blk, lv, ev, D, h⟩ := h; exact ⟨mb, blk, lv, ev, D, h.wider hG⟩

/-- A new book. -/
def newSt (b : Int) : BookSt := ⟨b, 0, 0, 0, fun _ => none, [], []⟩

def NewBookPost (b : Int) (w : World) : Ending → World → Prop := fun e w' =>
  ∃ p, e = .returned (.tuple #[.pointer (some ⟨p, 0, none⟩), .int .i64 0]) ∧ BookAt w' (fun k => w.heap.size ≤ k) p (newSt b) 0 ∧ Below w.heap.size w w'

theorem newBook_mem (b : Int) (w : World) : BookAt ((w.alloc (Obj.map #[] 0)).alloc (Obj.cells #[.int .i64 b, .int .i64 0, .int .i64 0, .int .i64 0, .map (some w.heap.size), .slice none 0 0, .slice none 0 0] 107))
    (fun k => w.heap.size ≤ k) (w.heap.size + 1) (newSt b) 0 := by
  refine ⟨w.heap.size, fun _ => none, .slice none 0 0, .slice none 0 0, .map [], ?_⟩
  refine ⟨?_, by simp, (World.ownsMap_made w _ _ _).alloc _, Nat.le_refl _, fun o z => rfl, fun o => by simp [newSt], fun o b h => by simp at h, fun o o' b h => by simp at h, ?_, fun k hk => by simp [Value.ownBlock] at hk, ?_, fun k hk => by simp [Value.ownBlock] at hk⟩
  · have := heap_alloc_new (w.alloc (Obj.map #[] 0)) (Obj.cells #[.int .i64 b, .int .i64 0, .int .i64 0, .int .i64 0, .map (some w.heap.size), .slice none 0 0, .slice none 0 0] 107)
    simpa [bookCells, newSt] using this
  · exact World.ownsRow_nil _ _ _ _
  · exact World.ownsRow_nil _ _ _ _

set_option maxHeartbeats 1000000 in
theorem newBook_ok (b : Int) (w : World) (h1 : 0 ≤ b) (h2 : b ≤ 10000000) :
    Calls Tryz.prog 19 #[.int .i64 b] w (NewBookPost b w) := by
  have hmm := @run_makeMap Tryz.prog
  go_enter Tryz.func19, Tryz.ntmps19
  go_wp2_with fail
  refine (within_ledger_yes _ _ _ _ h1 h2).mono ?_
  rintro e w' ⟨rfl, rfl⟩
  go_wp2_with fail
  go_ret2
  refine ⟨_, rfl, ?_, by go_grown⟩
  exact newBook_mem b w

theorem newBook_bad (b : Int) (w : World) (h : ¬ (0 ≤ b ∧ b ≤ 10000000)) :
    Calls Tryz.prog 19 #[.int .i64 b] w fun e w' => e = .returned (.tuple #[.pointer none, .int .i64 2]) ∧ w = w' := by
  have H := Lib.hid h
  clear h
  go_enter Tryz.func19, Tryz.ntmps19
  go_wp2_with fail
  refine (within_ledger_no _ _ _ _ H.out).mono ?_
  rintro e w' ⟨rfl, rfl⟩
  go_wp2_with fail
  go_ret2
  exact ⟨rfl, rfl⟩

/-- The error of an owner and numbers. -/
def chkE (owner : Int) (nums : List Int) : Int := if (1 ≤ owner ∧ owner ≤ 40) ∧ ∀ z ∈ nums, 0 ≤ z ∧ z ≤ 10000000 then 0 else 2
theorem chkE_vals (owner : Int) (nums : List Int) : chkE owner nums = 0 ∨ chkE owner nums = 2 := by unfold chkE; split <;> simp
theorem chkE_zero {owner : Int} {nums : List Int} (h : chkE owner nums = 0) : (1 ≤ owner ∧ owner ≤ 40) ∧ ∀ z ∈ nums, 0 ≤ z ∧ z ≤ 10000000 := by
  unfold chkE at h; split at h
  · assumption
  · simp at h

def ChkPost (err : Int) (w : World) : Ending → World → Prop := fun e w' => e = .returned (.int .i64 err) ∧ w = w'

set_option maxHeartbeats 2000000 in
theorem check_any (owner : Int) (v : Value) (nums : List Int) (w : World) (hr : Reads w .i64 v nums) :
    Calls Tryz.prog 56 #[.int .i64 owner, v] w (ChkPost (chkE owner nums) w) := by
  obtain ⟨a, cap, rfl, hl, hc⟩ := hr.open
  by_cases ho : 1 ≤ owner ∧ owner ≤ 40
  · obtain ⟨o1, o2⟩ := ho
    have HC := Lib.hid hc
    clear hc hr
    go_enter Tryz.func56, Tryz.ntmps56
    go_wp2_with fail
    refine (within_ledger_yes _ _ _ _ o1 o2).mono ?_
    rintro e w' ⟨rfl, rfl⟩
    go_wp2_with fail
    go_loop [12] (fun i => ∃ k : Nat, k ≤ nums.length ∧ i = .int .i64 k ∧ ∀ j, j < k → 0 ≤ nums.getD j 0 ∧ nums.getD j 0 ≤ 10000000) (fun i => nums.length - (intOf i).toNat)
    case atStart => exact ⟨0, Nat.zero_le _, rfl, fun j hj => absurd hj (by omega)⟩
    case round =>
      obtain ⟨k, hk, rfl, hp⟩ := hrel
      have HP := Lib.hid hp
      clear hp
      by_cases hlt : k < nums.length
      · obtain ⟨b1, o1', rfl, g⟩ := HC.out k hlt
        have hm := getD_mem' hlt
        generalize hz : nums.getD k 0 = z at *
        have HZ := Lib.hid hz
        clear hz
        by_cases hin : 0 ≤ z ∧ z ≤ 10000000
        · obtain ⟨z1, z2⟩ := hin
          clear hm
          go_wp2_with fail
          refine (within_ledger_yes _ _ _ _ z1 z2).mono ?_
          rintro e w' ⟨rfl, rfl⟩
          go_wp2_with fail
          go_round
          case rel =>
            refine ⟨k + 1, by omega, by go_num, fun j hj => ?_⟩
            by_cases e : j = k
            · subst e; rw [HZ.out]; exact ⟨z1, z2⟩
            · exact HP.out j (by omega)
          case measure => simp [intOf]; omega
        · have HN := Lib.hid hin
          have HM := Lib.hid hm
          clear hin hm
          go_wp2_with fail
          refine (within_ledger_no _ _ _ _ HN.out).mono ?_
          rintro e w' ⟨rfl, rfl⟩
          go_wp2_with fail
          go_ret
          refine ⟨ret_int ?_, rfl⟩
          unfold chkE
          rw [if_neg (fun x => HN.out (x.2 z HM.out))]
      · obtain rfl : k = nums.length := by omega
        clear hlt hk
        go_wp2_with fail
        go_ret
        refine ⟨ret_int ?_, rfl⟩
        unfold chkE
        have hall : ∀ z ∈ nums, 0 ≤ z ∧ z ≤ 10000000 := by
          intro z hz
          obtain ⟨i, hi, rfl⟩ := List.getElem_of_mem hz
          have := HP.out i hi
          rw [List.getD_eq_getElem?_getD, List.getElem?_eq_getElem hi] at this
          exact this
        rw [if_pos ⟨⟨o1, o2⟩, hall⟩]
  · have HO := Lib.hid ho
    clear ho hc hr
    go_enter Tryz.func56, Tryz.ntmps56
    go_wp2_with fail
    refine (within_ledger_no _ _ _ _ HO.out).mono ?_
    rintro e w' ⟨rfl, rfl⟩
    go_wp2_with fail
    go_ret
    refine ⟨ret_int ?_, rfl⟩
    unfold chkE
    rw [if_neg (fun x => HO.out x.1)]

/-- What account finds. -/
def AccPost (o : Option Nat) (err : Int) (w : World) : Ending → World → Prop := fun e w' => e = .returned (.tuple #[ptrOf o, .int .i64 err]) ∧ w = w'

theorem zeroPtr (w : World) : (zeroValue 110).run Tryz.prog w = .ok (.pointer none) w := by kernel_rfl

theorem book_lookup {w : World} {F : Nat → Prop} {p : Nat} {st : BookSt} {N mb : Nat} {blk : Int → Option Nat} {lv ev : Value} {D : DataW Unit} (h : BookMem w F p st N mb blk lv ev D) (o : Int) (ho : 1 ≤ o ∧ o ≤ 40) :
    (Instr.lookup 105 (.map (some mb)) (.int .i64 o) false).run Tryz.prog w = .ok (ptrOf (blk o)) w := by
  have hwf : (Lit.int .i64 o).wf = true := WalkArith.wf_i64 (by omega)
  obtain ⟨v, ps, hrun, hv⟩ := h.map.lookup intKey Tryz.underlying105 (zeroPtr w) (zd := .nil) (zp := []) rfl (Maps.keyOf_int_mk Tryz.underlying3 hwf)
  rw [h.look o, ptrZ_nil] at hv
  rw [hrun, ptrElem_inv hv]

set_option maxHeartbeats 1000000 in
theorem account_err (p : Nat) (owner : Int) (v : Value) (nums : List Int) (w : World) (hr : Reads w .i64 v nums) (he : chkE owner nums ≠ 0) :
    Calls Tryz.prog 60 #[.pointer (some ⟨p, 0, none⟩), .int .i64 owner, v] w (AccPost none 2 w) := by
  have C := check_any owner v nums w hr
  rw [(chkE_vals owner nums).resolve_left he] at C
  obtain ⟨a, cap, rfl, hl, hc⟩ := hr
  have HC := Lib.hid C
  clear C he hc
  go_enter Tryz.func60, Tryz.ntmps60
  go_wp2_with fail
  refine HC.out.mono ?_
  rintro e w' ⟨rfl, rfl⟩
  go_wp2_with fail
  go_ret2
  exact ⟨rfl, rfl⟩

set_option maxHeartbeats 1000000 in
set_option maxRecDepth 100000 in
theorem account_any (p : Nat) (owner : Int) (v : Value) (nums : List Int) (w : World) (F : Nat → Prop) (st : BookSt) (N mb : Nat) (blk : Int → Option Nat) (lv ev : Value) (D : DataW Unit) (hr : Reads w .i64 v nums) (he : chkE owner nums = 0) (hb : BookMem w F p st N mb blk lv ev D) :
    Calls Tryz.prog 60 #[.pointer (some ⟨p, 0, none⟩), .int .i64 owner, v] w (AccPost (blk owner) (if blk owner = none then 7 else 0) w) := by
  have C := check_any owner v nums w hr
  rw [he] at C
  have L := book_lookup hb owner (chkE_zero he).1
  have c4 : w.cell? ⟨p, 4, none⟩ = some (.map (some mb)) := by rw [cell_of hb.self]; rfl
  obtain ⟨a, cap, rfl, hl, hc⟩ := hr
  have HC := Lib.hid C
  clear C he hc hb
  cases hblk : blk owner with
  | none =>
    rw [hblk] at L
    clear hblk
    unfold ptrOf at L
    go_enter Tryz.func60, Tryz.ntmps60
    go_wp2_with fail
    refine HC.out.mono ?_
    rintro e w' ⟨rfl, rfl⟩
    go_wp2_with fail
    go_ret2
    exact ⟨rfl, rfl⟩
  | some ab =>
    rw [hblk] at L
    clear hblk
    unfold ptrOf at L
    go_enter Tryz.func60, Tryz.ntmps60
    go_wp2_with fail
    refine HC.out.mono ?_
    rintro e w' ⟨rfl, rfl⟩
    go_wp2_with fail
    go_ret2
    exact ⟨rfl, rfl⟩

end
end Go.Proofs.YtfnmjlnpfoclbaaGreat
