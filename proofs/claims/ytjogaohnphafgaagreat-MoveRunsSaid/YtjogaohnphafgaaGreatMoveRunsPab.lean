/-
  The book in memory, and what check, account, NewBook and Held give. No conditions.
  The book's note: an entry more. No conditions.
  slices.Equal at []byte. No conditions.
-/
import Derived.Test.YtjogaohnphafgaaGreatMoveRunsPaa
import Derived.Deep.RegionLaw

namespace Go.Proofs.YtjogaohnphafgaaGreat
section
open Go.RowKit

structure Lea where
  no : Int
  owner : Int
  amount : Int
  untl : Int
structure Ent where
  kind : Int
  owner : Int
  other : Int
  amount : Int
  lease : Int
  untl : Int
def Lea.cells (l : Lea) : List Value := [.int .i64 l.no, .int .i64 l.owner, .int .i64 l.amount, .int .i64 l.untl]
def Ent.cells (e : Ent) : List Value := [.int .i64 e.kind, .int .i64 e.owner, .int .i64 e.other, .int .i64 e.amount, .int .i64 e.lease, .int .i64 e.untl]

theorem getD_mem' {zs : List Int} {k : Nat} (h : k < zs.length) : zs.getD k 0 ∈ zs := by rw [List.getD_eq_getElem?_getD, List.getElem?_eq_getElem h]; simp

/-- A book: acc o: the limit of the account, what it holds, what is leased to it. -/
structure BookSt where
  budget : Int
  total : Int
  time : Int
  last : Int
  acc : Int → Option (Int × Int × Int)
  leases : List Lea
  entries : List Ent

/-- How a pointer to a block's beginning reads. -/
def ptrElem : Value → Option (DataW Unit × List MemPlace)
  | .pointer none => some (.nil, [])
  | .pointer (some ⟨b, 0, none⟩) => some (.lit (.int .i64 b), [])
  | _ => none
def ptrOf : Option Nat → Value
  | none => .pointer none
  | some b => .pointer (some ⟨b, 0, none⟩)
def ptrD : Option Nat → DataW Unit
  | none => .nil
  | some b => .lit (.int .i64 b)
/-- What is read of a key, beside what stands for none. -/
def ptrZ (o : Option Nat) (z : DataW Unit) : DataW Unit := match o with
  | none => z
  | some b => .lit (.int .i64 b)
theorem ptrZ_nil (o : Option Nat) : ptrZ o .nil = ptrD o := by cases o <;> rfl
theorem ptrElem_of (o : Option Nat) : ptrElem (ptrOf o) = some (ptrD o, []) := by cases o <;> rfl
theorem ptrElem_inv {v : Value} {o : Option Nat} {ps : List MemPlace} (h : ptrElem v = some (ptrD o, ps)) : v = ptrOf o := by
  unfold ptrElem at h
  split at h
  · cases o with
    | none => rfl
    | some b => simp [ptrD] at h
  · next b' =>
    cases o with
    | none => simp [ptrD] at h
    | some b =>
      simp only [ptrD, Option.some.injEq, Prod.mk.injEq, DataW.lit.injEq, Lit.int.injEq, true_and] at h
      have : b' = b := by omega
      subst this; rfl
  · cases h

def bookCells (st : BookSt) (mb : Nat) (lv ev : Value) : Array Value :=
  #[.int .i64 st.budget, .int .i64 st.total, .int .i64 st.time, .int .i64 st.last, .map (some mb), lv, ev]

theorem intKey : Maps.Keyed Tryz.prog 3 := Maps.int_keyed Tryz.underlying3

structure BookMem (w : World) (F : Nat → Prop) (p : Nat) (st : BookSt) (N mb : Nat) (blk : Int → Option Nat) (lv ev : Value) (D : DataW Unit) : Prop where
  self : w.heap[p]? = some (.cells (bookCells st mb lv ev) 115 (0, 0))
  fp : F p
  map : w.ownsMap Tryz.prog 3 ptrElem mb N D
  fmap : F mb
  look : ∀ o z, D.atKey (.int .i64 o) z = ptrZ (blk o) z
  anone : ∀ o, blk o = none ↔ st.acc o = none
  asome : ∀ o b, blk o = some b → ∃ l h s, st.acc o = some (l, h, s) ∧ w.heap[b]? = some (.cells #[.int .i64 l, .int .i64 h, .int .i64 s] 119 (0, 0)) ∧ F b
  inj : ∀ o o' b, blk o = some b → blk o' = some b → o = o'
  lrow : w.ownsRow 0 183 4 lv st.leases.length (st.leases.flatMap Lea.cells)
  flea : ∀ k, lv.ownBlock = some k → F k
  erow : w.ownsRow 0 122 6 ev st.entries.length (st.entries.flatMap Ent.cells)
  fent : ∀ k, ev.ownBlock = some k → F k

def BookAt (w : World) (F : Nat → Prop) (p : Nat) (st : BookSt) (N : Nat) : Prop := ∃ mb blk lv ev D, BookMem w F p st N mb blk lv ev D

theorem ownsRow_same {w w' : World} {B e size n : Nat} {v : Value} {xs : List Value} (h : w.ownsRow B e size v n xs) (hs : ∀ k, v.ownBlock = some k → w'.heap[k]? = w.heap[k]?) : w'.ownsRow B e size v n xs := by
  refine ⟨h.1, ?_⟩
  rcases h.2 with hn | ⟨g, cap, cur, rfl, hb, hgg, rest⟩
  · exact .inl hn
  · exact .inr ⟨g, cap, cur, rfl, hb, (hs g rfl).trans hgg, rest⟩
theorem ownsMap_same {w w' : World} {k : TypeId} {R : Value → Option (DataW Unit × List MemPlace)} {b n : Nat} {D : DataW Unit} (h : w.ownsMap Tryz.prog k R b n D) (hs : w'.heap[b]? = w.heap[b]?) : w'.ownsMap Tryz.prog k R b n D := by
  obtain ⟨es, clock, hb, rest⟩ := h
  exact ⟨es, clock, hs.trans hb, rest⟩

/-- The book stays what it is while other blocks are turned. -/
theorem BookMem.same {w w' : World} {F : Nat → Prop} {p : Nat} {st : BookSt} {N mb : Nat} {blk : Int → Option Nat} {lv ev : Value} {D : DataW Unit} (h : BookMem w F p st N mb blk lv ev D) (hs : SameOn F w w') : BookMem w' F p st N mb blk lv ev D where
  self := (hs p h.fp (lt_of h.self)).trans h.self
  fp := h.fp
  map := ownsMap_same h.map (hs mb h.fmap h.map.lt)
  fmap := h.fmap
  look := h.look
  anone := h.anone
  asome := fun o b hb => by
    obtain ⟨l, x, s, h1, h2, h3⟩ := h.asome o b hb
    exact ⟨l, x, s, h1, (hs b h3 (lt_of h2)).trans h2, h3⟩
  inj := h.inj
  lrow := ownsRow_same h.lrow (fun k hk => hs k (h.flea k hk) (h.lrow.lt k hk).2)
  flea := h.flea
  erow := ownsRow_same h.erow (fun k hk => hs k (h.fent k hk) (h.erow.lt k hk).2)
  fent := h.fent
theorem BookMem.wider {w : World} {F G : Nat → Prop} {p : Nat} {st : BookSt} {N mb : Nat} {blk : Int → Option Nat} {lv ev : Value} {D : DataW Unit} (h : BookMem w F p st N mb blk lv ev D) (hG : ∀ k, F k → G k) : BookMem w G p st N mb blk lv ev D where
  self := h.self
  fp := hG _ h.fp
  map := h.map
  fmap := hG _ h.fmap
  look := h.look
  anone := h.anone
  asome := fun o b hb => by
    obtain ⟨l, x, s, h1, h2, h3⟩ := h.asome o b hb
    exact ⟨l, x, s, h1, h2, hG _ h3⟩
  inj := h.inj
  lrow := h.lrow
  flea := fun k hk => hG _ (h.flea k hk)
  erow := h.erow
  fent := fun k hk => hG _ (h.fent k hk)
theorem BookAt.same {w w' : World} {F : Nat → Prop} {p : Nat} {st : BookSt} {N : Nat} (h : BookAt w F p st N) (hs : SameOn F w w') : BookAt w' F p st N := by
  obtain ⟨mb, blk, lv, ev, D, h⟩ := h; exact ⟨mb, blk, lv, ev, D, h.same hs⟩
theorem BookAt.wider {w : World} {F G : Nat → Prop} {p : Nat} {st : BookSt} {N : Nat} (h : BookAt w F p st N) (hG : ∀ k, F k → G k) : BookAt w G p st N := by
  obtain ⟨mb, blk, lv, ev, D, h⟩ := h; exact ⟨mb, blk, lv, ev, D, h.wider hG⟩

/-- A new book. -/
def newSt (b : Int) : BookSt := ⟨b, 0, 0, 0, fun _ => none, [], []⟩

def NewBookPost (b : Int) (w : World) : Ending → World → Prop := fun e w' =>
  ∃ p, e = .returned (.tuple #[.pointer (some ⟨p, 0, none⟩), .int .i64 0]) ∧ BookAt w' (fun k => w.heap.size ≤ k) p (newSt b) 0 ∧ Below w.heap.size w w'

theorem newBook_mem (b : Int) (w : World) : BookAt ((w.alloc (Obj.map #[] 0)).alloc (Obj.cells #[.int .i64 b, .int .i64 0, .int .i64 0, .int .i64 0, .map (some w.heap.size), .slice none 0 0, .slice none 0 0] 115))
    (fun k => w.heap.size ≤ k) (w.heap.size + 1) (newSt b) 0 := by
  refine ⟨w.heap.size, fun _ => none, .slice none 0 0, .slice none 0 0, .map [], ?_⟩
  refine ⟨?_, by simp, (World.ownsMap_made w _ _ _).alloc _, Nat.le_refl _, fun o z => rfl, fun o => by simp [newSt], fun o b h => by simp at h, fun o o' b h => by simp at h, ?_, fun k hk => by simp [Value.ownBlock] at hk, ?_, fun k hk => by simp [Value.ownBlock] at hk⟩
  · have := heap_alloc_new (w.alloc (Obj.map #[] 0)) (Obj.cells #[.int .i64 b, .int .i64 0, .int .i64 0, .int .i64 0, .map (some w.heap.size), .slice none 0 0, .slice none 0 0] 115)
    simpa [bookCells, newSt] using this
  · exact World.ownsRow_nil _ _ _ _
  · exact World.ownsRow_nil _ _ _ _

set_option maxHeartbeats 1000000 in
theorem newBook_ok (b : Int) (w : World) (h1 : 0 ≤ b) (h2 : b ≤ 10000000) :
    Calls Tryz.prog 31 #[.int .i64 b] w (NewBookPost b w) := by
  have hmm := @run_makeMap Tryz.prog
  go_enter Tryz.func31, Tryz.ntmps31
  go_wp2_with fail
  refine (within_ledger_yes _ _ _ _ h1 h2).mono ?_
  rintro e w' ⟨rfl, rfl⟩
  go_wp2_with fail
  go_ret2
  refine ⟨_, rfl, ?_, by go_grown⟩
  exact newBook_mem b w

theorem newBook_bad (b : Int) (w : World) (h : ¬ (0 ≤ b ∧ b ≤ 10000000)) :
    Calls Tryz.prog 31 #[.int .i64 b] w fun e w' => e = .returned (.tuple #[.pointer none, .int .i64 2]) ∧ w = w' := by
  have H := Lib.hid h
  clear h
  go_enter Tryz.func31, Tryz.ntmps31
  go_wp2_with fail
  refine (within_ledger_no _ _ _ _ H.out).mono ?_
  rintro e w' ⟨rfl, rfl⟩
  go_wp2_with fail
  go_ret2
  exact ⟨rfl, rfl⟩

/-- The error of an owner and numbers. -/
def chkE (owner : Int) (nums : List Int) : Int := if (1 ≤ owner ∧ owner ≤ 40) ∧ ∀ z ∈ nums, 0 ≤ z ∧ z ≤ 10000000 then 0 else 2
theorem chkE_vals (owner : Int) (nums : List Int) : chkE owner nums = 0 ∨ chkE owner nums = 2 := by unfold chkE; split <;> simp
theorem chkE_zero {owner : Int} {nums : List Int} (h : chkE owner nums = 0) : (1 ≤ owner ∧ owner ≤ 40) ∧ ∀ z ∈ nums, 0 ≤ z ∧ z ≤ 10000000 := by
  unfold chkE at h; split at h
  · assumption
  · simp at h

def ChkPost (err : Int) (w : World) : Ending → World → Prop := fun e w' => e = .returned (.int .i64 err) ∧ w = w'

set_option maxHeartbeats 2000000 in
theorem check_any (owner : Int) (v : Value) (nums : List Int) (w : World) (hr : Reads w .i64 v nums) :
    Calls Tryz.prog 82 #[.int .i64 owner, v] w (ChkPost (chkE owner nums) w) := by
  obtain ⟨a, cap, rfl, hl, hc⟩ := hr.open
  by_cases ho : 1 ≤ owner ∧ owner ≤ 40
  · obtain ⟨o1, o2⟩ := ho
    have HC := Lib.hid hc
    clear hc hr
    go_enter Tryz.func82, Tryz.ntmps82
    go_wp2_with fail
    refine (within_ledger_yes _ _ _ _ o1 o2).mono ?_
    rintro e w' ⟨rfl, rfl⟩
    go_wp2_with fail
    go_loop [12] (fun i => ∃ k : Nat, k ≤ nums.length ∧ i = .int .i64 k ∧ ∀ j, j < k → 0 ≤ nums.getD j 0 ∧ nums.getD j 0 ≤ 10000000) (fun i => nums.length - (intOf i).toNat)
    case atStart => exact ⟨0, Nat.zero_le _, rfl, fun j hj => absurd hj (by omega)⟩
    case round =>
      obtain ⟨k, hk, rfl, hp⟩ := hrel
      have HP := Lib.hid hp
      clear hp
      by_cases hlt : k < nums.length
      · obtain ⟨b1, o1', rfl, g⟩ := HC.out k hlt
        have hm := getD_mem' hlt
        generalize hz : nums.getD k 0 = z at *
        have HZ := Lib.hid hz
        clear hz
        by_cases hin : 0 ≤ z ∧ z ≤ 10000000
        · obtain ⟨z1, z2⟩ := hin
          clear hm
          go_wp2_with fail
          refine (within_ledger_yes _ _ _ _ z1 z2).mono ?_
          rintro e w' ⟨rfl, rfl⟩
          go_wp2_with fail
          go_round
          case rel =>
            refine ⟨k + 1, by omega, by go_num, fun j hj => ?_⟩
            by_cases e : j = k
            · subst e; rw [HZ.out]; exact ⟨z1, z2⟩
            · exact HP.out j (by omega)
          case measure => simp [intOf]; omega
        · have HN := Lib.hid hin
          have HM := Lib.hid hm
          clear hin hm
          go_wp2_with fail
          refine (within_ledger_no _ _ _ _ HN.out).mono ?_
          rintro e w' ⟨rfl, rfl⟩
          go_wp2_with fail
          go_ret
          refine ⟨ret_int ?_, rfl⟩
          unfold chkE
          rw [if_neg (fun x => HN.out (x.2 z HM.out))]
      · obtain rfl : k = nums.length := by omega
        clear hlt hk
        go_wp2_with fail
        go_ret
        refine ⟨ret_int ?_, rfl⟩
        unfold chkE
        have hall : ∀ z ∈ nums, 0 ≤ z ∧ z ≤ 10000000 := by
          intro z hz
          obtain ⟨i, hi, rfl⟩ := List.getElem_of_mem hz
          have := HP.out i hi
          rw [List.getD_eq_getElem?_getD, List.getElem?_eq_getElem hi] at this
          exact this
        rw [if_pos ⟨⟨o1, o2⟩, hall⟩]
  · have HO := Lib.hid ho
    clear ho hc hr
    go_enter Tryz.func82, Tryz.ntmps82
    go_wp2_with fail
    refine (within_ledger_no _ _ _ _ HO.out).mono ?_
    rintro e w' ⟨rfl, rfl⟩
    go_wp2_with fail
    go_ret
    refine ⟨ret_int ?_, rfl⟩
    unfold chkE
    rw [if_neg (fun x => HO.out x.1)]

/-- What account finds. -/
def AccPost (o : Option Nat) (err : Int) (w : World) : Ending → World → Prop := fun e w' => e = .returned (.tuple #[ptrOf o, .int .i64 err]) ∧ w = w'

theorem zeroPtr (w : World) : (zeroValue 117).run Tryz.prog w = .ok (.pointer none) w := by kernel_rfl

theorem book_lookup {w : World} {F : Nat → Prop} {p : Nat} {st : BookSt} {N mb : Nat} {blk : Int → Option Nat} {lv ev : Value} {D : DataW Unit} (h : BookMem w F p st N mb blk lv ev D) (o : Int) (ho : 1 ≤ o ∧ o ≤ 40) :
    (Instr.lookup 111 (.map (some mb)) (.int .i64 o) false).run Tryz.prog w = .ok (ptrOf (blk o)) w := by
  have hwf : (Lit.int .i64 o).wf = true := WalkArith.wf_i64 (by omega)
  obtain ⟨v, ps, hrun, hv⟩ := h.map.lookup intKey Tryz.underlying111 (zeroPtr w) (zd := .nil) (zp := []) rfl (Maps.keyOf_int_mk Tryz.underlying3 hwf)
  rw [h.look o, ptrZ_nil] at hv
  rw [hrun, ptrElem_inv hv]

set_option maxHeartbeats 1000000 in
theorem account_err (p : Nat) (owner : Int) (v : Value) (nums : List Int) (w : World) (hr : Reads w .i64 v nums) (he : chkE owner nums ≠ 0) :
    Calls Tryz.prog 85 #[.pointer (some ⟨p, 0, none⟩), .int .i64 owner, v] w (AccPost none 2 w) := by
  have C := check_any owner v nums w hr
  rw [(chkE_vals owner nums).resolve_left he] at C
  obtain ⟨a, cap, rfl, hl, hc⟩ := hr
  have HC := Lib.hid C
  clear C he hc
  go_enter Tryz.func85, Tryz.ntmps85
  go_wp2_with fail
  refine HC.out.mono ?_
  rintro e w' ⟨rfl, rfl⟩
  go_wp2_with fail
  go_ret2
  exact ⟨rfl, rfl⟩

set_option maxHeartbeats 1000000 in
set_option maxRecDepth 100000 in
theorem account_any (p : Nat) (owner : Int) (v : Value) (nums : List Int) (w : World) (F : Nat → Prop) (st : BookSt) (N mb : Nat) (blk : Int → Option Nat) (lv ev : Value) (D : DataW Unit) (hr : Reads w .i64 v nums) (he : chkE owner nums = 0) (hb : BookMem w F p st N mb blk lv ev D) :
    Calls Tryz.prog 85 #[.pointer (some ⟨p, 0, none⟩), .int .i64 owner, v] w (AccPost (blk owner) (if blk owner = none then 7 else 0) w) := by
  have C := check_any owner v nums w hr
  rw [he] at C
  have L := book_lookup hb owner (chkE_zero he).1
  have c4 : w.cell? ⟨p, 4, none⟩ = some (.map (some mb)) := by rw [cell_of hb.self]; rfl
  obtain ⟨a, cap, rfl, hl, hc⟩ := hr
  have HC := Lib.hid C
  clear C he hc hb
  cases hblk : blk owner with
  | none =>
    rw [hblk] at L
    clear hblk
    unfold ptrOf at L
    go_enter Tryz.func85, Tryz.ntmps85
    go_wp2_with fail
    refine HC.out.mono ?_
    rintro e w' ⟨rfl, rfl⟩
    go_wp2_with fail
    go_ret2
    exact ⟨rfl, rfl⟩
  | some ab =>
    rw [hblk] at L
    clear hblk
    unfold ptrOf at L
    go_enter Tryz.func85, Tryz.ntmps85
    go_wp2_with fail
    refine HC.out.mono ?_
    rintro e w' ⟨rfl, rfl⟩
    go_wp2_with fail
    go_ret2
    exact ⟨rfl, rfl⟩

end
end Go.Proofs.YtjogaohnphafgaaGreat

namespace Go.Proofs.YtjogaohnphafgaaGreat
section
open Go.RowKit

/-- The law on append, and where the row lies then: in place, or in a new block. -/
theorem run_append_place {P : Program} (w : World) (base : Nat) (t ty e : TypeId) (i : TypeInfo) (z : Value) (size bytes : Nat) (ht : P.underlying t = some (.slice e)) (hi : P.info? e = some i) (hz : i.zero = some z)
    (hsize : i.size = size) (hby : i.bytes = bytes) (hzs : z.cells.size = size) (hsz : 0 < size)
    (v : Value) (n : Nat) (xs : List Value) (hown : w.ownsRow base e size v n xs)
    (a : Addr) (m c : Nat) (news : List Value) (hl : news.length = m * size) (hnews : ∀ j u, news[j]? = some u → w.cell? (a.add j) = some u) (h1 : ∀ u ∈ news, u.oneCell' = true)
    (hm : 0 < m) (h63 : n + m ≤ maxLen) (hbytes : (n + m) * bytes ≤ 140737488355328) (hbase : base ≤ w.heap.size) :
    ∃ g cap w', (Builtin.append_ #[t, t] ty #[v, .slice (some a) m c]).run P w = .ok (.slice (some ⟨g, 0, none⟩) (n + m) cap) w' ∧ w'.ownsRow base e size (.slice (some ⟨g, 0, none⟩) (n + m) cap) (n + m) (xs ++ news) ∧ w.grownBy w' v.ownBlock ∧
      (v.ownBlock = some g ∨ w.heap.size ≤ g) := by
  have hlaw := fun base hown hbase => run_append_own (P := P) w base t ty e i z size bytes ht hi hz hsize hby hzs hsz v n xs hown a m c news hl hnews h1 h63 hbytes hbase
  obtain ⟨v', w', hr, ho, hg, _⟩ := hlaw base hown hbase
  rcases ho.2 with ⟨_, h0⟩ | ⟨g, cap, cur, rfl, hb, hgg, rest⟩
  · omega
  refine ⟨g, cap, w', hr, ho, hg, ?_⟩
  have hsmall : n + m ≤ 9223372036854775807 := by simp only [maxLen] at h63; omega
  rcases hown.2 with ⟨rfl, rfl⟩ | ⟨g0, cap0, cur0, rfl, hb0, hg0, hn0, hc0, hs0, ht0⟩
  · right
    obtain ⟨v2, w2, hr2, ho2, _, _⟩ := hlaw w.heap.size ⟨hown.1, Or.inl ⟨rfl, rfl⟩⟩ (Nat.le_refl _)
    rw [hr] at hr2
    simp only [Result.ok.injEq] at hr2
    obtain ⟨rfl, rfl⟩ := hr2
    rcases ho2.2 with ⟨_, h0⟩ | ⟨g2, cap2, cur2, he2, hb2, _⟩
    · omega
    · simp only [Value.slice.injEq, Option.some.injEq, Addr.mk.injEq, and_true] at he2
      omega
  · by_cases hroom : n + m ≤ cap0
    · left
      subst hsize
      have hfit : n * i.size + news.length ≤ cur0.size := by rw [hl, hs0, ← Nat.add_mul]; exact Nat.mul_le_mul_right _ hroom
      have hr2 := run_append_room (P := P) w t ty e i ht hi g0 n cap0 cur0 hg0 a m c news hl hnews h1 hroom hfit
      rw [hr] at hr2
      simp only [Result.ok.injEq, Value.slice.injEq, Option.some.injEq, Addr.mk.injEq, and_true] at hr2
      simp [Value.ownBlock, hr2.1.1]
    · right
      subst hsize
      subst hby
      have holds : ∀ j u, xs[j]? = some u → w.cell? ((⟨g0, 0, none⟩ : Addr).add j) = some u := hown.cells (g := g0) rfl
      have hr2 := run_append_grow (P := P) w t ty e i z ht hi hz ⟨g0, 0, none⟩ n cap0 xs hown.1 holds a m c news hl hnews (by omega) (by omega) (growslice_fits (by omega) hbytes)
      rw [hr] at hr2
      simp only [Result.ok.injEq, Value.slice.injEq, Option.some.injEq, Addr.mk.injEq, and_true] at hr2
      have := hr2.1.1
      omega

/-- 'x.f = append(x.f, y)' in a region that draws: y lies in the block just made. -/
theorem step_append_new {P : Program} {ops : Array Oper} {o : Oper} {a : Act} {K : Act → World → Prop} {Q : Exit → Act → World → Prop} {E : Prop}
    (hg : o.guard = none) (s x : Operand) (t : TypeId) (hop : o.op = Op.call { callee := Callee.builtin Builtin.append, args := #[s, x], argTypes := #[t, t] })
    (base : Nat) (e : TypeId) (i : TypeInfo) (z : Value) (size bytes : Nat) (ht : P.underlying t = some (.slice e)) (hi : P.info? e = some i) (hz : i.zero = some z)
    (hsize : i.size = size) (hby : i.bytes = bytes) (hzs : z.cells.size = size) (hsz : 0 < size)
    (v : Value) (n : Nat) (xs : List Value) (wr : World) (e' : TypeId) (us : List Value) (hs : a.eval s = v) (hown : wr.ownsRow base e size v n xs)
    (hx : a.eval x = .slice (some ⟨wr.heap.size, 0, none⟩) 1 1) (hl : us.length = size) (h1 : ∀ u ∈ us, u.oneCell' = true)
    (h63 : n + 1 ≤ maxLen) (hbytes : (n + 1) * bytes ≤ 140737488355328) (hbase : base ≤ wr.heap.size)
    (h : ∀ g cap w', w'.ownsRow base e size (.slice (some ⟨g, 0, none⟩) (n + 1) cap) (n + 1) (xs ++ us) → wr.grownBy w' v.ownBlock → (v.ownBlock = some g ∨ wr.heap.size ≤ g) → wr.heap.size < w'.heap.size → K (a.put o.dst (.slice (some ⟨g, 0, none⟩) (n + 1) cap)) w') :
    if Region.wanted o (yielded ops a.tmps) = true then Oper.wp P o a (wr.alloc (.cells us.toArray e')) K Q else E := by
  have hw : Region.wanted o (yielded ops a.tmps) = true := by simp [Region.wanted, hg]
  rw [if_pos hw]
  have hnews : ∀ j u, us[j]? = some u → (wr.alloc (.cells us.toArray e')).cell? ((⟨wr.heap.size, 0, none⟩ : Addr).add j) = some u := by
    intro j u hj
    have e1 : (⟨wr.heap.size, 0, none⟩ : Addr).add j = ⟨wr.heap.size, j, none⟩ := by unfold Addr.add; split <;> simp_all
    rw [e1, cell_of_row _ _ _ _ _ _ (heap_alloc_new wr _)]
    simpa using hj
  obtain ⟨g, cap, w', hr, ho, hg', hp⟩ := run_append_place (P := P) (wr.alloc (.cells us.toArray e')) base t o.type e i z size bytes ht hi hz hsize hby hzs hsz v n xs (hown.alloc _) ⟨wr.heap.size, 0, none⟩ 1 1 us (by omega) hnews h1 (by omega) h63 hbytes (by simp; omega)
  unfold Oper.wp execOp
  simp only [hop, resolve, invoke, builtin, Sem.run_bind, Sem.run_pure, Result.andThen_ok, List.map_toArray, List.map_cons, List.map_nil, hs, hx, hr]
  have hg2 : wr.grownBy w' v.ownBlock := ⟨hg'.os, hg'.tape, hg'.output, Nat.le_trans (by simp) hg'.size, fun k hk hne => (hg'.block k (by simp; omega) hne).trans (heap_alloc_old wr _ hk)⟩
  exact h g cap w' ho hg2 (hp.imp id (fun x => by simp at x; omega)) (by have := hg'.size; simp at this; omega)

theorem BookMem.pe {w : World} {F : Nat → Prop} {p : Nat} {st : BookSt} {N mb : Nat} {blk : Int → Option Nat} {lv ev : Value} {D : DataW Unit} (h : BookMem w F p st N mb blk lv ev D) : ev.ownBlock ≠ some p := by
  intro he
  rcases h.erow.2 with ⟨hv, _⟩ | ⟨g, cap, cur, hv, _, hg, _⟩
  · subst hv; simp [Value.ownBlock] at he
  · subst hv
    simp only [Value.ownBlock, Option.some.injEq] at he
    subst he
    rw [h.self] at hg
    simp at hg

theorem infoEnt : (Tryz.prog.info? 122).map (fun i => (i.zero, i.size, i.bytes)) = some (some (.agg #[.int .i64 0, .int .i64 0, .int .i64 0, .int .i64 0, .int .i64 0, .int .i64 0]), 6, 48) := by kernel_rfl

/-- The book after a call that has made an entry: F: what the book had; new blocks are its own, too. -/
def NotePost (F : Nat → Prop) (p : Nat) (st : BookSt) (N : Nat) (w : World) : Ending → World → Prop := fun e w' =>
  e = .returned (.tuple #[]) ∧ BookAt w' (fun k => F k ∨ w.heap.size ≤ k) p st N ∧ Touch F w w'

/-- The row of a slice that is owned, as a block. -/
theorem row_block {w : World} {B e size n : Nat} {v : Value} {xs : List Value} {k : Nat} (h : w.ownsRow B e size v n xs) (hk : v.ownBlock = some k) : ∃ cur, w.heap[k]? = some (.cells cur e (0, 0)) := by
  rcases h.2 with ⟨hv, _⟩ | ⟨g, cap, cur, hv, _, hg, _⟩
  · subst hv; simp [Value.ownBlock] at hk
  · subst hv
    simp only [Value.ownBlock, Option.some.injEq] at hk
    subst hk
    exact ⟨cur, hg⟩

/-- The book when its entries' row has moved, or grown, and its field is stored. -/
theorem BookMem.entries {w W : World} {F : Nat → Prop} {p : Nat} {st : BookSt} {N mb : Nat} {blk : Int → Option Nat} {lv ev : Value} {D : DataW Unit} (h : BookMem w F p st N mb blk lv ev D) (v' : Value) (es : List Ent)
    (hp : W.heap[p]? = some (.cells (bookCells st mb lv v') 115 (0, 0)))
    (hk : ∀ k, k < w.heap.size → k ≠ p → ev.ownBlock ≠ some k → W.heap[k]? = w.heap[k]?)
    (hrow : W.ownsRow 0 122 6 v' es.length (es.flatMap Ent.cells)) (hv : ∀ k, v'.ownBlock = some k → F k ∨ w.heap.size ≤ k) :
    BookMem W (fun k => F k ∨ w.heap.size ≤ k) p { st with entries := es } N mb blk lv v' D := by
  have nm : mb ≠ p ∧ ev.ownBlock ≠ some mb := by
    obtain ⟨xs, clock, hx, _⟩ := h.map
    refine ⟨fun e => ?_, fun e => ?_⟩
    · subst e; rw [h.self] at hx; simp at hx
    · obtain ⟨cur, hc⟩ := row_block h.erow e; rw [hc] at hx; simp at hx
  refine ⟨hp, Or.inl h.fp, ownsMap_same h.map (hk mb h.map.lt nm.1 nm.2), Or.inl h.fmap, h.look, h.anone, ?_, h.inj, ?_, fun k hk => Or.inl (h.flea k hk), hrow, hv⟩
  · intro o b hb
    obtain ⟨l, x, s, h1, h2, h3⟩ := h.asome o b hb
    refine ⟨l, x, s, h1, ?_, Or.inl h3⟩
    rw [hk b (lt_of h2) ?_ ?_]
    · exact h2
    · intro e; subst e; rw [h.self] at h2; simp at h2
    · intro e; obtain ⟨cur, hc⟩ := row_block h.erow e; rw [hc] at h2; simp at h2
  · refine ownsRow_same h.lrow (fun k hk' => ?_)
    obtain ⟨cur, hc⟩ := row_block h.lrow hk'
    refine hk k (lt_of hc) ?_ ?_
    · intro e; subst e; rw [h.self] at hc; simp at hc
    · intro e; obtain ⟨cur2, hc2⟩ := row_block h.erow e; rw [hc2] at hc; simp at hc

theorem note_mem {w w' : World} {F : Nat → Prop} {p : Nat} {st : BookSt} {N mb : Nat} {blk : Int → Option Nat} {lv ev : Value} {D : DataW Unit} (h : BookMem w F p st N mb blk lv ev D) (en : Ent) (o : Obj) (g cap : Nat)
    (hrow : w'.ownsRow 0 122 6 (.slice (some ⟨g, 0, none⟩) (st.entries.length + 1) cap) (st.entries.length + 1) (st.entries.flatMap Ent.cells ++ en.cells))
    (hgr : (w.alloc o).drew.grownBy w' ev.ownBlock) (hpl : ev.ownBlock = some g ∨ w.heap.size + 1 ≤ g) :
    BookMem (w'.setCell ⟨p, 6, none⟩ (.slice (some ⟨g, 0, none⟩) (st.entries.length + 1) cap)) (fun k => F k ∨ w.heap.size ≤ k) p { st with entries := st.entries ++ [en] } N mb blk lv (.slice (some ⟨g, 0, none⟩) (st.entries.length + 1) cap) D ∧
      Touch F w (w'.setCell ⟨p, 6, none⟩ (.slice (some ⟨g, 0, none⟩) (st.entries.length + 1) cap)) := by
  have hp := lt_of h.self
  have blk' : ∀ k, k < w.heap.size → ev.ownBlock ≠ some k → w'.heap[k]? = w.heap[k]? := fun k hk hne =>
    (hgr.block k (by simp; omega) (fun e => hne e.symm)).trans (heap_alloc_old w _ hk)
  have hp' : w'.heap[p]? = some (.cells (bookCells st mb lv ev) 115 (0, 0)) := (blk' p hp h.pe).trans h.self
  have hgp : g ≠ p := by
    rcases hpl with e | e
    · intro x; subst x; exact h.pe e
    · omega
  refine ⟨h.entries _ _ ?_ ?_ ?_ ?_, ?_⟩
  · rw [block_setCell hp']; rfl
  · intro k hk hne hne2
    rw [Below.heap_setCell _ _ _ _ hne]
    exact blk' k hk hne2
  · have := ownsRow_setCell_other hrow (a := ⟨p, 6, none⟩) (by simp [Value.ownBlock]; exact hgp) (.slice (some ⟨g, 0, none⟩) (st.entries.length + 1) cap)
    simpa [List.flatMap_append] using this
  · intro k hk
    simp only [Value.ownBlock, Option.some.injEq] at hk
    subst hk
    rcases hpl with e | e
    · exact Or.inl (h.fent _ e)
    · exact Or.inr (by omega)
  · refine Touch.setCell ?_ (Or.inl h.fp) _
    exact ((Touch.refl F w).alloc o).drew.grown hgr (fun k hk => Or.inl (h.fent k hk))

set_option maxHeartbeats 4000000 in
set_option maxRecDepth 100000 in
theorem note_few (p : Nat) (en : Ent) (w : World) (F : Nat → Prop) (st : BookSt) (N : Nat) (hb : BookAt w F p st N) (hn : st.entries.length ≤ 9999) :
    Calls Tryz.prog 83 #[.pointer (some ⟨p, 0, none⟩), .agg #[.int .i64 en.kind, .int .i64 en.owner, .int .i64 en.other, .int .i64 en.amount, .int .i64 en.lease, .int .i64 en.untl]] w
      (NotePost F p { st with entries := st.entries ++ [en] } N w) := by
  obtain ⟨i0, hi0, hz0, hz1, hz2⟩ := info_parts infoEnt
  obtain ⟨mb, blk, lv, ev, D, hm⟩ := hb
  obtain ⟨en1, en2, en3, en4, en5, en6⟩ := en
  have hp := lt_of hm.self
  have c6 : w.cell? ⟨p, 6, none⟩ = some ev := by rw [cell_of hm.self]; rfl
  have HM := Lib.hid hm
  have ONE : ∀ u ∈ [Value.int .i64 en1, .int .i64 en2, .int .i64 en3, .int .i64 en4, .int .i64 en5, .int .i64 en6], u.oneCell' = true := by
    intro u hu
    simp at hu
    rcases hu with rfl | rfl | rfl | rfl | rfl | rfl <;> rfl
  have same : ∀ w', (w.alloc (.cells #[.int .i64 en1, .int .i64 en2, .int .i64 en3, .int .i64 en4, .int .i64 en5, .int .i64 en6] 122)).drew.grownBy w' ev.ownBlock → w'.heap[p]? = some (.cells (bookCells st mb lv ev) 115 (0, 0)) := by
    intro w' hg
    have h1 := hg.block p (by simp; omega) (fun e => hm.pe e.symm)
    exact h1.trans ((heap_alloc_old w _ hp).trans hm.self)
  have PC : ∀ w', (w.alloc (.cells #[.int .i64 en1, .int .i64 en2, .int .i64 en3, .int .i64 en4, .int .i64 en5, .int .i64 en6] 122)).drew.grownBy w' ev.ownBlock → w'.cell? ⟨p, 6, none⟩ = some ev := fun w' h => by rw [cell_of (same w' h)]; rfl
  have PF : ∀ w', (w.alloc (.cells #[.int .i64 en1, .int .i64 en2, .int .i64 en3, .int .i64 en4, .int .i64 en5, .int .i64 en6] 122)).drew.grownBy w' ev.ownBlock → w'.frozen? ⟨p, 6, none⟩ = false := fun w' h => free_of (same w' h) 6
  have SAME := Lib.hid same
  clear hm same
  go_enter Tryz.func83, Tryz.ntmps83
  go_wp2_with fail
  go_region_law ((go_loud (refine step_append_new rfl (.tmp 9) (.tmp 11) 113 rfl 0 122 i0 (.agg #[.int .i64 0, .int .i64 0, .int .i64 0, .int .i64 0, .int .i64 0, .int .i64 0]) 6 48 Tryz.underlying113 hi0 hz0 hz1 hz2 rfl (by decide) ev st.entries.length (st.entries.flatMap Ent.cells) (w.alloc (.cells #[.int .i64 en1, .int .i64 en2, .int .i64 en3, .int .i64 en4, .int .i64 en5, .int .i64 en6] 122)).drew _ [.int .i64 en1, .int .i64 en2, .int .i64 en3, .int .i64 en4, .int .i64 en5, .int .i64 en6] rfl (by exact HM.out.erow.alloc _) (by simp [Act.eval]) rfl ONE (by unfold maxLen; omega) (by omega) (by omega) ?_); intro g cap w' hrow hgr hpl hsz; have d6 := PC w' hgr; have f6 := PF w' hgr))
  all_goals
    go_wp2_with fail
    go_end0
    obtain ⟨h1, h2⟩ := note_mem HM.out ⟨en1, en2, en3, en4, en5, en6⟩ _ g cap hrow hgr (hpl.imp id (fun x => by simpa using x))
    exact ⟨rfl, ⟨mb, blk, lv, _, D, h1⟩, h2⟩

end
end Go.Proofs.YtjogaohnphafgaaGreat

namespace Go.Proofs.YtjogaohnphafgaaGreat
section
open Go.RowKit

set_option maxHeartbeats 1000000 in
set_option maxRecDepth 100000 in
/-- slices.Equal at []byte. -/
theorem equal_byte (v1 v2 : Value) (xs ys : List Int) (w : World) (h1 : Reads w .u8 v1 xs) (h2 : Reads w .u8 v2 ys) :
    Calls Tryz.prog 61 #[v1, v2] w (EqPost (decide (xs = ys)) w) := by
  obtain ⟨a1, c1, rfl, hl1, hc1⟩ := h1
  obtain ⟨a2, c2, rfl, hl2, hc2⟩ := h2
  by_cases hlen : xs.length = ys.length
  · by_cases hz : xs = []
    · subst hz
      have hy : ys = [] := by cases ys <;> simp_all
      subst hy
      go_enter Tryz.func61, Tryz.ntmps61
      go_wp2
      go_loopg [13] 0 (fun _ s13 wr => s13 = .int .i64 0 ∧ wr = w)
      case atStart => exact ⟨rfl, rfl⟩
      case round =>
        obtain ⟨rfl, rfl⟩ := hrel
        go_wp2
        go_ret
        exact ⟨rfl, 0, rfl⟩
    · have hy : ys ≠ [] := by intro e; subst e; simp at hlen; exact hz hlen
      obtain ⟨b1, o1, rfl, hd1⟩ := hc1 hz
      obtain ⟨b2, o2, rfl, hd2⟩ := hc2 hy
      clear hc1 hc2
      rw [← hlen] at hd2 hl2 ⊢
      generalize hn : xs.length = n at *
      have Hn := Lib.hid hn
      have Hl := Lib.hid hlen
      clear hn hlen hz hy
      have HC1 := Lib.hid hd1
      have HC2 := Lib.hid hd2
      clear hd1 hd2
      go_enter Tryz.func61, Tryz.ntmps61
      go_wp2
      go_loopg [13] n (fun g s13 wr => ∃ k q : Nat, k ≤ n ∧ n - k ≤ g ∧ s13 = .int .i64 k ∧ wr = w.drewN q ∧ ∀ j, j < k → xs.getD j 0 = ys.getD j 0)
      case atStart => exact ⟨0, 0, Nat.zero_le _, by omega, rfl, rfl, fun j hj => absurd hj (Nat.not_lt_zero _)⟩
      case round =>
        obtain ⟨k, q, hk, hg, rfl, rfl, heq⟩ := hrel
        have A := Lib.hid heq
        clear heq
        by_cases hlt : k < n
        · have g1 : w.cell? ⟨b1, o1 + k, none⟩ = some (.int .u8 (xs.getD k 0)) := HC1.out k (by omega)
          have g2 : w.cell? ⟨b2, o2 + k, none⟩ = some (.int .u8 (ys.getD k 0)) := HC2.out k (by omega)
          generalize hxk : xs.getD k 0 = x at g1
          generalize hyk : ys.getD k 0 = y at g2
          have B1 := Lib.hid hxk
          have B2 := Lib.hid hyk
          clear hxk hyk
          by_cases hxy : x = y
          · subst hxy
            go_wp2_with fail
            go_region
            go_wp2
            go_roundg (n - (k + 1))
            case measure => omega
            case rel =>
              refine ⟨k + 1, q + 1, by omega, by omega, by go_num, rfl, fun j hj => ?_⟩
              by_cases e : j = k
              · subst e
                rw [B1.out, B2.out]
              · exact A.out j (by omega)
          · go_wp2_with fail
            go_region
            go_wp2
            go_ret
            exact ⟨ret_bool (take_ne_of k (by rw [B1.out, B2.out]; exact hxy)).symm, q + 1, rfl⟩
        · have : k = n := by omega
          subst this
          go_wp2
          go_ret
          exact ⟨ret_bool (decide_eq_true (eq_of_all (xs := xs) (ys := ys) (Hn.out.trans Hl.out) (fun j hj => A.out j (by rw [Hn.out] at hj; exact hj)))).symm, q, rfl⟩
  · have hnm' : ¬ (xs.length : Int) = (ys.length : Int) := by omega
    have Hl := Lib.hid hlen
    clear hlen hc1 hc2
    go_enter Tryz.func61, Tryz.ntmps61
    go_wp2
    go_ret
    exact ⟨ret_bool (by simp; intro e; subst e; exact Hl.out rfl), 0, rfl⟩

end
end Go.Proofs.YtjogaohnphafgaaGreat
