/-
  A book with one account, number 1, with limit M, which holds n: Take and Give. No conditions but bounds.
  A cache with its book; grow: slabs more. No conditions but bounds.
-/
import Derived.Test.YtiaedonhbafpjaaTopSlabPan
import Derived.Test.YtiaedonhbafpjaaTopSlabPay
import Derived.Test.YtiaedonhbafpjaaTopSlabPal

namespace Go.Proofs.Ytiaedonhbafpjaa
section
open Go.RowKit
set_option linter.unusedVariables false

structure BkIn (w : World) (G : Nat → Prop) (bp M n : Nat) (b : BookSt) : Prop where
  bk : BookAt w G bp b 1
  acc : b.acc 1 = some ((M : Int), (n : Int), 0)
  bud : b.budget = 10000000
  tot : b.total = (n : Int)
  ent : b.entries.length ≤ 10000
  le : n ≤ M ∧ M ≤ 10000000
  gl : ∀ k, G k → k < w.heap.size
theorem BkIn.same {w w' : World} {G : Nat → Prop} {bp M n : Nat} {b : BookSt} (h : BkIn w G bp M n b) (hs : ∀ k, G k → w'.heap[k]? = w.heap[k]?) (hz : w.heap.size ≤ w'.heap.size) : BkIn w' G bp M n b :=
  ⟨h.bk.same (fun k hk _ => hs k hk), h.acc, h.bud, h.tot, h.ent, h.le, fun k hk => Nat.lt_of_lt_of_le (h.gl k hk) hz⟩
theorem BkIn.below {w w' : World} {G : Nat → Prop} {bp M n : Nat} {b : BookSt} (h : BkIn w G bp M n b) (hb : Below w.heap.size w w') : BkIn w' G bp M n b := h.same (fun k hk => hb.block k (h.gl k hk)) hb.size
theorem BkIn.touch {w w' : World} {G Z : Nat → Prop} {bp M n : Nat} {b : BookSt} (h : BkIn w G bp M n b) (ht : Touch Z w w') (hd : ∀ k, Z k → ¬ G k) : BkIn w' G bp M n b := h.same (fun k hk => ht.block k (h.gl k hk) (fun e => hd k e hk)) ht.size
def tk1E (M n z : Nat) : Int := if M < n + z then 12 else 0
def tk1N (M n z : Nat) : Nat := if M < n + z then n else n + z
theorem BookAt.narrowK {w : World} {F : Nat → Prop} {p : Nat} {st : BookSt} {N : Nat} (h : BookAt w F p st N) : BookAt w (fun k => F k ∧ k < w.heap.size) p st N := by
  obtain ⟨mb, blk, lv, ev, D, hm⟩ := h
  refine ⟨mb, blk, lv, ev, D, ⟨hm.self, ⟨hm.fp, lt_of hm.self⟩, hm.map, ⟨hm.fmap, hm.map.lt⟩, hm.look, hm.anone, ?_, hm.inj, hm.lrow, ?_, hm.erow, ?_⟩⟩
  · intro o b hb
    obtain ⟨l, h, s, h1, h2, h3⟩ := hm.asome o b hb
    exact ⟨l, h, s, h1, h2, h3, lt_of h2⟩
  · intro k hk
    obtain ⟨cur, h1⟩ := row_block hm.lrow hk
    exact ⟨hm.flea k hk, lt_of h1⟩
  · intro k hk
    obtain ⟨cur, h1⟩ := row_block hm.erow hk
    exact ⟨hm.fent k hk, lt_of h1⟩
set_option maxHeartbeats 1000000 in
set_option maxRecDepth 100000 in
def BelW (w : World) (W : World) : Prop := Below w.heap.size w W
theorem narrowB {w : World} {F : Nat → Prop} {p : Nat} {st : BookSt} {N : Nat} {w0 : World} (h : BookAt w (fun k => F k ∨ w0.heap.size ≤ k) p st N) : BookAt w (fun k => (F k ∨ w0.heap.size ≤ k) ∧ k < w.heap.size) p st N := BookAt.narrowK h

set_option maxHeartbeats 1000000 in
theorem take1_any {w : World} {G : Nat → Prop} {bp M n : Nat} {b : BookSt} (h : BkIn w G bp M n b) (z : Nat) (hz : z ≤ 10000000) :
    Calls Try.prog 51 #[.pointer (some ⟨bp, 0, none⟩), .int .i64 1, .int .i64 (z : Int)] w (fun e w' => e = .returned (.int .i64 (tk1E M n z)) ∧ ∃ G' b', BkIn w' G' bp M (tk1N M n z) b' ∧ (∀ k, G' k → G k ∨ w.heap.size ≤ k) ∧ Touch G w w') := by
  have hle := h.le
  refine (take_any bp 1 (z : Int) M n 0 w G b 1 h.bk h.acc (by omega) (by omega) (by omega) (by omega) (by omega) (by rw [h.bud]; omega) (by rw [h.tot]; omega) h.ent).mono ?_
  rintro e w' ⟨rfl, hbk, ht⟩
  have hbk := narrowB hbk
  by_cases hc : M < n + z
  · have hE : takeE b M n 0 z = 12 := by
      unfold takeE
      rw [if_pos (by rw [h.bud, h.tot]; omega)]
    have hS : takeSt b 1 M n 0 z = b := by
      unfold takeSt
      rw [if_neg (by rw [hE]; decide)]
    rw [hS] at hbk
    have hN : tk1N M n z = n := by unfold tk1N; rw [if_pos hc]
    rw [hN]
    exact ⟨by rw [hE]; unfold tk1E; rw [if_pos hc], _, b, ⟨hbk, h.acc, h.bud, h.tot, h.ent, h.le, fun k hk => hk.2⟩, fun k hk => hk.1, ht⟩
  · have hE : takeE b M n 0 z = 0 := by
      unfold takeE
      rw [if_neg (by rw [h.bud, h.tot]; omega)]
    have hN : tk1N M n z = n + z := by unfold tk1N; rw [if_neg hc]
    have hS : takeSt b 1 M n 0 z = { heldSt b 1 M n 0 z with entries := trimE (b.entries ++ [holdEnt 1 z]) } := by
      unfold takeSt
      rw [if_pos hE]
    rw [hS] at hbk
    refine ⟨by rw [hE]; unfold tk1E; rw [if_neg hc], _, _, ⟨hbk, ?_, h.bud, ?_, ?_, ?_, fun k hk => hk.2⟩, fun k hk => hk.1, ht⟩
    · rw [hN]
      show (heldSt b 1 M n 0 z).acc 1 = _
      unfold heldSt
      simp
    · rw [hN]
      show (heldSt b 1 M n 0 z).total = _
      unfold heldSt
      simp only [h.tot]
      omega
    · refine trimE_len _ ?_
      rw [List.length_append]
      have := h.ent
      simp
      omega
    · rw [hN]; omega
set_option maxHeartbeats 1000000 in
theorem give1_any {w : World} {G : Nat → Prop} {bp M n : Nat} {b : BookSt} (h : BkIn w G bp M n b) (z : Nat) (hz : z ≤ n) :
    Calls Try.prog 56 #[.pointer (some ⟨bp, 0, none⟩), .int .i64 1, .int .i64 (z : Int)] w (fun e w' => e = .returned (.int .i64 0) ∧ ∃ G' b', BkIn w' G' bp M (n - z) b' ∧ (∀ k, G' k → G k ∨ w.heap.size ≤ k) ∧ Touch G w w') := by
  have hle := h.le
  refine (give_any bp 1 (z : Int) M n 0 w G b 1 h.bk h.acc (by omega) (by omega) (by omega) (by rw [h.tot]; omega) h.ent).mono ?_
  rintro e w' ⟨rfl, hbk, ht⟩
  have hbk := narrowB hbk
  have hE : giveE n z = 0 := by
    unfold giveE
    rw [if_neg (by omega)]
  have hS : giveSt b 1 M n 0 z = { heldSt b 1 M n 0 (-(z : Int)) with entries := trimE (b.entries ++ [⟨4, 1, 0, z, 0, 0⟩]) } := by
    unfold giveSt
    rw [if_pos hE]
  rw [hS] at hbk
  refine ⟨by rw [hE], _, _, ⟨hbk, ?_, h.bud, ?_, ?_, ?_, fun k hk => hk.2⟩, fun k hk => hk.1, ht⟩
  · show (heldSt b 1 M n 0 (-(z : Int))).acc 1 = _
    unfold heldSt
    simp
    omega
  · show (heldSt b 1 M n 0 (-(z : Int))).total = _
    unfold heldSt
    simp only [h.tot]
    omega
  · refine trimE_len _ ?_
    rw [List.length_append]
    have := h.ent
    simp
    omega
  · omega

end
end Go.Proofs.Ytiaedonhbafpjaa

namespace Go.Proofs.Ytiaedonhbafpjaa
section
open Go.RowKit
set_option linter.unusedVariables false

def roomsOf (S : CaSt) (l : List Sl) : Nat := (l.map fun x => S.room x.cls).sum
def CaSt.tot (S : CaSt) : Nat := roomsOf S S.sl
structure CB (w : World) (c bp : Nat) (S : CaSt) (vc vs : Value) (F G : Nat → Prop) (M n : Nat) (b : BookSt) : Prop where
  cm : CaMem w F c bp S vc vs
  bk : BkIn w G bp M n b
  dis : ∀ k, F k → ¬ G k
  fl : ∀ k, F k → k < w.heap.size
theorem CB.below {w w' : World} {c bp : Nat} {S : CaSt} {vc vs : Value} {F G : Nat → Prop} {M n : Nat} {b : BookSt} (h : CB w c bp S vc vs F G M n b) (hb : Below w.heap.size w w') : CB w' c bp S vc vs F G M n b :=
  ⟨h.cm.below hb, h.bk.below hb, h.dis, fun k hk => Nat.lt_of_lt_of_le (h.fl k hk) hb.size⟩
/-- A new slab. -/
def newSl (S : CaSt) (cls no p g q : Nat) : Sl := ⟨p, g, q, no, cls, zeros (S.room cls), List.replicate S.slots ⟨1, 0, false⟩⟩
def CaSt.add (S : CaSt) (cls p g q : Nat) : CaSt := { S with last := S.last + 1, sl := S.sl ++ [newSl S cls (S.last + 1) p g q] }
theorem room_le {w : World} {F : Nat → Prop} {c bp : Nat} {S : CaSt} {vc vs : Value} (m : CaMem w F c bp S vc vs) {cls : Nat} (h : cls < S.classes.length) : 1 ≤ S.room cls ∧ S.room cls ≤ 262144 := by
  have h4 := (clsErr_all m.cok).2.2.1 cls h
  have h5 : 1 ≤ clsN S.classes cls ∧ clsN S.classes cls ≤ 4096 := by unfold clsN; omega
  have h6 : S.slots * clsN S.classes cls ≤ 64 * 4096 := Nat.mul_le_mul m.sz.2 h5.2
  have h7 : 1 * 1 ≤ S.slots * clsN S.classes cls := Nat.mul_le_mul m.sz.1 h5.1
  exact ⟨h7, h6⟩
theorem room_add (S : CaSt) (cls p g q k : Nat) : (S.add cls p g q).room k = S.room k := rfl

/-- room.Made of so many octets; with more than a container bears: nil. -/
def MdS (R : Nat) (w : World) : Ending → World → Prop := fun e w' => Below w.heap.size w w' ∧ ∃ a n9 er, e = .returned (.tuple #[.slice a n9 n9, .int .i64 er]) ∧ ((n9 = R ∧ ∃ g, a = some ⟨g, 0, none⟩ ∧ w.heap.size ≤ g ∧ byteRow w' g (zeros R)) ∨ (n9 = 0 ∧ n9 < R ∧ w' = w))
theorem madeS_any (R : Nat) (hR : 1 ≤ R ∧ R ≤ 1000000) (w : World) : Calls Try.prog 52 #[.int .i64 (R : Int), .int .i64 (R : Int)] w (MdS R w) := by
  refine (made_any R R w).mono ?_
  intro e w' h
  rcases h with ⟨_, rfl, rfl⟩ | ⟨_, rfl, rfl⟩
  · refine ⟨(Below.refl _ w).alloc (Nat.le_refl _) _, some ⟨w.heap.size, 0, none⟩, R, 0, by rw [Int.toNat_natCast], Or.inl ⟨rfl, _, rfl, Nat.le_refl _, ?_⟩⟩
    have := heap_alloc_new w (.cells ((zeros (R : Int).toNat).map (Value.int .u8)).toArray 5)
    rw [Int.toNat_natCast] at this ⊢
    exact this
  · exact ⟨Below.refl _ _, none, 0, 2, rfl, Or.inr ⟨rfl, by omega, rfl⟩⟩

/-- The cache in memory after a slab more. -/
theorem CaMem.add {w w' : World} {F : Nat → Prop} {c bp : Nat} {S : CaSt} {vc vs vs' : Value} (m : CaMem w F c bp S vc vs) {cls p g q : Nat} (hcls : cls < S.classes.length) (hself : w'.heap[c]? = some (.cells #[.pointer (some ⟨bp, 0, none⟩), .int .i64 1, vc, .int .i64 (S.slots : Int), .bool S.closed, .int .i64 ((S.last + 1 : Nat) : Int), vs'] 65 (0, 0)))
    (hrow : w'.ownsRow 0 76 1 vs' (S.sl.length + 1) ((S.sl.map fun x => .pointer (some ⟨x.p, 0, none⟩)) ++ [.pointer (some ⟨p, 0, none⟩)])) (hvo : ∀ k, vs'.ownBlock = some k → F k ∨ w.heap.size ≤ k)
    (h1 : w'.heap[p]? = some (.cells #[.int .i64 ((S.last + 1 : Nat) : Int), .int .i64 (cls : Int), .slice (some ⟨g, 0, none⟩) (S.room cls) (S.room cls), .slice (some ⟨q, 0, none⟩) S.slots S.slots] 82 (0, 0))) (h2 : byteRow w' g (zeros (S.room cls))) (h3 : celRow w' q (List.replicate S.slots ⟨1, 0, false⟩))
    (hp : w.heap.size ≤ p) (hg : w.heap.size ≤ g) (hq : w.heap.size ≤ q) (keep : ∀ k, k < w.heap.size → k ≠ c → vs.ownBlock ≠ some k → w'.heap[k]? = w.heap[k]?) (hsz : w.heap.size ≤ w'.heap.size) (hfew : S.sl.length < 500) (hlast : S.last < 1000000000) :
    CaMem w' (fun k => F k ∨ (w.heap.size ≤ k ∧ k < w'.heap.size)) c bp (S.add cls p g q) vc vs' := by
  have ne : ∀ (k : Nat) (cs : Array Value) (t : TypeId), w.heap[k]? = some (Obj.cells cs t (0, 0)) → t ≠ 65 → t ≠ 76 → w'.heap[k]? = some (Obj.cells cs t (0, 0)) := fun k cs t hk t1 t2 => by
    refine (keep k (lt_of hk) (fun e => ?_) (fun e => ?_)).trans hk
    · rw [e, m.self] at hk
      simp only [Option.some.injEq, Obj.cells.injEq] at hk
      exact t1 hk.2.1.symm
    · obtain ⟨cur, hc⟩ := row_block m.row.1 e
      rw [hc] at hk
      simp only [Option.some.injEq, Obj.cells.injEq] at hk
      exact t2 hk.2.1.symm
  have oldM : ∀ x ∈ S.sl, SlMem w' (fun k => F k ∨ (w.heap.size ≤ k ∧ k < w'.heap.size)) (S.add cls p g q) x := fun x hx => by
    have mx := m.sl x hx
    exact ⟨ne _ _ _ mx.self (by decide) (by decide), ne _ _ _ mx.oct (by decide) (by decide), mx.ol, mx.ob, ne _ _ _ mx.cel (by decide) (by decide), mx.cl, Or.inl mx.fp, Or.inl mx.fg, Or.inl mx.fq⟩
  have hz : (zeros (S.room cls)).length = S.room cls := by simp [zeros]
  have newM : SlMem w' (fun k => F k ∨ (w.heap.size ≤ k ∧ k < w'.heap.size)) (S.add cls p g q) (newSl S cls (S.last + 1) p g q) :=
    ⟨h1, h2, hz, fun z hz => by simp [newSl, zeros] at hz; omega, h3, by show (List.replicate S.slots _).length = _; simp; rfl, Or.inr ⟨hp, lt_of h1⟩, Or.inr ⟨hg, lt_of h2⟩, Or.inr ⟨hq, lt_of h3⟩⟩
  have mem : ∀ x ∈ (S.add cls p g q).sl, x ∈ S.sl ∨ x = newSl S cls (S.last + 1) p g q := fun x hx => by
    rcases List.mem_append.1 hx with hx | hx
    · exact Or.inl hx
    · exact Or.inr (by simpa using hx)
  have app : ∀ {β : Type} (f : Sl → β), (S.add cls p g q).sl.map f = S.sl.map f ++ [f (newSl S cls (S.last + 1) p g q)] := fun f => by
    show (S.sl ++ [_]).map f = _
    rw [List.map_append]
    rfl
  have fresh : ∀ (f : Sl → Nat) (v : Nat), (S.sl.map f).Nodup → (∀ x ∈ S.sl, f x < w.heap.size) → w.heap.size ≤ v → (S.sl.map f ++ [v]).Nodup := fun f v h1 h2 h3 => by
    rw [List.nodup_append]
    refine ⟨h1, by simp, fun a ha b hb => ?_⟩
    obtain ⟨x, hx, rfl⟩ := List.mem_map.1 ha
    have := h2 x hx
    simp at hb
    omega
  refine ⟨hself, Or.inl m.fc, ⟨ownsRow_same m.cls.1 (fun k hk => by
    obtain ⟨cur, hc⟩ := row_block m.cls.1 hk
    rw [ne k _ _ hc (by decide) (by decide), hc]), fun k hk => Or.inl (m.cls.2 k hk)⟩, ⟨?_, fun k hk => ?_⟩, fun x hx => ?_, ?_, ?_, ?_, ?_, fun x hx => ?_, m.cok, m.sz, ?_, fun x hx y hy => ?_⟩
  · rw [app]
    have e : (S.add cls p g q).sl.length = S.sl.length + 1 := by show (S.sl ++ [_]).length = _; simp
    rw [e]
    exact hrow
  · rcases hvo k hk with h | h
    · exact Or.inl h
    · exact Or.inr ⟨h, (hrow.lt k hk).2⟩
  · rcases mem x hx with h | rfl
    · exact oldM x h
    · exact newM
  · rw [app]; exact fresh Sl.p p m.ip (fun x hx => lt_of (m.sl x hx).self) hp
  · rw [app]; exact fresh Sl.g g m.ig (fun x hx => lt_of (m.sl x hx).oct) hg
  · rw [app]; exact fresh Sl.q q m.iq (fun x hx => lt_of (m.sl x hx).cel) hq
  · rw [app, List.pairwise_append]
    refine ⟨m.nos, by simp, fun a ha b hb => ?_⟩
    obtain ⟨x, hx, rfl⟩ := List.mem_map.1 ha
    have := (m.nb x hx).2.1
    simp at hb
    rw [hb]
    show x.no < S.last + 1
    omega
  · rcases mem x hx with h | rfl
    · have := m.nb x h
      exact ⟨this.1, Nat.le_succ_of_le this.2.1, this.2.2⟩
    · exact ⟨by show 1 ≤ S.last + 1; omega, Nat.le_refl _, hcls⟩
  · have e : (S.add cls p g q).sl.length = S.sl.length + 1 := by show (S.sl ++ [_]).length = _; simp
    exact ⟨by rw [e]; omega, by show S.last + 1 ≤ _; omega⟩
  · rcases mem x hx with h | rfl
    · exact m.lens x h y hy
    · have : y = ⟨1, 0, false⟩ := List.eq_of_mem_replicate hy
      subst this
      exact ⟨by decide, Nat.zero_le _⟩

end
end Go.Proofs.Ytiaedonhbafpjaa
