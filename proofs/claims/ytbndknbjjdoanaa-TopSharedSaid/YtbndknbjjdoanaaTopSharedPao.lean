/-
  A pool and its book: take. Conditions: numbers in their bounds.
  fresh: a block more: the memory law. Conditions: numbers in their bounds.
  RoomTurns: its plain law and its walk. No conditions.
-/
import Derived.Test.YtbndknbjjdoanaaTopSharedPan
import Derived.Test.YtbndknbjjdoanaaTopSharedPaf

namespace Go.Proofs.Ytbndknbjjdoanaa
section
open Go.RowKit
set_option linter.unusedVariables false

/-- A pool of account 1, and its book, which holds the room of n blocks. -/
structure PB (w : World) (h bp : Nat) (P : PoolSt) (mb ms N1 N2 : Nat) (D1 D2 : DataW Unit) (F G : Nat → Prop) (b : BookSt) (n : Nat) : Prop where
  pm : PoolMem w F h bp P mb ms N1 N2 D1 D2
  bk : BookAt w G bp b 1
  dis : ∀ k, F k → ¬ G k
  fl : ∀ k, F k → k < w.heap.size
  gl : ∀ k, G k → k < w.heap.size
  acc : b.acc 1 = some (10000000, ((P.size * n : Nat) : Int), 0)
  bud : b.budget = 10000000
  tot : b.total = ((P.size * n : Nat) : Int)
  ent : b.entries.length ≤ 10000
  room : P.size * n ≤ 10000000
theorem PB.same {w w' : World} {h bp : Nat} {P : PoolSt} {mb ms N1 N2 : Nat} {D1 D2 : DataW Unit} {F G : Nat → Prop} {b : BookSt} {n : Nat} (p : PB w h bp P mb ms N1 N2 D1 D2 F G b n) (hb : Below w.heap.size w w') : PB w' h bp P mb ms N1 N2 D1 D2 F G b n :=
  ⟨p.pm.below hb, p.bk.same (Below.same_on hb), p.dis, fun k hk => Nat.lt_of_lt_of_le (p.fl k hk) hb.size, fun k hk => Nat.lt_of_lt_of_le (p.gl k hk) hb.size, p.acc, p.bud, p.tot, p.ent, p.room⟩

theorem BookAt.narrow'' {w : World} {F : Nat → Prop} {p : Nat} {st : BookSt} {N : Nat} (h : BookAt w F p st N) : BookAt w (fun k => F k ∧ k < w.heap.size) p st N := by
  obtain ⟨mb, blk, lv, ev, D, hm⟩ := h
  refine ⟨mb, blk, lv, ev, D, ⟨hm.self, ⟨hm.fp, lt_of hm.self⟩, hm.map, ⟨hm.fmap, hm.map.lt⟩, hm.look, hm.anone, ?_, hm.inj, hm.lrow, ?_, hm.erow, ?_⟩⟩
  · intro o b hb
    obtain ⟨l, h, s, h1, h2, h3⟩ := hm.asome o b hb
    exact ⟨l, h, s, h1, h2, h3, lt_of h2⟩
  · intro k hk
    obtain ⟨cur, h1⟩ := row_block hm.lrow hk
    exact ⟨hm.flea k hk, lt_of h1⟩
  · intro k hk
    obtain ⟨cur, h1⟩ := row_block hm.erow hk
    exact ⟨hm.fent k hk, lt_of h1⟩
set_option maxHeartbeats 1000000 in
set_option maxRecDepth 100000 in
def BelW (w : World) (W : World) : Prop := Below w.heap.size w W
/-- What take answers. -/
def tkE (P : PoolSt) (n many : Nat) : Int := if 2000 < P.bl.length + many then 4 else if many = 0 then 0 else if 10000000 < P.size * n + many * P.size then 12 else 0
def TkPost (h bp : Nat) (P : PoolSt) (mb ms N1 N2 : Nat) (D1 D2 : DataW Unit) (F G : Nat → Prop) (n many : Nat) (w : World) : Ending → World → Prop := fun e w' =>
  e = .returned (.int .i64 (tkE P n many)) ∧ ∃ G' b', PB w' h bp P mb ms N1 N2 D1 D2 F G' b' (if tkE P n many = 0 then n + many else n) ∧ (∀ k, G' k → G k ∨ w.heap.size ≤ k) ∧ Touch G w w'

theorem takeSt_ok {b : BookSt} {x y : Nat} (hacc : b.acc 1 = some (10000000, (x : Int), 0)) (hbud : b.budget = 10000000) (htot : b.total = (x : Int)) (hent : b.entries.length ≤ 10000) (hx : x + y ≤ 10000000) :
    takeE b 10000000 x 0 y = 0 ∧ (takeSt b 1 10000000 x 0 y).acc 1 = some (10000000, ((x + y : Nat) : Int), 0) ∧ (takeSt b 1 10000000 x 0 y).budget = 10000000 ∧ (takeSt b 1 10000000 x 0 y).total = ((x + y : Nat) : Int) ∧ (takeSt b 1 10000000 x 0 y).entries.length ≤ 10000 := by
  have hE : takeE b 10000000 x 0 y = 0 := by
    unfold takeE
    rw [if_neg (by rw [hbud, htot]; omega)]
  refine ⟨hE, ?_⟩
  unfold takeSt
  rw [if_pos hE]
  refine ⟨?_, hbud, ?_, ?_⟩
  · show (heldSt b 1 10000000 x 0 y).acc 1 = _
    unfold heldSt
    simp
  · show (heldSt b 1 10000000 x 0 y).total = _
    unfold heldSt
    simp only
    omega
  · refine trimE_len _ ?_
    rw [List.length_append]
    simp
    omega
theorem takeSt_no {b : BookSt} {x y : Nat} (hbud : b.budget = 10000000) (htot : b.total = (x : Int)) (hx : 10000000 < x + y) : takeE b 10000000 x 0 y = 12 ∧ takeSt b 1 10000000 x 0 y = b := by
  have hE : takeE b 10000000 x 0 y = 12 := by
    unfold takeE
    rw [if_pos (by rw [hbud, htot]; omega)]
  refine ⟨hE, ?_⟩
  unfold takeSt
  rw [if_neg (by rw [hE]; decide)]

set_option maxHeartbeats 2000000 in
set_option maxRecDepth 100000 in
theorem takeP_any {w : World} {h bp : Nat} {P : PoolSt} {mb ms N1 N2 : Nat} {D1 D2 : DataW Unit} {F G : Nat → Prop} {b : BookSt} {n : Nat} (p : PB w h bp P mb ms N1 N2 D1 D2 F G b n) (many : Nat) (hm : many ≤ 2000) :
    Calls Try.prog 32 #[.pointer (some ⟨h, 0, none⟩), .int .i64 (many : Int)] w (TkPost h bp P mb ms N1 N2 D1 D2 F G n many w) := by
  obtain ⟨c0, c1, c2, c3, c4, c5, c6, c7⟩ := p.pm.cells
  have LN := p.pm.m1.len Try.underlying60 3
  rw [p.pm.z1] at LN
  have few := p.pm.few.2.1
  obtain ⟨s1, s2⟩ := p.pm.sz
  have HP := Lib.hid p
  clear p
  by_cases hbig : 2000 < P.bl.length + many
  · have hbig' : ((2000 : Int) < (P.bl.length : Int) + (many : Int)) := by omega
    have E := Lib.hid (show tkE P n many = 4 from if_pos hbig)
    clear hbig
    go_enter Try.func32, Try.ntmps32
    go_wp2_with fail
    go_ret
    exact ⟨by rw [E.out]; rfl, G, b, by rw [E.out]; exact HP.out, fun k hk => Or.inl hk, Touch.refl _ _⟩
  · have hbig' : ¬ ((2000 : Int) < (P.bl.length : Int) + (many : Int)) := by omega
    by_cases h0 : many = 0
    · subst h0
      have E := Lib.hid (show tkE P n 0 = 0 from by unfold tkE; rw [if_neg hbig, if_pos rfl])
      clear hbig
      go_enter Try.func32, Try.ntmps32
      go_wp2_with fail
      go_ret
      exact ⟨by rw [E.out]; rfl, G, b, by rw [E.out]; exact HP.out, fun k hk => Or.inl hk, Touch.refl _ _⟩
    · have h0' : ((many : Int) == 0) = false := by simp; omega
      have hmul : many * P.size ≤ 2000 * 4096 := Nat.mul_le_mul hm s2
      have hmi : (many : Int) * (P.size : Int) = ((many * P.size : Nat) : Int) := by rw [Int.natCast_mul]
      have E := Lib.hid (show tkE P n many = (if 10000000 < P.size * n + many * P.size then 12 else 0) from by unfold tkE; rw [if_neg hbig, if_neg h0])
      obtain ⟨z, hz⟩ : ∃ z, many * P.size = z := ⟨_, rfl⟩
      have HZ := Lib.hid hz
      rw [hz] at hmi hmul E
      obtain ⟨X, hX⟩ : ∃ X, P.size * n = X := ⟨_, rfl⟩
      have HX := Lib.hid hX
      have hroom := HP.out.room
      have hacc := HP.out.acc
      have htot := HP.out.tot
      rw [hX] at hroom hacc htot E
      have TK := Lib.hid (fun W (hW : Below w.heap.size w W) => take_any bp 1 (z : Int) 10000000 X 0 W G b 1 (HP.out.bk.same (Below.same_on hW)) hacc (by omega) (by omega) (by omega) (by omega) (by omega) (by rw [HP.out.bud]; omega) (by rw [htot]; omega) HP.out.ent)
      have HA := Lib.hid (And.intro hacc htot)
      clear hbig h0 hz hX hacc htot
      go_enter Try.func32, Try.ntmps32
      go_upto_region 5 with fail
      have S0 : BelW w w.drew := (Below.refl _ w).drew
      have r0 : ∀ y : WIn (BelW w), y.w.cell? ⟨h, 0, none⟩ = some (.pointer (some ⟨bp, 0, none⟩)) := fun y => old_cell y.h c0
      have r1 : ∀ y : WIn (BelW w), y.w.cell? ⟨h, 1, none⟩ = some (.int .i64 1) := fun y => old_cell y.h c1
      have r2 : ∀ y : WIn (BelW w), y.w.cell? ⟨h, 2, none⟩ = some (.int .i64 (P.size : Int)) := fun y => old_cell y.h c2
      haveI ne : Nonempty (WIn (BelW w)) := ⟨⟨w.drew, S0⟩⟩
      clear c0 c1 c2 c3 c4 c5 c6 c7
      refine wp_normal ?_
      refine wp_region_plan 14 (BelW w) rfl ?_
      refine wpN_seg [0, 1, 2, 3, 4, 5, 6, 7, 8, 9, 10, 11, 12, 13] (by kernel_rfl) (by kernel_rfl) (by kernel_rfl) (by kernel_rfl) (by decide) (fun _ _ _ _ _ h => h) S0 ?_
      simp only [pick, List.map_cons, List.map_nil, List.getElem?_cons_succ, List.getElem?_cons_zero, Option.getD_some]
      repeat (go_big_quiet_step (fail))
      refine wpQuiet_nil ?_
      clear r0 r1 r2 ne
      have TK2 := Lib.hid (TK.out w.drew S0)
      have DR := Lib.hid (show Below w.heap.size w w.drew from S0)
      clear S0 TK
      refine wpN_one 14 _ (by kernel_rfl) rfl ?_
      refine NextAt.free (by kernel_rfl) ?_
      intro K hK
      go_simp
      refine TK2.out.mono ?_
      rintro e w2 ⟨rfl, hbk2, ht2⟩
      have T2 : Touch G w w2 := (Touch.refl G w).drew.then ht2
      have G2 : ∀ k, (fun k => (G k ∨ w.drew.heap.size ≤ k) ∧ k < w2.heap.size) k → G k ∨ w.heap.size ≤ k := fun k hk => hk.1
      have hbk2 := hbk2.narrow''
      have FIN : Hid (TkPost h bp P mb ms N1 N2 D1 D2 F G n many w (.returned (.int .i64 (takeE b 10000000 X 0 z))) w2) := Lib.hid (by
        have p := HP.out
        have PM2 : PoolMem w2 F h bp P mb ms N1 N2 D1 D2 := p.pm.same (fun k hk hl => T2.block k hl (p.dis k hk))
        have DI : ∀ k, F k → ¬ ((G k ∨ w.drew.heap.size ≤ k) ∧ k < w2.heap.size) := fun k hk hg => by
          rcases hg.1 with hg | hg
          · exact p.dis k hk hg
          · have h1 := p.fl k hk
            have h2 : w.drew.heap.size = w.heap.size := rfl
            omega
        have FL : ∀ k, F k → k < w2.heap.size := fun k hk => Nat.lt_of_lt_of_le (p.fl k hk) T2.size
        by_cases hc : 10000000 < X + z
        · obtain ⟨e1, e2⟩ := takeSt_no (b := b) (x := X) (y := z) p.bud HA.out.2 hc
          have hE : tkE P n many = 12 := by rw [E.out, if_pos hc]
          rw [e2] at hbk2
          refine ⟨by rw [e1, hE], _, b, ?_, G2, T2⟩
          rw [if_neg (by rw [hE]; decide)]
          exact ⟨PM2, hbk2, DI, FL, fun k hk => hk.2, p.acc, p.bud, p.tot, p.ent, p.room⟩
        · obtain ⟨e1, a1, a2, a3, a4⟩ := takeSt_ok (b := b) (x := X) (y := z) HA.out.1 p.bud HA.out.2 p.ent (by omega)
          have hE : tkE P n many = 0 := by rw [E.out, if_neg hc]
          have hsum : P.size * (n + many) = X + z := by rw [Nat.mul_add, HX.out, ← HZ.out, Nat.mul_comm P.size many]
          refine ⟨by rw [e1, hE], _, takeSt b 1 10000000 X 0 z, ?_, G2, T2⟩
          rw [if_pos hE]
          exact ⟨PM2, hbk2, DI, FL, fun k hk => hk.2, by rw [hsum]; exact a1, a2, by rw [hsum]; exact a3, a4, by rw [hsum]; omega⟩)
      generalize takeE b 10000000 X 0 z = E9 at *
      clear hbk2 ht2 T2 G2 TK2
      go_simp
      refine hK _ _ ?_
      clear hK K
      refine wpN_pure [15] (by kernel_rfl) (by kernel_rfl) (by kernel_rfl) (fun _ _ _ _ _ h => h) (fun h => by cases h) ?_
      simp only [pick, List.map_cons, List.map_nil, List.getElem?_cons_succ, List.getElem?_cons_zero, Option.getD_some]
      repeat (go_big_quiet_step (fail))
      refine wpQuiet_nil ?_
      refine wpN_done (by kernel_rfl) ?_
      go_wp2_with fail
      go_ret
      exact FIN.out

end
end Go.Proofs.Ytbndknbjjdoanaa

namespace Go.Proofs.Ytbndknbjjdoanaa
section
open Go.RowKit
set_option linter.unusedVariables false

def PoolSt.grow (P : PoolSt) (x : Bk) : PoolSt := { P with lastB := P.lastB + 1, bl := P.bl ++ [(P.lastB + 1, x)] }
theorem grow_old {P : PoolSt} {x y : Bk} {k : Int} (hn : ∀ p ∈ P.bl, p.1 ≤ P.lastB) (h : lookN P.bl k = some y) : lookN (P.grow x).bl k = some y := by
  have keys : ∀ p ∈ P.bl, p.1 ≠ P.lastB + 1 := fun p hp => by have := hn p hp; omega
  show lookN (P.bl ++ [(P.lastB + 1, x)]) k = some y
  rw [lookN_snoc _ _ _ _ keys]
  by_cases hk : ((P.lastB + 1 : Nat) : Int) = k
  · rw [← hk, lookN_none keys] at h
    cases h
  · rw [if_neg hk]
    exact h
theorem grow_new {P : PoolSt} {x : Bk} (hn : ∀ p ∈ P.bl, p.1 ≤ P.lastB) : lookN (P.grow x).bl ((P.lastB + 1 : Nat) : Int) = some x := by
  have keys : ∀ p ∈ P.bl, p.1 ≠ P.lastB + 1 := fun p hp => by have := hn p hp; omega
  show lookN (P.bl ++ [(P.lastB + 1, x)]) _ = some x
  rw [lookN_snoc _ _ _ _ keys, if_pos rfl]

theorem PoolMem.more {w w3 : World} {F : Nat → Prop} {h bp : Nat} {P : PoolSt} {mb ms N1 N2 : Nat} {D1 D2 : DataW Unit} (m : PoolMem w F h bp P mb ms N1 N2 D1 D2) (x : Bk)
    (hs3 : w3.heap[h]? = some (.cells #[.pointer (some ⟨bp, 0, none⟩), .int .i64 1, .int .i64 (P.size : Int), .bool false, .int .i64 ((P.lastB + 1 : Nat) : Int), .int .i64 (P.lastS : Int), .map (some mb), .map (some ms)] 63 (0, 0)))
    (hm : w3.ownsMap Try.prog 3 ptrElem mb (N1 + 1) (D1.put (.int .i64 ((P.lastB + 1 : Nat) : Int)) (.lit (.int .i64 (x.a : Int)))))
    (keep : ∀ k, k < w.heap.size → k ≠ h → k ≠ mb → w3.heap[k]? = w.heap[k]?)
    (hxa : w3.heap[x.a]? = some (.cells #[.slice (some ⟨x.g, 0, none⟩) P.size P.size, .int .i64 (x.used : Int), .bool x.pin] 83 (0, 0))) (hxg : byteRow w3 x.g x.cs) (hxl : x.cs.length = P.size) (hxb : bytes x.cs) (hxu : x.used ≤ P.size)
    (na : w.heap.size ≤ x.a) (ng : w.heap.size ≤ x.g) (hfl : ∀ k, F k → k < w.heap.size) (hfew : P.bl.length < 2000) (hB : P.lastB < 1000000000) :
    PoolMem w3 (fun k => F k ∨ k = x.a ∨ k = x.g) h bp (P.grow x) mb ms (N1 + 1) N2 (D1.put (.int .i64 ((P.lastB + 1 : Nat) : Int)) (.lit (.int .i64 (x.a : Int)))) D2 := by
  have hms : ms ≠ h := fun e => by
    obtain ⟨es, clock, hb, _⟩ := m.m2
    have h1 := m.self
    rw [← e, hb] at h1
    simp at h1
  obtain ⟨r1, r2⟩ := m.rest (w' := w3) (fun k hk h1 h2 _ => keep k hk h1 h2)
  have keys : ∀ p ∈ P.bl, p.1 ≠ P.lastB + 1 := fun p hp => by have := (m.nb p hp).2; omega
  have tidy := m.m1.tidy (Maps.int_keyed Try.underlying3)
  have ismap := m.m1.isMap
  have hno : Maps.has D1 (.int .i64 ((P.lastB + 1 : Nat) : Int)) = false := Maps.has_false_of_atKey (fun z => by rw [m.l1, lookN_none keys]; rfl)
  have memb : ∀ p ∈ (P.grow x).bl, p ∈ P.bl ∨ p = (P.lastB + 1, x) := fun p hp => by
    rcases List.mem_append.1 hp with hp | hp
    · exact Or.inl hp
    · exact Or.inr (by simpa using hp)
  refine ⟨hs3, Or.inl m.fh, hm, Or.inl m.f1, ownsMap_same m.m2 (keep ms m.m2.lt hms (fun e => m.mne e.symm)), Or.inl m.f2, fun k z => ?_, ?_, m.l2, m.z2, fun p hp => ?_, ?_, ?_, ?_, fun p hp => ?_, m.ks, m.ns, fun p hp => ?_, fun p hp y hy => ?_, m.sz, m.mne, ?_⟩
  · show _ = ptrZ ((lookN (P.bl ++ [(P.lastB + 1, x)]) k).map Bk.a) z
    rw [lookN_snoc _ _ _ _ keys]
    by_cases hk : ((P.lastB + 1 : Nat) : Int) = k
    · subst hk
      rw [if_pos rfl, Maps.atKey_put_same ismap (by simp [WideAt.IsKeyLit])]
      rfl
    · rw [if_neg hk, Maps.atKey_put_other (by simp; omega), m.l1]
  · rw [Maps.size_put tidy, hno, m.z1]
    show _ = (P.bl ++ [(P.lastB + 1, x)]).length
    simp
  · rcases memb p hp with hp | rfl
    · obtain ⟨a1, a2, a3, a4, a5, a6, a7⟩ := r1 p hp
      exact ⟨a1, a2, a3, a4, Or.inl a5, Or.inl a6, a7⟩
    · exact ⟨hxa, hxg, hxl, hxb, Or.inr (Or.inl rfl), Or.inr (Or.inr rfl), hxu⟩
  · show ((P.bl ++ [(P.lastB + 1, x)]).map fun p => p.2.a).Nodup
    rw [List.map_append, List.nodup_append]
    refine ⟨m.ia, by simp, fun a ha b hb => ?_⟩
    obtain ⟨p, hp, rfl⟩ := List.mem_map.1 ha
    have h1 := hfl _ (m.bk p hp).2.2.2.2.1
    simp at hb
    rw [hb]
    show p.2.a ≠ x.a
    omega
  · show ((P.bl ++ [(P.lastB + 1, x)]).map fun p => p.2.g).Nodup
    rw [List.map_append, List.nodup_append]
    refine ⟨m.ig, by simp, fun a ha b hb => ?_⟩
    obtain ⟨p, hp, rfl⟩ := List.mem_map.1 ha
    have h1 := hfl _ (m.bk p hp).2.2.2.2.2.1
    simp at hb
    rw [hb]
    show p.2.g ≠ x.g
    omega
  · show ((P.bl ++ [(P.lastB + 1, x)]).map Prod.fst).Nodup
    rw [List.map_append, List.nodup_append]
    refine ⟨m.kb, by simp, fun a ha b hb => ?_⟩
    obtain ⟨p, hp, rfl⟩ := List.mem_map.1 ha
    simp at hb
    rw [hb]
    exact keys p hp
  · rcases memb p hp with hp | rfl
    · have := m.nb p hp
      exact ⟨this.1, Nat.le_succ_of_le this.2⟩
    · exact ⟨by simp, Nat.le_refl _⟩
  · obtain ⟨a1, a2⟩ := r2 p hp
    exact ⟨a1, fun k hk => Or.inl (a2 k hk)⟩
  · obtain ⟨b, hb, h1⟩ := m.pt p hp y hy
    exact ⟨b, grow_old (fun p hp => (m.nb p hp).2) hb, h1⟩
  · obtain ⟨a1, a2, a3, a4, a5⟩ := m.few
    refine ⟨a1, ?_, a3, ?_, a5⟩
    · show (P.bl ++ [(P.lastB + 1, x)]).length ≤ 2000
      simp; omega
    · show P.lastB + 1 ≤ 1000000000
      omega

end
end Go.Proofs.Ytbndknbjjdoanaa

namespace Go.Proofs.Ytbndknbjjdoanaa
section
open Go.RowKit

theorem cfor_bd (n : Int) (h1 : 0 ≤ n) (h2 : n ≤ 100000) : n ≤ cfor n ∧ cfor n ≤ 100000 := by
  unfold cfor
  cases h : classes.find? (fun c => decide (n ≤ c)) with
  | none =>
    have := List.find?_eq_none.1 h 100000 (by unfold classes; simp)
    simp at this; omega
  | some c =>
    have h3 := List.find?_some h
    have h4 := List.mem_of_find?_eq_some h
    obtain ⟨i, hi, rfl⟩ := List.getElem_of_mem h4
    have h5 := classes_le i (by rw [classes_len] at hi; exact hi)
    rw [List.getD_eq_getElem?_getD, List.getElem?_eq_getElem hi] at h5
    simp at h3 h5 ⊢
    omega

theorem wish_ge (k s m room need : Int) (h : polErr k s m = 0) (_h1 : 0 ≤ room ∧ room ≤ 100000) (h2 : 0 ≤ need ∧ need ≤ 100000) : need ≤ wishI k s room need := by
  obtain ⟨p1, p2, p3⟩ := polOk_of h
  have hkk : k = 1 ∨ k = 2 ∨ k = 3 ∨ k = 4 ∨ k = 5 := by omega
  rcases hkk with rfl | rfl | rfl | rfl | rfl
  · simp [wishI]
  · have := mul_bd need s h2.1 h2.2 (p2 rfl).1 (p2 rfl).2
    simp [wishI]; omega
  · simp [wishI]; omega
  · simp [wishI]; omega
  · have := cfor_bd need h2.1 h2.2
    simp [wishI]; omega

theorem gV_facts (k s m room need : Int) (h : polErr k s m = 0) (h1 : 0 ≤ room ∧ room ≤ 100000) (h2 : 0 ≤ need ∧ need ≤ 100000) (he : gE m room need = 0) :
    need ≤ gV k s m room need ∧ room ≤ gV k s m room need ∧ gV k s m room need ≤ 100000 := by
  have hw := wish_ge k s m room need h h1 h2
  obtain ⟨p1, p2, p3⟩ := polOk_of h
  unfold gE at he
  unfold gV
  by_cases h3 : need ≤ room
  · rw [if_pos h3]; omega
  · rw [if_neg h3] at he ⊢
    by_cases h4 : m < need
    · rw [if_pos h4] at he; omega
    · rw [if_neg h4]; omega

theorem grow_facts (k s m room need : Int) : (growE k s m room need = 0 → need ≤ growV k s m room need ∧ room ≤ growV k s m room need) ∧ (growE k s m room need ≠ 0 → growV k s m room need = 0) := by
  unfold growE growV
  by_cases h : polErr k s m = 0
  · rw [if_pos h]
    by_cases hr : (0 ≤ room ∧ room ≤ 100000) ∧ (0 ≤ need ∧ need ≤ 100000)
    · rw [if_pos hr, if_pos ⟨h, hr⟩]
      refine ⟨fun he => ?_, fun he => ?_⟩
      · have := gV_facts k s m room need h hr.1 hr.2 he; exact ⟨this.1, this.2.1⟩
      · rcases gE_cases k s m room need with x | x
        · exact absurd x he
        · exact x.2
    · rw [if_neg hr, if_neg (fun x => hr x.2)]
      exact ⟨fun h => absurd h (by decide), fun _ => rfl⟩
  · rw [if_neg h, if_neg (fun x => h x.1)]
    exact ⟨fun x => absurd x h, fun _ => rfl⟩

theorem shrV_bd (k s m room used : Int) (h : polErr k s m = 0) (h1 : shrinkIn room used) : used ≤ shrV k room used (gV k s m 0 used) (gE m 0 used) ∧ shrV k room used (gV k s m 0 used) (gE m 0 used) ≤ room := by
  obtain ⟨a1, a2⟩ := h1
  unfold shrV
  split
  · next h3 =>
    have := gV_facts k s m 0 used h (by omega) (by omega) h3.1
    omega
  · omega

theorem shrink_facts (k s m room used : Int) : shrinkE k s m room used = 0 → used ≤ shrinkV k s m room used ∧ shrinkV k s m room used ≤ room := by
  unfold shrinkE shrinkV
  by_cases h : polErr k s m = 0
  · rw [if_pos h]
    by_cases hr : shrinkIn room used
    · rw [if_pos hr, if_pos ⟨h, hr⟩]
      exact fun _ => shrV_bd k s m room used h hr
    · rw [if_neg hr]; intro h; omega
  · rw [if_neg h]; intro x; exact absurd x h

theorem turns_facts (k s m need : Int) : growE k s m 0 need = 0 → shrinkE k s m (growV k s m 0 need) need = 0 ∧ shrinkV k s m (growV k s m 0 need) need = growV k s m 0 need := by
  intro he
  unfold growE at he
  by_cases h : polErr k s m = 0
  · rw [if_pos h] at he
    by_cases hr : (0 ≤ (0 : Int) ∧ (0 : Int) ≤ 100000) ∧ (0 ≤ need ∧ need ≤ 100000)
    · rw [if_pos hr] at he
      have hv : growV k s m 0 need = gV k s m 0 need := by unfold growV; rw [if_pos ⟨h, hr⟩]
      rw [hv]
      have hb := gV_facts k s m 0 need h hr.1 hr.2 he
      have hin : shrinkIn (gV k s m 0 need) need := ⟨by omega, by omega⟩
      unfold shrinkE shrinkV
      rw [if_pos h, if_pos hin, if_pos ⟨h, hin⟩, he]
      refine ⟨rfl, ?_⟩
      exact shrV_more (Int.le_refl _)
    · rw [if_neg hr] at he; omega
  · rw [if_neg h] at he; exact absurd he h

end
end Go.Proofs.Ytbndknbjjdoanaa
