/-
  Each call of MoveRuns on both heaps: they answer alike, and both are turned alike. No conditions.
  The beginning of a row over a heap and its book: awakeRoom, book, held, a new heap. No conditions.
-/
import Derived.Test.YtjogaohnphafgaaGreatMoveRunsPbt
import Derived.Test.YtjogaohnphafgaaGreatMoveRunsPbu
import Derived.Test.YtjogaohnphafgaaGreatMoveRunsPbv
import Derived.Test.YtjogaohnphafgaaGreatMoveRunsPbj
import Derived.Test.YtjogaohnphafgaaGreatMoveRunsPbl
import Derived.Test.YtjogaohnphafgaaGreatMoveRunsPbm
import Derived.Test.YtjogaohnphafgaaGreatMoveRunsPae
import Derived.Test.YtjogaohnphafgaaGreatMoveRunsPaf

namespace Go.Proofs.YtjogaohnphafgaaGreat
section
open Go.RowKit
set_option linter.unusedVariables false

theorem shiftsG_few : ∀ (L : List Blk) (a : Nat), (shiftsG a L).length ≤ L.length
  | [], _ => Nat.le_refl _
  | x :: l, a => by
    show ((if x.at' = a then [] else _) ++ shiftsG (a + x.len) l).length ≤ _
    have := shiftsG_few l (a + x.len)
    rw [List.length_append, List.length_cons]
    split
    · simp; omega
    · simp; omega
/-- The plain part. -/
structure MrP (S : HpSt) (kept : List (List Blk)) (n : Nat) : Prop where
  pol : polErr S.k S.s S.m = 0
  apB : S.bl.Pairwise apartB
  zer : Zer S
  few : S.last ≤ n ∧ S.count ≤ n ∧ kept.length ≤ n
  his : HisOk S
  hk : S.closed = false → S.hist = keep8 kept ∧ S.count = kept.length
  gone : S.closed = false → ∀ l ∈ kept, ∀ x ∈ l, 1 ≤ x.h ∧ x.h ≤ S.last
/-- What holds between two calls. -/
def MrE (w0 : World) (hp bp rp pp cp n M : Nat) (X : Nat → Prop) (w : World) : Prop := ∃ (S : HpSt) (vm vb vh : Value) (vhs : List Value) (F G : Nat → Prop) (b : BookSt) (kept : List (List Blk)) (um ub uk : Value) (uks : List Value) (E : Nat → Prop) (R : Rel) (prs : List (Value × Value)),
  MrI w0 hp bp rp pp cp n M X S vm vb vh vhs F G b kept um ub uk uks E R prs w ∧ MrP S kept n
section
variable {w0 w w1 w2 : World} {hp bp rp pp cp n M : Nat} {S S' : HpSt} {vm vb vh vm2 vb2 vh2 um ub uk um2 ub2 uk2 : Value} {vhs vhs2 uks uks2 : List Value} {F G E F2 G2 E2 X : Nat → Prop} {b b2 : BookSt} {kept kept2 : List (List Blk)} {R : Rel} {prs : List (Value × Value)}
theorem MrP.more {n' : Nat} (h : MrP S kept n) (hn : n ≤ n') : MrP S kept n' := ⟨h.pol, h.apB, h.zer, ⟨Nat.le_trans h.few.1 hn, Nat.le_trans h.few.2.1 hn, Nat.le_trans h.few.2.2 hn⟩, h.his, h.hk, h.gone⟩
theorem MrP.mem (h : MrP S kept n) (m : List Int) : MrP { S with mem := m } kept n := ⟨h.pol, h.apB, h.zer, h.few, h.his, h.hk, h.gone⟩
theorem MrI.half (h : MrI w0 hp bp rp pp cp n M X S vm vb vh vhs F G b kept um ub uk uks E R prs w) (t : Touch (fun k => F k ∨ G k) w w1) : RfMem w1 E rp pp M S kept um ub uk uks ∧ Stay X w w1 :=
  ⟨h.rf.touch t (fun k hk => h.fe k hk), fun k hk => by
    obtain ⟨x1, x2, x3, x4, x5, x6⟩ := h.xx k hk
    exact t.block k x6 (fun e => e.elim x1 x2)⟩
theorem Stay.refl (X : Nat → Prop) (w : World) : Stay X w w := fun _ _ => rfl
/-- Only the book was asked. -/
theorem MrI.book (h : MrI w0 hp bp rp pp cp n M X S vm vb vh vhs F G b kept um ub uk uks E R prs w) (hb : HB w1 hp bp S vm vb vh vhs F G2 M b2) (hg : ∀ k, G2 k → G k ∨ w.heap.size ≤ k) (t : Touch G w w1) (hb2 : Below w1.heap.size w1 w2) :
    (∃ R2, MrI w0 hp bp rp pp cp n M X S vm vb vh vhs F G2 b2 kept um ub uk uks (fun k => E k ∧ k < w2.heap.size) R2 prs w2) ∧ Stay X w w2 :=
  h.turn hb (MemTo.self _ _ _) (fun k hk => Or.inl (Lost.self hk)) hg (t.mono (fun k hk => Or.inr hk)) ((h.rf.touch t (fun k hk => h.fe k (Or.inr hk))).below hb2) (MemTo.self _ _ _) (fun k hk => Or.inl (Lost.self hk)) (Touch.of_below hb2)

theorem lost_or {k : Nat} (h : Lost F vm vm2 k ∨ G k) : F k ∨ G k := h.imp (fun e => e.1) id
theorem MrI.st (h : MrI w0 hp bp rp pp cp n M X S vm vb vh vhs F G b kept um ub uk uks E R prs w) : ∀ x ∈ S.bl, 1 ≤ x.h ∧ x.h ≤ S.last ∧ x.at' + x.len ≤ S.mem.length := h.hb.hm.hb

theorem op_alloc (hI : MrI w0 hp bp rp pp cp n M X S vm vb vh vhs F G b kept um ub uk uks E R prs w) (hP : MrP S kept n) {N way : Int} {e1 : Ending} (p1 : AlPost w hp bp S vm vb vh vhs F G M N way e1 w1) :
    ∃ v er : Int, e1 = .returned (.tuple #[.int .i64 v, .int .i64 er]) ∧ (RfMem w1 E rp pp M S kept um ub uk uks ∧ Stay X w w1) ∧ ∀ e2 w2, RaPost w1 E rp pp M S kept um uk uks N way e2 w2 → e2 = .returned (.tuple #[.int .i64 v, .int .i64 er]) ∧ MrE w0 hp bp rp pp cp (n + 1) M X w2 ∧ Stay X w w2 := by
  have hin := hI.st
  rcases p1 with ⟨er, he, hor, rfl, G', b', hHB, hG, ht⟩ | ⟨ha, rfl, at', mem2, vm2, vb2, F', G', b', hmm, hle, hHB, hMT, hF, hG, ht⟩
  · refine ⟨0, er, rfl, hI.half (ht.mono (fun k hk => Or.inr hk)), ?_⟩
    rintro e2 w2 (⟨er2, he2, hor2, rfl, hb2⟩ | ⟨ha2, rfl, at2, m2, um2, ub2, E', hmm2, _⟩)
    · have eq : er = er2 := by
        rcases hor with h1 | ⟨h1, h2, h3⟩ <;> rcases hor2 with g1 | ⟨g1, g2, g3⟩
        · omega
        · omega
        · omega
        · exact plno_one hP.apB h3 g3
      subst eq
      obtain ⟨⟨R2, hI2⟩, hs⟩ := hI.book hHB hG ht hb2
      exact ⟨rfl, ⟨_, _, _, _, _, _, _, _, _, _, _, _, _, _, _, _, hI2.more (Nat.le_succ n), hP.more (Nat.le_succ n)⟩, hs⟩
    · exfalso
      rcases hor with h1 | ⟨h1, h2, h3⟩
      · omega
      · rcases hmm2 with ⟨g1, _⟩ | ⟨g1, m3, g2, _⟩
        · omega
        · exact plno_ok hP.apB h3 g2
  · refine ⟨_, 0, rfl, hI.half (ht.mono (fun k hk => lost_or hk)), ?_⟩
    rintro e2 w2 (⟨er2, he2, hor2, rfl, hb2⟩ | ⟨ha2, rfl, at2, m2, um2, ub2, E', hmm2, hle2, hRF, hMT2, hE, ht2⟩)
    · exfalso
      rcases hor2 with g1 | ⟨g1, g2, g3⟩
      · omega
      · rcases hmm with ⟨h1, _⟩ | ⟨h1, m3, h2, _⟩
        · omega
        · exact plno_ok hP.apB g3 h2
    · have eq : at' = at2 ∧ mem2 = m2 := by
        rcases hmm with ⟨h1, h2, h3⟩ | ⟨h1, m3, h2, _, h4⟩ <;> rcases hmm2 with ⟨g1, g2, g3⟩ | ⟨g1, m4, g2, _, g4⟩
        · exact ⟨by rw [h2, g2], by rw [h3, g3]⟩
        · omega
        · omega
        · obtain ⟨q1, q2⟩ := plok_one hP.apB h2 g2
          exact ⟨q1, by rw [h4, g4, q1, q2]⟩
      obtain ⟨rfl, rfl⟩ := eq
      obtain ⟨⟨R2, hI2⟩, hs⟩ := hI.turn hHB hMT hF hG ht hRF hMT2 hE ht2
      have ap := (alloc_plain (hh := S.last + 1) hP.apB (fun x hx => (hin x hx).2.2) (by
        rcases hmm with ⟨h1, h2, h3⟩ | ⟨h1, m3, h2, h3, h4⟩
        · exact Or.inl ⟨by omega, h2, h3⟩
        · exact Or.inr ⟨by omega, m3, h2, h3, h4⟩) hle).1
      refine ⟨rfl, ⟨_, _, _, _, _, _, _, _, _, _, _, _, _, _, _, _, hI2.more (Nat.le_succ n), ⟨hP.pol, ap, ?_, ⟨Nat.succ_le_succ hP.few.1, Nat.le_succ_of_le hP.few.2.1, Nat.le_succ_of_le hP.few.2.2⟩, hP.his, hP.hk, fun hc l hl x hx => ?_⟩⟩, hs⟩
      · intro x hx h0
        rcases List.mem_append.1 (show x ∈ S.bl ++ [(⟨S.last + 1, at', N.toNat⟩ : Blk)] from hx) with h1 | h1
        · exact hP.zer x h1 h0
        · rw [List.mem_singleton] at h1
          subst h1
          have h0' : N.toNat = 0 := h0
          rcases hmm with ⟨h1, h2, h3⟩ | ⟨h1, m3, h2, _⟩
          · exact h2
          · omega
      · have := hP.gone hc l hl x hx
        exact ⟨this.1, Nat.le_succ_of_le this.2⟩

theorem op_free (hI : MrI w0 hp bp rp pp cp n M X S vm vb vh vhs F G b kept um ub uk uks E R prs w) (hP : MrP S kept n) {q : Int} {e1 : Ending} (p1 : FrPost w hp bp S vm vb vh vhs F G M b q e1 w1) :
    ∃ er : Int, e1 = .returned (.int .i64 er) ∧ (RfMem w1 E rp pp M S kept um ub uk uks ∧ Stay X w w1) ∧ ∀ e2 w2, RfPost w1 E rp pp M S kept um ub uk uks q e2 w2 → e2 = .returned (.int .i64 er) ∧ MrE w0 hp bp rp pp cp (n + 1) M X w2 ∧ Stay X w w2 := by
  obtain ⟨rfl, ⟨h0, hb⟩ | ⟨h0, vb2, hHB, ht⟩⟩ := p1
  · refine ⟨_, rfl, hI.half (Touch.of_below hb), ?_⟩
    rintro e2 w2 ⟨rfl, ⟨g0, hb2⟩ | ⟨g0, _⟩⟩
    · obtain ⟨⟨R2, hI2⟩, hs⟩ := hI.book (hI.hb.below hb) (fun k hk => Or.inl hk) (Touch.of_below hb) hb2
      exact ⟨rfl, ⟨_, _, _, _, _, _, _, _, _, _, _, _, _, _, _, _, hI2.more (Nat.le_succ n), hP.more (Nat.le_succ n)⟩, hs⟩
    · exact absurd g0 h0
  · refine ⟨_, rfl, hI.half (ht.mono (fun k hk => Or.inl hk)), ?_⟩
    rintro e2 w2 ⟨rfl, ⟨g0, hb2⟩ | ⟨g0, ub2, E', hRF, hE, ht2⟩⟩
    · exact absurd h0 g0
    · obtain ⟨⟨R2, hI2⟩, hs⟩ := hI.turn hHB (Or.inl ⟨rfl, rfl⟩) (fun k hk => Or.inl (Lost.self hk)) (fun k hk => Or.inl hk) (ht.mono (fun k hk => Or.inl (Lost.self hk))) hRF (Or.inl ⟨rfl, rfl⟩) (fun k hk => (hE k hk).imp Lost.self id) (ht2.mono (fun k hk => Lost.self hk))
      have sub : List.Sublist (S.free q).bl S.bl := List.filter_sublist
      exact ⟨rfl, ⟨_, _, _, _, _, _, _, _, _, _, _, _, _, _, _, _, hI2.more (Nat.le_succ n), ⟨hP.pol, hP.apB.sublist sub, fun x hx => hP.zer x (sub.subset hx), ⟨Nat.le_succ_of_le hP.few.1, Nat.le_succ_of_le hP.few.2.1, Nat.le_succ_of_le hP.few.2.2⟩, hP.his, hP.hk, hP.gone⟩⟩, hs⟩

theorem op_resize (hI : MrI w0 hp bp rp pp cp n M X S vm vb vh vhs F G b kept um ub uk uks E R prs w) (hP : MrP S kept n) {q N : Int} {e1 : Ending} (p1 : RzPost w hp bp S vm vb vh vhs F G M q N e1 w1) :
    ∃ (v : Bool) (er : Int), e1 = .returned (.tuple #[.bool v, .int .i64 er]) ∧ (RfMem w1 E rp pp M S kept um ub uk uks ∧ Stay X w w1 ∧ w.heap.size ≤ w1.heap.size) ∧ ∀ e2 w2, RrzPost w1 E rp pp M S kept um ub uk uks q N e2 w2 → e2 = .returned (.tuple #[.bool v, .int .i64 er]) ∧ MrE w0 hp bp rp pp cp (n + 1) M X w2 ∧ Stay X w w2 := by
  have hin := hI.st
  rcases p1 with ⟨h0, rfl, hb⟩ | ⟨h0, i, x, hf, ⟨er, he, hlt, hst, hno, rfl, G', b', hHB, hG, ht⟩ | ⟨y, rfl, mem2, vm2, F', G', b', hok, hHB, hMT, hF, hG, ht⟩⟩
  · refine ⟨_, _, rfl, ⟨(hI.half (Touch.of_below hb)).1, (hI.half (Touch.of_below hb)).2, hb.size⟩, ?_⟩
    rintro e2 w2 (⟨g0, rfl, hb2⟩ | ⟨g0, _⟩)
    · obtain ⟨⟨R2, hI2⟩, hs⟩ := hI.book (hI.hb.below hb) (fun k hk => Or.inl hk) (Touch.of_below hb) hb2
      exact ⟨rfl, ⟨_, _, _, _, _, _, _, _, _, _, _, _, _, _, _, _, hI2.more (Nat.le_succ n), hP.more (Nat.le_succ n)⟩, hs⟩
    · exact absurd g0 h0
  · refine ⟨_, _, rfl, ⟨(hI.half (ht.mono (fun k hk => Or.inr hk))).1, (hI.half (ht.mono (fun k hk => Or.inr hk))).2, ht.size⟩, ?_⟩
    rintro e2 w2 (⟨g0, rfl, hb2⟩ | ⟨g0, i2, x2, hf2, ⟨er2, he2, _, _, hno2, rfl, hb2⟩ | ⟨y, rfl, m2, um2, E', hok2, _⟩⟩)
    · exact absurd h0 g0
    · rw [plno_one hP.apB hno hno2]
      obtain ⟨⟨R2, hI2⟩, hs⟩ := hI.book hHB hG ht hb2
      exact ⟨rfl, ⟨_, _, _, _, _, _, _, _, _, _, _, _, _, _, _, _, hI2.more (Nat.le_succ n), hP.more (Nat.le_succ n)⟩, hs⟩
    · rw [hf] at hf2
      simp only [Option.some.injEq, Prod.mk.injEq] at hf2
      obtain ⟨rfl, rfl⟩ := hf2
      exact absurd (rz_no hP.apB (by omega) hst hno hok2) id
  · refine ⟨_, _, rfl, ⟨(hI.half (ht.mono (fun k hk => lost_or hk))).1, (hI.half (ht.mono (fun k hk => lost_or hk))).2, ht.size⟩, ?_⟩
    rintro e2 w2 (⟨g0, rfl, hb2⟩ | ⟨g0, i2, x2, hf2, ⟨er2, he2, hlt2, hst2, hno2, rfl, hb2⟩ | ⟨y2, rfl, m2, um2, E', hok2, hRF, hMT2, hE, ht2⟩⟩)
    · exact absurd h0 g0
    · rw [hf] at hf2
      simp only [Option.some.injEq, Prod.mk.injEq] at hf2
      obtain ⟨rfl, rfl⟩ := hf2
      exact absurd (rz_no hP.apB (by omega) hst2 hno2 hok) id
    · rw [hf] at hf2
      simp only [Option.some.injEq, Prod.mk.injEq] at hf2
      obtain ⟨rfl, rfl⟩ := hf2
      obtain ⟨rfl, rfl⟩ := rz_one hP.apB hok hok2
      obtain ⟨⟨R2, hI2⟩, hs⟩ := hI.turn hHB hMT hF hG ht hRF hMT2 hE ht2
      have ap := (resize_plain hP.apB (fun x hx => (hin x hx).2.2) (findB_at hf).1 hok).1
      exact ⟨rfl, ⟨_, _, _, _, _, _, _, _, _, _, _, _, _, _, _, _, hI2.more (Nat.le_succ n), ⟨hP.pol, ap, zer_rz hP.zer hok, ⟨Nat.le_succ_of_le hP.few.1, Nat.le_succ_of_le hP.few.2.1, Nat.le_succ_of_le hP.few.2.2⟩, hP.his, hP.hk, hP.gone⟩⟩, hs⟩
theorem HB.same_len (h : HB w hp bp S vm vb vh vhs F G M b) (h' : HB w1 hp bp S' vm2 vb2 vh2 vhs2 F2 G2 M b) : S'.mem.length = S.mem.length := by
  have h1 := h.bk.tot
  have h2 := h'.bk.tot
  omega

theorem op_set (hI : MrI w0 hp bp rp pp cp n M X S vm vb vh vhs F G b kept um ub uk uks E R prs w) (hP : MrP S kept n) {q p : Int} {zs : List Int} {e1 : Ending} (p1 : SmPost w hp bp S vm vb vh vhs F G M b q p zs e1 w1) :
    ∃ er : Int, e1 = .returned (.int .i64 er) ∧ (RfMem w1 E rp pp M S kept um ub uk uks ∧ Stay X w w1 ∧ Touch F w w1) ∧ ∀ e2 w2, RsPost w1 E rp pp M S kept um ub uk uks q p zs e2 w2 → e2 = .returned (.int .i64 er) ∧ MrE w0 hp bp rp pp cp (n + 1) M X w2 ∧ Stay X w w2 := by
  obtain ⟨rfl, ⟨h0, hb⟩ | ⟨h0, hHB, ht⟩⟩ := p1
  · refine ⟨_, rfl, ⟨(hI.half (Touch.of_below hb)).1, (hI.half (Touch.of_below hb)).2, Touch.of_below hb⟩, ?_⟩
    rintro e2 w2 ⟨rfl, ⟨g0, hb2⟩ | ⟨g0, _⟩⟩
    · obtain ⟨⟨R2, hI2⟩, hs⟩ := hI.book (hI.hb.below hb) (fun k hk => Or.inl hk) (Touch.of_below hb) hb2
      exact ⟨rfl, ⟨_, _, _, _, _, _, _, _, _, _, _, _, _, _, _, _, hI2.more (Nat.le_succ n), hP.more (Nat.le_succ n)⟩, hs⟩
    · exact absurd g0 h0
  · refine ⟨_, rfl, ⟨(hI.half (ht.mono (fun k hk => Or.inl hk))).1, (hI.half (ht.mono (fun k hk => Or.inl hk))).2, ht⟩, ?_⟩
    rintro e2 w2 ⟨rfl, ⟨g0, hb2⟩ | ⟨g0, hRF, ht2⟩⟩
    · exact absurd h0 g0
    · have hl := hI.hb.same_len hHB
      obtain ⟨⟨R2, hI2⟩, hs⟩ := hI.turn hHB (Or.inl ⟨rfl, hl⟩) (fun k hk => Or.inl (Lost.self hk)) (fun k hk => Or.inl hk) (ht.mono (fun k hk => Or.inl (Lost.self hk))) hRF (Or.inl ⟨rfl, hl⟩) (fun k hk => Or.inl (Lost.self hk)) (ht2.mono (fun k hk => Lost.self hk))
      exact ⟨rfl, ⟨_, _, _, _, _, _, _, _, _, _, _, _, _, _, _, _, hI2.more (Nat.le_succ n), (hP.mem _).more (Nat.le_succ n)⟩, hs⟩
/-- Swap: the calls may come in either order. -/
theorem op_swap (hI : MrI w0 hp bp rp pp cp n M X S vm vb vh vhs F G b kept um ub uk uks E R prs w) (hP : MrP S kept n) {q p : Int} {e1 : Ending} (p1 : SwPostM w hp bp S vm vb vh vhs F G M b q p e1 w1) :
    ∃ er : Int, e1 = .returned (.int .i64 er) ∧ (RfMem w1 E rp pp M S kept um ub uk uks ∧ Stay X w w1) ∧ ∀ e2 w2, SwPostR w1 E rp pp M S kept um ub uk uks q p e2 w2 → e2 = .returned (.int .i64 er) ∧ MrE w0 hp bp rp pp cp (n + 1) M X w2 ∧ Stay X w w2 := by
  obtain ⟨rfl, ⟨h0, hb⟩ | ⟨h0, hHB, ht⟩⟩ := p1
  · refine ⟨_, rfl, hI.half (Touch.of_below hb), ?_⟩
    rintro e2 w2 ⟨rfl, ⟨g0, hb2⟩ | ⟨g0, _⟩⟩
    · obtain ⟨⟨R2, hI2⟩, hs⟩ := hI.book (hI.hb.below hb) (fun k hk => Or.inl hk) (Touch.of_below hb) hb2
      exact ⟨rfl, ⟨_, _, _, _, _, _, _, _, _, _, _, _, _, _, _, _, hI2.more (Nat.le_succ n), hP.more (Nat.le_succ n)⟩, hs⟩
    · exact absurd g0 h0
  · refine ⟨_, rfl, hI.half (ht.mono (fun k hk => Or.inl hk)), ?_⟩
    rintro e2 w2 ⟨rfl, ⟨g0, hb2⟩ | ⟨g0, hRF, ht2⟩⟩
    · exact absurd h0 g0
    · have hl := hI.hb.same_len hHB
      obtain ⟨⟨R2, hI2⟩, hs⟩ := hI.turn hHB (Or.inl ⟨rfl, hl⟩) (fun k hk => Or.inl (Lost.self hk)) (fun k hk => Or.inl hk) (ht.mono (fun k hk => Or.inl (Lost.self hk))) hRF (Or.inl ⟨rfl, hl⟩) (fun k hk => Or.inl (Lost.self hk)) (ht2.mono (fun k hk => Lost.self hk))
      exact ⟨rfl, ⟨_, _, _, _, _, _, _, _, _, _, _, _, _, _, _, _, hI2.more (Nat.le_succ n), (hP.mem _).more (Nat.le_succ n)⟩, hs⟩
theorem op_swap2 (hI : MrI w0 hp bp rp pp cp n M X S vm vb vh vhs F G b kept um ub uk uks E R prs w) (hP : MrP S kept n) {q p : Int} {e1 : Ending} (p1 : SwPostR w E rp pp M S kept um ub uk uks q p e1 w1) :
    ∃ er : Int, e1 = .returned (.int .i64 er) ∧ (HB w1 hp bp S vm vb vh vhs F G M b ∧ Stay X w w1) ∧ ∀ e2 w2, SwPostM w1 hp bp S vm vb vh vhs F G M b q p e2 w2 → e2 = .returned (.int .i64 er) ∧ MrE w0 hp bp rp pp cp (n + 1) M X w2 ∧ Stay X w w2 := by
  have half : Touch E w w1 → HB w1 hp bp S vm vb vh vhs F G M b ∧ Stay X w w1 := fun t => ⟨hI.hb.touch t (fun k hk hf => hI.fe k (Or.inl hf) hk) (fun k hk hf => hI.fe k (Or.inr hf) hk), fun k hk => by
    obtain ⟨x1, x2, x3, x4, x5, x6⟩ := hI.xx k hk
    exact t.block k x6 x3⟩
  obtain ⟨rfl, ⟨h0, hb⟩ | ⟨h0, hRF, ht⟩⟩ := p1
  · refine ⟨_, rfl, half (Touch.of_below hb), ?_⟩
    rintro e2 w2 ⟨rfl, ⟨g0, hb2⟩ | ⟨g0, _⟩⟩
    · obtain ⟨⟨R2, hI2⟩, hs⟩ := hI.book (hI.hb.below hb) (fun k hk => Or.inl hk) (Touch.of_below hb) hb2
      exact ⟨rfl, ⟨_, _, _, _, _, _, _, _, _, _, _, _, _, _, _, _, hI2.more (Nat.le_succ n), hP.more (Nat.le_succ n)⟩, hs⟩
    · exact absurd g0 h0
  · refine ⟨_, rfl, half ht, ?_⟩
    rintro e2 w2 ⟨rfl, ⟨g0, hb2⟩ | ⟨g0, hHB, ht2⟩⟩
    · exact absurd h0 g0
    · have hl := hI.hb.same_len hHB
      obtain ⟨⟨R2, hI2⟩, hs⟩ := hI.octs hHB (hRF.touch ht2 (fun k hk he => hI.fe k (Or.inl hk) he)) hl ((ht.mono (fun k hk => Or.inr hk)).then (ht2.mono (fun k hk => Or.inl hk)))
      exact ⟨rfl, ⟨_, _, _, _, _, _, _, _, _, _, _, _, _, _, _, _, hI2.more (Nat.le_succ n), (hP.mem _).more (Nat.le_succ n)⟩, hs⟩

theorem op_trim (hI : MrI w0 hp bp rp pp cp n M X S vm vb vh vhs F G b kept um ub uk uks E R prs w) (hP : MrP S kept n) {L : List Blk} {e1 : Ending} (p1 : MtPost w hp bp S vm vb vh vhs F G M b L e1 w1) :
    ∃ v er : Int, e1 = .returned (.tuple #[.int .i64 v, .int .i64 er]) ∧ (RfMem w1 E rp pp M S kept um ub uk uks ∧ Stay X w w1) ∧ ∀ e2 w2, RtPost w1 E rp pp M S kept um ub uk uks L e2 w2 → e2 = .returned (.tuple #[.int .i64 v, .int .i64 er]) ∧ MrE w0 hp bp rp pp cp (n + 1) M X w2 ∧ Stay X w w2 := by
  have same : ∀ {w2}, Below w.heap.size w w1 → Below w1.heap.size w1 w2 → MrE w0 hp bp rp pp cp (n + 1) M X w2 ∧ Stay X w w2 := fun hb hb2 => by
    obtain ⟨⟨R2, hI2⟩, hs⟩ := hI.book (hI.hb.below hb) (fun k hk => Or.inl hk) (Touch.of_below hb) hb2
    exact ⟨⟨_, _, _, _, _, _, _, _, _, _, _, _, _, _, _, _, hI2.more (Nat.le_succ n), hP.more (Nat.le_succ n)⟩, hs⟩
  rcases p1 with ⟨hc, rfl, hb⟩ | ⟨hc, z, hz, rfl, h1⟩
  · refine ⟨_, _, rfl, hI.half (Touch.of_below hb), ?_⟩
    rintro e2 w2 (⟨hc2, rfl, hb2⟩ | ⟨hc2, _⟩)
    · exact ⟨rfl, same hb hb2⟩
    · rw [hc] at hc2; cases hc2
  · have half : RfMem w1 E rp pp M S kept um ub uk uks ∧ Stay X w w1 := by
      rcases h1 with ⟨_, hb⟩ | ⟨_, vm2, F', G', b', hHB, hMT, hF, hG, ht⟩
      · exact hI.half (Touch.of_below hb)
      · exact hI.half (ht.mono (fun k hk => lost_or hk))
    refine ⟨_, _, rfl, half, ?_⟩
    rintro e2 w2 (⟨hc2, rfl, hb2⟩ | ⟨hc2, z2, hz2, rfl, h2⟩)
    · rw [hc] at hc2; cases hc2
    · have eq : z = z2 := by
        rw [hz] at hz2
        omega
      subst eq
      refine ⟨rfl, ?_⟩
      rcases h1 with ⟨e, hb⟩ | ⟨e, vm2, F', G', b', hHB, hMT, hF, hG, ht⟩ <;> rcases h2 with ⟨e2, hb2⟩ | ⟨e2, um2, E', hRF, hMT2, hE, ht2⟩
      · exact same hb hb2
      · omega
      · omega
      · have hl : (S.mem' z).mem.length = z := reM_len S.mem z
        obtain ⟨⟨R2, hI2⟩, hs⟩ := hI.turn hHB (by rw [hl]; exact hMT) hF hG ht hRF (by rw [hl]; exact hMT2) hE ht2
        exact ⟨⟨_, _, _, _, _, _, _, _, _, _, _, _, _, _, _, _, hI2.more (Nat.le_succ n), (hP.mem _).more (Nat.le_succ n)⟩, hs⟩

theorem op_close (hI : MrI w0 hp bp rp pp cp n M X S vm vb vh vhs F G b kept um ub uk uks E R prs w) (hP : MrP S kept n) {e1 : Ending} (p1 : McPost w hp bp S vm vh vhs F G M e1 w1) :
    ∃ er : Int, e1 = .returned (.int .i64 er) ∧ (RfMem w1 E rp pp M S kept um ub uk uks ∧ Stay X w w1) ∧ ∀ e2 w2, RcPost w1 E rp pp M S um e2 w2 → e2 = .returned (.int .i64 er) ∧ MrE w0 hp bp rp pp cp (n + 1) M X w2 ∧ Stay X w w2 := by
  rcases p1 with ⟨hc, rfl, hw⟩ | ⟨hc, rfl, vm2, F', G', b', hHB, hMT, hF, hG, ht⟩
  · subst hw
    refine ⟨_, rfl, hI.half (Touch.refl _ _), ?_⟩
    rintro e2 w2 (⟨hc2, rfl, hw2⟩ | ⟨hc2, _⟩)
    · subst hw2
      exact ⟨rfl, ⟨_, _, _, _, _, _, _, _, _, _, _, _, _, _, _, _, hI.more (Nat.le_succ n), hP.more (Nat.le_succ n)⟩, Stay.refl _ _⟩
    · rw [hc] at hc2; cases hc2
  · refine ⟨_, rfl, hI.half (ht.mono (fun k hk => lost_or hk)), ?_⟩
    rintro e2 w2 (⟨hc2, rfl, hw2⟩ | ⟨hc2, rfl, hRF, ht2⟩)
    · rw [hc] at hc2; cases hc2
    · obtain ⟨⟨R2, hI2⟩, hs⟩ := hI.turn hHB (show MemTo w.heap.size S.mem.length S.shut.mem.length vm vm2 from hMT) hF hG ht hRF (Or.inr ⟨fun _ => rfl, fun k hk => by simp [Value.ownBlock] at hk⟩) (fun k hk => Or.inl hk) ht2
      exact ⟨rfl, ⟨_, _, _, _, _, _, _, _, _, _, _, _, _, _, _, _, hI2.more (Nat.le_succ n), ⟨hP.pol, List.Pairwise.nil, fun x hx => by simp [HpSt.shut] at hx, ⟨Nat.le_succ_of_le hP.few.1, Nat.le_succ_of_le hP.few.2.1, Nat.zero_le _⟩, hP.his, fun h => by simp [HpSt.shut] at h, fun h => by simp [HpSt.shut] at h⟩⟩, hs⟩

theorem op_compact (hI : MrI w0 hp bp rp pp cp n M X S vm vb vh vhs F G b kept um ub uk uks E R prs w) (hP : MrP S kept n) {e1 : Ending} (p1 : CmPost w hp bp S vm vb vh vhs F G M b e1 w1) :
    ∃ (v : Value) (er : Int), e1 = .returned (.tuple #[v, .int .i64 er]) ∧ (RfMem w1 E rp pp M S kept um ub uk uks ∧ Stay X w w1 ∧ w.heap.size ≤ w1.heap.size) ∧ ∀ e2 w2, RcmPost w1 E rp pp M S kept um ub e2 w2 → ∃ v2, e2 = .returned (.tuple #[v2, .int .i64 er]) ∧ (∃ l : List Shf, l.length ≤ 1000000 ∧ w2.ownsRow 0 64 3 v l.length (l.flatMap Shf.cells) ∧ w2.ownsRow 0 64 3 v2 l.length (l.flatMap Shf.cells)) ∧ MrE w0 hp bp rp pp cp (n + 1) M X w2 ∧ Stay X w w2 := by
  have hin := hI.st
  rcases p1 with ⟨hc, rfl, hw⟩ | ⟨hc, S1, S', L, L', a, v, vh', vhs', F', hS1, hs, hcp, hs', rfl, hrow, hHB, hF, hv, ht⟩
  · subst hw
    refine ⟨_, _, rfl, ⟨hI.rf, Stay.refl _ _, Nat.le_refl _⟩, ?_⟩
    rintro e2 w2 (⟨hc2, rfl, hb2⟩ | ⟨hc2, _⟩)
    · exact ⟨_, rfl, ⟨[], Nat.zero_le _, World.ownsRow_nil _ _ _ _, World.ownsRow_nil _ _ _ _⟩, ⟨_, _, _, _, _, _, _, _, _, _, _, _, _, _, _, _, (hI.below hb2).more (Nat.le_succ n), hP.more (Nat.le_succ n)⟩, fun k hk => hb2.block k (hI.xx k hk).2.2.2.2.2⟩
    · rw [hc] at hc2; cases hc2
  · have hh := hI.half (ht.mono (fun k hk => Or.inl hk))
    refine ⟨_, _, rfl, ⟨hh.1, hh.2, ht.size⟩, ?_⟩
    rintro e2 w2 (⟨hc2, rfl, hb2⟩ | ⟨hc2, K, K', v2, uk', uks', E', ks, ks', rfl, krow, hRF, hE, kv, kt⟩)
    · rw [hc] at hc2; cases hc2
    · have e1 : K = L := sorted_one ks hs hP.apB
      subst e1
      subst hS1
      have hd := hcp.done (L := K) hs
      rw [cpF_his] at hd
      have ebl : S'.bl = (cpF S 0 K).bl := by rw [hd]
      have emem : S'.mem = (cpF S 0 K).mem := by rw [hd]
      have e2 : K' = L' := by
        rw [← ebl] at ks'
        exact sorted_one ks' hs' hcp.ap
      subst e2
      have eS : ({ S' with mem := fill 0 S'.mem (endL K') (S'.mem.length - endL K') } : HpSt) = { cpF S 0 K with mem := fill 0 (cpF S 0 K).mem (endL K') ((cpF S 0 K).mem.length - endL K'), hist := keep8 (S.hist ++ [S.bl]), count := S.count + 1 } := by rw [hd]
      rw [eS] at hHB
      have hl : ({ cpF S 0 K with mem := fill 0 (cpF S 0 K).mem (endL K') ((cpF S 0 K).mem.length - endL K'), hist := keep8 (S.hist ++ [S.bl]), count := S.count + 1 } : HpSt).mem.length = S.mem.length := hI.hb.same_len hHB
      obtain ⟨⟨R2, hI2⟩, hst⟩ := hI.turn hHB (Or.inl ⟨rfl, hl⟩) (fun k hk => (hF k hk).imp Lost.self id) (fun k hk => Or.inl hk) (ht.mono (fun k hk => Or.inl (Lost.self hk))) hRF (Or.inl ⟨rfl, hl⟩) (fun k hk => (hE k hk).imp Lost.self id) (kt.mono (fun k hk => Lost.self hk))
      obtain ⟨r1, r2, r3, r4, r5⟩ := cpF_rest K S 0
      have lenS : (shiftsG 0 K).length ≤ 1000000 := by
        have h1 := shiftsG_few K 0
        have h2 := hs.len
        have h3 := hI.hb.hm.big.2.1
        omega
      refine ⟨_, rfl, ⟨shiftsG 0 K, lenS, ?_, row_low krow (Nat.zero_le _)⟩, ⟨_, _, _, _, _, _, _, _, _, _, _, _, _, _, _, _, hI2.more (Nat.le_succ n), ⟨?_, ?_, ?_, ⟨?_, ?_, ?_⟩, ⟨?_, fun l hl2 => ?_⟩, fun h => ⟨?_, ?_⟩, fun h l hl2 x hx => ?_⟩⟩, hst⟩
      · exact row_low (ownsRow_same hrow (fun k hk => kt.block k (hrow.lt k hk).2 (fun e => by have h1 := hI.el k e; have h2 := (hrow.lt k hk).1; omega))) (Nat.zero_le _)
      · show polErr (cpF S 0 K).k (cpF S 0 K).s (cpF S 0 K).m = 0
        rw [r1, r2, r3]; exact hP.pol
      · show (cpF S 0 K).bl.Pairwise apartB
        rw [← ebl]; exact hcp.ap
      · exact zer_cp K S 0 (fun x hx => (hs.mem hx).2) hP.zer
      · show (cpF S 0 K).last ≤ n + 1
        rw [r5]; exact Nat.le_succ_of_le hP.few.1
      · exact Nat.succ_le_succ hP.few.2.1
      · rw [List.length_append]; exact Nat.succ_le_succ hP.few.2.2
      · show (keep8 (S.hist ++ [S.bl])).length = min (S.count + 1) 8
        unfold keep8
        rw [List.length_drop, List.length_append, hP.his.1]
        simp
        omega
      · have hl2 : l ∈ keep8 (S.hist ++ [S.bl]) := hl2
        unfold keep8 at hl2
        rcases List.mem_append.1 (List.mem_of_mem_drop hl2) with h1 | h1
        · exact hP.his.2 l h1
        · rw [List.mem_singleton] at h1
          subst h1
          exact ⟨hI.hb.hm.big.2.1, fun x hx => by have := (hin x hx).2.2; have := hI.hb.hm.big.1; omega⟩
      · show keep8 (S.hist ++ [S.bl]) = keep8 (kept ++ [S.bl])
        rw [(hP.hk hc).1]
        exact keep8_last8 kept S.bl
      · show S.count + 1 = (kept ++ [S.bl]).length
        rw [List.length_append, (hP.hk hc).2]; rfl
      · show 1 ≤ x.h ∧ x.h ≤ (cpF S 0 K).last
        rw [r5]
        rcases List.mem_append.1 hl2 with h1 | h1
        · exact hP.gone hc l h1 x hx
        · rw [List.mem_singleton] at h1
          subst h1
          exact ⟨(hin x hx).1, (hin x hx).2.1⟩

theorem op_look (hI : MrI w0 hp bp rp pp cp n M X S vm vb vh vhs F G b kept um ub uk uks E R prs w) (hP : MrP S kept n) {q f t : Int} {e1 : Ending} (p1 : LkPost w S vm q f t e1 w1) :
    ∃ (a : Option Addr) (N : Nat) (er : Int), e1 = .returned (.tuple #[.slice a N N, .int .i64 er]) ∧ (er ≠ 0 → N = 0) ∧ N ≤ 100000 ∧ (RfMem w1 E rp pp M S kept um ub uk uks ∧ Stay X w w1) ∧ ∀ e2 w2, RkPost w1 S um q f t e2 w2 → ∃ a2, e2 = .returned (.tuple #[.slice a2 N N, .int .i64 er]) ∧ MrI w0 hp bp rp pp cp n M X S vm vb vh vhs F G b kept um ub uk uks E R prs w2 ∧ (er = 0 → Pr R (.slice a N N, .slice a2 N N)) ∧ Stay X w w2 := by
  obtain ⟨hb, h1⟩ := p1
  have hh := hI.half (Touch.of_below hb)
  have stay : ∀ {w2}, Below w1.heap.size w1 w2 → MrI w0 hp bp rp pp cp n M X S vm vb vh vhs F G b kept um ub uk uks E R prs w2 ∧ Stay X w w2 := fun hb2 => ⟨(hI.below hb).below hb2, fun k hk => (hb2.block k (Nat.lt_of_lt_of_le (hI.xx k hk).2.2.2.2.2 hb.size)).trans (hb.block k (hI.xx k hk).2.2.2.2.2)⟩
  rcases h1 with ⟨h0, rfl⟩ | ⟨h0, i, x, hf, ⟨h1, rfl⟩ | ⟨h1, a, rfl, ha⟩⟩
  · refine ⟨none, 0, _, rfl, fun _ => rfl, Nat.zero_le _, hh, ?_⟩
    rintro e2 w2 ⟨hb2, ⟨g0, rfl⟩ | ⟨g0, _⟩⟩
    · exact ⟨none, rfl, (stay hb2).1, fun e => absurd e h0, (stay hb2).2⟩
    · exact absurd g0 h0
  · have hx : blkAt S q = x := by
      obtain ⟨_, i', x', h3, _, _, h4⟩ := fndE_zero h0
      rw [hf] at h3
      simp only [Option.some.injEq, Prod.mk.injEq] at h3
      rw [h4, h3.2]
    refine ⟨none, 0, _, rfl, fun _ => rfl, Nat.zero_le _, hh, ?_⟩
    rintro e2 w2 ⟨hb2, ⟨g0, rfl⟩ | ⟨g0, ⟨g1, rfl⟩ | ⟨g1, _⟩⟩⟩
    · exact absurd h0 g0
    · rw [hx]
      exact ⟨none, rfl, (stay hb2).1, fun e => absurd e h1, (stay hb2).2⟩
    · rw [hx] at g1
      exact absurd g1 h1
  · have hx : blkAt S q = x := by
      obtain ⟨_, i', x', h3, _, _, h4⟩ := fndE_zero h0
      rw [hf] at h3
      simp only [Option.some.injEq, Prod.mk.injEq] at h3
      rw [h4, h3.2]
    have hxi := (hI.st x (List.mem_of_getElem? (findB_at hf).1)).2.2
    have hbig := hI.hb.hm.big.1
    have hlk : (0 ≤ f ∧ f ≤ (x.len : Int)) ∧ f ≤ t ∧ t ≤ (x.len : Int) := by
      unfold lkE at h1
      split at h1
      · cases h1
      · next h => omega
    refine ⟨a, _, 0, rfl, fun e => absurd rfl e, by omega, hh, ?_⟩
    rintro e2 w2 ⟨hb2, ⟨g0, rfl⟩ | ⟨g0, ⟨g1, rfl⟩ | ⟨g1, a2, rfl, ha2⟩⟩⟩
    · exact absurd h0 g0
    · rw [hx] at g1
      exact absurd h1 g1
    · refine ⟨a2, rfl, (stay hb2).1, fun _ => ⟨a, a2, _, _, rfl, Nat.le_refl _, by omega, fun hN => ?_⟩, (stay hb2).2⟩
      obtain ⟨g, cap, hvm, rfl⟩ := ha hN
      obtain ⟨g', hum, rfl⟩ := ha2 hN
      rw [hx]
      refine ⟨g, x.at' + f.toNat, g', x.at' + f.toNat, rfl, rfl, fun j hj => ?_⟩
      exact hI.cur g g' (by rw [hvm]; rfl) (by rw [hum]; rfl) _ (by omega)
end

end
end Go.Proofs.YtjogaohnphafgaaGreat

namespace Go.Proofs.YtjogaohnphafgaaGreat
section
open Go.RowKit
set_option linter.unusedVariables false

/-- The book of the statements: one account, number 1, with the greatest budget. -/
def bigStB : BookSt := openSt (newSt 10000000) 1 10000000
def BigPostB (w : World) : Ending → World → Prop := fun e w' =>
  ∃ p, e = .returned (.pointer (some ⟨p, 0, none⟩)) ∧ BookAt w' (fun k => w.heap.size ≤ k) p bigStB 1 ∧ Below w.heap.size w w'

/-- A heap without memory. -/
def newH (k s m : Int) : HpSt := ⟨k, s, m, false, [], [], 0, 0, []⟩
def NhPost (w : World) (bp : Nat) (G : Nat → Prop) (k s m : Int) : Ending → World → Prop := fun e w' =>
  Below w.heap.size w w' ∧ ((∃ er : Int, er ≠ 0 ∧ e = .returned (.tuple #[.pointer none, .int .i64 er])) ∨
    ∃ hp F G', polErr k s m = 0 ∧ e = .returned (.tuple #[.pointer (some ⟨hp, 0, none⟩), .int .i64 0]) ∧ HB w' hp bp (newH k s m) (.slice none 0 0) (.slice none 0 0) (.slice none 0 0) [] F G' 10000000 bigStB ∧ (∀ k, F k → w.heap.size ≤ k) ∧ ∀ k, G' k → G k)
theorem newHB_any (bp : Nat) (k s m : Int) (w : World) (G : Nat → Prop) (hb : BookAt w G bp bigStB 1) :
    Calls Tryz.prog 7 #[.pointer (some ⟨bp, 0, none⟩), .int .i64 1, .agg #[.int .i64 k, .int .i64 s, .int .i64 m]] w (NhPost w bp G k s m) := by
  refine (newHeap_any bp 1 k s m w G bigStB 1 hb).mono ?_
  rintro e w' ⟨hbl, ⟨h1, h2⟩ | ⟨h1, h, h2, h3, h4⟩⟩
  · exact ⟨hbl, Or.inl ⟨_, h1, h2⟩⟩
  · have hpe : polErr k s m = 0 := by
      unfold newErr at h1
      by_cases h0 : polErr k s m = 0
      · exact h0
      · rw [if_neg h0] at h1
        exact h1
    refine ⟨hbl, Or.inr ⟨h, fun k => k = h, fun k => G k ∧ k < w.heap.size, hpe, h2, ?_, fun k hk => by omega, fun k hk => hk.1⟩⟩
    have hbk := (hb.narrowK).same (fun k hk hl => hbl.block k hl)
    have nil : ∀ (e size : Nat), w'.ownsRow 0 e size (.slice none 0 0) 0 [] := fun e size => World.ownsRow_nil _ _ _ _
    refine ⟨⟨h4, rfl, ⟨nil _ _, fun k hk => (by cases hk)⟩, fun z hz => (by cases hz), Or.inl ⟨rfl, rfl⟩, ⟨nil _ _, fun k hk => (by cases hk)⟩, ⟨nil _ _, fun k hk => (by cases hk)⟩, ⟨rfl, fun i v l hv _ => by simp at hv⟩, List.Pairwise.nil, fun x hx => (by cases hx), ⟨by simp [newH], by simp [newH], by simp [newH], by simp [newH], by simp [newH]⟩⟩, ⟨hbk, rfl, rfl, rfl, by decide, by show 0 ≤ 10000000 ∧ 10000000 ≤ 10000000; omega, fun k hk => Nat.lt_of_lt_of_le hk.2 hbl.size⟩, fun k hk hg => ?_, fun k hk => by rw [hk]; exact lt_of h4⟩
    subst hk
    have := hg.2
    omega

end
end Go.Proofs.YtjogaohnphafgaaGreat
