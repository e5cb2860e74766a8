/-
  A block given out: Alloc. No conditions but bounds.
-/
import Derived.Test.YtjogaohnphafgaaGreatMoveRunsPas
namespace Go.Proofs.YtjogaohnphafgaaGreat
open Go.RowKit
set_option linter.unusedVariables false

theorem reM_self (o : List Int) : reM o o.length = o := by
  unfold reM zeros
  rw [List.take_length, Nat.sub_self, List.replicate_zero, List.append_nil]
/-- No place is found. -/
def PlNo (S : HpSt) (M n : Nat) (way er : Int) : Prop := ∃ L L', SortedL (lieL S.bl) L ∧ SortedL (lieL S.bl) L' ∧ gapSel S.mem.length L n way = none ∧ ((100000 < endL L' + n ∧ er = 4) ∨ (endL L' + n ≤ 100000 ∧ er = growE S.k S.s S.m S.mem.length (endL L' + n : Nat) ∧ er ≠ 0) ∨
  (endL L' + n ≤ 100000 ∧ growE S.k S.s S.m S.mem.length (endL L' + n : Nat) = 0 ∧ ∃ z : Nat, growV S.k S.s S.m S.mem.length (endL L' + n : Nat) = (z : Int) ∧ z ≠ S.mem.length ∧ M < z ∧ er = 12))
/-- A place is found, and what the memory is then. -/
def PlOk (S : HpSt) (M n : Nat) (way : Int) (at' : Nat) (mem2 : List Int) : Prop := ∃ L L', SortedL (lieL S.bl) L ∧ SortedL (lieL S.bl) L' ∧ ((∃ g, gapSel S.mem.length L n way = some g ∧ at' = g.at' ∧ mem2 = S.mem) ∨
  (gapSel S.mem.length L n way = none ∧ endL L' + n ≤ 100000 ∧ growE S.k S.s S.m S.mem.length (endL L' + n : Nat) = 0 ∧ at' = endL L' ∧ ∃ z : Nat, growV S.k S.s S.m S.mem.length (endL L' + n : Nat) = (z : Int) ∧ (z = S.mem.length ∨ z ≤ M) ∧ endL L' + n ≤ z ∧ S.mem.length ≤ z ∧ z ≤ 100000 ∧ mem2 = reM S.mem z))
def PlRes (w : World) (hp bp : Nat) (S : HpSt) (vm vb vh : Value) (vhs : List Value) (F G : Nat → Prop) (M n : Nat) (way : Int) : Ending → World → Prop := fun e w' =>
  (∃ v er, er ≠ 0 ∧ PlNo S M n way er ∧ e = .returned (.tuple #[.int .i64 v, .int .i64 er]) ∧ ∃ G' b', HB w' hp bp S vm vb vh vhs F G' M b' ∧ (∀ k, G' k → G k ∨ w.heap.size ≤ k) ∧ Touch G w w') ∨
  (∃ (at' : Nat) (mem2 : List Int) (vm2 : Value) (F' G' : Nat → Prop) (b' : BookSt), PlOk S M n way at' mem2 ∧ e = .returned (.tuple #[.int .i64 (at' : Int), .int .i64 0]) ∧ HB w' hp bp { S with mem := mem2 } vm2 vb vh vhs F' G' M b' ∧ at' + n ≤ mem2.length ∧ S.mem.length ≤ mem2.length ∧ MemTo w.heap.size S.mem.length mem2.length vm vm2 ∧ (∀ k, F' k → Lost F vm vm2 k ∨ w.heap.size ≤ k) ∧ (∀ k, G' k → G k ∨ w.heap.size ≤ k) ∧ Touch (fun k => Lost F vm vm2 k ∨ G k) w w')

theorem placed_any {w : World} {hp bp : Nat} {S : HpSt} {vm vb vh : Value} {vhs : List Value} {F G : Nat → Prop} {M : Nat} {b : BookSt} (h : HB w hp bp S vm vb vh vhs F G M b) (hpol : polErr S.k S.s S.m = 0) (n : Nat) (hn : n ≤ 100000) (way : Int) :
    Calls Tryz.prog 36 #[.pointer (some ⟨hp, 0, none⟩), .int .i64 (n : Int), .int .i64 way] w (PlRes w hp bp S vm vb vh vhs F G M n way) := by
  refine (placeM_any h hpol n hn way).mono ?_
  rintro e w' ⟨L, L', hs, hs', hx⟩
  have same : Below w.heap.size w w' → HB w' hp bp S vm vb vh vhs F G M b ∧ Touch G w w' := fun hb => ⟨h.below hb, Touch.of_below hb⟩
  have hfh := h.hm.fh
  rcases hx with ⟨g, hg, rfl, hb⟩ | ⟨hg, h1, rfl, hb⟩ | ⟨hg, h1, h2, rfl, hb⟩ | ⟨hg, h1, h2, z, er, w1, hz, z1, z2, z3, rfl, hb, hr⟩
  · have hin := gapSel_in hg
    have h3 := gapsOf_in (fun x hx => by have := (h.hm.hb x (hs.mem hx).1).2.2; omega) g hin.1
    exact Or.inr ⟨g.at', S.mem, vm, F, G, b, ⟨L, L', hs, hs', Or.inl ⟨g, hg, rfl, rfl⟩⟩, rfl, (same hb).1, by omega, Nat.le_refl _, MemTo.self _ _ _, fun k hk => Or.inl (Lost.self hk), fun k hk => Or.inl hk, Touch.of_below hb⟩
  · exact Or.inl ⟨0, 4, by decide, ⟨L, L', hs, hs', hg, Or.inl ⟨h1, rfl⟩⟩, rfl, G, b, (same hb).1, fun k hk => Or.inl hk, (same hb).2⟩
  · exact Or.inl ⟨0, _, h2, ⟨L, L', hs, hs', hg, Or.inr (Or.inl ⟨h1, rfl, h2⟩)⟩, rfl, G, b, (same hb).1, fun k hk => Or.inl hk, (same hb).2⟩
  · have s1 := hb.size
    rcases hr with ⟨r1, r2, r3⟩ | ⟨r1, r2, r3, G', b', hbk, hG, ht⟩ | ⟨r1, r2, r3, G', b', g, hbk, hG, hgs, hgl, hgG, hrow, hself, ht⟩
    · simp only [Ending.returned.injEq, Value.int.injEq, true_and] at r2
      subst r2
      rw [r3]
      refine Or.inr ⟨endL L', S.mem, vm, F, G, b, ⟨L, L', hs, hs', Or.inr ⟨hg, h1, h2, rfl, z, hz, Or.inl r1, z1, z2, z3, by rw [r1, reM_self]⟩⟩, rfl, h.below hb, by omega, Nat.le_refl _, MemTo.self _ _ _, fun k hk => Or.inl (Lost.self hk), fun k hk => Or.inl hk, Touch.of_below hb⟩
    · simp only [Ending.returned.injEq, Value.int.injEq, true_and] at r3
      subst r3
      have h' := (h.below hb).asked hbk hG ht
      refine Or.inl ⟨_, 12, by decide, ⟨L, L', hs, hs', hg, Or.inr (Or.inr ⟨h1, h2, z, hz, r1, r2, rfl⟩)⟩, rfl, G', b', h', fun k hk => (hG k hk).imp id (fun e => by omega), (Touch.of_below hb).then ht⟩
    · simp only [Ending.returned.injEq, Value.int.injEq, true_and] at r3
      subst r3
      obtain ⟨a1, a2, a3, a4⟩ := h.hm.apart
      have hend : ∀ x ∈ S.bl, x.at' + x.len ≤ z := fun x hx => by have := (h.hm.hb x hx).2.2; omega
      have h' := h.renewed hb hbk hG hgs hgl hgG hrow hself ht z3 hend a1 a2 a3
      refine Or.inr ⟨endL L', reM S.mem z, _, _, G', b', ⟨L, L', hs, hs', Or.inr ⟨hg, h1, h2, rfl, z, hz, Or.inr r2, z1, z2, z3, rfl⟩⟩, rfl, h', by rw [reM_len]; omega, by rw [reM_len]; exact z2, MemTo.new (by rw [reM_len]; exact r1) (fun k hk => by simp [Value.ownBlock] at hk; omega), fun k hk => hk.imp (fun e => Lost.not e.1 e.2) (fun e => by omega), fun k hk => (hG k hk).imp id (fun e => by omega), (Touch.of_below hb).then (ht.mono (fun k hk => hk.elim Or.inr (fun e => Or.inl (e ▸ Lost.not hfh (fun e2 => a4 hp e2 rfl)))))⟩

/-- The state when a block was given out. -/
def HpSt.give (S : HpSt) (at' n : Nat) (mem2 : List Int) : HpSt := { S with mem := mem2, bl := S.bl ++ [⟨S.last + 1, at', n⟩], last := S.last + 1 }
def alE (S : HpSt) (n way : Int) : Int := if S.closed then 11 else if ¬ (0 ≤ n ∧ n ≤ 100000) then 2 else if way ≠ 1 ∧ way ≠ 2 then 10 else if S.bl.length = 500 then 4 else 0
/-- What Alloc gives. -/
def AlPost (w : World) (hp bp : Nat) (S : HpSt) (vm vb vh : Value) (vhs : List Value) (F G : Nat → Prop) (M : Nat) (n way : Int) : Ending → World → Prop := fun e w' =>
  (∃ er, er ≠ 0 ∧ (alE S n way = er ∨ (alE S n way = 0 ∧ 0 < n ∧ PlNo S M n.toNat way er)) ∧ e = .returned (.tuple #[.int .i64 0, .int .i64 er]) ∧ ∃ G' b', HB w' hp bp S vm vb vh vhs F G' M b' ∧ (∀ k, G' k → G k ∨ w.heap.size ≤ k) ∧ Touch G w w') ∨
  (alE S n way = 0 ∧ e = .returned (.tuple #[.int .i64 ((S.last : Int) + 1), .int .i64 0]) ∧ ∃ (at' : Nat) (mem2 : List Int) (vm2 vb2 : Value) (F' G' : Nat → Prop) (b' : BookSt),
    ((n = 0 ∧ at' = 0 ∧ mem2 = S.mem) ∨ (0 < n ∧ ∃ mem1, PlOk S M n.toNat way at' mem1 ∧ S.mem.length ≤ mem1.length ∧ mem2 = fill 0 mem1 at' n.toNat)) ∧ at' + n.toNat ≤ mem2.length ∧ HB w' hp bp (S.give at' n.toNat mem2) vm2 vb2 vh vhs F' G' M b' ∧ MemTo w.heap.size S.mem.length mem2.length vm vm2 ∧ (∀ k, F' k → Lost F vm vm2 k ∨ w.heap.size ≤ k) ∧ (∀ k, G' k → G k ∨ w.heap.size ≤ k) ∧ Touch (fun k => Lost F vm vm2 k ∨ G k) w w')

/-- A block is put at the end. -/
theorem HB.added {w w1 : World} {hp bp : Nat} {S : HpSt} {vm vb vh : Value} {vhs : List Value} {F G : Nat → Prop} {M at' n : Nat} {b : BookSt} (h : HB w hp bp S vm vb vh vhs F G M b) (hle : at' + n ≤ S.mem.length) (hfew : S.bl.length < 500) (hlast : S.last < 1000000000)
    {g cap : Nat} (hrow : w1.ownsRow 0 78 3 (.slice (some ⟨g, 0, none⟩) (S.bl.length + 1) cap) (S.bl.length + 1) (S.bl.flatMap Blk.cells ++ [.int .i64 ((S.last : Int) + 1), .int .i64 (at' : Int), .int .i64 (n : Int)])) (hgr : (w.setCell ⟨hp, 8, none⟩ (.int .i64 ((S.last : Int) + 1))).grownBy w1 vb.ownBlock) (hpl : vb.ownBlock = some g ∨ w.heap.size ≤ g) (hgs : g < w1.heap.size) :
    ∃ F', HB (w1.setCell ⟨hp, 7, none⟩ (.slice (some ⟨g, 0, none⟩) (S.bl.length + 1) cap)) hp bp (S.give at' n S.mem) vm (.slice (some ⟨g, 0, none⟩) (S.bl.length + 1) cap) vh vhs F' G M b ∧ (∀ k, F k → F' k) ∧ (∀ k, F' k → F k ∨ w.heap.size ≤ k) ∧ Touch F w (w1.setCell ⟨hp, 7, none⟩ (.slice (some ⟨g, 0, none⟩) (S.bl.length + 1) cap)) := by
  have m := h.hm
  obtain ⟨a1, a2, a3, a4⟩ := m.apart
  have hpl' := lt_of m.self
  have sz1 : w.heap.size ≤ w1.heap.size := by have := hgr.size; simpa [World.setCell] using this
  have hgne : g ≠ hp := by
    rcases hpl with e | e
    · exact a1 g e
    · omega
  have s1 := block_setCell m.self 8 (.int .i64 ((S.last : Int) + 1))
  have s2 : w1.heap[hp]? = some (.cells #[.pointer (some ⟨bp, 0, none⟩), .int .i64 1, .int .i64 S.k, .int .i64 S.s, .int .i64 S.m, .bool S.closed, vm, vb, .int .i64 ((S.last : Int) + 1), .int .i64 (S.count : Int), vh] 75 (0, 0)) := (hgr.block hp (by simpa [World.setCell] using hpl') (fun e => a1 hp e.symm rfl)).trans s1
  have s3 := block_setCell s2 7 (.slice (some ⟨g, 0, none⟩) (S.bl.length + 1) cap)
  have keep : ∀ k, k < w.heap.size → k ≠ hp → vb.ownBlock ≠ some k → (w1.setCell ⟨hp, 7, none⟩ (.slice (some ⟨g, 0, none⟩) (S.bl.length + 1) cap)).heap[k]? = w.heap[k]? := fun k hk hne hv =>
    (Below.heap_setCell _ ⟨hp, 7, none⟩ _ k hne).trans ((hgr.block k (by simpa [World.setCell] using hk) (fun e => hv e.symm)).trans (Below.heap_setCell _ ⟨hp, 8, none⟩ _ k hne))
  have elast : ((S.last + 1 : Nat) : Int) = (S.last : Int) + 1 := by omega
  have hblen : (S.give at' n S.mem).bl.length = S.bl.length + 1 := by show (S.bl ++ [_]).length = _; rw [List.length_append]; rfl
  refine ⟨fun k => F k ∨ k = g, h.re (fun k hk => Or.inl hk) (fun k hk => hk.elim Or.inl (fun e => ?_)) (fun k hk => ?_) (by simpa [World.setCell] using sz1) (fun k hk hne _ hv => keep k hk hne hv) ?_ ⟨?_, fun k hk => Or.inl (m.mem.2 k hk)⟩ m.mb m.msh rfl ⟨?_, fun k hk => ?_⟩ (fun k hk => ?_) rfl ?_ ?_ ⟨?_, ?_, m.big.2.2.2.1⟩, fun k hk => Or.inl hk, fun k hk => hk.elim Or.inl (fun e => ?_), ?_⟩
  · subst e
    rcases hpl with e | e
    · exact Or.inl (m.row.2 _ e)
    · exact Or.inr e
  · have : w1.heap.size = (w1.setCell ⟨hp, 7, none⟩ (.slice (some ⟨g, 0, none⟩) (S.bl.length + 1) cap)).heap.size := by simp [World.setCell]
    rcases hk with hk | rfl
    · have := h.fl k hk; omega
    · omega
  · have e : hpCells bp (S.give at' n S.mem) vm (.slice (some ⟨g, 0, none⟩) (S.bl.length + 1) cap) vh = #[.pointer (some ⟨bp, 0, none⟩), .int .i64 1, .int .i64 S.k, .int .i64 S.s, .int .i64 S.m, .bool S.closed, vm, .slice (some ⟨g, 0, none⟩) (S.bl.length + 1) cap, .int .i64 ((S.last : Int) + 1), .int .i64 (S.count : Int), vh] := by
      unfold hpCells
      show #[_, _, _, _, _, _, _, _, Value.int .i64 ((S.last + 1 : Nat) : Int), _, _] = _
      rw [elast]
      rfl
    rw [e]
    exact s3
  · exact ownsRow_same m.mem.1 (fun k hk => keep k (m.mem.1.lt k hk).2 (a4 k hk) (rowApart m.mem.1 m.row.1 (by decide) hk))
  · rw [hblen]
    have e : (S.give at' n S.mem).bl.flatMap Blk.cells = S.bl.flatMap Blk.cells ++ [.int .i64 ((S.last : Int) + 1), .int .i64 (at' : Int), .int .i64 (n : Int)] := by
      show (S.bl ++ [(⟨S.last + 1, at', n⟩ : Blk)]).flatMap Blk.cells = _
      rw [List.flatMap_append, ← elast]
      rfl
    rw [e]
    exact ownsRow_same hrow (fun k hk => by
      simp only [Value.ownBlock, Option.some.injEq] at hk
      subst hk
      exact Below.heap_setCell _ ⟨hp, 7, none⟩ _ _ hgne)
  · simp only [Value.ownBlock, Option.some.injEq] at hk
    exact Or.inr hk.symm
  · simp only [Value.ownBlock, Option.some.injEq] at hk
    subst hk
    exact hpl
  · show ((S.bl ++ [(⟨S.last + 1, at', n⟩ : Blk)]).map Blk.h).Pairwise (· < ·)
    rw [List.map_append, List.pairwise_append]
    refine ⟨m.ord, List.pairwise_singleton _ _, fun a ha c hc => ?_⟩
    obtain ⟨x, hx, rfl⟩ := List.mem_map.1 ha
    have := (m.hb x hx).2.1
    simp at hc
    omega
  · intro x hx
    rcases List.mem_append.1 hx with h1 | h1
    · have := m.hb x h1
      exact ⟨this.1, Nat.le_succ_of_le this.2.1, this.2.2⟩
    · rw [List.mem_singleton] at h1
      subst h1
      exact ⟨by simp, Nat.le_refl _, hle⟩
  · rw [hblen]; omega
  · show S.last + 1 ≤ _
    omega
  · subst e
    rcases hpl with e | e
    · exact Or.inl (m.row.2 _ e)
    · exact Or.inr e
  · refine Touch.setCell (F := F) (p := ⟨hp, 7, none⟩) (Touch.trans (F := F) (b := w.setCell ⟨hp, 8, none⟩ (.int .i64 ((S.last : Int) + 1))) (Touch.setCell (F := F) (p := ⟨hp, 8, none⟩) (Touch.refl F w) (Or.inl m.fh) _) (G := F) ((Touch.refl F _).grown hgr (fun k hk => Or.inl (m.row.2 k hk))) (fun i hi => Or.inl hi)) (Or.inl m.fh) _

/-- A block is as it is. -/
def AtB (k : Nat) (o : Obj) (W : World) : Prop := W.heap[k]? = some o
/-- What holds once the place is known. -/
def AlCut (w : World) (hp bp : Nat) (S : HpSt) (vm vb vh : Value) (vhs : List Value) (F G : Nat → Prop) (M N : Nat) (way : Int) (v8 : Value) (wr : World) : Prop :=
  ∃ (at' : Nat) (mem2 : List Int) (vm2 : Value) (F' G' : Nat → Prop) (b' : BookSt), v8 = .int .i64 (at' : Int) ∧
    ((N = 0 ∧ at' = 0 ∧ mem2 = S.mem) ∨ (0 < N ∧ ∃ mem1, PlOk S M N way at' mem1 ∧ S.mem.length ≤ mem1.length ∧ mem2 = fill 0 mem1 at' N)) ∧ at' + N ≤ mem2.length ∧ HB wr hp bp { S with mem := mem2 } vm2 vb vh vhs F' G' M b' ∧ MemTo w.heap.size S.mem.length mem2.length vm vm2 ∧ (∀ k, F' k → Lost F vm vm2 k ∨ w.heap.size ≤ k) ∧ (∀ k, G' k → G k ∨ w.heap.size ≤ k) ∧ Touch (fun k => Lost F vm vm2 k ∨ G k) w wr

set_option maxHeartbeats 8000000 in
set_option maxRecDepth 100000 in
theorem allocM_any {w : World} {hp bp : Nat} {S : HpSt} {vm vb vh : Value} {vhs : List Value} {F G : Nat → Prop} {M : Nat} {b : BookSt} (h : HB w hp bp S vm vb vh vhs F G M b) (hpol : polErr S.k S.s S.m = 0) (hlast : S.last < 1000000000) (n way : Int) :
    Calls Tryz.prog 8 #[.pointer (some ⟨hp, 0, none⟩), .int .i64 n, .int .i64 way] w (AlPost w hp bp S vm vb vh vhs F G M n way) := by
  have H := Lib.hid h
  have HPO := Lib.hid hpol
  have REF : Hid (∀ er, er ≠ 0 → alE S n way = er → AlPost w hp bp S vm vb vh vhs F G M n way (.returned (.tuple #[.int .i64 0, .int .i64 er])) w) := Lib.hid (fun er h0 h1 => Or.inl ⟨er, h0, Or.inl h1, rfl, G, b, h, fun k hk => Or.inl hk, Touch.refl _ _⟩)
  obtain ⟨c0, c1, c2, c3, c4, c5, c6, c7, c8, c9, c10⟩ := h.hm.cells
  obtain ⟨va, vc, hvb⟩ := wrow_sh h.hm.row.1
  obtain ⟨BL, hBL⟩ : ∃ BL, S.bl.length = BL := ⟨_, rfl⟩
  have HBL := Lib.hid hBL
  have HVB := Lib.hid hvb
  have hfew := h.hm.big.2.1
  rw [hBL] at hfew
  rw [hvb, hBL] at c7
  cases hc : S.closed with
  | true =>
    rw [hc] at c5
    have FIN := Lib.hid (REF.out 11 (by decide) (by unfold alE; rw [hc]; rfl))
    clear h hpol hc hvb hBL c0 c1 c2 c3 c4 c6 c7 c8 c9 c10
    go_enter Tryz.func8, Tryz.ntmps8
    go_wp2_with fail
    go_ret2
    exact FIN.out
  | false =>
    rw [hc] at c5
    have E0 : alE S n way = if ¬ (0 ≤ n ∧ n ≤ 100000) then 2 else if way ≠ 1 ∧ way ≠ 2 then 10 else if S.bl.length = 500 then 4 else 0 := by unfold alE; rw [hc]; rfl
    by_cases hn : 0 ≤ n ∧ n ≤ 100000
    case neg =>
      have W1 := Lib.hid (within_move_no n 0 100000 w hn)
      have FIN := Lib.hid (REF.out 2 (by decide) (by rw [E0, if_pos hn]))
      clear h hpol hc hvb hBL c0 c1 c2 c3 c4 c6 c7 c8 c9 c10 hn E0
      go_enter Tryz.func8, Tryz.ntmps8
      go_wp2_with fail
      refine W1.out.mono ?_
      rintro e w2 ⟨rfl, hw2⟩
      obtain rfl := hw2
      go_wp2_with fail
      go_ret2
      exact FIN.out
    case pos =>
      have W1 := Lib.hid (within_move_yes n 0 100000 w hn.1 hn.2)
      rw [if_neg (by simpa using hn)] at E0
      by_cases hw : way ≠ 1 ∧ way ≠ 2
      · have hw1 : (way != 1) = true := by simpa using hw.1
        have hw2 : (way != 2) = true := by simpa using hw.2
        have FIN := Lib.hid (REF.out 10 (by decide) (by rw [E0, if_pos hw]))
        clear h hpol hc hvb hBL c0 c1 c2 c3 c4 c6 c7 c8 c9 c10 hn E0 hw
        go_enter Tryz.func8, Tryz.ntmps8
        go_wp2_with fail
        refine W1.out.mono ?_
        rintro e w2 ⟨rfl, hw2⟩
        obtain rfl := hw2
        go_wp2_with fail
        go_ret2
        exact FIN.out
      · rw [if_neg hw, hBL] at E0
        have hwb : ((way != 1) = false ∧ True) ∨ ((way != 1) = true ∧ (way != 2) = false) := by
          by_cases h1 : way = 1
          · exact Or.inl ⟨by simp [h1], trivial⟩
          · have h2 : way = 2 := by omega
            exact Or.inr ⟨by simp [h1], by simp [h2]⟩
        by_cases hfull : BL = 500
        · have FIN := Lib.hid (REF.out 4 (by decide) (by rw [E0, if_pos hfull]))
          have hfull' : ((BL : Int) == 500) = true := by rw [hfull]; rfl
          clear h hpol hc hvb hBL c0 c1 c2 c3 c4 c6 c8 c9 c10 hn E0 hw hfull
          rcases hwb with ⟨hw1, hw2⟩ | ⟨hw1, hw2⟩
          all_goals
            go_enter Tryz.func8, Tryz.ntmps8
            go_wp2_with fail
            refine W1.out.mono ?_
            rintro e w2 ⟨rfl, hw2'⟩
            obtain rfl := hw2'
            go_wp2_with fail
            go_ret2
            exact FIN.out
        · rw [if_neg hfull] at E0
          have hfull' : ((BL : Int) == 500) = false := by simp; omega
          have HE0 := Lib.hid E0
          have HFU := Lib.hid hfull
          have HN0 := Lib.hid hn
          obtain ⟨N, hN⟩ : ∃ N : Nat, n = (N : Int) := ⟨n.toNat, by omega⟩
          subst hN
          have HL0 := Lib.hid hlast
          have PLA := Lib.hid (fun (h0 : 0 < N) => placed_any H.out HPO.out N (by have := HN0.out; omega) way)
          clear h hpol hc hvb hBL c0 c1 c2 c3 c4 c6 c8 c9 c10 hn E0 hw hfull hfew hlast
          rcases hwb with ⟨hw1, hw2⟩ | ⟨hw1, hw2⟩
          all_goals
            go_enter Tryz.func8, Tryz.ntmps8
            go_wp2_with fail
            refine W1.out.mono ?_
            rintro e w2 ⟨rfl, hw2'⟩
            obtain rfl := hw2'
            go_upto_if 34 with fail
            go_cut [8, 9] (fun v8 v9 wr => AlCut w hp bp S vm vb vh vhs F G M N way v8 wr)
            case first =>
              by_cases h0 : 0 < N
              · have PL1 := Lib.hid (PLA.out h0)
                have h0' : decide ((0 : Int) < (N : Int)) = true := by simp [h0]
                have H0 := Lib.hid h0
                clear h0
                go_wp2_with fail
                refine PL1.out.mono ?_
                rintro e w3 hpl
                rcases hpl with ⟨v, er, he, hno, rfl, G', b', hHB, hG, ht⟩ | ⟨at', mem2, vm2, F', G', b', hok, rfl, hHB, hle, hle2, hF1, hF2, hG, ht⟩
                · have he' : (er != 0) = true := by simp [he]
                  have FIN : Hid (AlPost w hp bp S vm vb vh vhs F G M (N : Int) way (.returned (.tuple #[.int .i64 0, .int .i64 er])) w3) := Lib.hid (Or.inl ⟨er, he, Or.inr ⟨HE0.out, by omega, by rw [Int.toNat_natCast]; exact hno⟩, rfl, G', b', hHB, hG, ht⟩)
                  clear hno hHB hG ht PL1 PLA REF he
                  go_wp2_with fail
                  go_ret2
                  exact FIN.out
                · have hml : mem2.length = ({ S with mem := mem2 } : HpSt).mem.length := rfl
                  obtain ⟨g, hvm, hrow, _⟩ := hHB.hm.bytes (by rw [← hml]; have := H0.out; omega)
                  obtain ⟨K, hK⟩ : ∃ K, mem2.length = K := ⟨_, rfl⟩
                  obtain ⟨w4, CLR, h4, ht4⟩ := hHB.clr at' N (K - at') (some ⟨g, at', none⟩) hle (fun _ => ⟨g, hvm, rfl⟩)
                  have c6 := hHB.hm.cells.2.2.2.2.2.2.1
                  rw [hvm] at c6
                  have e1 : ({ S with mem := mem2 } : HpSt).mem.length = K := hK
                  rw [e1] at c6
                  have FIN : Hid (AlCut w hp bp S vm vb vh vhs F G M N way (.int .i64 (at' : Int)) w4) := Lib.hid ⟨at', _, vm2, F', G', b', rfl, Or.inr ⟨H0.out, mem2, hok, hle2, rfl⟩, by rw [fill_len]; exact hle, h4, by rw [fill_len]; exact hF1, hF2, hG, ht.trans (ht4.mono (fun k hk => hHB.hm.mem.2 k hk)) (fun k hk => (hF2 k hk).imp Or.inl id)⟩
                  have hKN : at' + N ≤ K := by omega
                  have hbig : K ≤ 100000 := by have := hHB.hm.big.1; rw [e1] at this; exact this
                  have hpos := H0.out
                  clear hml hvm hrow hK h4 ht4 e1 hok hHB hle hle2 hF1 hF2 hG ht PL1 PLA REF
                  go_wp2_with fail
                  go_meet
                  exact FIN.out
              · have FIN : Hid (AlCut w hp bp S vm vb vh vhs F G M N way (.int .i64 0) w) := Lib.hid ⟨0, S.mem, vm, F, G, b, rfl, Or.inl ⟨by omega, rfl, rfl⟩, by omega, H.out, MemTo.self _ _ _, fun k hk => Or.inl (Lost.self hk), fun k hk => Or.inl hk, Touch.refl _ _⟩
                clear PLA REF
                go_wp2_with fail
                go_meet
                exact FIN.out
            case rest =>
              obtain ⟨at', mem2, vm2, F', G', b', rfl, hmm, hle, hHB, hMT, hF, hG, ht⟩ := hcut
              have HMT := Lib.hid hMT
              obtain ⟨c0, c1, c2, c3, c4, c5, c6, c7, c8, c9, c10⟩ := hHB.hm.cells
              rw [HVB.out, HBL.out] at c7
              have hl1 := HL0.out
              have HHB := Lib.hid hHB
              have s2 : (wc.setCell ⟨hp, 8, none⟩ (.int .i64 ((S.last : Int) + 1))).heap[hp]? = some (.cells #[.pointer (some ⟨bp, 0, none⟩), .int .i64 1, .int .i64 S.k, .int .i64 S.s, .int .i64 S.m, .bool S.closed, vm2, vb, .int .i64 ((S.last : Int) + 1), .int .i64 (S.count : Int), vh] 75 (0, 0)) := block_setCell hHB.hm.self 8 _
              have fz := free_of hHB.hm.self 8
              have hr2 : (wc.setCell ⟨hp, 8, none⟩ (.int .i64 ((S.last : Int) + 1))).ownsRow 0 78 3 (.slice va BL vc) BL (S.bl.flatMap Blk.cells) := by
                have h1 := ownsRow_same hHB.hm.row.1 (fun k hk => Below.heap_setCell wc ⟨hp, 8, none⟩ (.int .i64 ((S.last : Int) + 1)) k (hHB.hm.apart.1 k hk))
                rw [HVB.out, HBL.out] at h1
                exact h1
              have FIN := Lib.hid (And.intro hmm (And.intro hle (And.intro hF (And.intro hG ht))))
              have hBL5 : BL ≤ 500 := by rw [← HBL.out]; exact hHB.hm.big.2.1
              clear hmm hle hHB hMT hF hG ht c0 c1 c2 c3 c4 c5 c6 c9 c10 PLA REF
              go_upto_region 17 with fail
              clear c7 c8 fz
              generalize hW2 : wc.setCell ⟨hp, 8, none⟩ (.int .i64 ((S.last : Int) + 1)) = W2 at *
              have HW2 := Lib.hid hW2
              clear hW2
              obtain ⟨o, ho⟩ : ∃ o, o = (Obj.cells #[.pointer (some ⟨bp, 0, none⟩), .int .i64 1, .int .i64 S.k, .int .i64 S.s, .int .i64 S.m, .bool S.closed, vm2, .slice va BL vc, .int .i64 ((S.last : Int) + 1), .int .i64 (S.count : Int), vh] 75 (0, 0)) := ⟨_, rfl⟩
              have S0 : AtB hp o W2.drew := by rw [HVB.out, HBL.out, ← ho] at s2; exact s2
              have g7 : ∀ y : WIn (AtB hp o), y.w.cell? ⟨hp, 7, none⟩ = some (.slice va BL vc) := fun y => (cell_of (Eq.trans y.h (congrArg some ho)) 7).trans rfl
              have g8 : ∀ y : WIn (AtB hp o), y.w.cell? ⟨hp, 8, none⟩ = some (.int .i64 ((S.last : Int) + 1)) := fun y => (cell_of (Eq.trans y.h (congrArg some ho)) 8).trans rfl
              haveI ne : Nonempty (WIn (AtB hp o)) := ⟨⟨W2.drew, S0⟩⟩
              have HO := Lib.hid ho
              have HS2 := Lib.hid s2
              have HR2 := Lib.hid hr2
              clear ho s2 hr2
              refine wp_normal ?_
              refine wp_region_plan 16 (AtB hp o) rfl ?_
              refine wpN_seg [0, 1, 2, 3, 4, 5, 6, 7, 8, 9, 10] (by kernel_rfl) (by kernel_rfl) (by kernel_rfl) (by kernel_rfl) (by decide) (fun _ _ _ _ _ h => h) S0 ?_
              simp only [pick, List.map_cons, List.map_nil, List.getElem?_cons_succ, List.getElem?_cons_zero, Option.getD_some]
              repeat (go_big_quiet_step (fail))
              refine wpQuiet_nil ?_
              clear g7 g8 ne
              refine wpN_one 11 _ (by kernel_rfl) rfl ?_
              refine NextAt.held ?_
              intro K hK
              go_simp
              refine hK _ _ S0 ?_
              clear hK K
              refine wpN_one 12 _ (by kernel_rfl) rfl ?_
              refine NextAt.held ?_
              intro K hK
              go_simp
              have AZ : (W2.alloc (.cells #[.int .i64 ((S.last : Int) + 1), .int .i64 (at' : Int), .int .i64 (N : Int)] 78)).drew.heap[W2.heap.size]? = some (.cells [.int .i64 ((S.last : Int) + 1), .int .i64 (at' : Int), .int .i64 (N : Int)].toArray 78 (0, 0)) := heap_alloc_new W2 _
              have BZ : Below W2.heap.size W2 (W2.alloc (.cells #[.int .i64 ((S.last : Int) + 1), .int .i64 (at' : Int), .int .i64 (N : Int)] 78)).drew := ((Below.refl _ W2).alloc (Nat.le_refl _) _).drew
              have S1 : AtB hp o (W2.alloc (.cells #[.int .i64 ((S.last : Int) + 1), .int .i64 (at' : Int), .int .i64 (N : Int)] 78)).drew := (BZ.block hp (lt_of HS2.out)).trans S0
              refine hK _ _ S1 ?_
              clear hK K
              have hr3 := ownsRow_same HR2.out (fun k hk => BZ.block k (HR2.out.lt k hk).2)
              have hgz : W2.grownBy (W2.alloc (.cells #[.int .i64 ((S.last : Int) + 1), .int .i64 (at' : Int), .int .i64 (N : Int)] 78)).drew none := ⟨rfl, rfl, rfl, BZ.size, fun k hk _ => BZ.block k hk⟩
              obtain ⟨g, cap, w9, hrun, hrow9, hb9, hg9, hpl9⟩ := append_blk (us := [.int .i64 ((S.last : Int) + 1), .int .i64 (at' : Int), .int .i64 (N : Int)]) hr3 AZ rfl (by intro u hu; simp at hu; rcases hu with rfl | rfl | rfl <;> rfl) (by omega) (Nat.zero_le _) 39
              have hgr : W2.grownBy w9 (Value.slice va BL vc).ownBlock := ⟨hg9.os, hg9.tape, hg9.output, Nat.le_trans BZ.size hg9.size, fun k hk hne => (hg9.block k (Nat.lt_of_lt_of_le hk BZ.size) hne).trans (BZ.block k hk)⟩
              have hpl : (Value.slice va BL vc).ownBlock = some g ∨ W2.heap.size ≤ g := hpl9.imp id (fun e => Nat.le_trans BZ.size e)
              have hne : (Value.slice va BL vc).ownBlock ≠ some hp := fun e => by
                have h1 := HHB.out.hm.apart.1 hp (by rw [HVB.out, HBL.out]; exact e)
                exact h1 rfl
              have S9 : AtB hp o w9 := (hgr.block hp (lt_of HS2.out) (fun e => hne e.symm)).trans S0
              refine wpN_one 13 _ (by kernel_rfl) rfl ?_
              refine NextAt.held ?_
              intro K hK
              refine step_append_known rfl (.tmp 65) (.tmp 73) 39 rfl _ _ _ (by rfl) (by rfl) hrun ?_
              go_simp
              refine hK _ _ S9 ?_
              clear hK K
              refine wpN_pure [14, 15] (by kernel_rfl) (by kernel_rfl) (by kernel_rfl) (fun _ _ _ _ _ h => h) (fun _ => S9) ?_
              simp only [pick, List.map_cons, List.map_nil, List.getElem?_cons_succ, List.getElem?_cons_zero, Option.getD_some]
              repeat (go_big_quiet_step (fail))
              refine wpQuiet_nil ?_
              have hgl : g < w9.heap.size := (hrow9.lt g rfl).2
              obtain ⟨F2, hF2⟩ := HHB.out.added (n := N) (w1 := w9) (cap := cap) FIN.out.2.1 (by rw [HBL.out]; have := HFU.out; omega) hl1 (by rw [HBL.out]; exact hrow9) (by rw [HW2.out, HVB.out, HBL.out]; exact hgr) (by rw [HVB.out, HBL.out]; exact hpl.imp id (fun e => by rw [← HW2.out] at e; simpa [World.setCell] using e)) hgl
              rw [HBL.out] at hF2
              have s9 : w9.heap[hp]? = _ := S9.trans (congrArg some HO.out)
              have fz9 := free_of s9 7
              have d7 : w9.cell? ⟨hp, 7, none⟩ = some (.slice va BL vc) := (cell_of s9 7).trans rfl
              have d8 : w9.cell? ⟨hp, 8, none⟩ = some (.int .i64 ((S.last : Int) + 1)) := (cell_of s9 8).trans rfl
              refine wpN_one 16 _ (by kernel_rfl) rfl ?_
              refine NextAt.free (by kernel_rfl) ?_
              intro K hK
              go_simp
              refine hK _ _ ?_
              clear hK K
              refine wpN_done (by kernel_rfl) ?_
              have hs2 : wc.heap.size = W2.heap.size := by rw [← HW2.out]; simp [World.setCell]
              have FIN2 : Hid (AlPost w hp bp S vm vb vh vhs F G M (N : Int) way (.returned (.tuple #[.int .i64 ((S.last : Int) + 1), .int .i64 0])) (w9.setCell ⟨hp, 7, none⟩ (.slice (some ⟨g, 0, none⟩) (BL + 1) cap))) := Lib.hid (by
                obtain ⟨q1, q2, q3, q4, q5⟩ := FIN.out
                obtain ⟨r1, r2, r3, r4⟩ := hF2
                have hz := q5.size
                refine Or.inr ⟨HE0.out, rfl, at', mem2, vm2, _, F2, G', b', ?_, by rw [Int.toNat_natCast]; exact q2, by rw [Int.toNat_natCast]; exact r1, HMT.out, fun k hk => ?_, q4, ?_⟩
                · rcases q1 with ⟨a1, a2, a3⟩ | ⟨a1, mem1, a2, a3, a4⟩
                  · exact Or.inl ⟨by omega, a2, a3⟩
                  · exact Or.inr ⟨by omega, mem1, by rw [Int.toNat_natCast]; exact a2, a3, by rw [Int.toNat_natCast]; exact a4⟩
                · rcases r3 k hk with e | e
                  · exact q3 k e
                  · exact Or.inr (by omega)
                · exact q5.trans r4 (fun k hk => (q3 k hk).imp Or.inl id))
              have e8 : (w9.setCell ⟨hp, 7, none⟩ (.slice (some ⟨g, 0, none⟩) (BL + 1) cap)).cell? ⟨hp, 8, none⟩ = some (.int .i64 ((S.last : Int) + 1)) := (cell_of (block_setCell s9 7 (.slice (some ⟨g, 0, none⟩) (BL + 1) cap)) 8).trans rfl
              clear hF2 d7 d8 fz9 s9 hgr hpl hne S9 hrun hrow9 hb9 hg9 hpl9 hr3 hgz AZ BZ S1 S0
              generalize w9.setCell ⟨hp, 7, none⟩ (.slice (some ⟨g, 0, none⟩) (BL + 1) cap) = w10 at *
              go_wp2_with fail
              go_ret2
              exact FIN2.out

end Go.Proofs.YtjogaohnphafgaaGreat
