/-
  cuts: the memories and the rows as they grow. No conditions but bounds.
-/
import Derived.Test.YtclpkmplifcfjaaWatchSlicesPbv
import Derived.Test.YtclpkmplifcfjaaWatchSlicesPac
namespace Go.Proofs.Ytclpkmplifcfjaa
open Go.RowKit
set_option linter.unusedVariables false

/-- Three memories of 60 octets. -/
structure Mem3 (w wr : World) (g0 g1 g2 : Nat) (M : Nat → Nat → Int) : Prop where
  r0 : RowF wr g0 60 (M g0)
  r1 : RowF wr g1 60 (M g1)
  r2 : RowF wr g2 60 (M g2)
  ge : w.heap.size ≤ g0 ∧ w.heap.size ≤ g1 ∧ w.heap.size ≤ g2
  ne : g0 ≠ g1 ∧ g0 ≠ g2 ∧ g1 ≠ g2
def MemsCut (w : World) (s6 : Value) (wx : World) : Prop :=
  ∃ b g0 g1 g2, s6 = .slice (some ⟨b, 0, none⟩) 3 3 ∧ wx.heap[b]? = some (.cells #[.slice (some ⟨g0, 0, none⟩) 60 60, .slice (some ⟨g1, 0, none⟩) 60 60, .slice (some ⟨g2, 0, none⟩) 60 60] 22 (0, 0)) ∧ w.heap.size ≤ b ∧ Mem3 w wx g0 g1 g2 (fun _ _ => 0) ∧ Below w.heap.size w wx

theorem mems_ok (w : World) (i0 i1 i2 : Nat) (h : i0 ≤ 2 ∧ i1 ≤ 2 ∧ i2 ≤ 2 ∧ i0 ≠ i1 ∧ i0 ≠ i2 ∧ i1 ≠ i2) :
    MemsCut w (.slice (some ⟨w.heap.size + 1 + 1 + 1, 0, none⟩) 3 3) ((((w.alloc (.cells (Array.replicate 60 (.int .u8 0)) 5)).alloc (.cells (Array.replicate 60 (.int .u8 0)) 5)).alloc (.cells (Array.replicate 60 (.int .u8 0)) 5)).alloc
      (.cells #[.slice (some ⟨w.heap.size + i0, 0, none⟩) 60 60, .slice (some ⟨w.heap.size + i1, 0, none⟩) 60 60, .slice (some ⟨w.heap.size + i2, 0, none⟩) 60 60] 22)).drew := by
  generalize hO : Obj.cells (Array.replicate 60 (.int .u8 0)) 5 = O
  generalize hC : Obj.cells #[.slice (some ⟨w.heap.size + i0, 0, none⟩) 60 60, .slice (some ⟨w.heap.size + i1, 0, none⟩) 60 60, .slice (some ⟨w.heap.size + i2, 0, none⟩) 60 60] 22 = C
  have s1 : (w.alloc O).heap.size = w.heap.size + 1 := by simp
  have s2 : ((w.alloc O).alloc O).heap.size = w.heap.size + 2 := by simp
  have s3 : (((w.alloc O).alloc O).alloc O).heap.size = w.heap.size + 3 := by simp
  have n0 : (w.alloc O).heap[w.heap.size]? = some O := heap_alloc_new _ _
  have n1 : ((w.alloc O).alloc O).heap[w.heap.size + 1]? = some O := by rw [← s1]; exact heap_alloc_new _ _
  have n2 : (((w.alloc O).alloc O).alloc O).heap[w.heap.size + 2]? = some O := by rw [← s2]; exact heap_alloc_new _ _
  have n3 : ((((w.alloc O).alloc O).alloc O).alloc C).heap[w.heap.size + 3]? = some C := by rw [← s3]; exact heap_alloc_new _ _
  have at_ : ∀ i, i ≤ 2 → ((((w.alloc O).alloc O).alloc O).alloc C).heap[w.heap.size + i]? = some O := fun i hi => by
    rw [heap_alloc_old _ _ (by omega)]
    rcases (show i = 0 ∨ i = 1 ∨ i = 2 by omega) with rfl | rfl | rfl
    · rw [heap_alloc_old _ _ (by omega), heap_alloc_old _ _ (by omega)]; exact n0
    · rw [heap_alloc_old _ _ (by omega)]; exact n1
    · exact n2
  have row : ∀ i, i ≤ 2 → RowF ((((w.alloc O).alloc O).alloc O).alloc C).drew (w.heap.size + i) 60 (fun _ => 0) := fun i hi => by
    have := at_ i hi
    have e : O = Obj.cells ((((List.range 60).map (fun _ => (0 : Int))).map (Value.int .u8)).toArray) 5 := by rw [← hO]; kernel_rfl
    exact this.trans (congrArg some e)
  obtain ⟨a1, a2, a3, a4, a5, a6⟩ := h
  refine ⟨w.heap.size + 1 + 1 + 1, w.heap.size + i0, w.heap.size + i1, w.heap.size + i2, rfl, ?_, by omega, ⟨row i0 a1, row i1 a2, row i2 a3, ⟨by omega, by omega, by omega⟩, ⟨by omega, by omega, by omega⟩⟩, ?_⟩
  · rw [hC]; exact n3
  · exact (((((Below.refl w.heap.size w).alloc (Nat.le_refl _) O).alloc (by rw [s1]; omega) O).alloc (by rw [s2]; omega) O).alloc (by rw [s3]; omega) C).drew

theorem Mem3.put {w wr : World} {g0 g1 g2 : Nat} {M : Nat → Nat → Int} (h : Mem3 w wr g0 g1 g2 M) (g j : Nat) (z : Int) : Mem3 w (wr.setCell ⟨g, j, none⟩ (.int .u8 z)) g0 g1 g2 (fun g' i => if g' = g ∧ i = j then z else M g' i) := by
  have one : ∀ g', RowF wr g' 60 (M g') → RowF (wr.setCell ⟨g, j, none⟩ (.int .u8 z)) g' 60 (fun i => if g' = g ∧ i = j then z else M g' i) := fun g' hr => by
    by_cases e : g' = g
    · subst e
      exact (hr.set j z).congr (fun i _ => by simp)
    · exact (hr.other e j _).congr (fun i _ => by simp [e])
  exact ⟨one _ h.r0, one _ h.r1, one _ h.r2, h.ge, h.ne⟩
theorem Mem3.pick {w wr : World} {b g0 g1 g2 : Nat} {M : Nat → Nat → Int} (h : Mem3 w wr g0 g1 g2 M) (hb : wr.heap[b]? = some (.cells #[.slice (some ⟨g0, 0, none⟩) 60 60, .slice (some ⟨g1, 0, none⟩) 60 60, .slice (some ⟨g2, 0, none⟩) 60 60] 22 (0, 0))) {k : Nat} (hk : k < 3) :
    ∃ g, wr.cell? ⟨b, k, none⟩ = some (.slice (some ⟨g, 0, none⟩) 60 60) ∧ RowF wr g 60 (M g) ∧ w.heap.size ≤ g ∧ (k = 0 → g = g0) ∧ (k = 1 → g = g1) ∧ (k = 2 → g = g2) ∧ (g = g0 ∨ g = g1 ∨ g = g2) := by
  rcases (show k = 0 ∨ k = 1 ∨ k = 2 by omega) with rfl | rfl | rfl
  · exact ⟨g0, by rw [cell_of hb]; rfl, h.r0, h.ge.1, fun _ => rfl, fun e => by omega, fun e => by omega, Or.inl rfl⟩
  · exact ⟨g1, by rw [cell_of hb]; rfl, h.r1, h.ge.2.1, fun e => by omega, fun _ => rfl, fun e => by omega, Or.inr (Or.inl rfl)⟩
  · exact ⟨g2, by rw [cell_of hb]; rfl, h.r2, h.ge.2.2, fun e => by omega, fun e => by omega, fun _ => rfl, Or.inr (Or.inr rfl)⟩
/-- The memories, and the row that holds them. -/
structure Mems (w wr : World) (b g0 g1 g2 : Nat) : Prop where
  bx : wr.heap[b]? = some (.cells #[.slice (some ⟨g0, 0, none⟩) 60 60, .slice (some ⟨g1, 0, none⟩) 60 60, .slice (some ⟨g2, 0, none⟩) 60 60] 22 (0, 0))
  m : ∃ M, Mem3 w wr g0 g1 g2 M
  be : Below w.heap.size w wr
theorem Mems.put {w wr : World} {b g0 g1 g2 : Nat} (h : Mems w wr b g0 g1 g2) {g : Nat} (hg : g = g0 ∨ g = g1 ∨ g = g2) (j : Nat) (z : Int) : Mems w (wr.setCell ⟨g, j, none⟩ (.int .u8 z)) b g0 g1 g2 := by
  obtain ⟨hb, ⟨M, hm⟩, hbe⟩ := h
  have hne : b ≠ g := fun e => by
    have ty : ∀ g', RowF wr g' 60 (M g') → b ≠ g' := fun g' hr e' => by
      have hr' : wr.heap[g']? = some _ := hr
      rw [← e', hb] at hr'
      simp only [Option.some.injEq, Obj.cells.injEq] at hr'
      exact absurd hr'.2.1 (by decide)
    rcases hg with rfl | rfl | rfl
    · exact ty _ hm.r0 e
    · exact ty _ hm.r1 e
    · exact ty _ hm.r2 e
  refine ⟨(Below.heap_setCell _ _ _ _ hne).trans hb, ⟨_, hm.put g j z⟩, hbe.setCell (p := ⟨g, j, none⟩) ?_ _⟩
  show w.heap.size ≤ g
  rcases hg with rfl | rfl | rfl
  · exact hm.ge.1
  · exact hm.ge.2.1
  · exact hm.ge.2.2

def Cu.g (g0 g1 g2 : Nat) (c : Cu) : Nat := if c.m = 0 then g0 else if c.m = 1 then g1 else g2
def Cu.room (c : Cu) : Nat := if c.m = 2 then 60 else c.t
def Cu.ad (g0 g1 g2 : Nat) (c : Cu) : Addr := if c.room = c.f then ⟨c.g g0 g1 g2, 0, none⟩ else ⟨c.g g0 g1 g2, c.f, none⟩
def Cu.sl (g0 g1 g2 : Nat) (c : Cu) : Value := .slice (some (c.ad g0 g1 g2)) (c.t - c.f) (c.room - c.f)
/-- Between two rounds. -/
structure CL (w wr : World) (b g0 g1 g2 k : Nat) (ov av : Value) (cs : List Cu) : Prop where
  len : cs.length = k
  bd : ∀ c ∈ cs, c.m ≤ 2 ∧ c.f ≤ c.t ∧ c.t ≤ 60
  me : Mems w wr b g0 g1 g2
  o : wr.ownsRow (b + 1) 22 1 ov k (cs.map (Cu.sl g0 g1 g2))
  a : wr.ownsRow (b + 1) 47 3 av k (cs.flatMap Cu.cells)
theorem tmod_in (x : Int) (n : Int) (hn : 0 < n) : ∃ r, Int.tmod x n = r ∧ -n < r ∧ r < n := ⟨_, rfl, by
  have h1 := Int.natAbs_tmod x n
  have h2 := Int.lt_tmod_of_pos x hn
  exact h2, Int.tmod_lt_of_pos x hn⟩
theorem tmod_nat (r : Int) (n : Int) (hn : 0 < n) (h : -n < r) : ∃ m : Nat, Int.tmod (r + n) n = (m : Int) ∧ (m : Int) < n :=
  ⟨(Int.tmod (r + n) n).toNat, by have := Int.tmod_nonneg n (a := r + n) (by omega); omega, by
    have h1 := Int.tmod_nonneg n (a := r + n) (by omega)
    have h2 := Int.tmod_lt_of_pos (r + n) hn
    omega⟩


theorem Mems.same {w X X' : World} {b g0 g1 g2 : Nat} (h : Mems w X b g0 g1 g2) (hk : ∀ k, (k = b ∨ k = g0 ∨ k = g1 ∨ k = g2) → X'.heap[k]? = X.heap[k]?) (hb : Below w.heap.size w X') : Mems w X' b g0 g1 g2 := by
  obtain ⟨hbx, ⟨M, hm⟩, _⟩ := h
  exact ⟨(hk b (Or.inl rfl)).trans hbx, ⟨M, hm.r0.keep (hk _ (Or.inr (Or.inl rfl))), hm.r1.keep (hk _ (Or.inr (Or.inr (Or.inl rfl)))), hm.r2.keep (hk _ (Or.inr (Or.inr (Or.inr rfl)))), hm.ge, hm.ne⟩, hb⟩
theorem Mems.cells {w X : World} {b g0 g1 g2 : Nat} (h : Mems w X b g0 g1 g2) {k : Nat} (hk : k = b ∨ k = g0 ∨ k = g1 ∨ k = g2) : k < X.heap.size ∧ ∃ cs t, X.heap[k]? = some (.cells cs t (0, 0)) ∧ (k = b ∨ t = 5) := by
  obtain ⟨hbx, ⟨M, hm⟩, _⟩ := h
  rcases hk with rfl | rfl | rfl | rfl
  · exact ⟨lt_of hbx, _, _, hbx, Or.inl rfl⟩
  · exact ⟨lt_of hm.r0, _, _, hm.r0, Or.inr rfl⟩
  · exact ⟨lt_of hm.r1, _, _, hm.r1, Or.inr rfl⟩
  · exact ⟨lt_of hm.r2, _, _, hm.r2, Or.inr rfl⟩

/-- In the midst of a round. -/
structure QC (w X : World) (b g0 g1 g2 bx : Nat) (c : Cu) (no : Nat) (ov : Value) (os : List Value) (na : Nat) (av : Value) (zz : List Value) : Prop where
  me : Mems w X b g0 g1 g2
  hx : X.heap[bx]? = some (.cells #[.int .i64 (c.m : Int), .int .i64 (c.f : Int), .int .i64 (c.t : Int)] 47 (0, 0))
  bw : w.heap.size ≤ b
  ba : ∀ k, av.ownBlock = some k → k ≠ bx
  o : X.ownsRow (b + 1) 22 1 ov no os
  a : X.ownsRow (b + 1) 47 3 av na zz
theorem QC.alloc {w X : World} {b g0 g1 g2 bx no na : Nat} {c : Cu} {ov av : Value} {os zz : List Value} (h : QC w X b g0 g1 g2 bx c no ov os na av zz) (o : Obj) : QC w (X.alloc o) b g0 g1 g2 bx c no ov os na av zz :=
  ⟨h.me.same (fun k hk => heap_alloc_old X o (h.me.cells hk).1) (h.me.be.alloc h.me.be.size o), (heap_alloc_old X o (lt_of h.hx)).trans h.hx, h.bw, h.ba, h.o.alloc o, h.a.alloc o⟩
theorem QC.drew {w X : World} {b g0 g1 g2 bx no na : Nat} {c : Cu} {ov av : Value} {os zz : List Value} (h : QC w X b g0 g1 g2 bx c no ov os na av zz) : QC w X.drew b g0 g1 g2 bx c no ov os na av zz :=
  ⟨h.me.same (fun k hk => rfl) h.me.be.drew, h.hx, h.bw, h.ba, h.o, h.a⟩
theorem infoCut : (Try.prog.info? 47).map (fun i => (i.zero, i.size, i.bytes)) = some (some (.agg #[.int .i64 0, .int .i64 0, .int .i64 0]), 3, 24) := by kernel_rfl

theorem QC.app1 {w X : World} {b g0 g1 g2 bx no na : Nat} {c : Cu} {ov av : Value} {os zz : List Value} (h : QC w X b g0 g1 g2 bx c no ov os na av zz) {p : Nat} {u : Value} (hu : u.oneCell' = true) (hp : X.heap[p]? = some (.cells #[u] 22 (0, 0))) (hn : no ≤ 100000) :
    ∃ g cap X', (Builtin.append_ #[31, 31] 31 #[ov, .slice (some ⟨p, 0, none⟩) 1 1]).run Try.prog X = .ok (.slice (some ⟨g, 0, none⟩) (no + 1) cap) X' ∧
      QC w X' b g0 g1 g2 bx c (no + 1) (.slice (some ⟨g, 0, none⟩) (no + 1) cap) (os ++ [u]) na av zz ∧ ∀ (k : Nat) cs t, X.heap[k]? = some (.cells cs t (0, 0)) → t ≠ 22 → X'.heap[k]? = some (.cells cs t (0, 0)) := by
  obtain ⟨i0, hi0, hz0, hz1, hz2⟩ := info_parts infoSlB
  have hbs := lt_of h.me.bx
  obtain ⟨g, cap, X', hrun, hown, hgr, hpl⟩ := run_append_place (P := Try.prog) X (b + 1) 31 31 22 i0 (.slice none 0 0) 1 24 Try.underlying31 hi0 hz0 hz1 hz2 rfl (by omega) _ _ _ h.o ⟨p, 0, none⟩ 1 1 [u] rfl (fun j v hj => by
    match j, hj with
    | 0, hj =>
      simp only [List.getElem?_cons_zero, Option.some.injEq] at hj
      subst hj
      have e1 : (⟨p, 0, none⟩ : Addr).add 0 = ⟨p, 0, none⟩ := rfl
      rw [e1, cell_of hp]; rfl
    | j + 1, hj => simp at hj) (by intro v hv; simp at hv; subst hv; exact hu) (by omega) (by unfold maxLen; omega) (by omega) (by omega)
  have keep : ∀ (k : Nat) cs t, X.heap[k]? = some (.cells cs t (0, 0)) → (k = b ∨ t ≠ 22) → X'.heap[k]? = some (.cells cs t (0, 0)) := fun k cs t h1 h2 => by
    refine (hgr.block k (lt_of h1) (fun e => ?_)).trans h1
    rcases h2 with rfl | h2
    · have := (h.o.lt k e.symm).1; omega
    · obtain ⟨cur, h4⟩ := row_block h.o e.symm
      rw [h1] at h4
      simp only [Option.some.injEq, Obj.cells.injEq] at h4
      exact h2 h4.2.1
  refine ⟨g, cap, X', hrun, ⟨h.me.same (fun k hk => ?_) (h.me.be.grown hgr h.me.be.size (fun k hk => by have := (h.o.lt k hk).1; have := h.bw; omega)), keep _ _ _ h.hx (Or.inr (by decide)), h.bw, h.ba, hown, ownsRow_same h.a (fun k hk => ?_)⟩, fun k cs t h1 h2 => keep k cs t h1 (Or.inr h2)⟩
  · obtain ⟨_, cs, t, h1, h2⟩ := h.me.cells hk
    rw [keep k cs t h1 (h2.imp id (fun e => by rw [e]; decide)), h1]
  · obtain ⟨cur, h4⟩ := row_block h.a hk
    rw [keep k _ _ h4 (Or.inr (by decide)), h4]

theorem QC.app2 {w X : World} {b g0 g1 g2 bx no na : Nat} {c : Cu} {ov av : Value} {os zz : List Value} (h : QC w X b g0 g1 g2 bx c no ov os na av zz) {p : Nat} (hp : X.heap[p]? = some (.cells #[.int .i64 (c.m : Int), .int .i64 (c.f : Int), .int .i64 (c.t : Int)] 47 (0, 0))) (hn : na ≤ 100000) :
    ∃ g cap X', (Builtin.append_ #[41, 41] 41 #[av, .slice (some ⟨p, 0, none⟩) 1 1]).run Try.prog X = .ok (.slice (some ⟨g, 0, none⟩) (na + 1) cap) X' ∧
      Mems w X' b g0 g1 g2 ∧ X'.ownsRow (b + 1) 22 1 ov no os ∧ X'.ownsRow (b + 1) 47 3 (.slice (some ⟨g, 0, none⟩) (na + 1) cap) (na + 1) (zz ++ Cu.cells c) ∧ X'.heap[bx]? = X.heap[bx]? := by
  obtain ⟨i0, hi0, hz0, hz1, hz2⟩ := info_parts infoCut
  have hbs := lt_of h.me.bx
  obtain ⟨g, cap, X', hrun, hown, hgr, hpl⟩ := run_append_place (P := Try.prog) X (b + 1) 41 41 47 i0 (.agg #[.int .i64 0, .int .i64 0, .int .i64 0]) 3 24 Try.underlying41 hi0 hz0 hz1 hz2 rfl (by omega) _ _ _ h.a ⟨p, 0, none⟩ 1 1 (Cu.cells c) rfl (fun j v hj => by
    have e1 : (⟨p, 0, none⟩ : Addr).add j = ⟨p, j, none⟩ := by unfold Addr.add; split <;> simp_all
    rw [e1, cell_of hp]
    match j, hj with
    | 0, hj => simpa [Cu.cells] using hj
    | 1, hj => simpa [Cu.cells] using hj
    | 2, hj => simpa [Cu.cells] using hj
    | j + 3, hj => simp [Cu.cells] at hj) (by intro v hv; simp [Cu.cells] at hv; rcases hv with rfl | rfl | rfl <;> rfl) (by omega) (by unfold maxLen; omega) (by omega) (by omega)
  have keep : ∀ (k : Nat) cs t, X.heap[k]? = some (.cells cs t (0, 0)) → t ≠ 47 → X'.heap[k]? = some (.cells cs t (0, 0)) := fun k cs t h1 h2 => by
    refine (hgr.block k (lt_of h1) (fun e => ?_)).trans h1
    obtain ⟨cur, h4⟩ := row_block h.a e.symm
    rw [h1] at h4
    simp only [Option.some.injEq, Obj.cells.injEq] at h4
    exact h2 h4.2.1
  refine ⟨g, cap, X', hrun, h.me.same (fun k hk => ?_) (h.me.be.grown hgr h.me.be.size (fun k hk => by have := (h.a.lt k hk).1; have := h.bw; omega)), ownsRow_same h.o (fun k hk => ?_), hown, hgr.block bx (lt_of h.hx) (fun e => h.ba bx e.symm rfl)⟩
  · obtain ⟨_, cs, t, h1, h2⟩ := h.me.cells hk
    rcases h2 with e | e
    · subst e
      have := h.me.bx
      rw [keep _ _ _ this (by decide), this]
    · subst e
      rw [keep k cs _ h1 (by decide), h1]
  · obtain ⟨cur, h4⟩ := row_block h.o hk
    rw [keep k _ _ h4 (by decide), h4]

end Go.Proofs.Ytclpkmplifcfjaa
