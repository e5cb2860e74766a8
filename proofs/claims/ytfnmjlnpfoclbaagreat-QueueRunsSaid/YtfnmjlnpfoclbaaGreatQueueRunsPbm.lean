/-
  Add: what it gives. No conditions.
-/
import Derived.Test.YtfnmjlnpfoclbaaGreatQueueRunsPbl
namespace Go.Proofs.YtfnmjlnpfoclbaaGreat
open Go.RowKit

theorem step_append_one2 {P : Program} {ops : Array Oper} {o : Oper} {a : Act} {K : Act → World → Prop} {Q : Exit → Act → World → Prop} {E : Prop}
    (hg : o.guard = none) (s x : Operand) (t : TypeId) (hop : o.op = Op.call { callee := Callee.builtin Builtin.append, args := #[s, x], argTypes := #[t, t] })
    (base : Nat) (e : TypeId) (i : TypeInfo) (z : Value) (bytes : Nat) (ht : P.underlying t = some (.slice e)) (hi : P.info? e = some i) (hz : i.zero = some z)
    (hsize : i.size = 1) (hby : i.bytes = bytes) (hzs : z.cells.size = 1)
    (v : Value) (n : Nat) (xs : List Value) (wr : World) (u : Value) (bx : Nat) (hs : a.eval s = v) (hown : wr.ownsRow base e 1 v n xs)
    (hx : a.eval x = .slice (some ⟨bx, 0, none⟩) 1 1) (hu : wr.cell? ⟨bx, 0, none⟩ = some u) (h1 : u.oneCell' = true)
    (h63 : n + 1 ≤ maxLen) (hbytes : (n + 1) * bytes ≤ 140737488355328) (hbase : base ≤ wr.heap.size)
    (h : ∀ g cap w', w'.ownsRow base e 1 (.slice (some ⟨g, 0, none⟩) (n + 1) cap) (n + 1) (xs ++ [u]) → wr.grownBy w' v.ownBlock → (v.ownBlock = some g ∨ wr.heap.size ≤ g) → K (a.put o.dst (.slice (some ⟨g, 0, none⟩) (n + 1) cap)) w') :
    if Region.wanted o (yielded ops a.tmps) = true then Oper.wp P o a wr K Q else E := by
  have hw : Region.wanted o (yielded ops a.tmps) = true := by simp [Region.wanted, hg]
  rw [if_pos hw]
  have hnews : ∀ j y, [u][j]? = some y → wr.cell? ((⟨bx, 0, none⟩ : Addr).add j) = some y := by
    intro j y hj
    match j, hj with
    | 0, hj => simp at hj; subst hj; simpa [Addr.add] using hu
  obtain ⟨g, cap, w', hr, ho, hg', hp⟩ := run_append_place (P := P) wr base t o.type e i z 1 bytes ht hi hz hsize hby hzs (by decide) v n xs hown ⟨bx, 0, none⟩ 1 1 [u] (by simp) hnews (by simpa using h1) (by omega) h63 hbytes hbase
  unfold Oper.wp execOp
  simp only [hop, resolve, invoke, builtin, Sem.run_bind, Sem.run_pure, Result.andThen_ok, List.map_toArray, List.map_cons, List.map_nil, hs, hx, hr]
  exact h g cap w' ho hg' hp

theorem cell_new1 (W : World) (u : Value) (t : TypeId) : (W.alloc (.cells #[u] t)).cell? ⟨W.heap.size, 0, none⟩ = some u := by
  rw [cell_of_row _ _ _ _ _ _ (heap_alloc_new W _)]; rfl
theorem cell_new2 (W : World) (u : Value) (t : TypeId) : (W.alloc (.cells #[u] t)).drew.cell? ⟨W.heap.size, 0, none⟩ = some u := cell_new1 W u t

theorem cell_blk {W W' : World} {b o : Nat} (h : W'.heap[b]? = W.heap[b]?) : W'.cell? ⟨b, o, none⟩ = W.cell? ⟨b, o, none⟩ := by
  unfold World.cell?; rw [h]
theorem cell_drew {W : World} {p : Addr} {u : Value} (h : W.cell? p = some u) : W.drew.cell? p = some u := h
theorem cell_elder {W : World} {X : Obj} {b : Nat} {u : Value} (hl : b < W.heap.size) (h : W.cell? ⟨b, 0, none⟩ = some u) : (W.alloc X).cell? ⟨b, 0, none⟩ = some u :=
  (cell_blk (heap_alloc_old W X hl)).trans h
theorem cell_elder1 {W : World} {X : Obj} {b : Nat} {u : Value} (hl : b < W.heap.size) (h : W.cell? ⟨b, 1, none⟩ = some u) : (W.alloc X).cell? ⟨b, 1, none⟩ = some u :=
  (cell_blk (heap_alloc_old W X hl)).trans h
theorem cell_grown {W W' : World} {r : Option Nat} (hg : W.grownBy W' r) {b : Nat} {u : Value} (hl : b < W.heap.size) (hr : some b ≠ r) (h : W.cell? ⟨b, 0, none⟩ = some u) : W'.cell? ⟨b, 0, none⟩ = some u :=
  (cell_blk (hg.block b hl hr)).trans h

def need1325 (L : Array Bool) : Bool := !(L.getD 13 true && L.getD 25 true)
theorem need_set (L : Array Bool) (i : Nat) (h1 : i ≠ 13) (h2 : i ≠ 25) : need1325 (L.setIfInBounds i true) = need1325 L := by
  unfold need1325; rw [getD_set_ne true h1, getD_set_ne true h2]
theorem need13 (L : Array Bool) (h : L.getD 13 true = false) : need1325 L = true := by unfold need1325; rw [h]; rfl
theorem need25 (L : Array Bool) (h : L.getD 25 true = false) : need1325 L = true := by unfold need1325; rw [h]; simp

theorem infoBytes : (Tryz.prog.info? 42).map (fun i => (i.zero, i.size, i.bytes)) = some (some (.slice none 0 0), 1, 24) := by kernel_rfl


theorem row_grown {B : Nat} {v : Value} {n : Nat} {xs : List Value} {e : TypeId} {W W' : World} {r : Option Nat} (h : W.ownsRow B e 1 v n xs) (hg : W.grownBy W' r) (hne : ∀ k, v.ownBlock = some k → some k ≠ r) : W'.ownsRow B e 1 v n xs :=
  ownsRow_same h (fun k hk => by
    obtain ⟨cur, h1⟩ := row_block h hk
    exact hg.block k (lt_of h1) (hne k hk))

theorem pr_snoc {R : Rel} {prs : List (Value × Value)} {xy : Value × Value} (h : ∀ z ∈ prs, Pr R z) (h1 : Pr R xy) : ∀ z ∈ prs ++ [xy], Pr R z := by
  intro z hz
  rcases List.mem_append.1 hz with hz | hz
  · exact h z hz
  · rw [List.mem_singleton.1 hz]; exact h1

theorem row_base {B : Nat} {v : Value} {n : Nat} {xs : List Value} {e : TypeId} {W : World} (h : W.ownsRow B e 1 v n xs) {k : Nat} (hk : v.ownBlock = some k) : B ≤ k := by
  rcases h.2 with ⟨rfl, _⟩ | ⟨g, cap, cur, rfl, hb, _⟩
  · simp [Value.ownBlock] at hk
  · simp [Value.ownBlock] at hk; omega

theorem Twins.same {w w' : World} {B : Nat} {R : Rel} (h : Twins w B R) (hb : ∀ (k : Nat) (cs : Array Value), w.heap[k]? = some (.cells cs 5 (0, 0)) → w'.heap[k]? = w.heap[k]?) : Twins w' B R := by
  refine ⟨fun b o c p hr => ?_, fun b o c p hr => ?_, h.one, h.inj, h.apart⟩
  · obtain ⟨z, z0, z1, h1, h2⟩ := h.val b o c p hr
    obtain ⟨_, _, ⟨cs, r1⟩, ⟨ds, r2⟩⟩ := h.row b o c p hr
    exact ⟨z, z0, z1, (cell_blk (hb b cs r1)).trans h1, (cell_blk (hb c ds r2)).trans h2⟩
  · obtain ⟨b1, b2, ⟨cs, h1⟩, ⟨ds, h2⟩⟩ := h.row b o c p hr
    exact ⟨b1, b2, ⟨cs, (hb b cs h1).trans h1⟩, ⟨ds, (hb c ds h2).trans h2⟩⟩

/-- The blocks of the watched slices' variable. -/
def CelF (w : World) (c : Nat) (k : Nat) : Prop := k = c ∨ ∃ vo vw, w.heap[c]? = some (.cells #[vo, vw] 41 (0, 0)) ∧ (vo.ownBlock = some k ∨ vw.ownBlock = some k)
/-- Only these blocks are turned, and what is new of them lies behind all that was. -/
def CelTo (B c : Nat) (w w' : World) : Prop := Below B w w' ∧ Touch (CelF w c) w w' ∧ ∀ k, CelF w' c k → CelF w c k ∨ w.heap.size ≤ k
theorem CelTo.drewN {B c : Nat} {w w' : World} (h : CelTo B c w w') (n : Nat) : CelTo B c w (w'.drewN n) := ⟨bdrewN h.1 n, h.2.1.then (Touch.of_below (bdrewN (Below.refl _ _) n)), h.2.2⟩

/-- What the two stores leave. -/
theorem add_end {w W : World} {B c : Nat} {R : Rel} {prs : List (Value × Value)} {vo vw x y : Value} {g1 g2 cap1 cap2 : Nat} (hBc : B ≤ c)
    (hcb : w.heap[c]? = some (.cells #[vo, vw] 41 (0, 0))) (ho : w.ownsRow B 42 1 vo prs.length (prs.map Prod.fst)) (hw : w.ownsRow B 42 1 vw prs.length (prs.map Prod.snd))
    (ht : Twins w B R) (hl : prs.length < 5500000000000) (hB : B ≤ w.heap.size)
    (T : Touch (fun k => vo.ownBlock = some k ∨ vw.ownBlock = some k) w W)
    (ra : W.ownsRow B 42 1 (.slice (some ⟨g1, 0, none⟩) (prs.length + 1) cap1) (prs.length + 1) (prs.map Prod.fst ++ [x]))
    (rb : W.ownsRow B 42 1 (.slice (some ⟨g2, 0, none⟩) (prs.length + 1) cap2) (prs.length + 1) (prs.map Prod.snd ++ [y]))
    (p1 : vo.ownBlock = some g1 ∨ w.heap.size ≤ g1) (p2 : vw.ownBlock = some g2 ∨ w.heap.size ≤ g2) (hne : g1 ≠ g2) :
    CellsAt ((W.setCell ⟨c, 0, none⟩ (.slice (some ⟨g1, 0, none⟩) (prs.length + 1) cap1)).setCell ⟨c, 1, none⟩ (.slice (some ⟨g2, 0, none⟩) (prs.length + 1) cap2)) B c (prs ++ [(x, y)]) ∧
    Twins ((W.setCell ⟨c, 0, none⟩ (.slice (some ⟨g1, 0, none⟩) (prs.length + 1) cap1)).setCell ⟨c, 1, none⟩ (.slice (some ⟨g2, 0, none⟩) (prs.length + 1) cap2)) B R ∧
    CelTo B c w ((W.setCell ⟨c, 0, none⟩ (.slice (some ⟨g1, 0, none⟩) (prs.length + 1) cap1)).setCell ⟨c, 1, none⟩ (.slice (some ⟨g2, 0, none⟩) (prs.length + 1) cap2)) := by
  have hco : vo.ownBlock ≠ some c := fun hk => by
    obtain ⟨cur, h⟩ := row_block ho hk; rw [hcb] at h; simp at h
  have hcw : vw.ownBlock ≠ some c := fun hk => by
    obtain ⟨cur, h⟩ := row_block hw hk; rw [hcb] at h; simp at h
  have hcW : W.heap[c]? = some (.cells #[vo, vw] 41 (0, 0)) := (T.block c (lt_of hcb) (fun h => h.elim hco hcw)).trans hcb
  have hc1 : c ≠ g1 := by
    rintro rfl
    rcases p1 with h | h
    · exact hco h
    · have := lt_of hcb; omega
  have hc2 : c ≠ g2 := by
    rintro rfl
    rcases p2 with h | h
    · exact hcw h
    · have := lt_of hcb; omega
  generalize e1 : Value.slice (some ⟨g1, 0, none⟩) (prs.length + 1) cap1 = v1 at *
  generalize e2 : Value.slice (some ⟨g2, 0, none⟩) (prs.length + 1) cap2 = v2 at *
  have b1 : v1.ownBlock = some g1 := by rw [← e1]; rfl
  have b2 : v2.ownBlock = some g2 := by rw [← e2]; rfl
  have s1 := block_setCell (block_setCell hcW 0 v1) 1 v2
  have far : ∀ k, k ≠ c → ((W.setCell ⟨c, 0, none⟩ v1).setCell ⟨c, 1, none⟩ v2).heap[k]? = W.heap[k]? := fun k hk =>
    (Below.heap_setCell _ _ _ k hk).trans (Below.heap_setCell _ _ _ k hk)
  refine ⟨⟨hBc, v1, v2, s1, ?_, ?_, ?_, ?_⟩, ?_, ?_⟩
  · simp only [List.length_append, List.length_singleton, List.map_append, List.map_cons, List.map_nil]
    exact ownsRow_same ra (fun k hk => by rw [b1] at hk; cases hk; exact far _ (Ne.symm hc1))
  · simp only [List.length_append, List.length_singleton, List.map_append, List.map_cons, List.map_nil]
    exact ownsRow_same rb (fun k hk => by rw [b2] at hk; cases hk; exact far _ (Ne.symm hc2))
  · intro k hk h
    rw [b1] at hk; rw [b2] at h; cases hk; cases h; exact hne rfl
  · simp; omega
  · refine ht.same (fun k cs hk => ?_)
    have kc : k ≠ c := by rintro rfl; rw [hcb] at hk; simp at hk
    refine (far k kc).trans (T.block k (lt_of hk) ?_)
    rintro (h | h)
    · obtain ⟨cur, h1⟩ := row_block ho h; rw [hk] at h1; simp at h1
    · obtain ⟨cur, h1⟩ := row_block hw h; rw [hk] at h1; simp at h1
  · have T1 : Touch (fun k => (vo.ownBlock = some k ∨ vw.ownBlock = some k) ∨ k = c) w W := T.mono (fun _ h => Or.inl h)
    have T2 := T1.setCell (p := ⟨c, 0, none⟩) (Or.inl (Or.inr rfl)) v1
    have T3 := T2.setCell (p := ⟨c, 1, none⟩) (Or.inl (Or.inr rfl)) v2
    refine ⟨T3.below hB ?_, T3.mono ?_, ?_⟩
    · rintro k ((h | h) | h)
      · exact row_base ho h
      · exact row_base hw h
      · omega
    · rintro k ((h | h) | h)
      · exact Or.inr ⟨vo, vw, hcb, Or.inl h⟩
      · exact Or.inr ⟨vo, vw, hcb, Or.inr h⟩
      · exact Or.inl h
    · rintro k (h | ⟨vo', vw', h1, h2⟩)
      · exact Or.inl (Or.inl h)
      · have h3 := s1.symm.trans h1
        simp at h3
        obtain ⟨rfl, rfl⟩ := h3
        rcases h2 with h2 | h2
        · rw [b1] at h2
          cases h2
          exact p1.imp (fun h => Or.inr ⟨vo, vw, hcb, Or.inl h⟩) id
        · rw [b2] at h2
          cases h2
          exact p2.imp (fun h => Or.inr ⟨vo, vw, hcb, Or.inr h⟩) id

def AddPost (B c : Nat) (R : Rel) (prs : List (Value × Value)) (w : World) : Ending → World → Prop := fun e w' =>
  e = .returned (.bool true) ∧ CellsAt w' B c prs ∧ Twins w' B R ∧ CelTo B c w w'

set_option maxHeartbeats 4000000 in
set_option maxRecDepth 100000 in
theorem add_any (c B : Nat) (R : Rel) (prs : List (Value × Value)) (x y : Value) (w : World) (hc : CellsAt w B c prs) (ht : Twins w B R) (hp : ∀ xy ∈ prs, Pr R xy) (hxy : Pr R (x, y)) (hl : prs.length < 5500000000000) (hB : B ≤ w.heap.size) :
    Calls Tryz.prog 75 #[.pointer (some ⟨c, 0, none⟩), x, y] w (AddPost B c R (prs ++ [(x, y)]) w) := by
  obtain ⟨i0, hi, hz0, hz1, hz2⟩ := info_parts infoBytes
  have HXY := Lib.hid hxy
  obtain ⟨p, q, len, cap, e, hlc, hcm, _⟩ := hxy
  simp only [Prod.mk.injEq] at e
  obtain ⟨rfl, rfl⟩ := e
  have HC := Lib.hid hc
  have HT := Lib.hid ht
  have HP := Lib.hid hp
  obtain ⟨hBc, vo, vw, hcb, ho, hw, hsep, _⟩ := hc
  have c0 : w.cell? ⟨c, 0, none⟩ = some vo := by rw [cell_of hcb]; rfl
  have c1 : w.cell? ⟨c, 1, none⟩ = some vw := by rw [cell_of hcb]; rfl
  have fc := fun j => free_of hcb j
  have HO := Lib.hid ho
  have HW := Lib.hid hw
  have HS := Lib.hid hsep
  have HCB := Lib.hid hcb
  have hcap' : cap ≤ 9223372036854775807 := by omega
  clear ht hp ho hw hsep hcb
  have lc0 := lt_of HCB.out
  let FF : Nat → Prop := fun k => vo.ownBlock = some k ∨ vw.ownBlock = some k
  have CF : Hid (∀ W, Touch FF w W → W.cell? ⟨c, 0, none⟩ = some vo ∧ W.cell? ⟨c, 1, none⟩ = some vw ∧ ∀ j, W.frozen? ⟨c, j, none⟩ = false) := Lib.hid (fun W hW => by
    have hk : W.heap[c]? = w.heap[c]? := hW.block c (lt_of HCB.out) (fun hk => by
      rcases hk with hk | hk
      · obtain ⟨cur, h⟩ := row_block HO.out hk; rw [HCB.out] at h; simp at h
      · obtain ⟨cur, h⟩ := row_block HW.out hk; rw [HCB.out] at h; simp at h)
    have hcb := hk.trans HCB.out
    exact ⟨by rw [cell_of hcb]; rfl, by rw [cell_of hcb]; rfl, fun j => free_of hcb j⟩)
  have rowO : ∀ W, Touch (fun k => vw.ownBlock = some k) w W → W.ownsRow B 42 1 vo prs.length (prs.map Prod.fst) := fun W hW => ownsRow_same HO.out (fun k hk => by
    obtain ⟨cur, h⟩ := row_block HO.out hk
    exact hW.block k (lt_of h) (fun e => HS.out k hk e))
  have rowW : ∀ W, Touch (fun k => vo.ownBlock = some k) w W → W.ownsRow B 42 1 vw prs.length (prs.map Prod.snd) := fun W hW => ownsRow_same HW.out (fun k hk => by
    obtain ⟨cur, h⟩ := row_block HW.out hk
    exact hW.block k (lt_of h) (fun e => HS.out k e hk))
  have LO : ∀ b : Nat, w.heap.size ≤ b → some b ≠ vo.ownBlock := fun b hb e => by
    obtain ⟨cur, h⟩ := row_block HO.out e.symm
    have := lt_of h; omega
  have LW : ∀ b : Nat, w.heap.size ≤ b → some b ≠ vw.ownBlock := fun b hb e => by
    obtain ⟨cur, h⟩ := row_block HW.out e.symm
    have := lt_of h; omega
  let SS : World → Prop := fun W => W.cell? ⟨c, 0, none⟩ = some vo ∧ W.cell? ⟨c, 1, none⟩ = some vw
  go_enter Tryz.func75, Tryz.ntmps75
  go_wp2_with fail
  have PP := Lib.hid (pr_snoc HP.out HXY.out)
  refine wp_region_stage SS need1325 (by kernel_rfl) ?_
  have C0 := cell_drew c0
  have C1 := cell_drew c1
  have R1 : w.drew.ownsRow B 42 1 vo prs.length (prs.map Prod.fst) := HO.out
  have R2 : w.drew.ownsRow B 42 1 vw prs.length (prs.map Prod.snd) := HW.out
  have T : Touch FF w w.drew := (Touch.refl _ w).drew
  generalize w.drew = W0 at *
  have hS : SS W0 := ⟨C0, C1⟩
  refine wpAnyN_take (i := 0) (v := (.pointer (some ⟨c, 0, none⟩))) rfl (by kernel_rfl) (by kernel_rfl) (by kernel_rfl) (fun L => need_set L 0 (by decide) (by decide)) (fun _ _ _ h => h) (Or.inl ⟨by rfl, ?_⟩) (fun _ => hS) ?_
  · intro W; go_simp; try with_reducible rfl
  refine wpAnyN_take (i := 1) (v := (.pointer (some ⟨c, 0, none⟩))) rfl (by kernel_rfl) (by kernel_rfl) (by kernel_rfl) (fun L => need_set L 1 (by decide) (by decide)) (fun _ _ _ h => h) (Or.inl ⟨by rfl, ?_⟩) (fun _ => hS) ?_
  · intro W; go_simp; try with_reducible rfl
  refine wpAnyN_take (i := 2) (v := (.pointer (some ⟨c, 0, none⟩))) rfl (by kernel_rfl) (by kernel_rfl) (by kernel_rfl) (fun L => need_set L 2 (by decide) (by decide)) (fun _ _ _ h => h) (Or.inl ⟨by rfl, ?_⟩) (fun _ => hS) ?_
  · intro W; go_simp; try with_reducible rfl
  refine wpAnyN_take (i := 3) (v := (.pointer (some ⟨c, 0, none⟩))) rfl (by kernel_rfl) (by kernel_rfl) (by kernel_rfl) (fun L => need_set L 3 (by decide) (by decide)) (fun _ _ _ h => h) (Or.inl ⟨by rfl, ?_⟩) (fun _ => hS) ?_
  · intro W; go_simp; try with_reducible rfl
  refine wpAnyN_take (i := 4) (v := (.pointer (some ⟨c, 0, none⟩))) rfl (by kernel_rfl) (by kernel_rfl) (by kernel_rfl) (fun L => need_set L 4 (by decide) (by decide)) (fun _ _ _ h => h) (Or.inl ⟨by rfl, ?_⟩) (fun _ => hS) ?_
  · intro W; go_simp; try with_reducible rfl
  refine wpAnyN_load (i := 5) (v := vo) 13 rfl (by kernel_rfl) (by kernel_rfl) (by kernel_rfl) (fun L => need_set L 5 (by decide) (by decide)) need13 (by kernel_rfl) (by kernel_rfl) (fun _ _ _ h => h) (Or.inl ⟨by rfl, ?_⟩) hS ?_
  · intro W h; have h1 := h.1; go_simp
  refine wpAnyN_take (i := 6) (v := (.slice p len cap)) rfl (by kernel_rfl) (by kernel_rfl) (by kernel_rfl) (fun L => need_set L 6 (by decide) (by decide)) (fun _ _ _ h => h) (Or.inl ⟨by rfl, ?_⟩) (fun _ => hS) ?_
  · intro W; go_simp; try with_reducible rfl
  refine wpAnyN_take (i := 7) (v := (.slice p len cap)) rfl (by kernel_rfl) (by kernel_rfl) (by kernel_rfl) (fun L => need_set L 7 (by decide) (by decide)) (fun _ _ _ h => h) (Or.inl ⟨by rfl, ?_⟩) (fun _ => hS) ?_
  · intro W; go_simp; try with_reducible rfl
  refine wpAnyN_take (i := 8) (v := (.int .i64 len)) rfl (by kernel_rfl) (by kernel_rfl) (by kernel_rfl) (fun L => need_set L 8 (by decide) (by decide)) (fun _ _ _ h => h) (Or.inl ⟨by rfl, ?_⟩) (fun _ => hS) ?_
  · intro W; go_simp; try with_reducible rfl
  refine wpAnyN_take (i := 9) (v := (.slice p len cap)) rfl (by kernel_rfl) (by kernel_rfl) (by kernel_rfl) (fun L => need_set L 9 (by decide) (by decide)) (fun _ _ _ h => h) (Or.inl ⟨by rfl, ?_⟩) (fun _ => hS) ?_
  · intro W; go_simp; try with_reducible rfl
  refine wpAnyN_take (i := 10) (v := (.int .i64 cap)) rfl (by kernel_rfl) (by kernel_rfl) (by kernel_rfl) (fun L => need_set L 10 (by decide) (by decide)) (fun _ _ _ h => h) (Or.inl ⟨by rfl, ?_⟩) (fun _ => hS) ?_
  · intro W; go_simp; try with_reducible rfl
  refine wpAnyN_take (i := 11) (v := (.slice p len cap)) rfl (by kernel_rfl) (by kernel_rfl) (by kernel_rfl) (fun L => need_set L 11 (by decide) (by decide)) (fun _ _ _ h => h) (Or.inl ⟨by rfl, ?_⟩) (fun _ => hS) ?_
  · intro W; go_simp; try with_reducible rfl
  refine wpAnyN_take (i := 14) (v := (.pointer (some ⟨c, 0, none⟩))) rfl (by kernel_rfl) (by kernel_rfl) (by kernel_rfl) (fun L => need_set L 14 (by decide) (by decide)) (fun _ _ _ h => h) (Or.inl ⟨by rfl, ?_⟩) (fun _ => hS) ?_
  · intro W; go_simp; try with_reducible rfl
  refine wpAnyN_take (i := 15) (v := (.pointer (some ⟨c, 0, none⟩))) rfl (by kernel_rfl) (by kernel_rfl) (by kernel_rfl) (fun L => need_set L 15 (by decide) (by decide)) (fun _ _ _ h => h) (Or.inl ⟨by rfl, ?_⟩) (fun _ => hS) ?_
  · intro W; go_simp; try with_reducible rfl
  refine wpAnyN_take (i := 16) (v := (.pointer (some ⟨c, 1, none⟩))) rfl (by kernel_rfl) (by kernel_rfl) (by kernel_rfl) (fun L => need_set L 16 (by decide) (by decide)) (fun _ _ _ h => h) (Or.inl ⟨by rfl, ?_⟩) (fun _ => hS) ?_
  · intro W; go_simp; try with_reducible rfl
  refine wpAnyN_load (i := 17) (v := vw) 25 rfl (by kernel_rfl) (by kernel_rfl) (by kernel_rfl) (fun L => need_set L 17 (by decide) (by decide)) need25 (by kernel_rfl) (by kernel_rfl) (fun _ _ _ h => h) (Or.inl ⟨by rfl, ?_⟩) hS ?_
  · intro W h; have h1 := h.2; go_simp
  refine wpAnyN_take (i := 18) (v := (.slice q len cap)) rfl (by kernel_rfl) (by kernel_rfl) (by kernel_rfl) (fun L => need_set L 18 (by decide) (by decide)) (fun _ _ _ h => h) (Or.inl ⟨by rfl, ?_⟩) (fun _ => hS) ?_
  · intro W; go_simp; try with_reducible rfl
  refine wpAnyN_take (i := 19) (v := (.slice q len cap)) rfl (by kernel_rfl) (by kernel_rfl) (by kernel_rfl) (fun L => need_set L 19 (by decide) (by decide)) (fun _ _ _ h => h) (Or.inl ⟨by rfl, ?_⟩) (fun _ => hS) ?_
  · intro W; go_simp; try with_reducible rfl
  refine wpAnyN_take (i := 20) (v := (.int .i64 len)) rfl (by kernel_rfl) (by kernel_rfl) (by kernel_rfl) (fun L => need_set L 20 (by decide) (by decide)) (fun _ _ _ h => h) (Or.inl ⟨by rfl, ?_⟩) (fun _ => hS) ?_
  · intro W; go_simp; try with_reducible rfl
  refine wpAnyN_take (i := 21) (v := (.slice q len cap)) rfl (by kernel_rfl) (by kernel_rfl) (by kernel_rfl) (fun L => need_set L 21 (by decide) (by decide)) (fun _ _ _ h => h) (Or.inl ⟨by rfl, ?_⟩) (fun _ => hS) ?_
  · intro W; go_simp; try with_reducible rfl
  refine wpAnyN_take (i := 22) (v := (.int .i64 cap)) rfl (by kernel_rfl) (by kernel_rfl) (by kernel_rfl) (fun L => need_set L 22 (by decide) (by decide)) (fun _ _ _ h => h) (Or.inl ⟨by rfl, ?_⟩) (fun _ => hS) ?_
  · intro W; go_simp; try with_reducible rfl
  refine wpAnyN_take (i := 23) (v := (.slice q len cap)) rfl (by kernel_rfl) (by kernel_rfl) (by kernel_rfl) (fun L => need_set L 23 (by decide) (by decide)) (fun _ _ _ h => h) (Or.inl ⟨by rfl, ?_⟩) (fun _ => hS) ?_
  · intro W; go_simp; try with_reducible rfl
  clear hS
  refine wpAnyN_ready (rs := [12, 24]) (by kernel_rfl) (by simp) ?_
  refine AllReadyN.cons rfl (fun K hK => ?_) (AllReadyN.cons rfl (fun K hK => ?_) (AllReadyN.nil))
  · go_simp
    refine hK _ _ ⟨fun _ => ⟨cell_elder (World.block_lt_of_cell? _ _ C0) C0, cell_elder1 (World.block_lt_of_cell? _ _ C1) C1⟩, ?_⟩
    clear hK K
    have X1 := cell_new1 W0 (.slice p len cap) 42
    have X10 : w.heap.size ≤ W0.heap.size := T.size
    replace C0 := cell_elder (X := (Obj.cells #[(.slice p len cap)] 42)) (World.block_lt_of_cell? _ _ C0) C0
    replace C1 := cell_elder1 (X := (Obj.cells #[(.slice p len cap)] 42)) (World.block_lt_of_cell? _ _ C1) C1
    replace R1 := R1.alloc (Obj.cells #[(.slice p len cap)] 42)
    replace R2 := R2.alloc (Obj.cells #[(.slice p len cap)] 42)
    replace T := T.alloc (Obj.cells #[(.slice p len cap)] 42)
    generalize hG : W0.alloc (Obj.cells #[(.slice p len cap)] 42) = W1 at *
    clear hG
    refine wpAnyN_ready (rs := [13, 24]) (by kernel_rfl) (by simp) ?_
    refine AllReadyN.cons rfl (fun K hK => ?_) (AllReadyN.cons rfl (fun K hK => ?_) (AllReadyN.nil))
    · refine step_append_one2 rfl (.tmp 24) (.tmp 31) 39 rfl B 42 i0 (.slice none 0 0) 24 Tryz.underlying39 hi hz0 hz1 hz2 rfl vo prs.length (prs.map Prod.fst) _ (.slice p len cap) _ rfl R1 rfl X1 rfl (by unfold maxLen; omega) (by omega) (Nat.le_trans hB T.size) ?_
      intro g1 cg1 W2 hrow hgr hpl
      have T0 := T.grown hgr (fun k hk => Or.inl (Or.inl hk))
      have D0 := (CF.out _ T0).1; have D1 := (CF.out _ T0).2.1
      refine hK _ _ ⟨fun _ => ⟨D0, D1⟩, ?_⟩
      clear hK K
      replace R2 := row_grown R2 hgr (fun k hk e => HS.out k e.symm hk)
      have PA : vo.ownBlock = some g1 ∨ w.heap.size ≤ g1 := hpl.imp id (fun h => Nat.le_trans T.size h)
      obtain ⟨_, hA⟩ := row_block hrow rfl
      have LA : g1 < W2.heap.size := lt_of hA
      have RA := hrow
      replace T := T0; replace C0 := D0; replace C1 := D1
      clear hrow hgr hpl hA T0 D0 D1 R1 X1
      refine wpAnyN_ready (rs := [24]) (by kernel_rfl) (by simp) ?_
      refine AllReadyN.cons rfl (fun K hK => ?_) (AllReadyN.nil)
      · go_simp
        refine hK _ _ ⟨fun _ => ⟨cell_elder (World.block_lt_of_cell? _ _ C0) C0, cell_elder1 (World.block_lt_of_cell? _ _ C1) C1⟩, ?_⟩
        clear hK K
        have Y1 := cell_new1 W2 (.slice q len cap) 42
        have Y10 : w.heap.size ≤ W2.heap.size := T.size
        replace C0 := cell_elder (X := (Obj.cells #[(.slice q len cap)] 42)) (World.block_lt_of_cell? _ _ C0) C0
        replace C1 := cell_elder1 (X := (Obj.cells #[(.slice q len cap)] 42)) (World.block_lt_of_cell? _ _ C1) C1
        replace RA := RA.alloc (Obj.cells #[(.slice q len cap)] 42)
        replace R2 := R2.alloc (Obj.cells #[(.slice q len cap)] 42)
        replace LA := Nat.lt_of_lt_of_le LA ((Touch.refl FF W2).alloc (Obj.cells #[(.slice q len cap)] 42)).size
        replace T := T.alloc (Obj.cells #[(.slice q len cap)] 42)
        generalize hG : W2.alloc (Obj.cells #[(.slice q len cap)] 42) = W3 at *
        clear hG
        refine wpAnyN_ready (rs := [25]) (by kernel_rfl) (by simp) ?_
        refine AllReadyN.cons rfl (fun K hK => ?_) (AllReadyN.nil)
        · refine step_append_one2 rfl (.tmp 36) (.tmp 43) 39 rfl B 42 i0 (.slice none 0 0) 24 Tryz.underlying39 hi hz0 hz1 hz2 rfl vw prs.length (prs.map Prod.snd) _ (.slice q len cap) _ rfl R2 rfl Y1 rfl (by unfold maxLen; omega) (by omega) (Nat.le_trans hB T.size) ?_
          intro g2 cg2 W4 hrow hgr hpl
          have T0 := T.grown hgr (fun k hk => Or.inl (Or.inr hk))
          have D0 := (CF.out _ T0).1; have D1 := (CF.out _ T0).2.1
          refine hK _ _ ⟨fun _ => ⟨D0, D1⟩, ?_⟩
          clear hK K
          have PA0 : some g1 ≠ vw.ownBlock := fun e => PA.elim (fun h => HS.out _ h e.symm) (fun h => LW _ h e)
          replace RA := row_grown RA hgr (fun k hk e => by cases hk; exact PA0 e)
          have NE : g1 ≠ g2 := fun e => hpl.elim (fun h => PA0 (e ▸ h.symm)) (fun h => by omega)
          have PB : vw.ownBlock = some g2 ∨ w.heap.size ≤ g2 := hpl.imp id (fun h => Nat.le_trans T.size h)
          obtain ⟨_, hA⟩ := row_block hrow rfl
          have LB : g2 < W4.heap.size := lt_of hA
          have RB := hrow
          replace T := T0; replace C0 := D0; replace C1 := D1
          clear hrow hgr hpl hA T0 D0 D1 R2 Y1
          have dd0 := (CF.out _ T).1; have dd1 := (CF.out _ T).2.1; have ff := (CF.out _ T).2.2
          have nb : ∀ (W : World) u, (W.setCell ⟨c, 0, none⟩ u).cell? ⟨c, 1, none⟩ = W.cell? ⟨c, 1, none⟩ := fun W u => World.cell?_setCell_other _ _ _ _ (by simp)
          clear C0 C1
          have END := Lib.hid (add_end (x := (.slice p len cap)) (y := (.slice q len cap)) hBc HCB.out HO.out HW.out HT.out hl hB T RA RB PA PB NE)
          refine wpAnyN_take (i := 26) (v := (.pointer (some ⟨c, 0, none⟩))) rfl (by kernel_rfl) (by kernel_rfl) (by kernel_rfl) (fun L => need_set L 26 (by decide) (by decide)) (fun _ _ _ h => h) (Or.inl ⟨by rfl, ?_⟩) (fun h => nomatch h.symm.trans (show need1325 _ = false by kernel_rfl)) ?_
          · intro W; go_simp; try with_reducible rfl
          refine wpAnyN_take (i := 27) (v := (.pointer (some ⟨c, 0, none⟩))) rfl (by kernel_rfl) (by kernel_rfl) (by kernel_rfl) (fun L => need_set L 27 (by decide) (by decide)) (fun _ _ _ h => h) (Or.inl ⟨by rfl, ?_⟩) (fun h => nomatch h.symm.trans (show need1325 _ = false by kernel_rfl)) ?_
          · intro W; go_simp; try with_reducible rfl
          refine wpAnyN_ready (rs := [28]) (by kernel_rfl) (by simp) ?_
          refine AllReadyN.cons rfl (fun K hK => ?_) AllReadyN.nil
          go_simp
          refine hK _ _ ⟨(fun h => nomatch h.symm.trans (show need1325 _ = false by kernel_rfl)), ?_⟩
          clear hK K
          refine wpAnyN_take (i := 29) (v := (.pointer (some ⟨c, 0, none⟩))) rfl (by kernel_rfl) (by kernel_rfl) (by kernel_rfl) (fun L => need_set L 29 (by decide) (by decide)) (fun _ _ _ h => h) (Or.inl ⟨by rfl, ?_⟩) (fun h => nomatch h.symm.trans (show need1325 _ = false by kernel_rfl)) ?_
          · intro W; go_simp; try with_reducible rfl
          refine wpAnyN_take (i := 30) (v := (.pointer (some ⟨c, 1, none⟩))) rfl (by kernel_rfl) (by kernel_rfl) (by kernel_rfl) (fun L => need_set L 30 (by decide) (by decide)) (fun _ _ _ h => h) (Or.inl ⟨by rfl, ?_⟩) (fun h => nomatch h.symm.trans (show need1325 _ = false by kernel_rfl)) ?_
          · intro W; go_simp; try with_reducible rfl
          refine wpAnyN_ready (rs := [31]) (by kernel_rfl) (by simp) ?_
          refine AllReadyN.cons rfl (fun K hK => ?_) AllReadyN.nil
          go_simp
          refine hK _ _ ⟨(fun h => nomatch h.symm.trans (show need1325 _ = false by kernel_rfl)), ?_⟩
          clear hK K
          refine wpAnyN_done (by kernel_rfl) ?_ _
          go_wp2_with (go_at_call 9; refine (same_any c B R (prs ++ [((.slice p len cap), (.slice q len cap))]) _ END.out.1 END.out.2.1 PP.out).mono ?_; rintro e w' ⟨rfl, n, rfl⟩)
          go_ret
          exact ⟨rfl, END.out.1.drewN n, END.out.2.1.drewN n, END.out.2.2.drewN n⟩
    · go_simp
      refine hK _ _ ⟨fun _ => ⟨cell_elder (World.block_lt_of_cell? _ _ C0) C0, cell_elder1 (World.block_lt_of_cell? _ _ C1) C1⟩, ?_⟩
      clear hK K
      have Y1 := cell_new1 W1 (.slice q len cap) 42
      have Y10 : w.heap.size ≤ W1.heap.size := T.size
      replace C0 := cell_elder (X := (Obj.cells #[(.slice q len cap)] 42)) (World.block_lt_of_cell? _ _ C0) C0
      replace C1 := cell_elder1 (X := (Obj.cells #[(.slice q len cap)] 42)) (World.block_lt_of_cell? _ _ C1) C1
      replace R1 := R1.alloc (Obj.cells #[(.slice q len cap)] 42)
      replace R2 := R2.alloc (Obj.cells #[(.slice q len cap)] 42)
      replace X1 := cell_elder (X := (Obj.cells #[(.slice q len cap)] 42)) (World.block_lt_of_cell? _ _ X1) X1
      replace T := T.alloc (Obj.cells #[(.slice q len cap)] 42)
      generalize hG : W1.alloc (Obj.cells #[(.slice q len cap)] 42) = W2 at *
      clear hG
      refine wpAnyN_ready (rs := [13]) (by kernel_rfl) (by simp) ?_
      refine AllReadyN.cons rfl (fun K hK => ?_) (AllReadyN.nil)
      · refine step_append_one2 rfl (.tmp 24) (.tmp 31) 39 rfl B 42 i0 (.slice none 0 0) 24 Tryz.underlying39 hi hz0 hz1 hz2 rfl vo prs.length (prs.map Prod.fst) _ (.slice p len cap) _ rfl R1 rfl X1 rfl (by unfold maxLen; omega) (by omega) (Nat.le_trans hB T.size) ?_
        intro g1 cg1 W3 hrow hgr hpl
        have T0 := T.grown hgr (fun k hk => Or.inl (Or.inl hk))
        have D0 := (CF.out _ T0).1; have D1 := (CF.out _ T0).2.1
        refine hK _ _ ⟨fun _ => ⟨D0, D1⟩, ?_⟩
        clear hK K
        replace R2 := row_grown R2 hgr (fun k hk e => HS.out k e.symm hk)
        replace Y1 := cell_grown hgr (World.block_lt_of_cell? _ _ Y1) (LO _ Y10) Y1
        have PA : vo.ownBlock = some g1 ∨ w.heap.size ≤ g1 := hpl.imp id (fun h => Nat.le_trans T.size h)
        obtain ⟨_, hA⟩ := row_block hrow rfl
        have LA : g1 < W3.heap.size := lt_of hA
        have RA := hrow
        replace T := T0; replace C0 := D0; replace C1 := D1
        clear hrow hgr hpl hA T0 D0 D1 R1 X1
        refine wpAnyN_ready (rs := [25]) (by kernel_rfl) (by simp) ?_
        refine AllReadyN.cons rfl (fun K hK => ?_) (AllReadyN.nil)
        · refine step_append_one2 rfl (.tmp 36) (.tmp 43) 39 rfl B 42 i0 (.slice none 0 0) 24 Tryz.underlying39 hi hz0 hz1 hz2 rfl vw prs.length (prs.map Prod.snd) _ (.slice q len cap) _ rfl R2 rfl Y1 rfl (by unfold maxLen; omega) (by omega) (Nat.le_trans hB T.size) ?_
          intro g2 cg2 W4 hrow hgr hpl
          have T0 := T.grown hgr (fun k hk => Or.inl (Or.inr hk))
          have D0 := (CF.out _ T0).1; have D1 := (CF.out _ T0).2.1
          refine hK _ _ ⟨fun _ => ⟨D0, D1⟩, ?_⟩
          clear hK K
          have PA0 : some g1 ≠ vw.ownBlock := fun e => PA.elim (fun h => HS.out _ h e.symm) (fun h => LW _ h e)
          replace RA := row_grown RA hgr (fun k hk e => by cases hk; exact PA0 e)
          have NE : g1 ≠ g2 := fun e => hpl.elim (fun h => PA0 (e ▸ h.symm)) (fun h => by omega)
          have PB : vw.ownBlock = some g2 ∨ w.heap.size ≤ g2 := hpl.imp id (fun h => Nat.le_trans T.size h)
          obtain ⟨_, hA⟩ := row_block hrow rfl
          have LB : g2 < W4.heap.size := lt_of hA
          have RB := hrow
          replace T := T0; replace C0 := D0; replace C1 := D1
          clear hrow hgr hpl hA T0 D0 D1 R2 Y1
          have dd0 := (CF.out _ T).1; have dd1 := (CF.out _ T).2.1; have ff := (CF.out _ T).2.2
          have nb : ∀ (W : World) u, (W.setCell ⟨c, 0, none⟩ u).cell? ⟨c, 1, none⟩ = W.cell? ⟨c, 1, none⟩ := fun W u => World.cell?_setCell_other _ _ _ _ (by simp)
          clear C0 C1
          have END := Lib.hid (add_end (x := (.slice p len cap)) (y := (.slice q len cap)) hBc HCB.out HO.out HW.out HT.out hl hB T RA RB PA PB NE)
          refine wpAnyN_take (i := 26) (v := (.pointer (some ⟨c, 0, none⟩))) rfl (by kernel_rfl) (by kernel_rfl) (by kernel_rfl) (fun L => need_set L 26 (by decide) (by decide)) (fun _ _ _ h => h) (Or.inl ⟨by rfl, ?_⟩) (fun h => nomatch h.symm.trans (show need1325 _ = false by kernel_rfl)) ?_
          · intro W; go_simp; try with_reducible rfl
          refine wpAnyN_take (i := 27) (v := (.pointer (some ⟨c, 0, none⟩))) rfl (by kernel_rfl) (by kernel_rfl) (by kernel_rfl) (fun L => need_set L 27 (by decide) (by decide)) (fun _ _ _ h => h) (Or.inl ⟨by rfl, ?_⟩) (fun h => nomatch h.symm.trans (show need1325 _ = false by kernel_rfl)) ?_
          · intro W; go_simp; try with_reducible rfl
          refine wpAnyN_ready (rs := [28]) (by kernel_rfl) (by simp) ?_
          refine AllReadyN.cons rfl (fun K hK => ?_) AllReadyN.nil
          go_simp
          refine hK _ _ ⟨(fun h => nomatch h.symm.trans (show need1325 _ = false by kernel_rfl)), ?_⟩
          clear hK K
          refine wpAnyN_take (i := 29) (v := (.pointer (some ⟨c, 0, none⟩))) rfl (by kernel_rfl) (by kernel_rfl) (by kernel_rfl) (fun L => need_set L 29 (by decide) (by decide)) (fun _ _ _ h => h) (Or.inl ⟨by rfl, ?_⟩) (fun h => nomatch h.symm.trans (show need1325 _ = false by kernel_rfl)) ?_
          · intro W; go_simp; try with_reducible rfl
          refine wpAnyN_take (i := 30) (v := (.pointer (some ⟨c, 1, none⟩))) rfl (by kernel_rfl) (by kernel_rfl) (by kernel_rfl) (fun L => need_set L 30 (by decide) (by decide)) (fun _ _ _ h => h) (Or.inl ⟨by rfl, ?_⟩) (fun h => nomatch h.symm.trans (show need1325 _ = false by kernel_rfl)) ?_
          · intro W; go_simp; try with_reducible rfl
          refine wpAnyN_ready (rs := [31]) (by kernel_rfl) (by simp) ?_
          refine AllReadyN.cons rfl (fun K hK => ?_) AllReadyN.nil
          go_simp
          refine hK _ _ ⟨(fun h => nomatch h.symm.trans (show need1325 _ = false by kernel_rfl)), ?_⟩
          clear hK K
          refine wpAnyN_done (by kernel_rfl) ?_ _
          go_wp2_with (go_at_call 9; refine (same_any c B R (prs ++ [((.slice p len cap), (.slice q len cap))]) _ END.out.1 END.out.2.1 PP.out).mono ?_; rintro e w' ⟨rfl, n, rfl⟩)
          go_ret
          exact ⟨rfl, END.out.1.drewN n, END.out.2.1.drewN n, END.out.2.2.drewN n⟩
  · go_simp
    refine hK _ _ ⟨fun _ => ⟨cell_elder (World.block_lt_of_cell? _ _ C0) C0, cell_elder1 (World.block_lt_of_cell? _ _ C1) C1⟩, ?_⟩
    clear hK K
    have Y1 := cell_new1 W0 (.slice q len cap) 42
    have Y10 : w.heap.size ≤ W0.heap.size := T.size
    replace C0 := cell_elder (X := (Obj.cells #[(.slice q len cap)] 42)) (World.block_lt_of_cell? _ _ C0) C0
    replace C1 := cell_elder1 (X := (Obj.cells #[(.slice q len cap)] 42)) (World.block_lt_of_cell? _ _ C1) C1
    replace R1 := R1.alloc (Obj.cells #[(.slice q len cap)] 42)
    replace R2 := R2.alloc (Obj.cells #[(.slice q len cap)] 42)
    replace T := T.alloc (Obj.cells #[(.slice q len cap)] 42)
    generalize hG : W0.alloc (Obj.cells #[(.slice q len cap)] 42) = W1 at *
    clear hG
    refine wpAnyN_ready (rs := [12]) (by kernel_rfl) (by simp) ?_
    refine AllReadyN.cons rfl (fun K hK => ?_) (AllReadyN.nil)
    · go_simp
      refine hK _ _ ⟨fun _ => ⟨cell_elder (World.block_lt_of_cell? _ _ C0) C0, cell_elder1 (World.block_lt_of_cell? _ _ C1) C1⟩, ?_⟩
      clear hK K
      have X1 := cell_new1 W1 (.slice p len cap) 42
      have X10 : w.heap.size ≤ W1.heap.size := T.size
      replace C0 := cell_elder (X := (Obj.cells #[(.slice p len cap)] 42)) (World.block_lt_of_cell? _ _ C0) C0
      replace C1 := cell_elder1 (X := (Obj.cells #[(.slice p len cap)] 42)) (World.block_lt_of_cell? _ _ C1) C1
      replace R1 := R1.alloc (Obj.cells #[(.slice p len cap)] 42)
      replace R2 := R2.alloc (Obj.cells #[(.slice p len cap)] 42)
      replace Y1 := cell_elder (X := (Obj.cells #[(.slice p len cap)] 42)) (World.block_lt_of_cell? _ _ Y1) Y1
      replace T := T.alloc (Obj.cells #[(.slice p len cap)] 42)
      generalize hG : W1.alloc (Obj.cells #[(.slice p len cap)] 42) = W2 at *
      clear hG
      refine wpAnyN_ready (rs := [13]) (by kernel_rfl) (by simp) ?_
      refine AllReadyN.cons rfl (fun K hK => ?_) (AllReadyN.nil)
      · refine step_append_one2 rfl (.tmp 24) (.tmp 31) 39 rfl B 42 i0 (.slice none 0 0) 24 Tryz.underlying39 hi hz0 hz1 hz2 rfl vo prs.length (prs.map Prod.fst) _ (.slice p len cap) _ rfl R1 rfl X1 rfl (by unfold maxLen; omega) (by omega) (Nat.le_trans hB T.size) ?_
        intro g1 cg1 W3 hrow hgr hpl
        have T0 := T.grown hgr (fun k hk => Or.inl (Or.inl hk))
        have D0 := (CF.out _ T0).1; have D1 := (CF.out _ T0).2.1
        refine hK _ _ ⟨fun _ => ⟨D0, D1⟩, ?_⟩
        clear hK K
        replace R2 := row_grown R2 hgr (fun k hk e => HS.out k e.symm hk)
        replace Y1 := cell_grown hgr (World.block_lt_of_cell? _ _ Y1) (LO _ Y10) Y1
        have PA : vo.ownBlock = some g1 ∨ w.heap.size ≤ g1 := hpl.imp id (fun h => Nat.le_trans T.size h)
        obtain ⟨_, hA⟩ := row_block hrow rfl
        have LA : g1 < W3.heap.size := lt_of hA
        have RA := hrow
        replace T := T0; replace C0 := D0; replace C1 := D1
        clear hrow hgr hpl hA T0 D0 D1 R1 X1
        refine wpAnyN_ready (rs := [25]) (by kernel_rfl) (by simp) ?_
        refine AllReadyN.cons rfl (fun K hK => ?_) (AllReadyN.nil)
        · refine step_append_one2 rfl (.tmp 36) (.tmp 43) 39 rfl B 42 i0 (.slice none 0 0) 24 Tryz.underlying39 hi hz0 hz1 hz2 rfl vw prs.length (prs.map Prod.snd) _ (.slice q len cap) _ rfl R2 rfl Y1 rfl (by unfold maxLen; omega) (by omega) (Nat.le_trans hB T.size) ?_
          intro g2 cg2 W4 hrow hgr hpl
          have T0 := T.grown hgr (fun k hk => Or.inl (Or.inr hk))
          have D0 := (CF.out _ T0).1; have D1 := (CF.out _ T0).2.1
          refine hK _ _ ⟨fun _ => ⟨D0, D1⟩, ?_⟩
          clear hK K
          have PA0 : some g1 ≠ vw.ownBlock := fun e => PA.elim (fun h => HS.out _ h e.symm) (fun h => LW _ h e)
          replace RA := row_grown RA hgr (fun k hk e => by cases hk; exact PA0 e)
          have NE : g1 ≠ g2 := fun e => hpl.elim (fun h => PA0 (e ▸ h.symm)) (fun h => by omega)
          have PB : vw.ownBlock = some g2 ∨ w.heap.size ≤ g2 := hpl.imp id (fun h => Nat.le_trans T.size h)
          obtain ⟨_, hA⟩ := row_block hrow rfl
          have LB : g2 < W4.heap.size := lt_of hA
          have RB := hrow
          replace T := T0; replace C0 := D0; replace C1 := D1
          clear hrow hgr hpl hA T0 D0 D1 R2 Y1
          have dd0 := (CF.out _ T).1; have dd1 := (CF.out _ T).2.1; have ff := (CF.out _ T).2.2
          have nb : ∀ (W : World) u, (W.setCell ⟨c, 0, none⟩ u).cell? ⟨c, 1, none⟩ = W.cell? ⟨c, 1, none⟩ := fun W u => World.cell?_setCell_other _ _ _ _ (by simp)
          clear C0 C1
          have END := Lib.hid (add_end (x := (.slice p len cap)) (y := (.slice q len cap)) hBc HCB.out HO.out HW.out HT.out hl hB T RA RB PA PB NE)
          refine wpAnyN_take (i := 26) (v := (.pointer (some ⟨c, 0, none⟩))) rfl (by kernel_rfl) (by kernel_rfl) (by kernel_rfl) (fun L => need_set L 26 (by decide) (by decide)) (fun _ _ _ h => h) (Or.inl ⟨by rfl, ?_⟩) (fun h => nomatch h.symm.trans (show need1325 _ = false by kernel_rfl)) ?_
          · intro W; go_simp; try with_reducible rfl
          refine wpAnyN_take (i := 27) (v := (.pointer (some ⟨c, 0, none⟩))) rfl (by kernel_rfl) (by kernel_rfl) (by kernel_rfl) (fun L => need_set L 27 (by decide) (by decide)) (fun _ _ _ h => h) (Or.inl ⟨by rfl, ?_⟩) (fun h => nomatch h.symm.trans (show need1325 _ = false by kernel_rfl)) ?_
          · intro W; go_simp; try with_reducible rfl
          refine wpAnyN_ready (rs := [28]) (by kernel_rfl) (by simp) ?_
          refine AllReadyN.cons rfl (fun K hK => ?_) AllReadyN.nil
          go_simp
          refine hK _ _ ⟨(fun h => nomatch h.symm.trans (show need1325 _ = false by kernel_rfl)), ?_⟩
          clear hK K
          refine wpAnyN_take (i := 29) (v := (.pointer (some ⟨c, 0, none⟩))) rfl (by kernel_rfl) (by kernel_rfl) (by kernel_rfl) (fun L => need_set L 29 (by decide) (by decide)) (fun _ _ _ h => h) (Or.inl ⟨by rfl, ?_⟩) (fun h => nomatch h.symm.trans (show need1325 _ = false by kernel_rfl)) ?_
          · intro W; go_simp; try with_reducible rfl
          refine wpAnyN_take (i := 30) (v := (.pointer (some ⟨c, 1, none⟩))) rfl (by kernel_rfl) (by kernel_rfl) (by kernel_rfl) (fun L => need_set L 30 (by decide) (by decide)) (fun _ _ _ h => h) (Or.inl ⟨by rfl, ?_⟩) (fun h => nomatch h.symm.trans (show need1325 _ = false by kernel_rfl)) ?_
          · intro W; go_simp; try with_reducible rfl
          refine wpAnyN_ready (rs := [31]) (by kernel_rfl) (by simp) ?_
          refine AllReadyN.cons rfl (fun K hK => ?_) AllReadyN.nil
          go_simp
          refine hK _ _ ⟨(fun h => nomatch h.symm.trans (show need1325 _ = false by kernel_rfl)), ?_⟩
          clear hK K
          refine wpAnyN_done (by kernel_rfl) ?_ _
          go_wp2_with (go_at_call 9; refine (same_any c B R (prs ++ [((.slice p len cap), (.slice q len cap))]) _ END.out.1 END.out.2.1 PP.out).mono ?_; rintro e w' ⟨rfl, n, rfl⟩)
          go_ret
          exact ⟨rfl, END.out.1.drewN n, END.out.2.1.drewN n, END.out.2.2.drewN n⟩

end Go.Proofs.YtfnmjlnpfoclbaaGreat
