/-
  A heap's blocks written cell by cell, octets copied in its memory; whether a block can stay. No conditions but bounds.
-/
import Derived.Test.YtjogaohnphafgaaGreatMoveRunsPau
namespace Go.Proofs.YtjogaohnphafgaaGreat
open Go.RowKit
set_option linter.unusedVariables false

theorem copy_at_fact (w : World) (g o len : Nat) (sp : Option Addr) (n sCap : Nat) (cur : List Int) (cs : List Int) (hg : byteRow w g cur) (hn : cs.length = n) (hnl : n ≤ len)
    (hpos : 0 < n → ∃ ad, sp = some ad ∧ ∀ j v, cs[j]? = some v → w.cell? (ad.add j) = some (.int .u8 v)) (hfit : o + n ≤ cur.length) :
    ∃ w', (Builtin.copy_ #[38, 38] 3 #[.slice (some ⟨g, o, none⟩) len len, .slice sp n sCap]).run Tryz.prog w = .ok (.int .i64 n) w' ∧ byteRow w' g (splice cur o cs) ∧ Touch (fun k => k = g) w w' := by
  by_cases h0 : n = 0
  · subst h0
    obtain rfl : cs = [] := List.eq_nil_of_length_eq_zero hn
    have hrun := run_copy_none (P := Tryz.prog) w 38 38 3 5 (some ⟨g, o, none⟩) sp len len 0 sCap Tryz.underlying38 byteSize (by simp)
    refine ⟨w, ?_, by simpa [splice] using hg, Touch.refl _ _⟩
    rw [hrun]
    rfl
  · obtain ⟨ad, rfl, hsrc⟩ := hpos (by omega)
    have hg2 : w.heap[g]? = some (.cells (cur.map (Value.int .u8)).toArray 5 (0, 0)) := hg
    have hrun := run_copy_row (P := Tryz.prog) w 38 38 3 5 g o len len ad n sCap (cur.map (Value.int .u8)).toArray 5 (cs.map (Value.int .u8)) Tryz.underlying38 byteSize hg2 (by simp [hn, Nat.min_eq_left hnl]) (fun j v hj => by
      rw [List.getElem?_map] at hj
      cases hc : cs[j]? with
      | none => rw [hc] at hj; cases hj
      | some u => rw [hc] at hj; cases hj; exact hsrc j u hc) (by simpa [hn] using hfit) (by intro v hv; obtain ⟨z, _, rfl⟩ := List.mem_map.1 hv; rfl)
    refine ⟨w.setRow g ((cur.map (Value.int .u8)).toArray.toList.take o ++ cs.map (Value.int .u8) ++ (cur.map (Value.int .u8)).toArray.toList.drop (o + (cs.map (Value.int .u8)).length)).toArray, hrun.trans (by rw [show (cs.map (Value.int .u8)).length = n from by rw [List.length_map, hn]]; rfl), ?_, ⟨rfl, rfl, rfl, by simp [World.setRow], fun k _ hk => setRow_other w g k _ hk⟩⟩
    have := setRow_heap w g _ ((cur.map (Value.int .u8)).toArray.toList.take o ++ cs.map (Value.int .u8) ++ (cur.map (Value.int .u8)).toArray.toList.drop (o + (cs.map (Value.int .u8)).length)).toArray 5 _ hg2
    unfold byteRow
    rw [this]
    simp [splice, List.map_take, List.map_drop]


theorem blk_flat_set {qs : List Blk} {i r : Nat} {x y : Blk} {v : Value} (hx : qs[i]? = some x) (hr : r < 3) (hy : y.cells = x.cells.set r v) : (qs.flatMap Blk.cells).set (i * 3 + r) v = (qs.set i y).flatMap Blk.cells := by
  induction qs generalizing i with
  | nil => simp at hx
  | cons z qs ih =>
    cases i with
    | zero =>
      simp at hx
      subst hx
      rw [List.set_cons_zero, List.flatMap_cons, List.flatMap_cons, hy, Nat.zero_mul, Nat.zero_add, List.set_append_left _ _ (by show r < 3; exact hr)]
    | succ i =>
      have e : (i + 1) * 3 + r = z.cells.length + (i * 3 + r) := by show _ = 3 + _; omega
      rw [List.set_cons_succ, List.flatMap_cons, List.flatMap_cons, e, List.set_append_right _ _ (Nat.le_add_right _ _), Nat.add_sub_cancel_left, ih (by simpa using hx)]
theorem set_map_h {qs : List Blk} {i : Nat} {x y : Blk} (hx : qs[i]? = some x) (hh : y.h = x.h) : (qs.set i y).map Blk.h = qs.map Blk.h := by
  refine List.ext_getElem? (fun j => ?_)
  rw [List.getElem?_map, List.getElem?_map, List.getElem?_set]
  split
  · next e =>
    subst e
    have hi := (List.getElem?_eq_some_iff.1 hx).1
    rw [if_pos hi, hx]
    simp [hh]
  · rfl
theorem HB.set1 {w : World} {hp bp : Nat} {S : HpSt} {vm vb vh : Value} {vhs : List Value} {F G : Nat → Prop} {M : Nat} {b : BookSt} (h : HB w hp bp S vm vb vh vhs F G M b) {i r : Nat} {x y : Blk} {v : Value} (hx : S.bl[i]? = some x) (hr : r < 3) (hy : y.cells = x.cells.set r v) (hh : y.h = x.h) (hin : y.at' + y.len ≤ S.mem.length)
    {g n cap : Nat} (hv : vb = .slice (some ⟨g, 0, none⟩) n cap) : HB (w.setCell ⟨g, i * 3 + r, none⟩ v) hp bp { S with bl := S.bl.set i y } vm vb vh vhs F G M b ∧ Touch F w (w.setCell ⟨g, i * 3 + r, none⟩ v) := by
  have m := h.hm
  obtain ⟨a1, a2, a3, a4⟩ := m.apart
  have hg : vb.ownBlock = some g := by rw [hv]; rfl
  have hgne : g ≠ hp := a1 g hg
  have hFg := m.row.2 g hg
  have keep : ∀ k, k < w.heap.size → k ≠ g → (w.setCell ⟨g, i * 3 + r, none⟩ v).heap[k]? = w.heap[k]? := fun k _ hne => Below.heap_setCell _ ⟨g, i * 3 + r, none⟩ _ k hne
  have hsz : w.heap.size ≤ (w.setCell ⟨g, i * 3 + r, none⟩ v).heap.size := by simp [World.setCell]
  have hln : (S.bl.set i y).length = S.bl.length := List.length_set
  obtain ⟨_, _, hv2⟩ := wrow_sh m.row.1
  rw [hv] at hv2
  simp only [Value.slice.injEq] at hv2
  obtain ⟨_, hn, _⟩ := hv2
  refine ⟨h.re (fun k hk => hk) (fun k hk => Or.inl hk) (fun k hk => Nat.lt_of_lt_of_le (h.fl k hk) hsz) hsz (fun k hk hne _ hv => keep k hk (fun e => hv (e ▸ hg))) ((keep hp (lt_of m.self) (fun e => hgne e.symm)).trans m.self) ⟨?_, m.mem.2⟩ m.mb m.msh rfl ⟨?_, m.row.2⟩ (fun k hk => Or.inl hk) rfl ?_ (fun z hz => ?_) ⟨by show (S.bl.set i y).length ≤ 500; rw [hln]; exact m.big.2.1, m.big.2.2.1, m.big.2.2.2.1⟩, Touch.setCell (F := F) (p := ⟨g, i * 3 + r, none⟩) (Touch.refl F w) (Or.inl hFg) _⟩
  · exact ownsRow_same m.mem.1 (fun k hk => keep k (m.mem.1.lt k hk).2 (fun e => rowApart m.mem.1 m.row.1 (by decide) hk (e ▸ hg)))
  · show World.ownsRow _ 0 _ 3 vb (S.bl.set i y).length ((S.bl.set i y).flatMap Blk.cells)
    have hrow := m.row.1
    rw [hv, hn] at hrow ⊢
    rw [hln, ← blk_flat_set hx hr hy]
    exact wrow_set hrow (i * 3 + r) v
  · show ((S.bl.set i y).map Blk.h).Pairwise (· < ·)
    rw [set_map_h hx hh]
    exact m.ord
  · rcases List.mem_or_eq_of_mem_set hz with h1 | rfl
    · exact m.hb z h1
    · have := m.hb x (List.mem_of_getElem? hx)
      exact ⟨by rw [hh]; exact this.1, by rw [hh]; exact this.2.1, hin⟩
/-- copy of octets of the memory within the memory. -/
theorem HB.cpy {w : World} {hp bp : Nat} {S : HpSt} {vm vb vh : Value} {vhs : List Value} {F G : Nat → Prop} {M : Nat} {b : BookSt} (h : HB w hp bp S vm vb vh vhs F G M b) (to' n fr k c : Nat) (ad sr : Option Addr) (hle : to' + n ≤ S.mem.length) (hkn : k ≤ n) (hle2 : fr + k ≤ S.mem.length)
    (hd : 0 < n → ∃ g cap, vm = .slice (some ⟨g, 0, none⟩) S.mem.length cap ∧ ad = some ⟨g, to', none⟩) (hs : 0 < k → ∃ g cap, vm = .slice (some ⟨g, 0, none⟩) S.mem.length cap ∧ sr = some ⟨g, fr, none⟩) :
    ∃ w', (Builtin.copy_ #[38, 38] 3 #[.slice ad n n, .slice sr k c]).run Tryz.prog w = .ok (.int .i64 k) w' ∧ HB w' hp bp { S with mem := splice S.mem to' ((S.mem.drop fr).take k) } vm vb vh vhs F G M b ∧ Touch (fun k => vm.ownBlock = some k) w w' := by
  have hcl : ((S.mem.drop fr).take k).length = k := by rw [List.length_take, List.length_drop]; omega
  by_cases h0 : n = 0
  · have hk : k = 0 := by omega
    subst hk
    subst h0
    have hrun := run_copy_none (P := Tryz.prog) w 38 38 3 5 ad sr 0 0 0 c Tryz.underlying38 byteSize (by simp)
    refine ⟨w, by rw [hrun]; rfl, ?_, Touch.refl _ _⟩
    have e : ({ S with mem := splice S.mem to' ((S.mem.drop fr).take 0) } : HpSt) = S := by simp [splice]
    rw [e]
    exact h
  · obtain ⟨g, hg, hrow, _⟩ := h.hm.bytes (by omega)
    have hg2 : ∀ {a : Option Addr} {o : Nat}, (∃ g cap, vm = .slice (some ⟨g, 0, none⟩) S.mem.length cap ∧ a = some ⟨g, o, none⟩) → a = some ⟨g, o, none⟩ := fun {a o} hx => by
      obtain ⟨g', c', hg', ha⟩ := hx
      rw [hg] at hg'
      simp only [Value.slice.injEq, Option.some.injEq, Addr.mk.injEq, and_true] at hg'
      rw [ha, hg'.1]
    have e1 := hg2 (hd (by omega))
    subst e1
    obtain ⟨w', h1, h2, h3⟩ := copy_at_fact w g to' n sr k c S.mem ((S.mem.drop fr).take k) hrow hcl hkn (fun hk => by
      refine ⟨_, hg2 (hs hk), fun j v hj => ?_⟩
      have hj2 := (List.getElem?_eq_some_iff.1 hj).1
      rw [hcl] at hj2
      rw [List.getElem?_take, if_pos hj2, List.getElem?_drop] at hj
      rw [Addr.add_lit, cell_of hrow]
      simp [List.getElem?_map, hj]) (by omega)
    refine ⟨w', h1, h.octs hg h2 (by unfold splice; simp [hcl]; omega) (fun u hu => ?_) h3, h3.mono (fun k hk => by rw [hg, hk]; rfl)⟩
    unfold splice at hu
    rcases List.mem_append.1 hu with h4 | h4
    · exact h.hm.mb u (List.mem_of_mem_take h4)
    · rcases List.mem_append.1 h4 with h5 | h5
      · exact h.hm.mb u (List.mem_of_mem_drop (List.mem_of_mem_take h5))
      · exact h.hm.mb u (List.mem_of_mem_drop h5)

/-! stays. -/
set_option maxHeartbeats 1000000 in
set_option maxRecDepth 100000 in
theorem stays1 (x : Gp) (b1 b2 : Nat) (fr len n : Int) (W : World) (h1 : W.cell? ⟨b1, 1, none⟩ = some (.int .i64 fr)) (h2 : W.cell? ⟨b1, 2, none⟩ = some (.int .i64 len)) (h3 : W.cell? ⟨b2, 0, none⟩ = some (.int .i64 n)) (hf : 0 ≤ fr ∧ fr ≤ 1000000) (hl : 0 ≤ len ∧ len ≤ 1000000) (hn : 0 ≤ n ∧ n ≤ 1000000) :
    Calls Tryz.prog 91 #[.agg #[.int .i64 (x.at' : Int), .int .i64 (x.len : Int)], .pointer (some ⟨b1, 0, none⟩), .pointer (some ⟨b2, 0, none⟩)] W fun e w' => e = .returned (.bool (decide ((x.at' : Int) = fr + len) && decide (n - len ≤ (x.len : Int)))) ∧ Below W.heap.size W w' := by
  obtain ⟨a1, a2⟩ := x
  have l1 : b1 < W.heap.size := World.block_lt_of_cell? W ⟨b1, 1, none⟩ h1
  have l2 : b2 < W.heap.size := World.block_lt_of_cell? W ⟨b2, 0, none⟩ h3
  have g1 : (W.alloc (.cells #[.int .i64 (a1 : Int), .int .i64 (a2 : Int)] 92)).cell? ⟨b1, 1, none⟩ = some (.int .i64 fr) := Lib.cell?_alloc_some _ h1
  have g2 : (W.alloc (.cells #[.int .i64 (a1 : Int), .int .i64 (a2 : Int)] 92)).cell? ⟨b1, 2, none⟩ = some (.int .i64 len) := Lib.cell?_alloc_some _ h2
  have g3 : (W.alloc (.cells #[.int .i64 (a1 : Int), .int .i64 (a2 : Int)] 92)).cell? ⟨b2, 0, none⟩ = some (.int .i64 n) := Lib.cell?_alloc_some _ h3
  have FIN := Lib.hid ((Below.refl _ W).alloc (Nat.le_refl _) (.cells #[.int .i64 (a1 : Int), .int .i64 (a2 : Int)] 92))
  clear h1 h2 h3
  by_cases e : (a1 : Int) = fr + len
  · have e' : ((a1 : Int) == fr + len) = true := by simp [e]
    rw [show decide ((a1 : Int) = fr + len) = true from by simp [e], Bool.true_and]
    clear e
    go_enter Tryz.func91, Tryz.ntmps91
    go_wp2_with fail
    go_ret
    exact ⟨by first | rfl | simp, FIN.out⟩
  · have e' : ((a1 : Int) == fr + len) = false := by simp [e]
    rw [show decide ((a1 : Int) = fr + len) = false from by simp [e], Bool.false_and]
    clear e
    go_enter Tryz.func91, Tryz.ntmps91
    go_wp2_with fail
    go_ret
    exact ⟨by first | rfl | simp, FIN.out⟩

/-- ContainsFunc over gaps. -/
theorem contains_none (a : Option Addr) (cap : Nat) (fv : Value) (w : World) : Calls Tryz.prog 90 #[.slice a 0 cap, fv] w fun e w' => e = .returned (.bool false) ∧ w' = w := by
  have C : ∀ fv W, Calls Tryz.prog 106 #[.slice a 0 cap, fv] W fun e w' => e = .returned (.int .i64 (-1)) ∧ w' = W := fun fv W => by
    go_enter Tryz.func106, Tryz.ntmps106
    go_wp2_with fail
    refine wp_loop_rounds 1 ?_
    rw [rounds_succ]
    go_wp2_with fail
    go_ret
    exact ⟨rfl, rfl⟩
  have HC := Lib.hid C
  clear C
  go_enter Tryz.func90, Tryz.ntmps90
  go_wp2_with fail
  refine (HC.out _ _).mono ?_
  rintro e w' ⟨rfl, hw⟩
  obtain rfl := hw
  go_wp2_with fail
  go_ret
  exact ⟨rfl, rfl⟩
theorem contains_gp {B : Nat} {v : Value} (ls : List Gp) (fn : FuncId) (fv : Array Value) (p : Gp → Bool) (w : World) (hr : w.ownsRow B 92 2 v ls.length (ls.flatMap Gp.cells)) (hbig : ls.length ≤ 9223372036854775807) (eg : ∀ args w, (callFunc fn args).run Tryz.prog w = .ok (.enter fn args) w)
    (hp : ∀ (W : World) (x : Gp), Below w.heap.size w W → Calls Tryz.prog fn (#[.agg #[.int .i64 (x.at' : Int), .int .i64 (x.len : Int)]] ++ fv) W fun e w' => e = .returned (.bool (p x)) ∧ Below W.heap.size W w') :
    Calls Tryz.prog 90 #[v, .func (.func fn) #[] fv] w fun e w' => e = .returned (.bool (ls.any p)) ∧ Below w.heap.size w w' := by
  rcases Nat.eq_zero_or_pos ls.length with h0 | h0
  · have hz : ls = [] := List.length_eq_zero_iff.1 h0
    subst hz
    obtain ⟨a, cap, rfl⟩ := wrow_sh hr
    refine (contains_none a cap _ w).mono ?_
    rintro e w' ⟨rfl, hw⟩
    obtain rfl := hw.symm
    exact ⟨rfl, Below.refl _ _⟩
  · obtain ⟨g, cap, cur, rfl, hge, hg, _, _, _, _, hc⟩ := grow_open hr h0
    have := Tryz.slices_ContainsFunc 2 Tryz.isAgg92 Tryz.sizeOf92 Gp.cells (fun x => rfl) p fn fv eg g 0 ls.length cap ls w (fun W x hb => (hp W x hb).mono fun e w' ⟨a, b⟩ => ⟨a, hb.trans (b.mono hb.size)⟩) (Nat.le_refl _) hbig (lt_of hg) (fun j hj i v hv => by
      have hi : i < 2 := (List.getElem?_eq_some_iff.1 hv).1
      rw [Nat.zero_add, hc j ls[j]! (by rw [getElem!_pos ls j hj]; exact List.getElem?_eq_getElem hj) i hi]
      exact hv)
    rw [List.take_length] at this
    exact this

theorem sorted_exists (l : List Blk) : ∃ L, SortedL l L := by
  refine ⟨l.mergeSort (fun a b => decide (a.at' ≤ b.at')), List.mergeSort_perm _ _, ?_⟩
  have := List.pairwise_mergeSort (le := fun (a b : Blk) => decide (a.at' ≤ b.at')) (by intro a b c h1 h2; simp at *; omega) (by intro a b; simp; omega) l
  exact this.imp (fun h => by simpa using h)
def stB (x : Blk) (n : Nat) (g : Gp) : Bool := decide ((g.at' : Int) = (x.at' : Int) + (x.len : Int)) && decide ((n : Int) - (x.len : Int) ≤ (g.len : Int))
def StPost (S : HpSt) (x : Blk) (n : Nat) (w : World) : Ending → World → Prop := fun e w' => ∃ L, SortedL (lieL S.bl) L ∧ e = .returned (.bool (decide (0 < x.len) && (gapsOf S.mem.length L).any (stB x n))) ∧ Below w.heap.size w w'

set_option maxHeartbeats 2000000 in
set_option maxRecDepth 100000 in
theorem staysM_any {w : World} {F : Nat → Prop} {hp bp : Nat} {S : HpSt} {vm vb vh : Value} {vhs : List Value} (m : HpMem w F hp bp S vm vb vh vhs) (x : Blk) (n : Nat) (hx : x.at' + x.len ≤ 1000000) (hn : n ≤ 1000000) :
    Calls Tryz.prog 43 #[.pointer (some ⟨hp, 0, none⟩), .agg #[.int .i64 (x.h : Int), .int .i64 (x.at' : Int), .int .i64 (x.len : Int)], .int .i64 (n : Int)] w (StPost S x n w) := by
  have B0 : Below w.heap.size w (w.alloc (.cells #[.int .i64 (x.h : Int), .int .i64 (x.at' : Int), .int .i64 (x.len : Int)] 78)) := (Below.refl _ w).alloc (Nat.le_refl _) _
  have N0 := heap_alloc_new w (.cells #[.int .i64 (x.h : Int), .int .i64 (x.at' : Int), .int .i64 (x.len : Int)] 78)
  have hsz : (w.alloc (.cells #[.int .i64 (x.h : Int), .int .i64 (x.at' : Int), .int .i64 (x.len : Int)] 78)).heap.size = w.heap.size + 1 := by simp
  have B1 : Below (w.alloc (.cells #[.int .i64 (x.h : Int), .int .i64 (x.at' : Int), .int .i64 (x.len : Int)] 78)).heap.size (w.alloc (.cells #[.int .i64 (x.h : Int), .int .i64 (x.at' : Int), .int .i64 (x.len : Int)] 78)) ((w.alloc (.cells #[.int .i64 (x.h : Int), .int .i64 (x.at' : Int), .int .i64 (x.len : Int)] 78)).alloc (.cells #[.int .i64 (n : Int)] 3)) := (Below.refl _ _).alloc (Nat.le_refl _) _
  have N1 := heap_alloc_new (w.alloc (.cells #[.int .i64 (x.h : Int), .int .i64 (x.at' : Int), .int .i64 (x.len : Int)] 78)) (.cells #[.int .i64 (n : Int)] 3)
  rw [hsz] at N1
  have N0' := (B1.block _ (lt_of N0)).trans N0
  have BB := B0.trans (B1.mono B0.size)
  have HST := Lib.hid (And.intro N0' (And.intro N1 BB))
  have GA := Lib.hid (gapsM_any (m.below BB))
  have HM := Lib.hid m
  have egD : ∀ args w, (callFunc 91 args).run Tryz.prog w = .ok (.enter 91 args) w := enters_of Tryz.func91 (by kernel_rfl) rfl
  have HEG := Lib.hid egD
  have hlen : x.len ≤ 1000000 := by omega
  have d1 : ((w.alloc (.cells #[.int .i64 (x.h : Int), .int .i64 (x.at' : Int), .int .i64 (x.len : Int)] 78)).alloc (.cells #[.int .i64 (n : Int)] 3)).cell? ⟨w.heap.size, 2, none⟩ = some (.int .i64 (x.len : Int)) := (cell_of N0' 2).trans rfl
  clear m N0 N1 B0 B1 N0' BB hsz egD
  go_enter Tryz.func43, Tryz.ntmps43
  go_upto_region 1 with fail
  generalize (w.alloc (.cells #[.int .i64 (x.h : Int), .int .i64 (x.at' : Int), .int .i64 (x.len : Int)] 78)).alloc (.cells #[.int .i64 (n : Int)] 3) = W0 at *
  by_cases h0 : 0 < x.len
  · go_wp2_with fail
    refine GA.out.mono ?_
    rintro e w1 ⟨L, v, hs, rfl, hrow, hb⟩
    have B1 := HST.out.2.2.trans (hb.mono HST.out.2.2.size)
    have n1 := (hb.block _ (lt_of HST.out.1)).trans HST.out.1
    have n2 := (hb.block _ (lt_of HST.out.2.1)).trans HST.out.2.1
    have hfew := HM.out.big.2.1
    have hgl := gapsOf_len S.mem.length L
    have hsl := hs.len
    have CG := Lib.hid (contains_gp (gapsOf S.mem.length L) _ #[.pointer (some ⟨w.heap.size, 0, none⟩), .pointer (some ⟨w.heap.size + 1, 0, none⟩)] (stB x n) w1 hrow (by omega) HEG.out (fun W y hW => stays1 y w.heap.size (w.heap.size + 1) (x.at' : Int) (x.len : Int) (n : Int) W ((cell_of ((hW.block _ (lt_of n1)).trans n1) 1).trans rfl) ((cell_of ((hW.block _ (lt_of n1)).trans n1) 2).trans rfl) ((cell_of ((hW.block _ (lt_of n2)).trans n2) 0).trans rfl) (by omega) (by omega) (by omega)))
    have FIN : Hid (∀ w', Below w1.heap.size w1 w' → StPost S x n w (.returned (.bool ((gapsOf S.mem.length L).any (stB x n)))) w') := Lib.hid (fun w' hb' => ⟨L, hs, by simp [h0], B1.trans (hb'.mono B1.size)⟩)
    obtain ⟨ra, rc, hv⟩ := wrow_sh hrow
    generalize (gapsOf S.mem.length L).length = gl at *
    subst hv
    clear hs hrow hb B1 n1 n2 hfew hgl hsl GA
    go_wp2_with fail
    refine CG.out.mono ?_
    rintro e w2 ⟨rfl, hb2⟩
    have HF := Lib.hid (FIN.out w2 hb2)
    clear FIN CG hb2
    generalize (gapsOf S.mem.length L).any (stB x n) = bb at *
    go_wp2_with fail
    go_ret
    exact HF.out
  · obtain ⟨L, hs⟩ := sorted_exists (lieL S.bl)
    have FIN : Hid (StPost S x n w (.returned (.bool false)) W0) := Lib.hid ⟨L, hs, by simp [h0], HST.out.2.2⟩
    clear hs
    go_wp2_with fail
    go_ret
    exact FIN.out

end Go.Proofs.YtjogaohnphafgaaGreat
