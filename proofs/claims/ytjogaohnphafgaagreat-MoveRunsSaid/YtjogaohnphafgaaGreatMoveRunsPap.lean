/-
  The gap that is chosen: slices.MinFunc over gaps, gap. No conditions but bounds.
  A book with one account, number 1, with limit M, which holds n: Take and Give. No conditions but bounds.
-/
import Derived.Test.YtjogaohnphafgaaGreatMoveRunsPao
import Derived.Laws.ResultCell
import Derived.Test.YtjogaohnphafgaaGreatMoveRunsPah

namespace Go.Proofs.YtjogaohnphafgaaGreat
section
open Go.RowKit Go.Sort
set_option linter.unusedVariables false

theorem bgrow {B : Nat} {a w : World} (h : Below B a w) (hB : B ≤ w.heap.size) (n : Nat) (os : Array Obj) : Below B a (grow (w.drewN n) os) :=
  ⟨h.os, h.tape, h.output, Nat.le_trans h.size (by simp [grow]), fun k hk => (heap_grow_old (w.drewN n) os (by show k < w.heap.size; omega)).trans (h.block k hk)⟩
theorem res2 {W : World} {r : Nat} {t : TypeId} {x0 x1 a b : Value} (h : W.heap[r]? = some (.cells #[x0, x1] t (0, 0))) : ((W.setCell ⟨r, 0, none⟩ a).setCell ⟨r, 1, none⟩ b).heap[r]? = some (.cells #[a, b] t (0, 0)) := by
  have h0 := block_setCell h 0 a
  have h1 := block_setCell h0 1 b
  exact h1
theorem cells2 {W : World} {r : Nat} {t : TypeId} {a b : Value} (h : W.heap[r]? = some (.cells #[a, b] t (0, 0))) : W.cell? ⟨r, 0, none⟩ = some a ∧ W.cell? ⟨r, 1, none⟩ = some b := by
  refine ⟨?_, ?_⟩ <;> (rw [cell_of h]; rfl)
theorem below2 {w W : World} {B : Nat} (h : Below B w W) {r : Nat} (hr : B ≤ r) (a b : Value) : Below B w ((W.setCell ⟨r, 0, none⟩ a).setCell ⟨r, 1, none⟩ b) := (h.setCell (p := ⟨r, 0, none⟩) hr _).setCell (p := ⟨r, 1, none⟩) hr _
theorem res_cell {fn : Func} {p : Tmp} {ty : TypeId} (h : fn.results = #[.cell p ty]) (tmps : Array Value) (P : Program) (w : World) :
    (results fn tmps).run P w = ((asAddr (tmps.getD p undef)).run P w).andThen fun a w₁ => (loadVar ty a).run P w₁ := by
  simp only [results, h]
  simp [Sem.run_bind, Result.andThen]

/-! The closures. -/
set_option maxHeartbeats 1000000 in
set_option maxRecDepth 100000 in
theorem gap1 (x : Gp) (bx : Nat) (n : Int) (W : World) (h : W.cell? ⟨bx, 0, none⟩ = some (.int .i64 n)) : Calls Tryz.prog 100 #[.agg #[.int .i64 (x.at' : Int), .int .i64 (x.len : Int)], .pointer (some ⟨bx, 0, none⟩)] W fun e w' => e = .returned (.bool (decide ((x.len : Int) < n))) ∧ Below W.heap.size W w' := by
  obtain ⟨a1, a2⟩ := x
  have h' : (W.alloc (.cells #[.int .i64 (a1 : Int), .int .i64 (a2 : Int)] 92)).cell? ⟨bx, 0, none⟩ = some (.int .i64 n) := Lib.cell?_alloc_some _ h
  have hlt : bx < W.heap.size := World.block_lt_of_cell? W ⟨bx, 0, none⟩ h
  have FIN := Lib.hid ((Below.refl _ W).alloc (Nat.le_refl _) (.cells #[.int .i64 (a1 : Int), .int .i64 (a2 : Int)] 92))
  clear h
  go_enter Tryz.func100, Tryz.ntmps100
  go_wp2_with fail
  go_ret
  exact ⟨rfl, FIN.out⟩
def cmpG (x y : Gp) : Int := Lib.compareInt (x.len : Int) (y.len : Int)
theorem cmpG_lt (x y : Gp) : cmpG x y < 0 ↔ x.len < y.len := by
  unfold cmpG Lib.compareInt
  rcases Int.lt_trichotomy (x.len : Int) (y.len : Int) with h | h | h
  · rw [if_pos h]; constructor <;> intro _ <;> omega
  · rw [if_neg (by omega), if_neg (by omega)]; constructor <;> intro _ <;> omega
  · rw [if_neg (by omega), if_pos (by omega)]; constructor <;> intro _ <;> omega
set_option maxHeartbeats 1000000 in
set_option maxRecDepth 100000 in
theorem gap2 (x y : Gp) (W : World) : Calls Tryz.prog 102 #[.agg #[.int .i64 (x.at' : Int), .int .i64 (x.len : Int)], .agg #[.int .i64 (y.at' : Int), .int .i64 (y.len : Int)]] W fun e w' => e = .returned (.int .i64 (cmpG x y)) ∧ ∃ q os', w' = grow (W.drewN q) os' := by
  have HCON := Lib.hid (fun (a b : Int) (W' : World) => Tryz.cmp_Compare_int a b W')
  unfold cmpG
  obtain ⟨x1, x2⟩ := x
  obtain ⟨y1, y2⟩ := y
  simp only
  have hG : (W.alloc (.cells #[.int .i64 (x1 : Int), .int .i64 (x2 : Int)] 92)).alloc (.cells #[.int .i64 (y1 : Int), .int .i64 (y2 : Int)] 92) = grow (W.drewN 0) #[.cells #[.int .i64 (x1 : Int), .int .i64 (x2 : Int)] 92, .cells #[.int .i64 (y1 : Int), .int .i64 (y2 : Int)] 92] := by
    rw [alloc_eq_grow, alloc_eq_grow, grow_grow]; rfl
  have HG := Lib.hid hG
  clear hG
  go_enter Tryz.func102, Tryz.ntmps102
  go_wp2_with fail
  refine (HCON.out _ _ _).mono ?_
  rintro e w2 ⟨rfl, hw⟩
  obtain rfl := hw
  go_wp2_with fail
  go_ret
  exact ⟨rfl, 0, _, HG.out⟩
theorem gap2_grown (x y : Gp) (w : World) (n : Nat) (os : Array Obj) : Calls Tryz.prog 102 #[.agg #[.int .i64 (x.at' : Int), .int .i64 (x.len : Int)], .agg #[.int .i64 (y.at' : Int), .int .i64 (y.len : Int)]] (grow (w.drewN n) os) fun e w' => e = .returned (.int .i64 (cmpG x y)) ∧ ∃ p : GrownBy, w' = grow (w.drewN p.n) p.os :=
  Calls.grown_of (gap2 x y _)

/-! MinFunc. -/
def minOf (m : Gp) (l : List Gp) : Gp := l.foldl (fun m y => if y.len < m.len then y else m) m
def minG : List Gp → Option Gp
  | [] => none
  | x :: l => some (minOf x l)
theorem minOf_take (m : Gp) {l : List Gp} {k : Nat} {y : Gp} (h : l[k]? = some y) : minOf m (l.take (k + 1)) = if y.len < (minOf m (l.take k)).len then y else minOf m (l.take k) := by
  unfold minOf
  rw [List.take_add_one, h, List.foldl_append]
  rfl
theorem minOf_mem : ∀ (l : List Gp) (m : Gp), minOf m l = m ∨ minOf m l ∈ l
  | [], m => Or.inl rfl
  | y :: l, m => by
    have e : minOf m (y :: l) = minOf (if y.len < m.len then y else m) l := rfl
    rw [e]
    rcases minOf_mem l (if y.len < m.len then y else m) with h | h
    · rw [h]
      split
      · exact Or.inr List.mem_cons_self
      · exact Or.inl rfl
    · exact Or.inr (List.mem_cons_of_mem _ h)
theorem minG_mem {l : List Gp} {g : Gp} (h : minG l = some g) : g ∈ l := by
  cases l with
  | nil => cases h
  | cons x l =>
    simp only [minG, Option.some.injEq] at h
    subst h
    rcases minOf_mem l x with h | h
    · rw [h]; exact List.mem_cons_self
    · exact List.mem_cons_of_mem _ h

set_option maxHeartbeats 4000000 in
set_option maxRecDepth 100000 in
theorem min_gp {B g cap : Nat} (x : Gp) (l : List Gp) {w : World} (hr : w.ownsRow B 92 2 (.slice (some ⟨g, 0, none⟩) (x :: l).length cap) (x :: l).length ((x :: l).flatMap Gp.cells)) (hlen : (x :: l).length ≤ 1000000) :
    Calls Tryz.prog 101 #[.slice (some ⟨g, 0, none⟩) (x :: l).length cap, .func (.func 102) #[] #[]] w (fun e w' => e = .returned (.agg #[.int .i64 ((minOf x l).at' : Int), .int .i64 ((minOf x l).len : Int)]) ∧ Below w.heap.size w w') := by
  obtain ⟨g', cap', cur, hv, _, hg, _, _, _, _, hc⟩ := grow_open hr (by simp)
  simp only [Value.slice.injEq, Option.some.injEq, Addr.mk.injEq, and_true] at hv
  obtain ⟨rfl, _, rfl⟩ := hv
  have mixed : Tryz.prog.follows .mixedOrders = true := by kernel_rfl
  have B0 : Below w.heap.size w (w.alloc (.cells #[.int .i64 0, .int .i64 0] 92)) := (Below.refl _ w).alloc (Nat.le_refl _) _
  have hc0 : w.cell? ⟨g, 0, none⟩ = some (.int .i64 (x.at' : Int)) := by have := hc 0 x rfl 0 (by omega); rw [Nat.zero_mul, Nat.zero_add] at this; exact this
  have hc1 : w.cell? ⟨g, 1, none⟩ = some (.int .i64 (x.len : Int)) := by have := hc 0 x rfl 1 (by omega); rw [Nat.zero_mul, Nat.zero_add] at this; exact this
  have d0 := old_cell B0 hc0
  have d1 := old_cell B0 hc1
  have R0 := heap_alloc_new w (.cells #[.int .i64 0, .int .i64 0] 92)
  have HC := Lib.hid (fun (k : Nat) (y : Gp) (h : l[k]? = some y) => hc (k + 1) y (by simpa using h))
  have B1 : Below (w.alloc (.cells #[.int .i64 0, .int .i64 0] 92)).heap.size (w.alloc (.cells #[.int .i64 0, .int .i64 0] 92)) ((w.alloc (.cells #[.int .i64 0, .int .i64 0] 92)).alloc (.cells #[.int .i64 (x.at' : Int), .int .i64 (x.len : Int)] 92)) := (Below.refl _ _).alloc (Nat.le_refl _) _
  have M1 := heap_alloc_new (w.alloc (.cells #[.int .i64 0, .int .i64 0] 92)) (.cells #[.int .i64 (x.at' : Int), .int .i64 (x.len : Int)] 92)
  have R1 := (B1.block _ (lt_of R0)).trans R0
  have BB := B0.trans (B1.mono B0.size)
  have hsz : (w.alloc (.cells #[.int .i64 0, .int .i64 0] 92)).heap.size = w.heap.size + 1 := by simp
  rw [hsz] at M1
  have hgl := lt_of hg
  obtain ⟨N, hN⟩ : ∃ N, (x :: l).length = N := ⟨_, rfl⟩
  have hN' : l.length + 1 = N := by rw [← hN]; rfl
  have HN := Lib.hid hN'
  rw [hN] at hlen ⊢
  have hN0 : ¬ (N : Int) < 1 := by omega
  have hN1 : 0 < N := by omega
  have HST := Lib.hid (And.intro R1 (And.intro M1 BB))
  clear hr hg hc hc0 hc1 R0 B1 M1 R1 hN hN' hsz BB
  go_enter Tryz.func101, Tryz.ntmps101
  go_wp2_with fail
  clear d0 d1 B0
  generalize (w.alloc (.cells #[.int .i64 0, .int .i64 0] 92)).alloc (.cells #[.int .i64 (x.at' : Int), .int .i64 (x.len : Int)] 92) = W at *
  obtain ⟨r, hr⟩ : ∃ r, w.heap.size = r := ⟨_, rfl⟩
  have HR := Lib.hid hr
  rw [hr] at HST hgl ⊢
  clear hr
  go_loopw [6] (fun i wr => ∃ j : Nat, 1 ≤ j ∧ j ≤ N ∧ i = .int .i64 (j : Int) ∧ wr.heap[r]? = some (.cells #[.int .i64 0, .int .i64 0] 92 (0, 0)) ∧ wr.heap[r + 1]? = some (.cells #[.int .i64 ((minOf x (l.take (j - 1))).at' : Int), .int .i64 ((minOf x (l.take (j - 1))).len : Int)] 92 (0, 0)) ∧ Below r w wr) (fun i _ => N - (intOf i).toNat)
  case atStart => exact ⟨1, by omega, by omega, rfl, HST.out.1, HST.out.2.1, HST.out.2.2⟩
  case round =>
    obtain ⟨j, hj1, hj, rfl, hR, hM, hb⟩ := hrel
    obtain ⟨k, hkj⟩ : ∃ k, k + 1 = j := ⟨j - 1, by omega⟩
    have HKJ := Lib.hid hkj
    have hj2 : j - 1 = k := by omega
    rw [hj2] at hM
    clear hkj hj2
    have lr := lt_of hR
    have lm := lt_of hM
    obtain ⟨e0, e1⟩ := cells2 hM
    obtain ⟨f0, f1⟩ := cells2 hR
    have HB := Lib.hid hb
    have HRR := Lib.hid hR
    have HMM := Lib.hid hM
    by_cases hlt : j < N
    · have hlt' : (j : Int) < (N : Int) := by omega
      obtain ⟨y, hy⟩ : ∃ y, l[k]? = some y := ⟨_, List.getElem?_eq_getElem (by have := HN.out; have := HKJ.out; omega)⟩
      have c0 : wr.cell? ⟨g, j * 2, none⟩ = some (.int .i64 (y.at' : Int)) := (hb.cell (p := ⟨g, j * 2, none⟩) hgl).trans (by have := HC.out k y hy 0 (by omega); rw [HKJ.out] at this; exact this)
      have c1 : wr.cell? ⟨g, j * 2 + 1, none⟩ = some (.int .i64 (y.len : Int)) := (hb.cell (p := ⟨g, j * 2 + 1, none⟩) hgl).trans (by have := HC.out k y hy 1 (by omega); rw [HKJ.out] at this; exact this)
      have lg : g < wr.heap.size := by omega
      have HT := Lib.hid (minOf_take x hy)
      generalize minOf x (l.take k) = mm at *
      have g0 := fun n os => cell_grown (a := ⟨g, j * 2, none⟩) lg c0 n os
      have g1 := fun n os => cell_grown (a := ⟨g, j * 2 + 1, none⟩) lg c1 n os
      have p0 := fun n os => cell_grown (a := ⟨r + 1, 0, none⟩) lm e0 n os
      have p1 := fun n os => cell_grown (a := ⟨r + 1, 1, none⟩) lm e1 n os
      have CM := Lib.hid (fun n os => gap2_grown y mm wr n os)
      have KEY : Hid (∀ n os, Below r w (grow (wr.drewN n) os) ∧ (grow (wr.drewN n) os).heap[r]? = some (.cells #[.int .i64 0, .int .i64 0] 92 (0, 0)) ∧ (grow (wr.drewN n) os).heap[r + 1]? = some (.cells #[.int .i64 (mm.at' : Int), .int .i64 (mm.len : Int)] 92 (0, 0))) := Lib.hid (fun n os => ⟨bgrow hb (by omega) n os, (heap_grow_old (wr.drewN n) os lr).trans hR, (heap_grow_old (wr.drewN n) os lm).trans hM⟩)
      have HLT := Lib.hid (cmpG_lt y mm)
      obtain ⟨cv, hcv⟩ : ∃ cv, cmpG y mm = cv := ⟨_, rfl⟩
      rw [hcv] at CM HLT
      clear hy hR hM hb e0 e1 f0 f1 c0 c1 hcv lg lr lm HB HRR HMM HC
      go_upto_region 7 with fail
      by_cases hl : cv < 0
      · go_quiet_grown (first | (go_at_call 102; exact CM.out _ _))
        have c0 := g0 nq osq
        have c1 := g1 nq osq
        obtain ⟨kb, kr, km⟩ := KEY.out nq osq
        obtain ⟨q0, q1⟩ := cells2 km
        have z0 := free_of km 0
        have z1 := free_of km 1
        clear g0 g1 p0 p1 CM KEY
        generalize grow (wr.drewN nq) osq = W2 at *
        have FIN : Hid (((W2.setCell ⟨r + 1, 0, none⟩ (.int .i64 (y.at' : Int))).setCell ⟨r + 1, 1, none⟩ (.int .i64 (y.len : Int))).heap[r]? = some (.cells #[.int .i64 0, .int .i64 0] 92 (0, 0)) ∧ ((W2.setCell ⟨r + 1, 0, none⟩ (.int .i64 (y.at' : Int))).setCell ⟨r + 1, 1, none⟩ (.int .i64 (y.len : Int))).heap[r + 1]? = some (.cells #[.int .i64 (y.at' : Int), .int .i64 (y.len : Int)] 92 (0, 0)) ∧ Below r w ((W2.setCell ⟨r + 1, 0, none⟩ (.int .i64 (y.at' : Int))).setCell ⟨r + 1, 1, none⟩ (.int .i64 (y.len : Int)))) := Lib.hid ⟨(Below.heap_setCell _ _ _ _ (by simp)).trans ((Below.heap_setCell _ _ _ _ (by simp)).trans kr), res2 km, (kb.setCell (p := ⟨r + 1, 0, none⟩) (Nat.le_succ r) _).setCell (p := ⟨r + 1, 1, none⟩) (Nat.le_succ r) _⟩
        clear kb kr km
        go_wp2_with fail
        go_roundw
        case measure => simp only [intOf]; omega
        case rel => exact ⟨j + 1, by omega, by omega, by go_num, FIN.out.1, by rw [Nat.add_sub_cancel, ← HKJ.out, HT.out, if_pos (HLT.out.1 hl)]; exact FIN.out.2.1, FIN.out.2.2⟩
      · go_quiet_grown (first | (go_at_call 102; exact CM.out _ _))
        have KK := Lib.hid (KEY.out nq osq)
        clear g0 g1 p0 p1 CM KEY
        go_wp2_with fail
        go_roundw
        case measure => simp only [intOf]; omega
        case rel => exact ⟨j + 1, by omega, by omega, by go_num, KK.out.2.1, by rw [Nat.add_sub_cancel, ← HKJ.out, HT.out, if_neg (fun h => hl (HLT.out.2 h))]; exact KK.out.2.2, KK.out.1⟩
    · obtain rfl : N = j := by omega
      have ek : l.take k = l := List.take_of_length_le (by have := HN.out; have := HKJ.out; omega)
      rw [ek] at hM e0 e1
      have z0 := free_of hR 0
      have z1 := free_of hR 1
      have RR := Lib.hid (res2 (a := .int .i64 ((minOf x l).at' : Int)) (b := .int .i64 ((minOf x l).len : Int)) hR)
      have BF := Lib.hid (below2 (Below.trans hb (Below.refl r wr)) (Nat.le_refl r) (.int .i64 ((minOf x l).at' : Int)) (.int .i64 ((minOf x l).len : Int)))
      obtain ⟨mm, hmm⟩ : ∃ mm, minOf x l = mm := ⟨_, rfl⟩
      have HMM2 := Lib.hid hmm
      rw [hmm] at e0 e1 RR BF
      clear hR hM hb lr lm ek HMM HRR HC hmm
      go_wp2_with fail
      (try simp only [Exit.inBlock, Exit.then])
      obtain ⟨u0, u1⟩ := cells2 RR.out
      refine bodyPost_ret (v := .agg #[.int .i64 (mm.at' : Int), .int .i64 (mm.len : Int)]) ?_ rfl ⟨by rw [HMM2.out], ?_⟩
      · rw [res_cell rfl]
        go_simp
      · rw [HR.out]; exact BF.out

/-- The gap that is chosen. -/
def gapC (M : Nat) (L : List Blk) (n : Nat) : List Gp := (gapsOf M L).filter fun y => !decide ((y.len : Int) < (n : Int))
def gapSel (M : Nat) (L : List Blk) (n : Nat) (way : Int) : Option Gp := if way = 1 then (gapC M L n).head? else minG (gapC M L n)
def GapPost (S : HpSt) (n : Nat) (way : Int) (w : World) : Ending → World → Prop := fun e w' => Below w.heap.size w w' ∧ ∃ L, SortedL (lieL S.bl) L ∧ match gapSel S.mem.length L n way with
  | none => e = .returned (.tuple #[.agg #[.int .i64 0, .int .i64 0], .bool false])
  | some g => e = .returned (.tuple #[.agg #[.int .i64 (g.at' : Int), .int .i64 (g.len : Int)], .bool true])

theorem gapsOf_len (M : Nat) (L : List Blk) : (gapsOf M L).length ≤ L.length + 1 := by
  have key : ∀ (l : List Blk) (a : Nat), (gapsG a l).length ≤ l.length := by
    intro l
    induction l with
    | nil => intro a; simp [gapsG]
    | cons x l ih =>
      intro a
      unfold gapsG
      rw [List.length_append, List.length_cons]
      have := ih (x.at' + x.len)
      split <;> simp <;> omega
  have := key (L ++ [⟨0, M, 0⟩]) 0
  rw [List.length_append] at this
  exact this

set_option maxHeartbeats 4000000 in
set_option maxRecDepth 100000 in
theorem gapM_any {w : World} {F : Nat → Prop} {hp bp : Nat} {S : HpSt} {vm vb vh : Value} {vhs : List Value} (m : HpMem w F hp bp S vm vb vh vhs) (n : Nat) (way : Int) :
    Calls Tryz.prog 86 #[.pointer (some ⟨hp, 0, none⟩), .int .i64 (n : Int), .int .i64 way] w (GapPost S n way w) := by
  have B0 : Below w.heap.size w (w.alloc (.cells #[.int .i64 (n : Int)] 3)) := (Below.refl _ w).alloc (Nat.le_refl _) _
  have N0 := heap_alloc_new w (.cells #[.int .i64 (n : Int)] 3)
  have B1 : Below (w.alloc (.cells #[.int .i64 (n : Int)] 3)).heap.size (w.alloc (.cells #[.int .i64 (n : Int)] 3)) ((w.alloc (.cells #[.int .i64 (n : Int)] 3)).alloc (.cells #[.int .i64 0, .int .i64 0] 92)) := (Below.refl _ _).alloc (Nat.le_refl _) _
  have R1 := heap_alloc_new (w.alloc (.cells #[.int .i64 (n : Int)] 3)) (.cells #[.int .i64 0, .int .i64 0] 92)
  have hsz : (w.alloc (.cells #[.int .i64 (n : Int)] 3)).heap.size = w.heap.size + 1 := by simp
  rw [hsz] at R1
  have N1 := (B1.block _ (lt_of N0)).trans N0
  have BB := B0.trans (B1.mono B0.size)
  have HST := Lib.hid (And.intro N1 (And.intro R1 BB))
  have C := Lib.hid (gapsM_any (m.below BB))
  have hfew := m.big.2.1
  clear m N0 N1 B0 B1 R1 BB hsz
  have egD : ∀ args w, (callFunc 100 args).run Tryz.prog w = .ok (.enter 100 args) w := enters_of Tryz.func100 (by kernel_rfl) rfl
  have KEY : Hid (∀ (L : List Blk) (v' : Value) (w0 w1 : World), L.length ≤ 500 → w0.heap[w.heap.size]? = some (.cells #[.int .i64 (n : Int)] 3 (0, 0)) → w1.ownsRow w0.heap.size 92 2 v' (gapsOf S.mem.length L).length ((gapsOf S.mem.length L).flatMap Gp.cells) → Below w0.heap.size w0 w1 →
      Calls Tryz.prog 99 #[v', .func (.func 100) #[] #[.pointer (some ⟨w.heap.size, 0, none⟩)]] w1 (fun e w2 => ∃ v2, e = .returned v2 ∧ w2.ownsRow w0.heap.size 92 2 v2 (gapC S.mem.length L n).length ((gapC S.mem.length L n).flatMap Gp.cells) ∧ Below w0.heap.size w0 w2)) := Lib.hid (by
    intro L v' w0 w1 hL hbx hrow hb
    have hbl := lt_of hbx
    have hle := gapsOf_len S.mem.length L
    unfold gapC
    rcases Nat.eq_zero_or_pos (gapsOf S.mem.length L).length with h0 | h0
    · have hz : gapsOf S.mem.length L = [] := List.length_eq_zero_iff.1 h0
      rw [hz] at hrow ⊢
      obtain ⟨a, cap, rfl⟩ := wrow_sh hrow
      refine (gdeleteFunc_none a cap _ w1).mono ?_
      rintro e w2 ⟨rfl, hw⟩
      obtain rfl := hw
      exact ⟨_, rfl, hrow, hb⟩
    · obtain ⟨g, cap, cur, rfl, hge, hg, _⟩ := grow_open hrow h0
      have hx1 := (hb.block _ hbl).trans hbx
      have hne : w.heap.size ≠ g := by omega
      refine (gdeleteFunc_row _ g cap _ _ #[.pointer (some ⟨w.heap.size, 0, none⟩)] (fun x => decide ((x.len : Int) < (n : Int))) w1 hrow h0 (by omega) egD (fun W x hT => gap1 x w.heap.size n W ((cell_of ((hT.block _ (lt_of hx1) hne).trans hx1) 0).trans rfl))).mono ?_
      rintro e w2 ⟨k, hk, rfl, h3, h4⟩
      refine ⟨_, rfl, ?_, hb.trans (h4.below hb.size (fun k hk => by omega))⟩
      refine ⟨gcells_len _, ?_⟩
      rcases h3.2 with h | ⟨g, cap', cur, h1, h2, h3⟩
      · exact Or.inl h
      · exact Or.inr ⟨g, cap', cur, h1, by omega, h3⟩)
  clear egD
  go_enter Tryz.func86, Tryz.ntmps86
  go_wp2_with fail
  generalize hW0 : (w.alloc (.cells #[.int .i64 (n : Int)] 3)).alloc (.cells #[.int .i64 0, .int .i64 0] 92) = W0 at *
  clear hW0
  refine C.out.mono ?_
  rintro e w1 ⟨L, v, hs, rfl, hrow, hb⟩
  have hL : L.length ≤ 500 := Nat.le_trans hs.len hfew
  have HK := Lib.hid (KEY.out L v W0 w1 hL HST.out.1 hrow hb)
  have HS := Lib.hid hs
  obtain ⟨a, cap, hv⟩ := wrow_sh hrow
  obtain ⟨k1, hk1⟩ : ∃ k1, (gapsOf S.mem.length L).length = k1 := ⟨_, rfl⟩
  rw [hk1] at hv
  subst hv
  clear hrow hb C hs KEY hk1
  go_wp2_with fail
  refine HK.out.mono ?_
  rintro e w2 ⟨v2, rfl, hrow, hb⟩
  have hR := (hb.block _ (lt_of HST.out.2.1)).trans HST.out.2.1
  have HB := Lib.hid (HST.out.2.2.trans (hb.mono HST.out.2.2.size))
  have hclen : (gapC S.mem.length L n).length ≤ 501 := by
    have := gapsOf_len S.mem.length L
    have h2 : (gapC S.mem.length L n).length ≤ (gapsOf S.mem.length L).length := List.length_filter_le _ _
    omega
  have SEL : Hid (∀ r, r = gapSel S.mem.length L n way → ∀ e w', Below w.heap.size w w' → (match r with | none => e = .returned (.tuple #[.agg #[.int .i64 0, .int .i64 0], .bool false]) | some g => e = .returned (.tuple #[.agg #[.int .i64 (g.at' : Int), .int .i64 (g.len : Int)], .bool true])) → GapPost S n way w e w') := Lib.hid (fun r hr e w' hb h => ⟨hb, L, HS.out, by rw [← hr]; exact h⟩)
  have HSEL := Lib.hid (show gapSel S.mem.length L n way = if way = 1 then (gapC S.mem.length L n).head? else minG (gapC S.mem.length L n) from rfl)
  generalize gapSel S.mem.length L n way = gs at SEL HSEL
  generalize gapC S.mem.length L n = GC at *
  have z0 := free_of hR 0
  have z1 := free_of hR 1
  obtain ⟨e0, e1⟩ := cells2 hR
  have HRR := Lib.hid hR
  have hge : w.heap.size ≤ w.heap.size + 1 := Nat.le_succ _
  have B2 := Lib.hid (fun a b => below2 HB.out hge a b)
  generalize hq : w.heap.size + 1 = r at *
  cases GC with
  | nil =>
    obtain ⟨a2, cap2, hv⟩ := wrow_sh hrow
    simp only [List.length_nil] at hv
    subst hv
    have hg0 : gs = none := by rw [HSEL.out]; split <;> rfl
    have FIN := Lib.hid (fun w' hb => SEL.out none hg0.symm (.returned (.tuple #[.agg #[.int .i64 0, .int .i64 0], .bool false])) w' hb rfl)
    clear hrow hb hR HSEL SEL HK hg0 hclen
    go_wp2_with fail
    (try simp only [Exit.inBlock, Exit.then])
    obtain ⟨u0, u1⟩ := cells2 (res2 (a := .int .i64 0) (b := .int .i64 0) HRR.out)
    refine bodyPost_ret (v := .tuple #[.agg #[.int .i64 0, .int .i64 0], .bool false]) ?_ rfl (FIN.out _ (B2.out _ _))
    rw [results_cell_tmp rfl]
    go_simp
  | cons x l =>
    obtain ⟨g, cap2, cur2, hv, hgB, hg, _, _, _, _, hc⟩ := grow_open hrow (by simp)
    obtain ⟨N, hN⟩ : ∃ N, (x :: l).length = N := ⟨_, rfl⟩
    have hN0 : 0 < N := by rw [← hN]; simp
    have hNe : ((N : Int) == 0) = false := beq_eq_false_iff_ne.2 (by omega)
    have CM := min_gp x l (by rw [← hv]; exact hrow) (by omega)
    rw [hN] at hv CM
    subst hv
    have hc0 : w2.cell? ⟨g, 0, none⟩ = some (.int .i64 (x.at' : Int)) := by have := hc 0 x rfl 0 (by omega); rw [Nat.zero_mul, Nat.zero_add] at this; exact this
    have hc1 : w2.cell? ⟨g, 1, none⟩ = some (.int .i64 (x.len : Int)) := by have := hc 0 x rfl 1 (by omega); rw [Nat.zero_mul, Nat.zero_add] at this; exact this
    by_cases hway : way = 1
    · have hway' : (way == 1) = true := by simpa using hway
      have hg0 : gs = some x := by rw [HSEL.out, if_pos hway]; rfl
      have FIN := Lib.hid (fun w' hb => SEL.out (some x) hg0.symm (.returned (.tuple #[.agg #[.int .i64 (x.at' : Int), .int .i64 (x.len : Int)], .bool true])) w' hb rfl)
      clear hrow hb hR HSEL SEL HK hg0 hclen hc CM hN hg hway
      go_wp2_with fail
      (try simp only [Exit.inBlock, Exit.then])
      obtain ⟨u0, u1⟩ := cells2 (res2 (a := .int .i64 (x.at' : Int)) (b := .int .i64 (x.len : Int)) HRR.out)
      refine bodyPost_ret (v := .tuple #[.agg #[.int .i64 (x.at' : Int), .int .i64 (x.len : Int)], .bool true]) ?_ rfl (FIN.out _ (B2.out _ _))
      rw [results_cell_tmp rfl]
      go_simp
    · have hway' : (way == 1) = false := by simpa using hway
      have hg0 : gs = some (minOf x l) := by rw [HSEL.out, if_neg hway]; rfl
      have FIN := Lib.hid (fun w' hb => SEL.out (some (minOf x l)) hg0.symm (.returned (.tuple #[.agg #[.int .i64 ((minOf x l).at' : Int), .int .i64 ((minOf x l).len : Int)], .bool true])) w' hb rfl)
      have HCM := Lib.hid CM
      clear hrow hb hR HSEL SEL HK hg0 hclen hc CM hN hg hway hc0 hc1
      go_wp2_with fail
      refine HCM.out.mono ?_
      rintro e w3 ⟨rfl, hb3⟩
      have hR := (hb3.block _ (lt_of HRR.out)).trans HRR.out
      have HRR := Lib.hid hR
      have z0 := free_of hR 0
      have z1 := free_of hR 1
      obtain ⟨e0, e1⟩ := cells2 hR
      have B2 := Lib.hid (fun a b => below2 (HB.out.trans (hb3.mono HB.out.size)) hge a b)
      clear hb3 hR HCM
      generalize minOf x l = mm at *
      go_wp2_with fail
      (try simp only [Exit.inBlock, Exit.then])
      obtain ⟨u0, u1⟩ := cells2 (res2 (a := .int .i64 (mm.at' : Int)) (b := .int .i64 (mm.len : Int)) HRR.out)
      refine bodyPost_ret (v := .tuple #[.agg #[.int .i64 (mm.at' : Int), .int .i64 (mm.len : Int)], .bool true]) ?_ rfl (FIN.out _ (B2.out _ _))
      rw [results_cell_tmp rfl]
      go_simp

end
end Go.Proofs.YtjogaohnphafgaaGreat

namespace Go.Proofs.YtjogaohnphafgaaGreat
section
open Go.RowKit
set_option linter.unusedVariables false

structure BkIn (w : World) (G : Nat → Prop) (bp M n : Nat) (b : BookSt) : Prop where
  bk : BookAt w G bp b 1
  acc : b.acc 1 = some ((M : Int), (n : Int), 0)
  bud : b.budget = 10000000
  tot : b.total = (n : Int)
  ent : b.entries.length ≤ 10000
  le : n ≤ M ∧ M ≤ 10000000
  gl : ∀ k, G k → k < w.heap.size
theorem BkIn.same {w w' : World} {G : Nat → Prop} {bp M n : Nat} {b : BookSt} (h : BkIn w G bp M n b) (hs : ∀ k, G k → w'.heap[k]? = w.heap[k]?) (hz : w.heap.size ≤ w'.heap.size) : BkIn w' G bp M n b :=
  ⟨h.bk.same (fun k hk _ => hs k hk), h.acc, h.bud, h.tot, h.ent, h.le, fun k hk => Nat.lt_of_lt_of_le (h.gl k hk) hz⟩
theorem BkIn.below {w w' : World} {G : Nat → Prop} {bp M n : Nat} {b : BookSt} (h : BkIn w G bp M n b) (hb : Below w.heap.size w w') : BkIn w' G bp M n b := h.same (fun k hk => hb.block k (h.gl k hk)) hb.size
theorem BkIn.touch {w w' : World} {G Z : Nat → Prop} {bp M n : Nat} {b : BookSt} (h : BkIn w G bp M n b) (ht : Touch Z w w') (hd : ∀ k, Z k → ¬ G k) : BkIn w' G bp M n b := h.same (fun k hk => ht.block k (h.gl k hk) (fun e => hd k e hk)) ht.size
def tk1E (M n z : Nat) : Int := if M < n + z then 12 else 0
def tk1N (M n z : Nat) : Nat := if M < n + z then n else n + z
theorem BookAt.narrowK {w : World} {F : Nat → Prop} {p : Nat} {st : BookSt} {N : Nat} (h : BookAt w F p st N) : BookAt w (fun k => F k ∧ k < w.heap.size) p st N := by
  obtain ⟨mb, blk, lv, ev, D, hm⟩ := h
  refine ⟨mb, blk, lv, ev, D, ⟨hm.self, ⟨hm.fp, lt_of hm.self⟩, hm.map, ⟨hm.fmap, hm.map.lt⟩, hm.look, hm.anone, ?_, hm.inj, hm.lrow, ?_, hm.erow, ?_⟩⟩
  · intro o b hb
    obtain ⟨l, h, s, h1, h2, h3⟩ := hm.asome o b hb
    exact ⟨l, h, s, h1, h2, h3, lt_of h2⟩
  · intro k hk
    obtain ⟨cur, h1⟩ := row_block hm.lrow hk
    exact ⟨hm.flea k hk, lt_of h1⟩
  · intro k hk
    obtain ⟨cur, h1⟩ := row_block hm.erow hk
    exact ⟨hm.fent k hk, lt_of h1⟩
set_option maxHeartbeats 1000000 in
set_option maxRecDepth 100000 in
def BelW (w : World) (W : World) : Prop := Below w.heap.size w W
theorem narrowB {w : World} {F : Nat → Prop} {p : Nat} {st : BookSt} {N : Nat} {w0 : World} (h : BookAt w (fun k => F k ∨ w0.heap.size ≤ k) p st N) : BookAt w (fun k => (F k ∨ w0.heap.size ≤ k) ∧ k < w.heap.size) p st N := BookAt.narrowK h

end
end Go.Proofs.YtjogaohnphafgaaGreat
