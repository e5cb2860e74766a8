/-
  The book's Pass: its two closures, cmp.Or, slices.SortFunc over leases. No conditions but lengths.
  slices.Clone and slices.DeleteFunc over leases. No conditions but lengths.
-/
import Derived.Test.YtljjndifmfhffaaGreatDoorLedgerChecksPbd
import Derived.Test.YtljjndifmfhffaaGreatDoorLedgerChecksPal

namespace Go.Proofs.YtljjndifmfhffaaGreatDoor
section
open Go.RowKit Go.Sort
set_option linter.unusedVariables false

/-! cmp.Or of two numbers. -/
def orV (a b : Int) : Int := if a = 0 then b else a
set_option maxHeartbeats 1000000 in
set_option maxRecDepth 100000 in
theorem or_two (a b : Int) (v : Value) (w : World) (h : Reads w .i64 v [a, b]) :
    Calls Tryz.prog 65 #[v] w fun e w' => e = .returned (.int .i64 (orV a b)) ∧ w' = w := by
  obtain ⟨p, cap, rfl, _, hc⟩ := h
  obtain ⟨bl, o, rfl, hd⟩ := hc (by simp)
  have c0 : w.cell? ⟨bl, o, none⟩ = some (.int .i64 a) := hd 0 (by simp)
  have c1 : w.cell? ⟨bl, o + 1, none⟩ = some (.int .i64 b) := hd 1 (by simp)
  clear hc hd
  simp only [List.length_cons, List.length_nil, Nat.zero_add, Nat.reduceAdd]
  unfold orV
  by_cases ha : a = 0
  · subst ha
    rw [if_pos rfl]
    by_cases hb : b = 0
    · subst hb
      go_enter Tryz.func65, Tryz.ntmps65
      go_wp2_with fail
      refine wp_loop_rounds 3 ?_
      rw [rounds_succ]
      go_wp2_with fail
      rw [rounds_succ]
      go_wp2_with fail
      rw [rounds_succ]
      go_wp2_with fail
      go_ret
      exact ⟨rfl, rfl⟩
    · have hb' : (b == 0) = false := by simpa using hb
      go_enter Tryz.func65, Tryz.ntmps65
      go_wp2_with fail
      refine wp_loop_rounds 3 ?_
      rw [rounds_succ]
      go_wp2_with fail
      rw [rounds_succ]
      go_wp2_with fail
      go_ret
      exact ⟨rfl, rfl⟩
  · rw [if_neg ha]
    have ha' : (a == 0) = false := by simpa using ha
    go_enter Tryz.func65, Tryz.ntmps65
    go_wp2_with fail
    refine wp_loop_rounds 3 ?_
    rw [rounds_succ]
    go_wp2_with fail
    go_ret
    exact ⟨rfl, rfl⟩

/-! The order. -/
def cmpL (x y : Lea) : Int := orV (Lib.compareInt x.untl y.untl) (Lib.compareInt x.no y.no)
theorem cmpL_lt (x y : Lea) : decide (cmpL x y < 0) = decide (x.untl < y.untl ∨ (x.untl = y.untl ∧ x.no < y.no)) := by
  unfold cmpL orV Lib.compareInt
  rcases Int.lt_trichotomy x.untl y.untl with h | h | h
  · simp [h]
  · rcases Int.lt_trichotomy x.no y.no with k | k | k
    · simp [h, k]
    · simp [h, k]
    · have : ¬ x.no < y.no := by omega
      simp [h, k, this]
  · have h1 : ¬ x.untl < y.untl := by omega
    have h2 : ¬ x.untl = y.untl := by omega
    simp [h, h1, h2]
theorem ltL (x y : Lea) : ltOf cmpL x y = decide (x.untl < y.untl ∨ (x.untl = y.untl ∧ x.no < y.no)) := cmpL_lt x y
theorem leLea_ltL (x y : Lea) : leLea x y = !ltOf cmpL y x := by
  rw [ltL]; unfold leLea
  rw [← decide_not, decide_eq_decide]
  omega
theorem swoL : SWO (ltOf cmpL) where
  irrefl x := by rw [ltL]; simp
  trans x y z h1 h2 := by rw [ltL] at *; simp at *; omega
  ntrans x y z h1 h2 := by rw [ltL] at *; simp at *; omega

theorem grow_form (W : World) (os : Array Obj) (nq m : Nat) (o : Obj) : (((grow W os).drewN nq).alloc o).drewN m = grow (W.drewN (nq + m)) (os ++ #[o]) := by
  rw [alloc_eq_grow, show (grow W os).drewN nq = grow (W.drewN nq) os from rfl, grow_grow, ← World.drewN_drewN]; rfl

set_option maxHeartbeats 4000000 in
set_option maxRecDepth 100000 in
theorem passC (x y : Lea) (W : World) :
    Calls Tryz.prog 64 #[.agg #[.int .i64 x.no, .int .i64 x.owner, .int .i64 x.amount, .int .i64 x.untl], .agg #[.int .i64 y.no, .int .i64 y.owner, .int .i64 y.amount, .int .i64 y.untl]] W fun e w' => e = .returned (.int .i64 (cmpL x y)) ∧ ∃ q os', w' = grow (W.drewN q) os' := by
  have hcon : ∀ (a b : Int) (W' : World), Calls Tryz.prog 66 #[.int .i64 a, .int .i64 b] W' fun e w' => e = .returned (.int .i64 (Lib.compareInt a b)) ∧ ∃ q, w' = W'.drewN q := fun a b W' => (Tryz.cmp_Compare_int a b W').mono fun e w' ⟨h1, h2⟩ => ⟨h1, 0, h2⟩
  have HCON := Lib.hid hcon
  unfold cmpL
  obtain ⟨x1, x2, x3, x4⟩ := x
  obtain ⟨y1, y2, y3, y4⟩ := y
  simp only
  have hor := fun (W3 : World) (n : Nat) => (or_two (Lib.compareInt x4 y4) (Lib.compareInt x1 y1) _ ((W3.alloc (.cells #[.int .i64 (Lib.compareInt x4 y4), .int .i64 (Lib.compareInt x1 y1)] 3)).drewN n) ((reads_two W3 (Lib.compareInt x4 y4) (Lib.compareInt x1 y1)).drewN n)).mono (R' := fun e w' => e = .returned (.int .i64 (orV (Lib.compareInt x4 y4) (Lib.compareInt x1 y1))) ∧ ∃ q, w' = ((W3.alloc (.cells #[.int .i64 (Lib.compareInt x4 y4), .int .i64 (Lib.compareInt x1 y1)] 3)).drewN n).drewN q) fun e w' ⟨h1, h2⟩ => ⟨h1, 0, h2⟩
  have HOR := Lib.hid hor
  clear hcon hor
  go_enter Tryz.func64, Tryz.ntmps64
  go_wp2_with fail
  have hbx : ∀ o, ((W.alloc (.cells #[.int .i64 x1, .int .i64 x2, .int .i64 x3, .int .i64 x4] 88)).alloc o).heap[W.heap.size]? = some (.cells #[.int .i64 x1, .int .i64 x2, .int .i64 x3, .int .i64 x4] 88 (0, 0)) := fun o => (heap_alloc_old _ _ (by simp)).trans (heap_alloc_new W _)
  obtain ⟨W2, hW2⟩ : ∃ W2, (W.alloc (.cells #[.int .i64 x1, .int .i64 x2, .int .i64 x3, .int .i64 x4] 88)).alloc (.cells #[.int .i64 y1, .int .i64 y2, .int .i64 y3, .int .i64 y4] 88) = W2 := ⟨_, rfl⟩
  have b1 : W2.heap[W.heap.size]? = some (.cells #[.int .i64 x1, .int .i64 x2, .int .i64 x3, .int .i64 x4] 88 (0, 0)) := by rw [← hW2]; exact hbx _
  have b2 : W2.heap[W.heap.size + 1]? = some (.cells #[.int .i64 y1, .int .i64 y2, .int .i64 y3, .int .i64 y4] 88 (0, 0)) := by
    rw [← hW2]
    have := heap_alloc_new (W.alloc (.cells #[.int .i64 x1, .int .i64 x2, .int .i64 x3, .int .i64 x4] 88)) (.cells #[.int .i64 y1, .int .i64 y2, .int .i64 y3, .int .i64 y4] 88)
    simpa using this
  have hG : W2 = grow W #[.cells #[.int .i64 x1, .int .i64 x2, .int .i64 x3, .int .i64 x4] 88, .cells #[.int .i64 y1, .int .i64 y2, .int .i64 y3, .int .i64 y4] 88] := by
    rw [← hW2, alloc_eq_grow, alloc_eq_grow, grow_grow]; rfl
  have HG := Lib.hid hG
  rw [hW2]
  clear hbx hW2 hG
  have c3 : W2.cell? ⟨W.heap.size, 3, none⟩ = some (.int .i64 x4) := (cell_of b1 3).trans rfl
  have c0 : W2.cell? ⟨W.heap.size, 0, none⟩ = some (.int .i64 x1) := (cell_of b1 0).trans rfl
  have d3 : W2.cell? ⟨W.heap.size + 1, 3, none⟩ = some (.int .i64 y4) := (cell_of b2 3).trans rfl
  have d0 : W2.cell? ⟨W.heap.size + 1, 0, none⟩ = some (.int .i64 y1) := (cell_of b2 0).trans rfl
  clear b1 b2
  generalize W.heap.size = sz at *
  refine wp_region_mid 10 _ (by kernel_rfl) (by kernel_rfl) rfl ?_
  simp only [List.take_succ_cons, List.take_zero, List.drop_succ_cons, List.drop_zero]
  repeat (go_big_quiet_step ((go_at_call 66; exact Calls.quiet_of (HCON.out _ _ _))))
  refine wpQuiet_nil ?_
  intro _ hw'
  obtain ⟨nq, rfl⟩ := hw'
  intro K hK
  go_simp
  refine hK _ _ ?_
  clear hK K
  repeat (go_big_quiet_step ((go_at_call 65; exact Calls.quiet_of (HOR.out _ _))))
  refine wpQuiet_nil ?_
  intro _ hw'
  obtain ⟨nq3, rfl⟩ := hw'
  go_wp2_with fail
  go_ret
  exact ⟨rfl, nq + nq3, _, (congrArg (fun X : World => ((X.drewN nq).alloc _).drewN nq3) HG.out).trans (grow_form _ _ _ _ _)⟩

/-! SortFunc. -/
theorem flatL (ls : List Lea) : (flatK Lea.cells 4 ls.toArray).toList = ls.flatMap Lea.cells := by
  apply List.ext_getElem?
  intro t
  have hs : (flatK Lea.cells 4 ls.toArray).toList.length = ls.length * 4 := by simp
  by_cases h : t < ls.length * 4
  · have hk : t / 4 < ls.length := by omega
    have e : t = t / 4 * 4 + t % 4 := by omega
    have h1 := lcells_get ls (t / 4) (t % 4) _ (List.getElem?_eq_getElem hk) (by omega)
    rw [← e] at h1
    rw [h1]
    have h2 := get_flatK Lea.cells 4 ls.toArray t (by simpa using h)
    rw [Array.getElem?_toList, Array.getElem?_eq_getElem (by simpa using h)]
    rw [getElem!_pos _ t (by simpa using h)] at h2
    rw [h2]
    have h3 : (ls.toArray)[t / 4]! = ls[t / 4] := by rw [getElem!_pos ls.toArray (t / 4) (by simpa using hk)]; simp
    rw [h3, getElem!_pos (ls[t / 4]).cells (t % 4) (by simp [Lea.cells]; omega), List.getElem?_eq_getElem]
  · rw [List.getElem?_eq_none (by omega), List.getElem?_eq_none (by rw [lcells_len]; omega)]

theorem sorted_eq (ls : List Lea) (hnos : (ls.map Lea.no).Pairwise (· < ·)) (d' : Array Lea) (hp : PermIn 0 ls.toArray.size ls.toArray d') (hs : SortedIn (ltOf cmpL) 0 ls.toArray.size d') : d'.toList = ls.mergeSort leLea := by
  have hsz : d'.size = ls.length := by simpa using hp.1
  have perm : d'.toList.Perm ls := by
    have := hp.2.2
    rw [Array.toList_extract, Array.toList_extract] at this
    simp only [List.size_toArray, List.extract_eq_take_drop, Nat.sub_zero, List.drop_zero] at this
    rw [List.take_of_length_le (by simp; omega), List.take_of_length_le (by simp)] at this
    exact this
  have uniq : ∀ a b : Lea, a ∈ ls → b ∈ ls → a.no = b.no → a = b := by
    intro a b ha hb e
    obtain ⟨i, hi, rfl⟩ := List.getElem_of_mem ha
    obtain ⟨j, hj, rfl⟩ := List.getElem_of_mem hb
    have hp := List.pairwise_iff_getElem.1 hnos
    rcases Nat.lt_trichotomy i j with h | h | h
    · have := hp i j (by simpa using hi) (by simpa using hj) h
      simp at this; omega
    · subst h; rfl
    · have := hp j i (by simpa using hj) (by simpa using hi) h
      simp at this; omega
  refine List.Perm.eq_of_pairwise (le := fun a b => leLea a b = true) ?_ ?_ ?_ (perm.trans (List.mergeSort_perm ls leLea).symm)
  · intro a b ha hb h1 h2
    refine uniq a b (perm.mem_iff.1 ha) (List.mem_mergeSort.1 hb) ?_
    unfold leLea at h1 h2
    simp at h1 h2
    omega
  · rw [List.pairwise_iff_getElem]
    intro i j hi hj hij
    have := hs i j (Nat.zero_le _) hij (by simp at hj ⊢; omega)
    simp at hi hj
    rw [getElem!_pos d' j hj, getElem!_pos d' i hi] at this
    rw [leLea_ltL]
    simp only [Array.getElem_toList]
    rw [this]; rfl
  · refine List.pairwise_mergeSort ?_ ?_ ls
    · intro a b c h1 h2
      unfold leLea at *
      simp at *
      omega
    · intro a b
      unfold leLea
      simp
      omega

def SortPost (g cap : Nat) (ls : List Lea) (w : World) : Ending → World → Prop := fun e w' =>
  e = .returned (.tuple #[]) ∧ w'.ownsRow 0 88 4 (.slice (some ⟨g, 0, none⟩) ls.length cap) ls.length ((ls.mergeSort leLea).flatMap Lea.cells) ∧ Touch (fun k => k = g) w w'

theorem sort_lea (g cap : Nat) (ls : List Lea) (w : World) (hr : w.ownsRow 0 88 4 (.slice (some ⟨g, 0, none⟩) ls.length cap) ls.length (ls.flatMap Lea.cells)) (hnos : (ls.map Lea.no).Pairwise (· < ·)) (hlen : ls.length ≤ 1000000) :
    Calls Tryz.prog 63 #[.slice (some ⟨g, 0, none⟩) ls.length cap, .func (.func 64) #[] #[]] w (SortPost g cap ls w) := by
  obtain ⟨g', cap', cur, hv, _, hg, hn, hcm, hs, ht⟩ := hr.2.resolve_left (by rintro ⟨h, _⟩; cases h)
  simp only [Value.slice.injEq, Option.some.injEq, Addr.mk.injEq, and_true] at hv
  obtain ⟨rfl, _, rfl⟩ := hv
  have eg : ∀ args w, (callFunc 64 args).run Tryz.prog w = .ok (.enter 64 args) w := enters_of Tryz.func64 (by kernel_rfl) rfl
  have hH : HoldsK Lea.cells 4 w g 0 ls.toArray := by
    intro j hj
    have hj' : j < ls.length * 4 := by simpa using hj
    refine ⟨?_, free_of hg _⟩
    have h1 : (flatK Lea.cells 4 ls.toArray)[j]! = (flatK Lea.cells 4 ls.toArray)[j] := getElem!_pos _ j hj
    rw [h1, cell_of hg, Nat.zero_add]
    have h2 := congrArg (fun l : List Value => l[j]?) (flatL ls)
    simp only [Array.getElem?_toList] at h2
    rw [Array.getElem?_eq_getElem hj] at h2
    rw [← Array.getElem?_toList]
    have h3 : cur.toList[j]? = (cur.toList.take (ls.length * 4))[j]? := (List.getElem?_take_of_lt hj').symm
    rw [h3, ht, ← h2]; rfl
  have C := Tryz.slices_SortFunc 4 Tryz.isAgg88 Tryz.sizeOf88 Lea.cells (fun _ => rfl) (fun x v hv => by simp [Lea.cells] at hv; rcases hv with rfl | rfl | rfl | rfl <;> rfl) cmpL swoL 64 #[] g 0 cap ls.toArray w eg (fun m os dk _ x y => passC x y _) hH (lt_of hg) (by simp; omega)
  simp only [List.size_toArray] at C
  refine C.mono ?_
  rintro e w' ⟨rfl, d', n, os, hp, hso, rfl⟩
  have hd := sorted_eq ls hnos d' (by simpa using hp) (by simpa using hso)
  have hdsz : d'.size = ls.length := by have := hp.1; simpa using this
  have hblk : ∀ k, k < w.heap.size → (sortWorldK Lea.cells 4 w g 0 n d' os).heap[k]? = (w.heap.modify g (onCells (putCells id 0 (flatK Lea.cells 4 d'))))[k]? := by
    intro k hk
    unfold sortWorldK grow putRowK putRow mapBlock
    simp only [heap_ahead]
    rw [Array.getElem?_append_left (by simpa using hk)]
  refine ⟨rfl, ⟨?_, Or.inr ⟨g, cap, putCells id 0 (flatK Lea.cells 4 d') cur, rfl, Nat.zero_le _, ?_, hn, hcm, by simp [putCells, hs], ?_⟩⟩, ?_⟩
  · rw [lcells_len, List.length_mergeSort]
  · rw [hblk g (lt_of hg), Array.getElem?_modify]
    simp [hg, onCells]
  · rw [← hd]
    have : d'.toList.flatMap Lea.cells = (flatK Lea.cells 4 d').toList := by rw [← flatL d'.toList]
    rw [this]
    apply List.ext_getElem?
    intro t
    by_cases h : t < ls.length * 4
    · rw [List.getElem?_take_of_lt h]
      simp only [Array.getElem?_toList, putCells, Array.getElem?_mapIdx]
      have hcs : t < cur.size := by rw [hs]; have := Nat.mul_le_mul_right 4 hn; omega
      rw [Array.getElem?_eq_getElem hcs]
      have hfs : t < (flatK Lea.cells 4 d').size := by simp [hdsz]; omega
      rw [Array.getElem?_eq_getElem hfs]
      simp only [Option.map_some, Nat.zero_le, Nat.zero_add, hfs, and_self, if_true, Nat.sub_zero, id]
      rw [getElem!_pos _ t hfs]
    · rw [List.getElem?_eq_none (by simp; omega), List.getElem?_eq_none (by simp [hdsz]; omega)]
  · refine ⟨rfl, rfl, rfl, ?_, ?_⟩
    · unfold sortWorldK grow putRowK putRow mapBlock
      simp
    · intro k hk hne
      rw [hblk k hk, Array.getElem?_modify, if_neg (fun e => hne e.symm)]

end
end Go.Proofs.YtljjndifmfhffaaGreatDoor

namespace Go.Proofs.YtljjndifmfhffaaGreatDoor
section
open Go.RowKit
set_option linter.unusedVariables false

def OwnLeas (ls : List Lea) (w : World) : Ending → World → Prop := fun e w' =>
  ∃ v, e = .returned v ∧ w'.ownsRow w.heap.size 88 4 v ls.length (ls.flatMap Lea.cells) ∧ Below w.heap.size w w'

set_option maxHeartbeats 1000000 in
set_option maxRecDepth 100000 in
theorem clone_lea (v : Value) (B : Nat) (ls : List Lea) (w : World) (hr : w.ownsRow B 88 4 v ls.length (ls.flatMap Lea.cells)) (hmax : ls.length ≤ 1000000) :
    Calls Tryz.prog 61 #[v] w (OwnLeas ls w) := by
  obtain ⟨i0, hi0, hz0, hz1, hz2⟩ := info_parts infoLea
  have hq := fun (w : World) (a : Option Addr) (n c : Nat) => Lib.run_eql_slice_nil (P := Tryz.prog) w 37 88 a n c 0 0 Tryz.underlying37
  rcases hr.2 with ⟨rfl, h0⟩ | ⟨g, cap, cur, rfl, hb, hg, hn, hcm, hs, ht⟩
  · have hz : ls = [] := by cases ls with | nil => rfl | cons x xs => simp at h0
    subst hz
    clear hr
    go_enter Tryz.func61, Tryz.ntmps61
    go_wp2_with fail
    go_ret
    exact ⟨_, rfl, World.ownsRow_nil _ _ _ _, Below.refl _ _⟩
  · have hc := hr.cells (g := g) rfl
    have HN : Hid (∀ j u, (ls.flatMap Lea.cells)[j]? = some u → (w.alloc (.cells #[] 88)).cell? ((⟨g, 0, none⟩ : Addr).add j) = some u) := Lib.hid (fun j u hj => by
      have h1 := hc j u hj
      have hlt : ((⟨g, 0, none⟩ : Addr).add j).block < w.heap.size := World.block_lt_of_cell? w _ h1
      exact (((Below.refl w.heap.size w).alloc (Nat.le_refl _) _).cell hlt).trans h1)
    have HM : Hid (World.ownsRow (w.alloc (.cells #[] 88)) w.heap.size 88 4 (.slice (some ⟨w.heap.size, 0, none⟩) 0 0) 0 []) := World.ownsRow_made w #[] 0 (Nat.le_refl _) (by unfold maxLen; omega) rfl
    have HL : Hid ((ls.flatMap Lea.cells).length = ls.length * 4) := Lib.hid (lcells_len ls)
    have H1 := Lib.hid (lcells_one ls)
    clear hc hr hg hs ht
    go_enter Tryz.func61, Tryz.ntmps61
    go_wp2_with (at_builtin; go_must (refine wpList_append_own _ rfl (.tmp 5) (.tmp 6) 37 rfl w.heap.size 88 i0 (.agg #[.int .i64 0, .int .i64 0, .int .i64 0, .int .i64 0]) 4 32 Tryz.underlying37 hi0 hz0 hz1 hz2 rfl (by decide) _ 0 [] rfl HM.out ⟨g, 0, none⟩ ls.length cap (ls.flatMap Lea.cells) rfl HL.out HN.out H1.out (by unfold maxLen; omega) (by omega) (by simp) ?_))
    intro v' w1 hown hgr _
    have hb : Below w.heap.size w w1 := ((Below.refl w.heap.size w).alloc (Nat.le_refl _) _).grown hgr (by simp) (fun q hq => by simp [Value.ownBlock] at hq; omega)
    go_wp2_with fail
    go_ret
    exact ⟨_, rfl, by simpa using hown, hb⟩

/-! Pass's first closure. -/
set_option maxHeartbeats 1000000 in
set_option maxRecDepth 100000 in
theorem passW (bx : Nat) (now : Int) (x : Lea) (W : World) (h : W.cell? ⟨bx, 0, none⟩ = some (.int .i64 now)) :
    Calls Tryz.prog 62 #[.agg #[.int .i64 x.no, .int .i64 x.owner, .int .i64 x.amount, .int .i64 x.untl], .pointer (some ⟨bx, 0, none⟩)] W fun e w' => e = .returned (.bool (decide (now < x.untl))) ∧ Below W.heap.size W w' := by
  obtain ⟨a1, a2, a3, a4⟩ := x
  have hlt : bx < W.heap.size := World.block_lt_of_cell? W ⟨bx, 0, none⟩ h
  have h' : (W.alloc (.cells #[.int .i64 a1, .int .i64 a2, .int .i64 a3, .int .i64 a4] 88)).cell? ⟨bx, 0, none⟩ = some (.int .i64 now) := Lib.cell?_alloc_some _ h
  clear h
  go_enter Tryz.func62, Tryz.ntmps62
  go_wp2_with fail
  go_ret
  exact ⟨rfl, (Below.refl _ _).alloc (Nat.le_refl _) _⟩

/-- 'clear' of some leases. -/
theorem run_clear_leas (w : World) (ty : TypeId) (b o n c : Nat) (hn : 0 < n) (hc : ∀ j, j < n * 4 → (w.cell? ⟨b, o + j, none⟩).isSome = true) (hf : ∀ j, j < n * 4 → w.frozen? ⟨b, o + j, none⟩ = false) :
    ∃ zs : List Value, zs.length = n * 4 ∧ (Builtin.clear_ #[37] ty #[.slice (some ⟨b, o, none⟩) n c]).run Tryz.prog w = .ok (.tuple #[]) (w.setCells b o zs) := by
  refine ⟨(Builtin.zeroCells (Value.agg #[.int .i64 0, .int .i64 0, .int .i64 0, .int .i64 0]).cells n).toList, ?_, ?_⟩
  · rw [Array.length_toList, size_zeroCells]; rfl
  · have hlen : (Builtin.zeroCells (Value.agg #[.int .i64 0, .int .i64 0, .int .i64 0, .int .i64 0]).cells n).toList.length = n * 4 := by rw [Array.length_toList, size_zeroCells]; rfl
    have hone : ∀ v ∈ (Builtin.zeroCells (Value.agg #[.int .i64 0, .int .i64 0, .int .i64 0, .int .i64 0]).cells n).toList, v.oneCell' = true := by
      intro v hv
      simp only [Builtin.zeroCells, Array.toList_map, List.mem_map] at hv
      obtain ⟨i, _, rfl⟩ := hv
      have h4 : i % (Value.agg #[.int .i64 0, .int .i64 0, .int .i64 0, .int .i64 0]).cells.size < 4 := Nat.mod_lt _ (by decide)
      generalize i % (Value.agg #[.int .i64 0, .int .i64 0, .int .i64 0, .int .i64 0]).cells.size = r at h4
      match r, h4 with
      | 0, _ => rfl
      | 1, _ => rfl
      | 2, _ => rfl
      | 3, _ => rfl
    have hst := run_storeCells_cells (P := Tryz.prog) b o _ 0 w (by simpa [hlen] using hc) (by simpa [hlen] using hf) hone
    simp only [Nat.add_zero] at hst
    obtain ⟨m, rfl⟩ : ∃ m, n = m + 1 := ⟨n - 1, by omega⟩
    simp [Builtin.clear_, run_underlying Tryz.underlying37, Tryz.zeroValue88, hst]

end
end Go.Proofs.YtljjndifmfhffaaGreatDoor
