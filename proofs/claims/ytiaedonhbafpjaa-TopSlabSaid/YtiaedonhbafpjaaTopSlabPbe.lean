/-
  DeleteFunc over the slabs. No conditions but bounds.
  The cache without its idle slabs, in memory. No conditions but bounds.
-/
import Derived.Test.YtiaedonhbafpjaaTopSlabPbd
import Derived.Test.YtiaedonhbafpjaaTopSlabPaq
import Derived.Test.YtiaedonhbafpjaaTopSlabPbb

namespace Go.Proofs.Ytiaedonhbafpjaa
section
open Go.RowKit Go.Shelf
set_option linter.unusedVariables false

theorem row_cut {w : World} {B e size n cap : Nat} {a : Option Addr} {xs : List Value} (h : w.ownsRow B e size (.slice a n cap) n xs) (k : Nat) (hk : k ≤ n) : w.ownsRow B e size (.slice a k cap) k (xs.take (k * size)) := by
  have hl := h.1
  refine ⟨by rw [List.length_take, hl]; exact Nat.min_eq_left (Nat.mul_le_mul_right _ hk), ?_⟩
  rcases h.2 with ⟨h1, h2⟩ | ⟨g, cap', cur, h1, hb, hg, hn, hm, hs, ht⟩
  · simp only [Value.slice.injEq] at h1
    obtain ⟨rfl, rfl, rfl⟩ := h1
    obtain rfl : k = 0 := by omega
    exact Or.inl ⟨rfl, by simp⟩
  · simp only [Value.slice.injEq] at h1
    obtain ⟨rfl, _, rfl⟩ := h1
    refine Or.inr ⟨g, cap, cur, rfl, hb, hg, by omega, hm, hs, ?_⟩
    rw [← ht, List.take_take, Nat.min_eq_left (Nat.mul_le_mul_right _ hk)]
theorem row_shape {w : World} {B e size n : Nat} {v : Value} {xs : List Value} (h : w.ownsRow B e size v n xs) (hn : 0 < n) : ∃ g cap, v = .slice (some ⟨g, 0, none⟩) n cap := by
  rcases h.2 with ⟨h1, h2⟩ | ⟨g, cap', cur, h1, _⟩
  · omega
  · exact ⟨g, cap', h1⟩

def ptrS (x : Sl) : Value := .pointer (some ⟨x.p, 0, none⟩)
def busy (l : List Sl) : List Sl := l.filter fun x => !idle x
theorem busy_all {l : List Sl} (h : ∀ x ∈ l, idle x = false) : busy l = l := by
  unfold busy
  rw [List.filter_eq_self]
  intro x hx
  rw [h x hx]
  rfl
theorem busy_next {l : List Sl} {k : Nat} {x : Sl} (hx : l[k]? = some x) : busy (l.take (k + 1)) = busy (l.take k) ++ if idle x then [] else [x] := by
  unfold busy
  rw [List.take_add_one, hx, List.filter_append]
  cases h : idle x <;> simp [h]
theorem busy_le (l : List Sl) (k : Nat) : (busy (l.take k)).length ≤ k := by
  unfold busy
  refine Nat.le_trans (List.length_filter_le _ _) ?_
  rw [List.length_take]
  omega
theorem wrow_cells {B e n g cap : Nat} (u : Value) : ∀ (m : Nat) (w : World) (xs : List Value) (o : Nat), w.ownsRow B e 1 (.slice (some ⟨g, 0, none⟩) n cap) n xs → ∃ ys, (w.setCells g o (List.replicate m u)).ownsRow B e 1 (.slice (some ⟨g, 0, none⟩) n cap) n ys ∧ ys.take o = xs.take o
  | 0, w, xs, o, h => ⟨xs, h, rfl⟩
  | m + 1, w, xs, o, h => by
    obtain ⟨ys, h1, h2⟩ := wrow_cells u m _ _ (o + 1) (wrow_set h o u)
    refine ⟨ys, by rw [List.replicate_succ, World.setCells]; exact h1, ?_⟩
    have h3 := congrArg (fun l => l.take o) h2
    simp only [List.take_take] at h3
    rw [Nat.min_eq_left (by omega)] at h3
    rw [h3, List.take_set_of_le (Nat.le_refl o)]
theorem zero_ptr (w : World) : (zeroValue 76).run Try.prog w = .ok (.pointer none) w := by kernel_rfl
theorem clear_ptrs {B n g cap : Nat} (w : World) (xs : List Value) (i : Nat) (hi : i ≤ n) (h : w.ownsRow B 76 1 (.slice (some ⟨g, 0, none⟩) n cap) n xs) (c : Nat) (a : Option Addr) (ha : 0 < n - i → a = some ⟨g, i, none⟩) :
    ∃ w' ys, (∀ ty, (Builtin.clear_ #[63] ty #[.slice a (n - i) c]).run Try.prog w = .ok (.tuple #[]) w') ∧ w'.ownsRow B 76 1 (.slice (some ⟨g, 0, none⟩) n cap) n ys ∧ ys.take i = xs.take i ∧ Touch (fun k => k = g) w w' := by
  by_cases h0 : n - i = 0
  · rw [h0]
    refine ⟨w, xs, fun ty => ?_, h, rfl, Touch.refl _ _⟩
    cases a with
    | none => simp [Builtin.clear_, run_underlying Try.underlying63]
    | some a => simp [Builtin.clear_, run_underlying Try.underlying63]
  · obtain rfl := ha (by omega)
    obtain ⟨ys, h1, h2⟩ := wrow_cells (.pointer none) (n - i) w xs i h
    refine ⟨_, ys, fun ty => Lib.run_clear_slice w 63 76 ty (.pointer none) Try.underlying63 zero_ptr rfl rfl g i (n - i) c (by omega) (fun j hj => ?_) (fun j hj => ?_), h1, h2, setCells_touch g _ _ _⟩
    · have hl := h.1
      obtain ⟨g', hg, hc, _⟩ := wrow_cell h (j := i + j) (u := xs.getD (i + j) default) (by rw [List.getD_eq_getElem?_getD, List.getElem?_eq_getElem (by omega)]; rfl)
      cases hg
      rw [hc]
      simp
    · have hl := h.1
      obtain ⟨g', hg, _, hf⟩ := wrow_cell h (j := i + j) (u := xs.getD (i + j) default) (by rw [List.getD_eq_getElem?_getD, List.getElem?_eq_getElem (by omega)]; rfl)
      cases hg
      exact hf

/-- What stands between the rounds. -/
def DlI (w : World) (B g cap : Nat) (l : List Sl) (i j : Nat) (wr : World) : Prop :=
  i = (busy (l.take j)).length ∧ j ≤ l.length ∧ Touch (fun k => k = g) w wr ∧ ∃ zs, wr.ownsRow B 76 1 (.slice (some ⟨g, 0, none⟩) l.length cap) l.length zs ∧ zs.take i = (busy (l.take j)).map ptrS ∧ zs.drop j = (l.drop j).map ptrS
set_option maxHeartbeats 2000000 in
set_option maxRecDepth 100000 in
theorem deleteD_any {F : Nat → Prop} {S : CaSt} (h64 : S.slots ≤ 64) (B g cap : Nat) (l : List Sl) (w : World) (hl : l.length ≤ 500) (hrow : w.ownsRow B 76 1 (.slice (some ⟨g, 0, none⟩) l.length cap) l.length (l.map ptrS)) (hm : ∀ x ∈ l, SlMem w F S x) (hF : ∀ k, F k → k ≠ g) :
    Calls Try.prog 54 #[.slice (some ⟨g, 0, none⟩) l.length cap, .func (.func 36) #[] #[]] w (fun e w' => e = .returned (.slice (some ⟨g, 0, none⟩) (busy l).length cap) ∧ w'.ownsRow B 76 1 (.slice (some ⟨g, 0, none⟩) (busy l).length cap) (busy l).length ((busy l).map ptrS) ∧ Touch (fun k => k = g) w w') := by
  have hcell : ∀ k x, l[k]? = some x → w.cell? ⟨g, k, none⟩ = some (.pointer (some ⟨x.p, 0, none⟩)) := fun k x hx => by
    obtain ⟨g', hg, hc, _⟩ := wrow_cell hrow (j := k) (u := ptrS x) (by rw [List.getElem?_map, hx]; rfl)
    cases hg
    exact hc
  obtain ⟨n, hn⟩ : ∃ n, l.length = n := ⟨_, rfl⟩
  have IX := Lib.hid (indexD_any h64 g n cap l w hn (by omega) hcell hm)
  have HN := Lib.hid hn
  have HM := Lib.hid hm
  have HR := Lib.hid hrow
  have hcap : n ≤ cap ∧ cap ≤ 9223372036854775807 := by
    rcases hrow.2 with ⟨h1, _⟩ | ⟨g', c', cur, h1, _, _, h2, h3, _⟩
    · cases h1
    · simp only [Value.slice.injEq] at h1
      obtain ⟨_, _, rfl⟩ := h1
      unfold maxLen at h3
      exact ⟨by omega, by omega⟩
  rw [hn] at hl ⊢
  clear hcell hm hrow hn
  go_enter Try.func54, Try.ntmps54
  go_wp2_with fail
  refine IX.out.mono ?_
  rintro e w2 ⟨hb2, he⟩
  clear IX
  rcases he with ⟨rfl, hall⟩ | ⟨i, x, rfl, hx, hid, hbefore⟩
  · have e1 := busy_all hall
    have FIN : Hid (w2.ownsRow B 76 1 (.slice (some ⟨g, 0, none⟩) n cap) n (l.map ptrS) ∧ Touch (fun k => k = g) w w2) := Lib.hid ⟨by have := row_kept HR.out hb2; rw [HN.out] at this; exact this, Touch.of_below hb2⟩
    have E1 := Lib.hid e1
    clear hall hb2 e1
    go_wp2_with fail
    go_ret
    rw [E1.out, HN.out]
    exact ⟨rfl, FIN.out.1, FIN.out.2⟩
  · have hi : i < n := by rw [← HN.out]; exact (List.getElem?_eq_some_iff.1 hx).1
    have D0 : Hid (DlI w B g cap l i (i + 1) w2) := Lib.hid (by
      have e1 : busy (l.take (i + 1)) = l.take i := by rw [busy_next hx, hid, busy_all hbefore]; simp
      refine ⟨by rw [e1, List.length_take, HN.out]; omega, by rw [HN.out]; omega, Touch.of_below hb2, l.map ptrS, row_kept HR.out hb2, by rw [e1, List.map_take], by rw [List.map_drop]⟩)
    have hi1 : ((i : Int) == -1) = false := by
      have : (i : Int) ≠ -1 := by omega
      simp
    have hi2 : ¬ (i : Int) = -1 := by omega
    clear hb2 hx hid hbefore
    go_wp2_with fail
    go_loopw [5, 6] (fun a b wr => ∃ i j : Nat, a = .int .i64 (i : Int) ∧ b = .int .i64 (j : Int) ∧ i ≤ n ∧ DlI w B g cap l i j wr) (fun _ b _ => n - (intOf b).toNat)
    case atStart => exact ⟨i, i + 1, rfl, rfl, by omega, D0.out⟩
    case round =>
      clear D0 hi hi1 hi2
      obtain ⟨i, j, rfl, rfl, hin, hD⟩ := hrel
      obtain ⟨hij, hjn, ht, zs, hz, hz1, hz2⟩ := hD
      rw [HN.out] at hjn
      have hle : i ≤ j := by rw [hij]; exact busy_le l j
      have hzl : zs.length = n := by have := hz.1; rw [HN.out] at this; omega
      by_cases hlt : j < n
      · obtain ⟨x, hx⟩ : ∃ x, l[j]? = some x := ⟨_, List.getElem?_eq_getElem (by have := HN.out; omega)⟩
        have hzj : zs[j]? = some (ptrS x) := by
          have := congrArg (fun q => q[0]?) hz2
          simp only [List.getElem?_drop, List.getElem?_map, Nat.add_zero] at this
          rw [this, hx]
          rfl
        obtain ⟨g', hg, c9, _⟩ := wrow_cell hz hzj
        cases hg
        have c0 : wr.cell? ⟨g, j, none⟩ = some (.pointer (some ⟨x.p, 0, none⟩)) := c9
        clear c9
        have TR := Lib.hid (trim1_any ((HM.out x (List.mem_of_getElem? hx)).same (fun k hk hl => ht.block k hl (hF k hk))) h64)
        have hnx := busy_next hx
        have DD := Lib.hid (And.intro hij (And.intro ht (And.intro hz (And.intro hz1 (And.intro hz2 (And.intro hzl hnx))))))
        clear hij ht hz hz1 hz2 hzl hnx hzj hx
        go_wp2_with fail
        refine TR.out.mono ?_
        rintro e w3 ⟨rfl, hb3⟩
        obtain ⟨hij, ht, hz, hz1, hz2, hzl, hnx⟩ := DD.out
        have hz3 := row_kept hz hb3
        have hd2 : zs.drop (j + 1) = (l.drop (j + 1)).map ptrS := by
          have := congrArg (fun q => q.drop 1) hz2
          simp only [List.drop_drop, ← List.map_drop] at this
          exact this
        cases hu : idle x with
        | true =>
          have FIN : Hid (DlI w B g cap l i (j + 1) w3) := Lib.hid (by
            rw [hu] at hnx
            simp only [if_true, List.append_nil] at hnx
            exact ⟨by rw [hnx]; exact hij, by rw [HN.out]; omega, ht.then (Touch.of_below hb3), zs, hz3, by rw [hnx]; exact hz1, hd2⟩)
          clear hij ht hz hz1 hz2 hzl hnx hz3 hd2 hb3 hu TR DD c0
          go_wp2_with fail
          go_roundw
          case measure => simp only [intOf]; omega
          case rel => exact ⟨i, j + 1, rfl, by go_num, hin, FIN.out⟩
        | false =>
          obtain ⟨u, hu0⟩ : ∃ u, zs[i]? = some u := ⟨_, List.getElem?_eq_getElem (by omega)⟩
          obtain ⟨g', hg, c1, f1⟩ := wrow_cell hz3 hu0
          cases hg
          have FIN : Hid (DlI w B g cap l (i + 1) (j + 1) (w3.setCell ⟨g, i, none⟩ (.pointer (some ⟨x.p, 0, none⟩)))) := Lib.hid (by
            rw [hu] at hnx
            simp only [Bool.false_eq_true, if_false] at hnx
            refine ⟨by rw [hnx, List.length_append, ← hij]; rfl, by rw [HN.out]; omega, (ht.then (Touch.of_below hb3)).setCell (p := ⟨g, i, none⟩) (Or.inl rfl) _, zs.set i (ptrS x), wrow_set hz3 i _, ?_, ?_⟩
            · rw [hnx, List.map_append, ← hz1, List.take_add_one, List.take_set_of_le (Nat.le_refl i), List.getElem?_set_self (by omega)]
              rfl
            · rw [List.drop_set_of_lt (by omega)]
              exact hd2)
          clear hij ht hz hz1 hz2 hzl hnx hz3 hd2 hb3 hu TR DD c0 hu0
          go_wp2_with fail
          go_roundw
          case measure => simp only [intOf]; omega
          case rel => exact ⟨i + 1, j + 1, by go_num, by go_num, by omega, FIN.out⟩
      · obtain rfl : j = n := by omega
        have hall : l.take j = l := List.take_of_length_le (by have := HN.out; omega)
        rw [hall] at hij hz1
        rw [HN.out] at hz
        obtain ⟨w3, ys, CLR, h1, h2, h3⟩ := clear_ptrs wr zs i hle hz (cap - i) (if cap = i then some ⟨g, 0, none⟩ else some ⟨g, i, none⟩) (fun h => by rw [if_neg (by omega)])
        have FIN : Hid (w3.ownsRow B 76 1 (.slice (some ⟨g, 0, none⟩) i cap) i ((busy l).map ptrS) ∧ Touch (fun k => k = g) w w3) := Lib.hid (by
          have := row_cut h1 i hle
          rw [Nat.mul_one, h2, hz1] at this
          exact ⟨this, ht.then h3⟩)
        have HIJ := Lib.hid hij
        clear hall hij hz1 hz hz2 h1 h2 h3 ht hzl
        go_wp2_with fail
        all_goals
          go_ret
          rw [← HIJ.out]
          first
          | exact ⟨rfl, FIN.out.1, FIN.out.2⟩
          | (have hci : cap = i := by assumption
             have F2 := FIN.out
             rw [hci] at F2
             exact ⟨rfl, F2.1, F2.2⟩)

end
end Go.Proofs.Ytiaedonhbafpjaa

namespace Go.Proofs.Ytiaedonhbafpjaa
section
open Go.RowKit Go.Shelf
set_option linter.unusedVariables false

def CaSt.trim (S : CaSt) : CaSt := { S with sl := busy S.sl }
theorem busy_sub (l : List Sl) : (busy l).Sublist l := List.filter_sublist
theorem busy_mem {l : List Sl} {x : Sl} (h : x ∈ busy l) : x ∈ l ∧ idle x = false := by
  have := List.mem_filter.1 h
  exact ⟨this.1, by simpa using this.2⟩

theorem CaMem.trimmed {w w' : World} {F : Nat → Prop} {c bp : Nat} {S : CaSt} {vc vs vs' : Value} (m : CaMem w F c bp S vc vs)
    (hself : w'.heap[c]? = some (.cells #[.pointer (some ⟨bp, 0, none⟩), .int .i64 1, vc, .int .i64 (S.slots : Int), .bool S.closed, .int .i64 (S.last : Int), vs'] 65 (0, 0)))
    (hrow : w'.ownsRow 0 76 1 vs' (busy S.sl).length ((busy S.sl).map ptrS)) (hvo : ∀ k, vs'.ownBlock = some k → F k ∨ w.heap.size ≤ k)
    (keep : ∀ k, k < w.heap.size → k ≠ c → w'.heap[k]? = w.heap[k]?) : CaMem w' (fun k => F k ∨ (w.heap.size ≤ k ∧ k < w'.heap.size)) c bp S.trim vc vs' := by
  have hs := busy_sub S.sl
  have ne : ∀ (k : Nat) (cs : Array Value) (t : TypeId), w.heap[k]? = some (Obj.cells cs t (0, 0)) → t ≠ 65 → w'.heap[k]? = some (Obj.cells cs t (0, 0)) := fun k cs t hk t1 => by
    refine (keep k (lt_of hk) (fun e => ?_)).trans hk
    rw [e, m.self] at hk
    simp only [Option.some.injEq, Obj.cells.injEq] at hk
    exact t1 hk.2.1.symm
  refine ⟨hself, Or.inl m.fc, ⟨ownsRow_same m.cls.1 (fun k hk => by
    obtain ⟨cur, hc⟩ := row_block m.cls.1 hk
    rw [ne k _ _ hc (by decide), hc]), fun k hk => Or.inl (m.cls.2 k hk)⟩, ⟨hrow, fun k hk => ?_⟩, fun x hx => ?_, ?_, ?_, ?_, ?_, fun x hx => m.nb x (hs.subset hx), m.cok, m.sz, ?_, fun x hx y hy => m.lens x (hs.subset hx) y hy⟩
  · rcases hvo k hk with h | h
    · exact Or.inl h
    · exact Or.inr ⟨h, (hrow.lt k hk).2⟩
  · have mx := m.sl x (hs.subset hx)
    exact ⟨ne _ _ _ mx.self (by decide), ne _ _ _ mx.oct (by decide), mx.ol, mx.ob, ne _ _ _ mx.cel (by decide), mx.cl, Or.inl mx.fp, Or.inl mx.fg, Or.inl mx.fq⟩
  · exact m.ip.sublist (hs.map Sl.p)
  · exact m.ig.sublist (hs.map Sl.g)
  · exact m.iq.sublist (hs.map Sl.q)
  · exact m.nos.sublist (hs.map Sl.no)
  · have h1 := hs.length_le
    have h2 := m.few
    exact ⟨by show (busy S.sl).length ≤ 500; omega, h2.2⟩

/-- The octets of the idle slabs. -/
def idleN (S : CaSt) (l : List Sl) : Nat := roomsOf S (l.filter idle)
theorem idle_busy (S : CaSt) (l : List Sl) : idleN S l + roomsOf S (busy l) = roomsOf S l := by
  induction l with
  | nil => rfl
  | cons x l ih =>
    unfold idleN busy roomsOf at *
    cases h : idle x <;> simp [h] at ih ⊢ <;> omega
theorem idleN_next {S : CaSt} {l : List Sl} {k : Nat} {x : Sl} (hx : l[k]? = some x) : idleN S (l.take (k + 1)) = idleN S (l.take k) + if idle x then S.room x.cls else 0 := by
  unfold idleN roomsOf
  rw [List.take_add_one, hx, List.filter_append]
  cases h : idle x <;> simp [h]

end
end Go.Proofs.Ytiaedonhbafpjaa
