/-
  queueCall: a call of one of two queues on both sides. No conditions.
-/
import Derived.Test.YtfnmjlnpfoclbaaGreatQueueRunsPbr
namespace Go.Proofs.YtfnmjlnpfoclbaaGreat
open Go.RowKit
set_option linter.unusedVariables false

set_option maxRecDepth 100000 in
theorem slots125 (f : Nat → Value) : slotsOf 125 f = f 0 :: f 1 :: f 2 :: f 3 :: f 4 :: f 5 :: f 6 :: f 7 :: f 8 :: f 9 :: f 10 :: f 11 :: f 12 :: f 13 :: f 14 :: f 15 :: f 16 :: f 17 :: f 18 :: f 19 :: f 20 :: f 21 :: f 22 :: f 23 :: f 24 :: f 25 :: f 26 :: f 27 :: f 28 :: f 29 :: f 30 :: f 31 :: f 32 :: f 33 :: f 34 :: f 35 :: f 36 :: f 37 :: f 38 :: f 39 :: f 40 :: f 41 :: f 42 :: f 43 :: f 44 :: f 45 :: f 46 :: f 47 :: f 48 :: f 49 :: f 50 :: f 51 :: f 52 :: f 53 :: f 54 :: f 55 :: f 56 :: f 57 :: f 58 :: f 59 :: f 60 :: f 61 :: f 62 :: f 63 :: f 64 :: f 65 :: f 66 :: f 67 :: f 68 :: f 69 :: f 70 :: f 71 :: f 72 :: f 73 :: f 74 :: f 75 :: f 76 :: f 77 :: f 78 :: f 79 :: f 80 :: f 81 :: f 82 :: f 83 :: f 84 :: f 85 :: f 86 :: f 87 :: f 88 :: f 89 :: f 90 :: f 91 :: f 92 :: f 93 :: f 94 :: f 95 :: f 96 :: f 97 :: f 98 :: f 99 :: f 100 :: f 101 :: f 102 :: f 103 :: f 104 :: f 105 :: f 106 :: f 107 :: f 108 :: f 109 :: f 110 :: f 111 :: f 112 :: f 113 :: f 114 :: f 115 :: f 116 :: f 117 :: f 118 :: f 119 :: f 120 :: f 121 :: f 122 :: f 123 :: f 124 :: [] := rfl
def pk (s : Bool) (a b : QuId) : QuId := if s then b else a
theorem IntEnd.mono {f : FuncId} {args : Array Value} {w : World} {X : Nat → Prop} {Q Q' : World → Prop} (hQ : ∀ W, Q W → Q' W) {e : Ending} {w1 : World} (h : IntEnd f args w X Q e w1) : IntEnd f args w X Q' e w1 := by
  obtain ⟨z, h1, h2, h3⟩ := h
  exact ⟨z, h1, h2, h3.mono (fun e w2 ⟨k1, k2, k3⟩ => ⟨k1, hQ _ k2, k3⟩)⟩
theorem PullEnd.mono {I' : QuId} {m : Int} {w : World} {X : Nat → Prop} {Q Q' : World → Prop} (hQ : ∀ W, Q W → Q' W) {e : Ending} {w1 : World} (h : PullEnd I' m w X Q e w1) : PullEnd I' m w X Q' e w1 := by
  obtain ⟨v, zs, z, h1, h2, h3, h4⟩ := h
  refine ⟨v, zs, z, h1, h2, h3, h4.mono ?_⟩
  rintro e w2 ⟨v2, k1, k2, k3, k4, k5, k6⟩
  exact ⟨v2, k1, k2, k3, k4, hQ _ k5, k6⟩
theorem LookEnd.mono {I' : QuId} {cp : Nat} {m : Int} {w : World} {X : Nat → Prop} {Q Q' : World → Prop} (hQ : ∀ W, Q W → Q' W) {e : Ending} {w1 : World} (h : LookEnd I' cp m w X Q e w1) : LookEnd I' cp m w X Q' e w1 := by
  obtain ⟨u, z, h1, h2, h3, h4⟩ := h
  refine ⟨u, z, h1, h2, h3, h4.mono ?_⟩
  rintro e w2 ⟨v, k1, k2, k3, k4⟩
  refine ⟨v, k1, k2, k3, k4.mono ?_⟩
  rintro e w3 ⟨j1, j2, j3⟩
  exact ⟨j1, hQ _ j2, j3⟩
section
variable {w0 w : World} {I J I' J' : QuId} {cp n N : Nat} {X : Nat → Prop}
theorem all_push (h : QIx w0 I J I' J' cp n N X w) (s : Bool) (v : Value) (zs : List Int) (hv : ∀ W, Below w0.heap.size w0 W → Reads W .u8 v zs) (hz : bytes zs) (hN : zs.length ≤ 140737488351232) :
    Calls Tryz.prog 29 #[.pointer (some ⟨(pk s I J).r, 0, none⟩), v] w (IntEnd 30 #[.pointer (some ⟨(pk s I' J').r, 0, none⟩), v] w X (QIx w0 I J I' J' cp n N X)) := by
  obtain ⟨c, d, L, M, L', M', b, A, G, A', G', R, prs, h⟩ := h
  cases s with
  | false => exact op_push h v zs hv hz hN
  | true => exact (op_push h.swap v zs hv hz hN).mono (fun e w1 h => IntEnd.mono (fun W hW => hW.swap) (show IntEnd _ _ _ _ _ _ _ from h))
theorem all_pull (h : QIx w0 I J I' J' cp n N X w) (s : Bool) (m : Int) :
    Calls Tryz.prog 31 #[.pointer (some ⟨(pk s I J).r, 0, none⟩), .int .i64 m] w (PullEnd (pk s I' J') m w X (QIx w0 I J I' J' cp n N X)) := by
  obtain ⟨c, d, L, M, L', M', b, A, G, A', G', R, prs, h⟩ := h
  cases s with
  | false => exact op_pull h m
  | true => exact (op_pull h.swap m).mono (fun e w1 h => PullEnd.mono (fun W hW => hW.swap) h)
theorem all_look (h : QIx w0 I J I' J' cp n N X w) (s : Bool) (m : Int) (hm : -9223372036854775808 ≤ m ∧ m ≤ 9223372036854775807) (hn : n < 5500000000000) :
    Calls Tryz.prog 34 #[.pointer (some ⟨(pk s I J).r, 0, none⟩), .int .i64 m] w (LookEnd (pk s I' J') cp m w X (QIx w0 I J I' J' cp (n + 1) N X)) := by
  obtain ⟨c, d, L, M, L', M', b, A, G, A', G', R, prs, h⟩ := h
  cases s with
  | false => exact op_look h m hm hn
  | true => exact (op_look h.swap m hm hn).mono (fun e w1 h => LookEnd.mono (fun W hW => hW.swap) h)
theorem all_close (h : QIx w0 I J I' J' cp n N X w) (s : Bool) :
    Calls Tryz.prog 39 #[.pointer (some ⟨(pk s I J).r, 0, none⟩)] w (IntEnd 40 #[.pointer (some ⟨(pk s I' J').r, 0, none⟩)] w X (QIx w0 I J I' J' cp n N X)) := by
  obtain ⟨c, d, L, M, L', M', b, A, G, A', G', R, prs, h⟩ := h
  cases s with
  | false => exact op_close h
  | true => exact (op_close h.swap).mono (fun e w1 h => IntEnd.mono (fun W hW => hW.swap) h)
theorem all_join (h : QIx w0 I J I' J' cp n N X w) (s t : Bool) :
    Calls Tryz.prog 37 #[.pointer (some ⟨(pk s I J).r, 0, none⟩), .pointer (some ⟨(pk t I J).r, 0, none⟩)] w (IntEnd 38 #[.pointer (some ⟨(pk s I' J').r, 0, none⟩), .pointer (some ⟨(pk t I' J').r, 0, none⟩)] w X (QIx w0 I J I' J' cp n N X)) := by
  obtain ⟨c, d, L, M, L', M', b, A, G, A', G', R, prs, h⟩ := h
  cases s <;> cases t
  · exact op_self h
  · exact op_join h
  · exact (op_join h.swap).mono (fun e w1 h => IntEnd.mono (fun W hW => hW.swap) h)
  · exact (op_self h.swap).mono (fun e w1 h => IntEnd.mono (fun W hW => hW.swap) h)
theorem QIx.more (h : QIx w0 I J I' J' cp n N X w) {n' : Nat} (hn : n ≤ n') : QIx w0 I J I' J' cp n' N X w := by
  obtain ⟨c, d, L, M, L', M', b, A, G, A', G', R, prs, h⟩ := h
  exact (h.more hn).ix
theorem QIx.other (h : QIx w0 I J I' J' cp n N X w) {Y : Nat → Prop} (hy : ∀ k, Y k → X k) : QIx w0 I J I' J' cp n N Y w := by
  obtain ⟨c, d, L, M, L', M', b, A, G, A', G', R, prs, h⟩ := h
  exact (h.other hy).ix
theorem QIx.box {w1 : World} (h : QIx w0 I J I' J' cp n N X w) (hb : Below w.heap.size w w1) : QIx w0 I J I' J' cp n N (fun k => X k ∨ (w.heap.size ≤ k ∧ k < w1.heap.size)) w1 := by
  obtain ⟨c, d, L, M, L', M', b, A, G, A', G', R, prs, h⟩ := h
  exact (h.box hb).ix
theorem QIx.below {w1 : World} (h : QIx w0 I J I' J' cp n N X w) (hb : Below w.heap.size w w1) : QIx w0 I J I' J' cp n N X w1 := by
  obtain ⟨c, d, L, M, L', M', b, A, G, A', G', R, prs, h⟩ := h
  exact (h.below hb).ix
theorem QIx.xl (h : QIx w0 I J I' J' cp n N X w) : ∀ k, X k → k < w.heap.size := by
  obtain ⟨c, d, L, M, L', M', b, A, G, A', G', R, prs, h⟩ := h
  exact h.xl
end
/-- The boxes of a call. -/
def BoxQ (o4 o5 o6 : Obj) (b4 b5 b6 : Nat) (W : World) : Prop := W.heap[b4]? = some o4 ∧ W.heap[b5]? = some o5 ∧ W.heap[b6]? = some o6

theorem three_box (w : World) (c4 c5 c6 : Array Value) (t4 t5 t6 : TypeId) : BoxQ (.cells c4 t4 (0, 0)) (.cells c5 t5 (0, 0)) (.cells c6 t6 (0, 0)) w.heap.size (w.heap.size + 1) (w.heap.size + 1 + 1) (((w.alloc (.cells c4 t4)).alloc (.cells c5 t5)).alloc (.cells c6 t6)) := by
  have s1 : (w.alloc (.cells c4 t4)).heap.size = w.heap.size + 1 := World.size_alloc _ _
  have s2 : ((w.alloc (.cells c4 t4)).alloc (.cells c5 t5)).heap.size = w.heap.size + 1 + 1 := by rw [World.size_alloc, s1]
  refine ⟨?_, ?_, ?_⟩
  · rw [heap_alloc_old _ _ (by omega), heap_alloc_old _ _ (by omega)]
    exact heap_alloc_new w _
  · rw [heap_alloc_old _ _ (by omega), ← s1]
    exact heap_alloc_new _ _
  · rw [← s2]
    exact heap_alloc_new _ _
theorem three_size (w : World) (o4 o5 o6 : Obj) : w.heap.size + 1 + 1 < (((w.alloc o4).alloc o5).alloc o6).heap.size := by
  rw [World.size_alloc, World.size_alloc, World.size_alloc]
  omega

set_option maxHeartbeats 8000000 in
set_option maxRecDepth 100000 in
theorem queueCall_any (w0 : World) (I J I' J' : QuId) (cp n N : Nat) (X : Nat → Prop) (ck ca cb cc : Int) (da : Option Addr) (dn dc : Nat) (zs : List Int) (w : World) (h : QIx w0 I J I' J' cp n N X w) (hn : n < 5500000000000)
    (hd : ∀ W, Below w0.heap.size w0 W → Reads W .u8 (.slice da dn dc) zs) (hz : bytes zs) (hN : zs.length ≤ 140737488351232) (fk : fit64 ck) (fa : fit64 ca) (fb : fit64 cb) (fc : fit64 cc) :
    Calls Tryz.prog 7 #[.agg #[.pointer (some ⟨I.r, 0, none⟩), .pointer (some ⟨J.r, 0, none⟩)], .agg #[.pointer (some ⟨I'.r, 0, none⟩), .pointer (some ⟨J'.r, 0, none⟩)], .agg #[.int .i64 ck, .int .i64 ca, .int .i64 cb, .int .i64 cc, .slice da dn dc], .pointer (some ⟨cp, 0, none⟩)] w
      (fun e w' => e = .returned (.bool true) ∧ QIx w0 I J I' J' cp (n + 1) N X w' ∧ StayX X w w') := by
  have H := Lib.hid h
  have HD := Lib.hid hd
  have MC := Lib.hid (fun W => mod_any cc 2 W (by decide) (by decide) fc)
  have MK := Lib.hid (fun W => mod_any ck 7 W (by decide) (by decide) fk)
  have MB := Lib.hid (fun W => mod_any cb 2 W (by decide) (by decide) fb)
  have MA := Lib.hid (fun W => mod_any ca 9 W (by decide) (by decide) fa)
  have lC := modv_lt cc 2 (by decide)
  have lK := modv_lt ck 7 (by decide)
  have lB := modv_lt cb 2 (by decide)
  have HFA := Lib.hid fa
  clear h hd fk fa fb fc
  go_enter Tryz.func7, Tryz.ntmps7
  go_upto_region 1 with fail
  have B3 : Below w.heap.size w (((w.alloc (.cells #[.pointer (some ⟨I.r, 0, none⟩), .pointer (some ⟨J.r, 0, none⟩)] 31)).alloc (.cells #[.pointer (some ⟨I'.r, 0, none⟩), .pointer (some ⟨J'.r, 0, none⟩)] 33)).alloc (.cells #[.int .i64 ck, .int .i64 ca, .int .i64 cb, .int .i64 cc, .slice da dn dc] 44)) := by go_grown
  have BQ : BoxQ (.cells #[.pointer (some ⟨I.r, 0, none⟩), .pointer (some ⟨J.r, 0, none⟩)] 31 (0, 0)) (.cells #[.pointer (some ⟨I'.r, 0, none⟩), .pointer (some ⟨J'.r, 0, none⟩)] 33 (0, 0)) (.cells #[.int .i64 ck, .int .i64 ca, .int .i64 cb, .int .i64 cc, .slice da dn dc] 44 (0, 0)) w.heap.size (w.heap.size + 1) (w.heap.size + 1 + 1)
      (((w.alloc (.cells #[.pointer (some ⟨I.r, 0, none⟩), .pointer (some ⟨J.r, 0, none⟩)] 31)).alloc (.cells #[.pointer (some ⟨I'.r, 0, none⟩), .pointer (some ⟨J'.r, 0, none⟩)] 33)).alloc (.cells #[.int .i64 ck, .int .i64 ca, .int .i64 cb, .int .i64 cc, .slice da dn dc] 44)) := by
    exact three_box w _ _ _ _ _ _
  have hsz3 : w.heap.size + 1 + 1 < (((w.alloc (.cells #[.pointer (some ⟨I.r, 0, none⟩), .pointer (some ⟨J.r, 0, none⟩)] 31)).alloc (.cells #[.pointer (some ⟨I'.r, 0, none⟩), .pointer (some ⟨J'.r, 0, none⟩)] 33)).alloc (.cells #[.int .i64 ck, .int .i64 ca, .int .i64 cb, .int .i64 cc, .slice da dn dc] 44)).heap.size := by
    exact three_size w _ _ _
  generalize (((w.alloc (.cells #[.pointer (some ⟨I.r, 0, none⟩), .pointer (some ⟨J.r, 0, none⟩)] 31)).alloc (.cells #[.pointer (some ⟨I'.r, 0, none⟩), .pointer (some ⟨J'.r, 0, none⟩)] 33)).alloc (.cells #[.int .i64 ck, .int .i64 ca, .int .i64 cb, .int .i64 cc, .slice da dn dc] 44)) = W3 at *
  have Q3 := Lib.hid (H.out.box B3)
  have FIN : Hid (∀ W, (QIx w0 I J I' J' cp n N (fun k => X k ∨ (w.heap.size ≤ k ∧ k < W3.heap.size)) W ∨ QIx w0 I J I' J' cp (n + 1) N (fun k => X k ∨ (w.heap.size ≤ k ∧ k < W3.heap.size)) W) → StayX (fun k => X k ∨ (w.heap.size ≤ k ∧ k < W3.heap.size)) W3 W → QIx w0 I J I' J' cp (n + 1) N X W ∧ StayX X w W) := Lib.hid (fun W h1 h2 => by
    refine ⟨?_, fun k hk => (h2 k (Or.inl hk)).trans (B3.block k (H.out.xl k hk))⟩
    rcases h1 with h1 | h1
    · exact (h1.more (Nat.le_succ n)).other (fun k hk => Or.inl hk)
    · exact h1.other (fun k hk => Or.inl hk))
  have HB : Hid (∀ W, StayX (fun k => X k ∨ (w.heap.size ≤ k ∧ k < W3.heap.size)) W3 W → BoxQ (.cells #[.pointer (some ⟨I.r, 0, none⟩), .pointer (some ⟨J.r, 0, none⟩)] 31 (0, 0)) (.cells #[.pointer (some ⟨I'.r, 0, none⟩), .pointer (some ⟨J'.r, 0, none⟩)] 33 (0, 0)) (.cells #[.int .i64 ck, .int .i64 ca, .int .i64 cb, .int .i64 cc, .slice da dn dc] 44 (0, 0)) w.heap.size (w.heap.size + 1) (w.heap.size + 1 + 1) W) := Lib.hid (fun W h2 => 
    ⟨(h2 _ (Or.inr ⟨by omega, by omega⟩)).trans BQ.1, (h2 _ (Or.inr ⟨by omega, by omega⟩)).trans BQ.2.1, (h2 _ (Or.inr ⟨by omega, by omega⟩)).trans BQ.2.2⟩)
  clear BQ hsz3 B3
  generalize hXX : (fun k => X k ∨ (w.heap.size ≤ k ∧ k < W3.heap.size)) = XX at *
  clear hXX H
  have ho4 := HB
  generalize ho4e : (Obj.cells #[Value.pointer (some ⟨I.r, 0, none⟩), .pointer (some ⟨J.r, 0, none⟩)] 31 (0, 0)) = o4 at ho4
  generalize ho5e : (Obj.cells #[Value.pointer (some ⟨I'.r, 0, none⟩), .pointer (some ⟨J'.r, 0, none⟩)] 33 (0, 0)) = o5 at ho4
  generalize ho6e : (Obj.cells #[Value.int .i64 ck, .int .i64 ca, .int .i64 cb, .int .i64 cc, .slice da dn dc] 44 (0, 0)) = o6 at ho4
  generalize hb4 : w.heap.size = b4 at *
  generalize hb5 : b4 + 1 = b5 at *
  generalize hb6 : b5 + 1 = b6 at *
  clear hb4 hb5 hb6 HB
  have L4 : Hid (∀ W, BoxQ o4 o5 o6 b4 b5 b6 W → W.cell? ⟨b4, 0, none⟩ = some (.pointer (some ⟨I.r, 0, none⟩)) ∧ W.cell? ⟨b4, 1, none⟩ = some (.pointer (some ⟨J.r, 0, none⟩)) ∧ W.cell? ⟨b5, 0, none⟩ = some (.pointer (some ⟨I'.r, 0, none⟩)) ∧ W.cell? ⟨b5, 1, none⟩ = some (.pointer (some ⟨J'.r, 0, none⟩))) := Lib.hid (fun W h => by
    obtain ⟨h4, h5, h6⟩ := h
    rw [← ho4e] at h4
    rw [← ho5e] at h5
    exact ⟨by rw [cell_of h4]; rfl, by rw [cell_of h4]; rfl, by rw [cell_of h5]; rfl, by rw [cell_of h5]; rfl⟩)
  have L6 : Hid (∀ W, BoxQ o4 o5 o6 b4 b5 b6 W → W.cell? ⟨b6, 0, none⟩ = some (.int .i64 ck) ∧ W.cell? ⟨b6, 1, none⟩ = some (.int .i64 ca) ∧ W.cell? ⟨b6, 2, none⟩ = some (.int .i64 cb) ∧ W.cell? ⟨b6, 3, none⟩ = some (.int .i64 cc) ∧ W.cell? ⟨b6, 4, none⟩ = some (.slice da dn dc)) := Lib.hid (fun W h => by
    obtain ⟨h4, h5, h6⟩ := h
    rw [← ho6e] at h6
    exact ⟨by rw [cell_of h6]; rfl, by rw [cell_of h6]; rfl, by rw [cell_of h6]; rfl, by rw [cell_of h6]; rfl, by rw [cell_of h6]; rfl⟩)
  clear ho4e ho5e ho6e
  obtain ⟨p0, p1, r0, r1⟩ := L4.out W3 (ho4.out W3 (fun _ _ => rfl))
  obtain ⟨c0, c1, c2, c3, c4⟩ := L6.out W3 (ho4.out W3 (fun _ _ => rfl))
  go_wp2_with fail
  refine (MC.out _).mono ?_
  rintro e w1 ⟨rfl, hw1⟩
  rw [hw1]
  clear hw1
  go_upto_region 2 with fail
  refine wp_cut_framed 125 (fun f wx => f 3 = .pointer (some ⟨cp, 0, none⟩) ∧ f 4 = .pointer (some ⟨b4, 0, none⟩) ∧ f 5 = .pointer (some ⟨b5, 0, none⟩) ∧ f 6 = .pointer (some ⟨b6, 0, none⟩) ∧ (∃ s : Bool, f 10 = .pointer (some ⟨(pk s I J).r, 0, none⟩) ∧ f 11 = .pointer (some ⟨(pk s I' J').r, 0, none⟩)) ∧ ∃ q, wx = W3.drewN q) _ _ ?_ ?_
  · intro J2 K2 hJ2 hK2
    rcases (show modv cc 2 = 0 ∨ modv cc 2 = 1 by omega) with hm | hm
    · rw [hm]
      clear hm lC
      go_quiet (fail)
      go_wp2_with fail
      exact Met.intro (hJ2 _ _ (by kernel_rfl) ⟨rfl, rfl, rfl, rfl, ⟨false, rfl, rfl⟩, nq, rfl⟩)
    · rw [hm]
      clear hm lC
      go_quiet (fail)
      go_wp2_with fail
      exact Met.intro (hJ2 _ _ (by kernel_rfl) ⟨rfl, rfl, rfl, rfl, ⟨true, rfl, rfl⟩, nq, rfl⟩)
  intro f wx ⟨f3, f4, f5, f6, ⟨s, f10, f11⟩, q, hwx⟩
  rw [slots125]
  rw [f3, f4, f5, f6, f10, f11]
  clear f3 f4 f5 f6 f10 f11 p0 p1 r0 r1 c0 c1 c2 c3 c4
  have QX := Lib.hid (Q3.out.below (bdrewN (Below.refl _ W3) q))
  have SX : Hid (StayX XX W3 (W3.drewN q)) := Lib.hid (fun _ _ => rfl)
  rw [← hwx] at QX SX
  have BXX := Lib.hid (ho4.out wx SX.out)
  obtain ⟨c0, c1, c2, c3, c4⟩ := L6.out wx BXX.out
  clear hwx Q3
  go_wp2_with fail
  refine (MK.out _).mono ?_
  rintro e w1 ⟨rfl, hw1⟩
  rw [hw1]
  clear hw1
  rcases (show modv ck 7 = 0 ∨ modv ck 7 = 1 ∨ modv ck 7 = 2 ∨ modv ck 7 = 3 ∨ modv ck 7 = 4 ∨ modv ck 7 = 5 ∨ modv ck 7 = 6 by omega) with hm | hm | hm | hm | hm | hm | hm
  · rw [hm]
    clear hm lK
    --[[A
    go_upto_region 6 with fail
    refine wp_normal ?_
    refine wp_region_plan 9 (BoxQ o4 o5 o6 b4 b5 b6) rfl ?_
    have S0 : BoxQ o4 o5 o6 b4 b5 b6 wx.drew := BXX.out
    have PS := all_push (QX.out.below (bdrewN (Below.refl _ wx) 1)) s _ zs HD.out hz hN
    have k4 : ∀ y : WIn (BoxQ o4 o5 o6 b4 b5 b6), y.w.cell? ⟨b6, 4, none⟩ = some (.slice da dn dc) := fun y => (L6.out y.w y.h).2.2.2.2
    haveI ne : Nonempty (WIn (BoxQ o4 o5 o6 b4 b5 b6)) := ⟨⟨_, S0⟩⟩
    refine wpN_seg [0, 1, 2, 4, 5, 6] (by kernel_rfl) (by kernel_rfl) (by kernel_rfl) (by kernel_rfl) (by decide) (fun _ _ _ _ _ h => h) S0 ?_
    simp only [pick, List.map_cons, List.map_nil, List.getElem?_cons_succ, List.getElem?_cons_zero, Option.getD_some]
    repeat (go_big_quiet_step (fail))
    refine wpQuiet_nil ?_
    clear ne
    refine wpN_one 3 _ (by kernel_rfl) rfl ?_
    refine NextAt.held ?_
    intro K hK
    go_simp
    refine PS.mono ?_
    rintro e w1 ⟨z, rfl, st1, PR⟩
    have ST1 : Hid (StayX XX W3 w1) := Lib.hid (StayX.trans SX.out st1)
    have S1 := ho4.out w1 ST1.out
    have HPR := Lib.hid PR
    clear st1 PR PS
    go_simp
    refine hK _ _ S1 ?_
    clear hK K
    refine wpN_one 7 _ (by kernel_rfl) rfl ?_
    refine NextAt.held ?_
    intro K hK
    go_simp
    refine HPR.out.mono ?_
    rintro e w2 ⟨rfl, q2, st2⟩
    have ST2 : Hid (StayX XX W3 w2) := Lib.hid (StayX.trans SX.out st2)
    have S2 := ho4.out w2 ST2.out
    have DONE := Lib.hid (FIN.out w2 (Or.inl q2) ST2.out)
    clear st2 q2
    go_simp
    refine hK _ _ S2 ?_
    clear hK K
    refine wpN_pure [8] (by kernel_rfl) (by kernel_rfl) (by kernel_rfl) (fun _ _ _ _ _ h => h) (fun _ => S2) ?_
    simp only [pick, List.map_cons, List.map_nil, List.getElem?_cons_succ, List.getElem?_cons_zero, Option.getD_some]
    repeat (go_big_quiet_step (fail))
    refine wpQuiet_nil ?_
    refine wpN_one 9 _ (by kernel_rfl) rfl ?_
    refine NextAt.free (by kernel_rfl) ?_
    intro K hK
    go_simp
    refine hK _ _ ?_
    clear hK K
    refine wpN_done (by kernel_rfl) ?_
    go_wp2_with fail
    go_ret
    exact ⟨rfl, DONE.out⟩
    --]]A
  · rw [hm]
    clear hm lK
    --[[B
    go_upto_region 6 with fail
    refine wp_normal ?_
    refine wp_region_plan 9 (BoxQ o4 o5 o6 b4 b5 b6) rfl ?_
    have S0 : BoxQ o4 o5 o6 b4 b5 b6 wx.drew := BXX.out
    have PS := all_push (QX.out.below (bdrewN (Below.refl _ wx) 1)) s _ zs HD.out hz hN
    have k4 : ∀ y : WIn (BoxQ o4 o5 o6 b4 b5 b6), y.w.cell? ⟨b6, 4, none⟩ = some (.slice da dn dc) := fun y => (L6.out y.w y.h).2.2.2.2
    haveI ne : Nonempty (WIn (BoxQ o4 o5 o6 b4 b5 b6)) := ⟨⟨_, S0⟩⟩
    refine wpN_seg [0, 1, 2, 4, 5, 6] (by kernel_rfl) (by kernel_rfl) (by kernel_rfl) (by kernel_rfl) (by decide) (fun _ _ _ _ _ h => h) S0 ?_
    simp only [pick, List.map_cons, List.map_nil, List.getElem?_cons_succ, List.getElem?_cons_zero, Option.getD_some]
    repeat (go_big_quiet_step (fail))
    refine wpQuiet_nil ?_
    clear ne
    refine wpN_one 3 _ (by kernel_rfl) rfl ?_
    refine NextAt.held ?_
    intro K hK
    go_simp
    refine PS.mono ?_
    rintro e w1 ⟨z, rfl, st1, PR⟩
    have ST1 : Hid (StayX XX W3 w1) := Lib.hid (StayX.trans SX.out st1)
    have S1 := ho4.out w1 ST1.out
    have HPR := Lib.hid PR
    clear st1 PR PS
    go_simp
    refine hK _ _ S1 ?_
    clear hK K
    refine wpN_one 7 _ (by kernel_rfl) rfl ?_
    refine NextAt.held ?_
    intro K hK
    go_simp
    refine HPR.out.mono ?_
    rintro e w2 ⟨rfl, q2, st2⟩
    have ST2 : Hid (StayX XX W3 w2) := Lib.hid (StayX.trans SX.out st2)
    have S2 := ho4.out w2 ST2.out
    have DONE := Lib.hid (FIN.out w2 (Or.inl q2) ST2.out)
    clear st2 q2
    go_simp
    refine hK _ _ S2 ?_
    clear hK K
    refine wpN_pure [8] (by kernel_rfl) (by kernel_rfl) (by kernel_rfl) (fun _ _ _ _ _ h => h) (fun _ => S2) ?_
    simp only [pick, List.map_cons, List.map_nil, List.getElem?_cons_succ, List.getElem?_cons_zero, Option.getD_some]
    repeat (go_big_quiet_step (fail))
    refine wpQuiet_nil ?_
    refine wpN_one 9 _ (by kernel_rfl) rfl ?_
    refine NextAt.free (by kernel_rfl) ?_
    intro K hK
    go_simp
    refine hK _ _ ?_
    clear hK K
    refine wpN_done (by kernel_rfl) ?_
    go_wp2_with fail
    go_ret
    exact ⟨rfl, DONE.out⟩
    --]]B
  · rw [hm]
    clear hm lK
    --[[C
    have PS := Lib.hid (all_pull QX.out s ca)
    go_wp2_with fail
    refine PS.out.mono ?_
    rintro e w1 ⟨v, us, z, rfl, st1, ⟨va, vc, rfl⟩, PR⟩
    have ST1 : Hid (StayX XX W3 w1) := Lib.hid (StayX.trans SX.out st1)
    obtain ⟨d0, d1, d2, d3, d4⟩ := L6.out w1 (ho4.out w1 ST1.out)
    have HPR := Lib.hid PR
    clear st1 PR PS
    go_wp2_with fail
    refine HPR.out.mono ?_
    rintro e w2 ⟨v2, rfl, ⟨xa, xc, rfl⟩, R1, R2, q2, st2⟩
    have EQ := Lib.hid (equal_same R1 R2)
    have Q2 := Lib.hid q2
    have ST2 : Hid (StayX XX W3 w2) := Lib.hid (StayX.trans SX.out st2)
    clear R1 R2 q2 st2 HPR
    go_wp2_with fail
    refine EQ.out.mono ?_
    rintro e w3 ⟨rfl, q3, hw3⟩
    have DONE : Hid (QIx w0 I J I' J' cp (n + 1) N X w3 ∧ StayX X w w3) := Lib.hid (by
      rw [hw3]
      exact FIN.out _ (Or.inl (Q2.out.below (bdrewN (Below.refl _ w2) q3))) ST2.out)
    clear hw3
    go_wp2_with fail
    go_ret
    exact ⟨rfl, DONE.out⟩
    --]]C
  · rw [hm]
    clear hm lK
    --[[D
    have PS := Lib.hid (all_pull QX.out s ca)
    go_wp2_with fail
    refine PS.out.mono ?_
    rintro e w1 ⟨v, us, z, rfl, st1, ⟨va, vc, rfl⟩, PR⟩
    have ST1 : Hid (StayX XX W3 w1) := Lib.hid (StayX.trans SX.out st1)
    obtain ⟨d0, d1, d2, d3, d4⟩ := L6.out w1 (ho4.out w1 ST1.out)
    have HPR := Lib.hid PR
    clear st1 PR PS
    go_wp2_with fail
    refine HPR.out.mono ?_
    rintro e w2 ⟨v2, rfl, ⟨xa, xc, rfl⟩, R1, R2, q2, st2⟩
    have EQ := Lib.hid (equal_same R1 R2)
    have Q2 := Lib.hid q2
    have ST2 : Hid (StayX XX W3 w2) := Lib.hid (StayX.trans SX.out st2)
    clear R1 R2 q2 st2 HPR
    go_wp2_with fail
    refine EQ.out.mono ?_
    rintro e w3 ⟨rfl, q3, hw3⟩
    have DONE : Hid (QIx w0 I J I' J' cp (n + 1) N X w3 ∧ StayX X w w3) := Lib.hid (by
      rw [hw3]
      exact FIN.out _ (Or.inl (Q2.out.below (bdrewN (Below.refl _ w2) q3))) ST2.out)
    clear hw3
    go_wp2_with fail
    go_ret
    exact ⟨rfl, DONE.out⟩
    --]]D
  · rw [hm]
    clear hm lK
    --[[E
    have PS := Lib.hid (all_look QX.out s ca HFA.out hn)
    go_wp2_with fail
    refine PS.out.mono ?_
    rintro e w1 ⟨u, z, rfl, st1, ⟨va, vk, rfl⟩, PR⟩
    have ST1 : Hid (StayX XX W3 w1) := Lib.hid (StayX.trans SX.out st1)
    obtain ⟨d0, d1, d2, d3, d4⟩ := L6.out w1 (ho4.out w1 ST1.out)
    have HPR := Lib.hid PR
    clear st1 PR PS
    go_wp2_with fail
    refine HPR.out.mono ?_
    rintro e w2 ⟨v2, rfl, st2, ⟨xa, xk, rfl⟩, FE⟩
    have HFE := Lib.hid FE
    clear FE st2 HPR
    go_wp2_with fail
    refine HFE.out.mono ?_
    rintro e w3 ⟨rfl, q3, st3⟩
    have DONE := Lib.hid (FIN.out w3 (Or.inr q3) (StayX.trans SX.out st3))
    clear q3 st3
    go_wp2_with fail
    go_ret
    exact ⟨rfl, DONE.out⟩
    --]]E
  · rw [hm]
    clear hm lK
    --[[F
    go_wp2_with fail
    refine (MB.out _).mono ?_
    rintro e w1 ⟨rfl, hw1⟩
    rw [hw1]
    clear hw1
    rcases (show modv cb 2 = 0 ∨ modv cb 2 = 1 by omega) with hb | hb
    · rw [hb]
      clear hb lB
      go_upto_region 18 with fail
      refine wp_normal ?_
      refine wp_region_plan 11 (BoxQ o4 o5 o6 b4 b5 b6) rfl ?_
      have S0 : BoxQ o4 o5 o6 b4 b5 b6 wx.drew := BXX.out
      have PS := all_join (QX.out.below (bdrewN (Below.refl _ wx) 1)) s false
      have k4 : ∀ y : WIn (BoxQ o4 o5 o6 b4 b5 b6), y.w.cell? ⟨b4, 0, none⟩ = some (.pointer (some ⟨(pk false I J).r, 0, none⟩)) := fun y => (L4.out y.w y.h).1
      have k5 : ∀ y : WIn (BoxQ o4 o5 o6 b4 b5 b6), y.w.cell? ⟨b5, 0, none⟩ = some (.pointer (some ⟨(pk false I' J').r, 0, none⟩)) := fun y => (L4.out y.w y.h).2.2.1
      generalize (pk false I J).r = tr at *
      generalize (pk false I' J').r = tr' at *
      haveI ne : Nonempty (WIn (BoxQ o4 o5 o6 b4 b5 b6)) := ⟨⟨_, S0⟩⟩
      refine wpN_seg [0, 1, 2, 3, 5, 6, 7, 8] (by kernel_rfl) (by kernel_rfl) (by kernel_rfl) (by kernel_rfl) (by decide) (fun _ _ _ _ _ h => h) S0 ?_
      simp only [pick, List.map_cons, List.map_nil, List.getElem?_cons_succ, List.getElem?_cons_zero, Option.getD_some]
      repeat (go_big_quiet_step (fail))
      refine wpQuiet_nil ?_
      clear ne
      refine wpN_one 4 _ (by kernel_rfl) rfl ?_
      refine NextAt.held ?_
      intro K hK
      go_simp
      refine PS.mono ?_
      rintro e w1 ⟨z, rfl, st1, PR⟩
      have ST1 : Hid (StayX XX W3 w1) := Lib.hid (StayX.trans SX.out st1)
      have S1 := ho4.out w1 ST1.out
      have HPR := Lib.hid PR
      clear st1 PR PS
      go_simp
      refine hK _ _ S1 ?_
      clear hK K
      refine wpN_one 9 _ (by kernel_rfl) rfl ?_
      refine NextAt.held ?_
      intro K hK
      go_simp
      refine HPR.out.mono ?_
      rintro e w2 ⟨rfl, q2, st2⟩
      have ST2 : Hid (StayX XX W3 w2) := Lib.hid (StayX.trans SX.out st2)
      have S2 := ho4.out w2 ST2.out
      have DONE := Lib.hid (FIN.out w2 (Or.inl q2) ST2.out)
      clear st2 q2
      go_simp
      refine hK _ _ S2 ?_
      clear hK K
      refine wpN_pure [10] (by kernel_rfl) (by kernel_rfl) (by kernel_rfl) (fun _ _ _ _ _ h => h) (fun _ => S2) ?_
      simp only [pick, List.map_cons, List.map_nil, List.getElem?_cons_succ, List.getElem?_cons_zero, Option.getD_some]
      repeat (go_big_quiet_step (fail))
      refine wpQuiet_nil ?_
      refine wpN_one 11 _ (by kernel_rfl) rfl ?_
      refine NextAt.free (by kernel_rfl) ?_
      intro K hK
      go_simp
      refine hK _ _ ?_
      clear hK K
      refine wpN_done (by kernel_rfl) ?_
      go_wp2_with fail
      go_ret
      exact ⟨rfl, DONE.out⟩
    · rw [hb]
      clear hb lB
      go_upto_region 18 with fail
      refine wp_normal ?_
      refine wp_region_plan 11 (BoxQ o4 o5 o6 b4 b5 b6) rfl ?_
      have S0 : BoxQ o4 o5 o6 b4 b5 b6 wx.drew := BXX.out
      have PS := all_join (QX.out.below (bdrewN (Below.refl _ wx) 1)) s true
      have k4 : ∀ y : WIn (BoxQ o4 o5 o6 b4 b5 b6), y.w.cell? ⟨b4, 1, none⟩ = some (.pointer (some ⟨(pk true I J).r, 0, none⟩)) := fun y => (L4.out y.w y.h).2.1
      have k5 : ∀ y : WIn (BoxQ o4 o5 o6 b4 b5 b6), y.w.cell? ⟨b5, 1, none⟩ = some (.pointer (some ⟨(pk true I' J').r, 0, none⟩)) := fun y => (L4.out y.w y.h).2.2.2
      generalize (pk true I J).r = tr at *
      generalize (pk true I' J').r = tr' at *
      haveI ne : Nonempty (WIn (BoxQ o4 o5 o6 b4 b5 b6)) := ⟨⟨_, S0⟩⟩
      refine wpN_seg [0, 1, 2, 3, 5, 6, 7, 8] (by kernel_rfl) (by kernel_rfl) (by kernel_rfl) (by kernel_rfl) (by decide) (fun _ _ _ _ _ h => h) S0 ?_
      simp only [pick, List.map_cons, List.map_nil, List.getElem?_cons_succ, List.getElem?_cons_zero, Option.getD_some]
      repeat (go_big_quiet_step (fail))
      refine wpQuiet_nil ?_
      clear ne
      refine wpN_one 4 _ (by kernel_rfl) rfl ?_
      refine NextAt.held ?_
      intro K hK
      go_simp
      refine PS.mono ?_
      rintro e w1 ⟨z, rfl, st1, PR⟩
      have ST1 : Hid (StayX XX W3 w1) := Lib.hid (StayX.trans SX.out st1)
      have S1 := ho4.out w1 ST1.out
      have HPR := Lib.hid PR
      clear st1 PR PS
      go_simp
      refine hK _ _ S1 ?_
      clear hK K
      refine wpN_one 9 _ (by kernel_rfl) rfl ?_
      refine NextAt.held ?_
      intro K hK
      go_simp
      refine HPR.out.mono ?_
      rintro e w2 ⟨rfl, q2, st2⟩
      have ST2 : Hid (StayX XX W3 w2) := Lib.hid (StayX.trans SX.out st2)
      have S2 := ho4.out w2 ST2.out
      have DONE := Lib.hid (FIN.out w2 (Or.inl q2) ST2.out)
      clear st2 q2
      go_simp
      refine hK _ _ S2 ?_
      clear hK K
      refine wpN_pure [10] (by kernel_rfl) (by kernel_rfl) (by kernel_rfl) (fun _ _ _ _ _ h => h) (fun _ => S2) ?_
      simp only [pick, List.map_cons, List.map_nil, List.getElem?_cons_succ, List.getElem?_cons_zero, Option.getD_some]
      repeat (go_big_quiet_step (fail))
      refine wpQuiet_nil ?_
      refine wpN_one 11 _ (by kernel_rfl) rfl ?_
      refine NextAt.free (by kernel_rfl) ?_
      intro K hK
      go_simp
      refine hK _ _ ?_
      clear hK K
      refine wpN_done (by kernel_rfl) ?_
      go_wp2_with fail
      go_ret
      exact ⟨rfl, DONE.out⟩
    --]]F
  · rw [hm]
    clear hm lK
    --[[G
    go_wp2_with fail
    refine (MA.out _).mono ?_
    rintro e w1 ⟨rfl, hw1⟩
    rw [hw1]
    clear hw1
    by_cases h9 : modv ca 9 = 0
    · rw [h9]
      clear h9
      have PS := Lib.hid (all_close QX.out s)
      go_wp2_with fail
      refine PS.out.mono ?_
      rintro e w1 ⟨z, rfl, st1, PR⟩
      have HPR := Lib.hid PR
      clear st1 PR PS
      go_wp2_with fail
      refine HPR.out.mono ?_
      rintro e w2 ⟨rfl, q2, st2⟩
      have DONE := Lib.hid (FIN.out w2 (Or.inl q2) (StayX.trans SX.out st2))
      clear st2 q2
      go_wp2_with fail
      go_ret
      exact ⟨rfl, DONE.out⟩
    · have h9' : (((modv ca 9 : Nat) : Int) == 0) = false := by simp; omega
      have PS := Lib.hid (all_push QX.out s (.slice none 0 0) [] (fun W _ => reads_none W) (by intro z hz; simp at hz) (by simp))
      clear h9
      generalize modv ca 9 = m9 at *
      go_wp2_with fail
      refine PS.out.mono ?_
      rintro e w1 ⟨z, rfl, st1, PR⟩
      have HPR := Lib.hid PR
      clear st1 PR PS
      go_wp2_with fail
      refine HPR.out.mono ?_
      rintro e w2 ⟨rfl, q2, st2⟩
      have DONE := Lib.hid (FIN.out w2 (Or.inl q2) (StayX.trans SX.out st2))
      clear st2 q2
      go_wp2_with fail
      go_ret
      exact ⟨rfl, DONE.out⟩
    --]]G

end Go.Proofs.YtfnmjlnpfoclbaaGreat
