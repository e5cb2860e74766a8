/-
  The walk of TopMoves. No conditions.
-/
import Derived.Test.YtmapdgpdpojjjaaTopMovesS
import Derived.Test.YtmapdgpdpojjjaaMid
import Derived.Deep.CutRange
import Derived.Deep.DeepCutAuto
namespace Go.Proofs.Ytmapdgpdpojjjaa
open Go.RowKit
set_option linter.unusedVariables false

/-- The look lies apart from the ring's memory. -/
def LookApart (w0 : World) (r g0 g : Nat) (G : Nat → Prop) (w : World) : Prop := g0 ≠ g ∧ g0 ≠ r ∧ ¬ G g0 ∧ w0.heap.size ≤ g0 ∧ ∃ ls, byteRow w g0 ls ∧ 0 < ls.length
/-- Between two rounds: ring, book, and the look, which is the ring's memory as long as nothing moved. -/
def TmRel (w0 : World) (f0 : Int) (r bp : Nat) (k s m : Int) (g0 R0 : Nat) (mv : Bool) (w : World) : Prop :=
  match mv with
  | false => ∃ len cs bst G, TmSt w0 w r bp k s m f0 g0 R0 len cs bst G
  | true => ∃ g R len cs bst G, TmSt w0 w r bp k s m f0 g R len cs bst G ∧ LookApart w0 r g0 g G w
theorem TmRel.no {w0 w : World} {f0 : Int} {r bp : Nat} {k s m : Int} {g0 R0 : Nat} (h : TmRel w0 f0 r bp k s m g0 R0 false w) : ∃ len cs bst G, TmSt w0 w r bp k s m f0 g0 R0 len cs bst G := h
theorem TmRel.yes {w0 w : World} {f0 : Int} {r bp : Nat} {k s m : Int} {g0 R0 : Nat} (h : TmRel w0 f0 r bp k s m g0 R0 true w) : ∃ g R len cs bst G, TmSt w0 w r bp k s m f0 g R len cs bst G ∧ LookApart w0 r g0 g G w := h
theorem TmRel.mkNo {w0 w : World} {f0 : Int} {r bp : Nat} {k s m : Int} {g0 R0 len : Nat} {cs : List Int} {bst : BookSt} {G : Nat → Prop} (h : TmSt w0 w r bp k s m f0 g0 R0 len cs bst G) : TmRel w0 f0 r bp k s m g0 R0 false w := ⟨_, _, _, _, h⟩
theorem TmRel.mkYes {w0 w : World} {f0 : Int} {r bp : Nat} {k s m : Int} {g0 R0 g R len : Nat} {cs : List Int} {bst : BookSt} {G : Nat → Prop} (h : TmSt w0 w r bp k s m f0 g R len cs bst G) (hl : LookApart w0 r g0 g G w) : TmRel w0 f0 r bp k s m g0 R0 true w := ⟨_, _, _, _, _, _, h, hl⟩
theorem TmRel.bel {w0 w : World} {f0 : Int} {r bp : Nat} {k s m : Int} {g0 R0 : Nat} {mv : Bool} (h : TmRel w0 f0 r bp k s m g0 R0 mv w) : Below w0.heap.size w0 w := by
  cases mv with
  | false => obtain ⟨_, _, _, _, h⟩ := h; exact h.bel
  | true => obtain ⟨_, _, _, _, _, _, h, _⟩ := h; exact h.bel

theorem set_row {w : World} {g : Nat} {cs : List Int} (h : byteRow w g cs) (x : Int) : byteRow (w.setCell ⟨g, 0, none⟩ (.int .u8 x)) g (cs.set 0 x) := by
  unfold byteRow at *
  rw [block_setCell h]
  simp

theorem TmSt.other {w0 w w' : World} {r bp : Nat} {k s m f0 : Int} {g R len : Nat} {cs : List Int} {bst : BookSt} {G : Nat → Prop} (h : TmSt w0 w r bp k s m f0 g R len cs bst G) {F : Nat → Prop} (ht : Touch F w w') (hF : ∀ k, F k → w0.heap.size ≤ k ∧ k ≠ g ∧ k ≠ r ∧ ¬ G k) : TmSt w0 w' r bp k s m f0 g R len cs bst G :=
  ⟨(ht.block r (lt_of h.ring) (fun x => (hF r x).2.2.1 rfl)).trans h.ring, (ht.block g (lt_of h.row) (fun x => (hF g x).2.1 rfl)).trans h.row, h.cl, h.rle, h.len1, h.len2, h.hd, h.pol, h.book.same (ht.same (fun k hk _ x => (hF k x).2.2.2 hk)), h.sound, h.bud, h.tot, h.ngr, h.ngg, h.gr, h.far, h.rfar, h.gfar, h.bel.trans (ht.below h.bel.size (fun k x => (hF k x).1))⟩

/-- The ring's own octets are turned. -/
theorem TmSt.mem {w0 w w' : World} {r bp : Nat} {k s m f0 f1 : Int} {g R len : Nat} {cs cs' : List Int} {bst : BookSt} {G : Nat → Prop} (h : TmSt w0 w r bp k s m f0 g R len cs bst G) (ht : Touch (fun k => k = g) w w') (hr : byteRow w' g cs') (hl : cs'.length = R) (hd : cs'.take 1 = [f1]) : TmSt w0 w' r bp k s m f1 g R len cs' bst G :=
  ⟨(ht.block r (lt_of h.ring) (fun x => h.gr x.symm)).trans h.ring, hr, hl, h.rle, h.len1, h.len2, hd, h.pol, h.book.same (ht.same (fun k hk _ x => h.ngg (x ▸ hk))), h.sound, h.bud, h.tot, h.ngr, h.ngg, h.gr, h.far, h.rfar, h.gfar, h.bel.trans (ht.below h.bel.size (fun k x => by have := h.gfar; omega))⟩

theorem set_take {cs : List Int} {x : Int} (h : 0 < cs.length) : (cs.set 0 x).take 1 = [x] := by
  cases cs with
  | nil => simp at h
  | cons c cs => rfl
theorem head_cell {w : World} {g : Nat} {cs : List Int} {f0 : Int} (h : byteRow w g cs) (hd : cs.take 1 = [f0]) : w.cell? ⟨g, 0, none⟩ = some (.int .u8 f0) := by
  unfold byteRow at h
  rw [cell_of h]
  cases cs with
  | nil => simp at hd
  | cons c cs => simp at hd; subst hd; rfl

theorem reads_one8 {w : World} {b o : Nat} {x : Int} (h : w.cell? ⟨b, o, none⟩ = some (.int .u8 x)) (c : Nat) : Reads w .u8 (.slice (some ⟨b, o, none⟩) 1 c) [x] := by
  refine ⟨_, c, rfl, by simp, fun _ => ⟨b, o, rfl, fun j hj => ?_⟩⟩
  obtain rfl : j = 0 := by simpa using hj
  exact h
theorem look_cell {w : World} {g : Nat} {ls : List Int} (h : byteRow w g ls) (h0 : 0 < ls.length) : w.cell? ⟨g, 0, none⟩ = some (.int .u8 (ls.getD 0 0)) := by
  cases ls with
  | nil => simp at h0
  | cons c cs => exact head_cell (f0 := c) h rfl
theorem TmSt.drewN {w0 w : World} {r bp : Nat} {k s m f0 : Int} {g R len : Nat} {cs : List Int} {bst : BookSt} {G : Nat → Prop} (h : TmSt w0 w r bp k s m f0 g R len cs bst G) (n : Nat) : TmSt w0 (w.drewN n) r bp k s m f0 g R len cs bst G :=
  h.other ((Touch.refl (fun _ => False) w).drewN n) (fun k x => x.elim)
theorem TmSt.drew1 {w0 w : World} {r bp : Nat} {k s m f0 : Int} {g R len : Nat} {cs : List Int} {bst : BookSt} {G : Nat → Prop} (h : TmSt w0 w r bp k s m f0 g R len cs bst G) : TmSt w0 w.drew r bp k s m f0 g R len cs bst G :=
  h.other ((Touch.refl (fun _ => False) w).drew) (fun k x => x.elim)
theorem cellN0 (R : Nat) : cellN 0 R 0 = 0 := by
  unfold cellN
  split
  · rfl
  · simp

theorem tm_peek {w0 w : World} {r bp : Nat} {k s m f0 : Int} {g R len : Nat} {cs : List Int} {bst : BookSt} {G : Nat → Prop} (h : TmSt w0 w r bp k s m f0 g R len cs bst G) :
    Calls Try.prog 12 #[.pointer (some ⟨r, 0, none⟩), .int .i64 0, .int .i64 1] w (fun e w' =>
      ∃ vb vo vc, e = .returned (.tuple #[.slice (some ⟨vb, vo, none⟩) 1 vc, .int .i64 0]) ∧ w'.cell? ⟨vb, vo, none⟩ = some (.int .u8 f0) ∧ Below w.heap.size w w') := by
  have h1 := h.len1
  have h2 := h.len2
  have h3 := h.rle
  refine (peek_ok r bp 1 k s m (some g) R cs 0 len 0 1 w h.ring ⟨h.cl, h.row⟩ (by omega) (by omega) h2 (by omega)).mono ?_
  rintro e w' ⟨v, rfl, po, hb⟩
  rw [cellN0, octL_first cs (by have := h.cl; omega), h.hd] at po
  have RD : Reads w' .u8 v [f0] := Reads.own po (by simp)
  obtain ⟨va, vc, rfl, _, hc⟩ := RD
  obtain ⟨vb, vo, rfl, hd⟩ := hc (by simp)
  exact ⟨vb, vo, vc, rfl, hd 0 (by simp), hb⟩

theorem tm_set {w0 w : World} {r bp : Nat} {k s m f0 f1 : Int} {g R len : Nat} {cs : List Int} {bst : BookSt} {G : Nat → Prop} (h : TmSt w0 w r bp k s m f1 g R len cs bst G) {v : Value} (hv : Reads w .u8 v [f0]) :
    Calls Try.prog 13 #[.pointer (some ⟨r, 0, none⟩), .int .i64 0, v] w (fun e w' => e = .returned (.int .i64 0) ∧ ∃ cs', TmSt w0 w' r bp k s m f0 g R len cs' bst G ∧ Touch (fun k => k = g) w w') := by
  have h1 := h.len1
  have h2 := h.len2
  have h3 := h.rle
  have h4 := h.cl
  refine (set_ok r bp 1 k s m g R cs 0 len 0 v [f0] w h.ring h.row h.cl h.rle (by omega) h2 hv (by simp; omega)).mono ?_
  rintro e w' ⟨rfl, hrow, ht⟩
  rw [cellN0, putL_first cs f0 (by omega)] at hrow
  exact ⟨rfl, _, h.mem ht hrow (by simpa using h4) (set_take (by omega)), ht⟩

set_option maxHeartbeats 8000000 in
set_option maxRecDepth 100000 in
theorem topMoves (k s m : Int) (v1 : Value) (z1 : List Int) (v2 : Value) (z2 : List (List Int)) (w : World) (_ : -9223372036854775808 ≤ k ∧ k ≤ 9223372036854775807) (_ : -9223372036854775808 ≤ s ∧ s ≤ 9223372036854775807) (_ : -9223372036854775808 ≤ m ∧ m ≤ 9223372036854775807) (h1 : RowIn w .u8 1 v1 z1) (t1 : sliceFits v1) (h2 : RowsIn w v2 z2) :
    Calls Try.prog 3 #[.agg #[.int .i64 k, .int .i64 s, .int .i64 m], v1, v2] w (LawPost w) := by
  have B0 := BoxAt.new w k s m 23
  have bel0 : Below w.heap.size w (w.alloc (.cells #[.int .i64 k, .int .i64 s, .int .i64 m] 23)) := by go_grown
  have H1 := Lib.hid h1
  have H2 := Lib.hid h2
  obtain ⟨a1, c1, rfl, hl1, _⟩ := h1.reads
  obtain ⟨a2, c2, rfl, hl2, hm2, _⟩ := h2
  have ht1 : z1.length ≤ c1 := t1
  unfold maxLen at hm2
  have HB0 := Lib.hid B0
  have HL0 := Lib.hid bel0
  clear h1 B0 bel0
  by_cases hz0 : z1.length = 0
  · have hz0' : ((z1.length : Int) == 0) = true := by simp [hz0]
    clear hz0
    go_enter Try.func3, Try.ntmps3
    go_wp2_with fail
    refine (awakeTop_any _).mono ?_
    rintro e w1 ⟨rfl, hb1⟩
    have B1 := Lib.hid (HB0.out.below hb1)
    have L1 := Lib.hid (HL0.out.trans (hb1.mono (by simp)))
    clear hb1
    go_wp2_with fail
    refine (newBook_ok _ _ (by omega) (by omega)).mono ?_
    rintro e w2 ⟨bp, rfl, hb, hb2⟩
    have B2 := Lib.hid (B1.out.below hb2)
    have s1 := L1.out.size
    have L2 := Lib.hid (L1.out.trans (hb2.mono s1))
    have O := Lib.hid (open_new bp 1 10000000 w2 _ _ 0 hb (by simp [newSt]) (by unfold maxLen; omega) (by omega) (by omega) rfl)
    have hb2s := Lib.hid hb2.size
    have HB12 : Hid (∀ {w3 : World}, Below w1.heap.size w2 w3 → BoxAt w3 w.heap.size k s m) := Lib.hid (fun h => B1.out.below (hb2.trans h))
    clear hb hb2
    have s2 := L2.out.size
    go_wp2_with fail
    refine O.out.mono ?_
    rintro e w3 ⟨rfl, hb3, ht3⟩
    have s12 := hb2s.out
    have t3 := ht3.below (B := w1.heap.size) s12 (fun k hk => hk)
    have B3 := HB12.out t3
    have L3 := Lib.hid (L2.out.trans (t3.mono s1))
    have s3 := t3.size
    have HK3 := Lib.hid hb3
    have hfar3 : Hid (∀ k, (w1.heap.size ≤ k ∨ w2.heap.size ≤ k) → w.heap.size ≤ k) := Lib.hid (fun k hk => by omega)
    have NW := Lib.hid (newRing0_any bp 1 k s m w3 _ _ _ hb3)
    clear hb3 ht3 t3
    obtain ⟨x0, x1, x2, x3⟩ := B3
    go_wp2_with fail
    refine NW.out.mono ?_
    rintro e w4 ⟨hb4, ⟨hne, rfl⟩ | ⟨hnz, r, hr, rfl, hring⟩⟩
    · have L4 := Lib.hid (L3.out.trans (hb4.mono L3.out.size))
      generalize newRE (openSt (newSt 10000000) 1 10000000) 1 k s m = E at *
      have hE : (E != 0) = true := by simpa using hne
      clear hne hb4
      go_wp2_with fail
      go_ret
      exact ⟨rfl, L4.out⟩
    · have L4 := Lib.hid (L3.out.trans (hb4.mono L3.out.size))
      clear hnz hb4
      go_wp2_with fail
      go_ret
      exact ⟨rfl, L4.out⟩
  have hz0' : ((z1.length : Int) == 0) = false := beq_eq_false_iff_ne.2 (by omega)
  obtain ⟨f0, zt, hzz⟩ : ∃ f0 zt, z1 = f0 :: zt := by
    cases z1 with
    | nil => simp at hz0
    | cons a b => exact ⟨a, b, rfl⟩
  have hzt : Hid (z1.take 1 = [f0]) := Lib.hid (by rw [hzz]; rfl)
  obtain ⟨b1, o1, rfl, C1⟩ : ∃ b1 o1, a1 = some ⟨b1, o1, none⟩ ∧ Hid (w.cell? ⟨b1, o1, none⟩ = some (.int .u8 f0)) := by
    obtain ⟨aa, cc, haa, _, hc⟩ := H1.out.reads
    simp only [Value.slice.injEq, true_and] at haa
    obtain ⟨rfl, rfl⟩ := haa
    obtain ⟨b1, o1, rfl, hd⟩ := hc (by rw [hzz]; simp)
    refine ⟨b1, o1, rfl, Lib.hid ?_⟩
    have := hd 0 (by omega)
    rw [hzz] at this
    exact this
  have C1' : Hid (∀ {w' : World}, Below w.heap.size w w' → w'.cell? ⟨b1, o1, none⟩ = some (.int .u8 f0)) := Lib.hid (fun h => (h.cell (p := ⟨b1, o1, none⟩) (World.block_lt_of_cell? w ⟨b1, o1, none⟩ C1.out)).trans C1.out)
  have C1r : Hid (∀ {w' : World}, Below w.heap.size w w' → Reads w' .u8 (.slice (some ⟨b1, o1, none⟩) 1 c1) [f0]) := Lib.hid (fun h => reads_one8 (C1'.out h) c1)
  clear hzz
  go_enter Try.func3, Try.ntmps3
  go_wp2_with fail
  refine (awakeTop_any _).mono ?_
  rintro e w1 ⟨rfl, hb1⟩
  have B1 := Lib.hid (HB0.out.below hb1)
  have L1 := Lib.hid (HL0.out.trans (hb1.mono (by simp)))
  clear hb1
  go_wp2_with fail
  refine (newBook_ok _ _ (by omega) (by omega)).mono ?_
  rintro e w2 ⟨bp, rfl, hb, hb2⟩
  have B2 := Lib.hid (B1.out.below hb2)
  have s1 := L1.out.size
  have L2 := Lib.hid (L1.out.trans (hb2.mono s1))
  have O := Lib.hid (open_new bp 1 10000000 w2 _ _ 0 hb (by simp [newSt]) (by unfold maxLen; omega) (by omega) (by omega) rfl)
  have hb2s := Lib.hid hb2.size
  have HB12 : Hid (∀ {w3 : World}, Below w1.heap.size w2 w3 → BoxAt w3 w.heap.size k s m) := Lib.hid (fun h => B1.out.below (hb2.trans h))
  clear hb hb2
  have s2 := L2.out.size
  go_wp2_with fail
  refine O.out.mono ?_
  rintro e w3 ⟨rfl, hb3, ht3⟩
  have s12 := hb2s.out
  have t3 := ht3.below (B := w1.heap.size) s12 (fun k hk => hk)
  have B3 := HB12.out t3
  have L3 := Lib.hid (L2.out.trans (t3.mono s1))
  have s3 := t3.size
  have HK3 := Lib.hid hb3
  have hfar3 : Hid (∀ k, (w1.heap.size ≤ k ∨ w2.heap.size ≤ k) → w.heap.size ≤ k) := Lib.hid (fun k hk => by omega)
  have NW := Lib.hid (newRing0_any bp 1 k s m w3 _ _ _ hb3)
  clear hb3 ht3 t3
  obtain ⟨x0, x1, x2, x3⟩ := B3
  go_wp2_with fail
  refine NW.out.mono ?_
  rintro e w4 ⟨hb4, ⟨hne, rfl⟩ | ⟨hnz, r, hr, rfl, hring⟩⟩
  · have L4 := Lib.hid (L3.out.trans (hb4.mono L3.out.size))
    generalize newRE (openSt (newSt 10000000) 1 10000000) 1 k s m = E at *
    have hE : (E != 0) = true := by simpa using hne
    clear hne hb4
    go_wp2_with fail
    go_ret
    exact ⟨rfl, L4.out⟩
  · have L4 := Lib.hid (L3.out.trans (hb4.mono L3.out.size))
    have hpol : polErr k s m = 0 := by
      by_cases y : polErr k s m = 0
      · exact y
      · exact absurd hnz (by unfold newRE; rw [if_pos y]; exact y)
    have K4 := HK3.out.narrow.same (fun k hk _ => hb4.block k hk.2)
    have R4 : Reads w4 .u8 (.slice (some ⟨b1, o1, none⟩) z1.length c1) z1 := H1.out.reads.below L4.out rfl
    have WF := Lib.hid (tm_first w w4 r bp k s m f0 _ _ hring hpol K4 ⟨rfl, by omega, by omega, by omega, by omega, by simp [openSt, newSt], by simp [openSt, newSt], by simp [openSt, newSt]⟩ rfl rfl (fun x => by have := x.2; omega) (fun k hk => hfar3.out k hk.1) (by omega) L4.out _ z1 R4 (by have := H1.out.reach; omega) hzt.out)
    have HP := Lib.hid hpol
    clear hpol K4 R4 hnz hring hb4
    go_wp2_with fail
    refine WF.out.mono ?_
    rintro e w5 ⟨hb5, ⟨E, hne, rfl⟩ | ⟨rfl, g, R, len, cs, bst, G, hst⟩⟩
    · have hE : (E != 0) = true := by simpa using hne
      have L5 := Lib.hid hb5
      clear hne hb5
      go_wp2_with fail
      go_ret
      exact ⟨rfl, L5.out⟩
    · have l1 := hst.len1
      have l2 := hst.len2
      have l3 := hst.rle
      have PA := parts_any r bp 1 k s m (some g) R cs 0 len w5 hst.ring ⟨hst.cl, hst.row⟩ (by omega) (by omega) l2
      unfold PartsPost at PA
      have el : min (0 + len) R - 0 = len := by omega
      rw [el, Nat.sub_self] at PA
      have HPA := Lib.hid PA
      have HST := Lib.hid hst
      clear PA hst hb5 el
      go_wp2_with fail
      refine HPA.out.mono ?_
      rintro e w6 ⟨f1, f2, rfl, hf, hb6⟩
      obtain rfl := (hf g rfl).1 (by omega)
      have S6 := Lib.hid (HST.out.other (Touch.of_below (F := fun _ => False) hb6) (fun k x => x.elim))
      have hl0 : ((len : Int) == 0) = false := by simp; omega
      have RM := Lib.hid (room_any r bp 1 k s m (some g) R 0 len w6 S6.out.ring)
      clear hf hb6
      go_wp2_with fail
      refine RM.out.mono ?_
      rintro e w6 ⟨rfl, rfl⟩
      go_wp2_with fail
      go_loopg [15, 74] z2.length (fun gh s15 s74 wr => ∃ (i : Nat) (mv : Bool), i ≤ z2.length ∧ z2.length - i ≤ gh ∧ s74 = .int .i64 i ∧ s15 = .bool mv ∧ TmRel w f0 r bp k s m g R mv wr)
      case atStart => exact ⟨0, false, Nat.zero_le _, by omega, rfl, rfl, .mkNo S6.out⟩
      case round =>
        obtain ⟨i, mv, hi, hgh, rfl, rfl, hrel⟩ := hrel
        have HREL := Lib.hid hrel
        clear hrel
        by_cases hlt : i < z2.length
        case neg =>
          have L6 : Hid (Below w.heap.size w wr) := Lib.hid HREL.out.bel
          obtain rfl : i = z2.length := by omega
          clear hlt
          go_wp2_with fail
          go_ret
          exact ⟨rfl, L6.out⟩
        case pos =>
          cases mv with
          | false =>
            obtain ⟨len1, cs1, bst1, G1, st1⟩ := HREL.out.no
            obtain ⟨ax, cx, hax, _, _, hrows⟩ := H2.out
            obtain ⟨b2, o2, rfl, hrow⟩ := hrows (by omega)
            obtain ⟨rv, hrc, hrr, hrl, _⟩ := hrow i hlt
            simp only [Value.slice.injEq, true_and] at hax
            obtain ⟨rfl, rfl⟩ := hax
            have k1 : wr.cell? ⟨b2, o2 + i, none⟩ = some rv := by
              rw [← hrc]
              exact st1.bel.cell (p := ⟨b2, o2 + i, none⟩) (World.block_lt_of_cell? w ⟨b2, o2 + i, none⟩ hrc)
            have WR := Lib.hid (tm_write w wr r bp k s m f0 g R len1 cs1 bst1 G1 st1 rv _ (hrr.below st1.bel rfl) hrl)
            have RM1 := Lib.hid (room_any r bp 1 k s m (some g) R 0 len1 wr st1.ring)
            obtain ⟨ra, rc, rfl, _, _⟩ := hrr
            have ST1 := Lib.hid st1
            clear st1 hrc hrow hrows hrl
            go_wp2_with fail
            refine RM1.out.mono ?_
            rintro e w7 ⟨rfl, rfl⟩
            go_wp2_with fail
            refine WR.out.mono ?_
            intro e w7 hwr
            rcases hwr with ⟨err, herr, rfl, G2, st2, hG2, ht2⟩ | ⟨rfl, len2, cs2, st2, ht2⟩ | ⟨rfl, g2, R2, len2, cs2, bst2, G2, st2, hdf, hg2, hG2, ht2⟩
            · have hE : (err == 0) = false := by simpa using herr
              have hE2 : (err != 0) = true := by simpa using herr
              have RM2 := Lib.hid (room_any r bp 1 k s m (some g) R 0 len1 w7 st2.ring)
              have hnew : Hid (TmRel w f0 r bp k s m g R false w7) := Lib.hid (.mkNo st2)
              clear herr st2 hG2 ht2
              go_wp2_with fail
              refine RM2.out.mono ?_
              rintro e w8 ⟨rfl, rfl⟩
              go_wp2_with fail
              go_roundg (z2.length - (i + 1))
              case measure => omega
              case rel => exact ⟨i + 1, false, by omega, by omega, by go_num, rfl, hnew.out⟩
            · have RM2 := Lib.hid (room_any r bp 1 k s m (some g) R 0 len2 w7 st2.ring)
              have cf := C1'.out st2.bel
              have ST2 := Lib.hid st2
              clear st2 ht2
              go_wp2_with fail
              refine RM2.out.mono ?_
              rintro e w8 ⟨rfl, rfl⟩
              have m1 : 0 ≤ (i : Int) % 100 := Int.emod_nonneg _ (by omega)
              have m2 : (i : Int) % 100 < 100 := Int.emod_lt_of_pos _ (by omega)
              go_upto_region 28 with fail
              generalize hX : ((f0 + 1) % 256 + (i : Int) % 100) % 256 = X
              generalize (f0 + 1) % 256 = X1
              generalize (i : Int) % 100 = X2
              clear hX m1 m2 cf
              have d7 : w7.cell? ⟨g, 0, none⟩ = some (.int .u8 f0) := head_cell ST2.out.row ST2.out.hd
              have f7 : w7.frozen? ⟨g, 0, none⟩ = false := free_of ST2.out.row 0
              have c0 : 0 < cs2.length := by have h1 := ST2.out.cl; have h2 := ST2.out.len1; have h3 := ST2.out.len2; omega
              have ST8 := Lib.hid (ST2.out.mem ((Touch.refl (fun k => k = g) w7).setCell (p := ⟨g, 0, none⟩) (Or.inl rfl) (.int .u8 X)) (set_row ST2.out.row X) (by simpa using ST2.out.cl) (set_take c0))
              clear c0
              have PK := Lib.hid (tm_peek ST8.out)
              go_wp2_with fail
              refine PK.out.mono ?_
              rintro e w9 ⟨vb, vo, vc, rfl, cv, hb9⟩
              have ST9 := Lib.hid (ST8.out.other (Touch.of_below (F := fun _ => False) hb9) (fun k x => x.elim))
              have cf9 := C1'.out ST9.out.bel
              have RMQ : Hid (∀ n, Calls Try.prog 11 #[.pointer (some ⟨r, 0, none⟩)] (w9.drewN n) (fun e w' => e = .returned (.int .i64 R) ∧ ∃ q, w' = (w9.drewN n).drewN q)) := Lib.hid (fun n => (room_any r bp 1 k s m (some g) R 0 len2 (w9.drewN n) ST9.out.ring).mono (fun e w' ⟨ha, hb⟩ => ⟨ha, 0, hb ▸ rfl⟩))
              clear hb9 d7 f7
              go_upto_region 30 with fail
              go_quiet ((go_at_call 11; exact Calls.quiet_of (RMQ.out _)))
              go_upto_region 32 with fail
              have SE := Lib.hid (fun n => tm_set (ST9.out.drewN n) (C1r.out (ST9.out.drewN n).bel))
              refine wp_region_mid 3 _ (by kernel_rfl) (by kernel_rfl) rfl ?_
              simp only [List.take_succ_cons, List.take_zero, List.drop_succ_cons, List.drop_zero]
              repeat (go_big_quiet_step (fail))
              refine wpQuiet_nil ?_
              intro _ hw'
              obtain ⟨nq2, rfl⟩ := hw'
              intro K hK
              go_simp
              refine (SE.out _).mono ?_
              rintro e w10 ⟨rfl, cs3, st10, ht10⟩
              have cf10 := C1'.out st10.bel
              have ST10 := Lib.hid st10
              have cg10 := head_cell st10.row st10.hd
              clear st10 ht10
              go_simp
              refine hK _ _ ?_
              clear hK K
              repeat (go_big_quiet_step (fail))
              refine wpQuiet_nil ?_
              intro _ hw'
              obtain ⟨nq3, rfl⟩ := hw'
              go_wp2_with fail
              go_roundg (z2.length - (i + 1))
              case measure => omega
              case rel => exact ⟨i + 1, false, by omega, by omega, by go_num, rfl, .mkNo (ST10.out.drewN nq3)⟩
            · have RM2 := Lib.hid (room_any r bp 1 k s m (some g2) R2 0 len2 w7 st2.ring)
              have cf := C1'.out st2.bel
              have ST2 := Lib.hid st2
              have hdn : ((R2 : Int) != R) = true := bne_iff_ne.2 (by omega)
              have YY : Hid (LookApart w r g g2 G2 w7) := Lib.hid (by
                have y5 := ST1.out.row
                have y3 := ST1.out.ngg
                have y2 := ST1.out.gr
                exact ⟨by have := lt_of y5; omega, y2, fun x => (hG2 _ x).elim y3 (fun z => by have := lt_of y5; omega), ST1.out.gfar, _, (ht2.block _ (lt_of y5) (fun z => z.elim y3 y2)).trans y5, by have h1 := ST1.out.cl; have h2 := ST1.out.len1; have h3 := ST1.out.len2; omega⟩)
              clear st2 ht2 hdf hg2 hG2
              go_wp2_with fail
              refine RM2.out.mono ?_
              rintro e w8 ⟨rfl, rfl⟩
              have m1 : 0 ≤ (i : Int) % 100 := Int.emod_nonneg _ (by omega)
              have m2 : (i : Int) % 100 < 100 := Int.emod_lt_of_pos _ (by omega)
              go_upto_region 28 with fail
              generalize hX : ((f0 + 1) % 256 + (i : Int) % 100) % 256 = X
              generalize (f0 + 1) % 256 = X1
              generalize (i : Int) % 100 = X2
              clear hX m1 m2 cf
              obtain ⟨y1, y2, y3, y4, ls, y5, y6⟩ := YY.out
              have d7 : w7.cell? ⟨g, 0, none⟩ = some (.int .u8 (ls.getD 0 0)) := look_cell y5 y6
              have f7 : w7.frozen? ⟨g, 0, none⟩ = false := free_of y5 0
              have R8 := Lib.hid (set_row y5 X)
              have ST8 := Lib.hid (ST2.out.other ((Touch.refl (fun k => k = g) w7).setCell (p := ⟨g, 0, none⟩) (Or.inl rfl) (.int .u8 X)) (fun k hk => by subst hk; exact ⟨y4, y1, y2, y3⟩))
              have Y6 := Lib.hid (show 0 < (ls.set 0 X).length by simpa using y6)
              have YN := Lib.hid (And.intro y1 (And.intro y2 (And.intro y3 y4)))
              clear y1 y2 y3 y4 y5 y6
              have PK := Lib.hid (tm_peek ST8.out)
              go_wp2_with fail
              refine PK.out.mono ?_
              rintro e w9 ⟨vb, vo, vc, rfl, cv, hb9⟩
              have ST9 := Lib.hid (ST8.out.other (Touch.of_below (F := fun _ => False) hb9) (fun k x => x.elim))
              have cf9 := C1'.out ST9.out.bel
              have RMQ : Hid (∀ n, Calls Try.prog 11 #[.pointer (some ⟨r, 0, none⟩)] (w9.drewN n) (fun e w' => e = .returned (.int .i64 R2) ∧ ∃ q, w' = (w9.drewN n).drewN q)) := Lib.hid (fun n => (room_any r bp 1 k s m (some g2) R2 0 len2 (w9.drewN n) ST9.out.ring).mono (fun e w' ⟨ha, hb⟩ => ⟨ha, 0, hb ▸ rfl⟩))
              have R9 := Lib.hid ((hb9.block g (lt_of R8.out)).trans R8.out)
              clear hb9 d7 f7
              go_upto_region 30 with fail
              go_quiet ((go_at_call 11; exact Calls.quiet_of (RMQ.out _)))
              go_upto_region 32 with fail
              have SE := Lib.hid (fun n => tm_set (ST9.out.drewN n) (C1r.out (ST9.out.drewN n).bel))
              refine wp_region_mid 3 _ (by kernel_rfl) (by kernel_rfl) rfl ?_
              simp only [List.take_succ_cons, List.take_zero, List.drop_succ_cons, List.drop_zero]
              repeat (go_big_quiet_step (fail))
              refine wpQuiet_nil ?_
              intro _ hw'
              obtain ⟨nq2, rfl⟩ := hw'
              intro K hK
              go_simp
              refine (SE.out _).mono ?_
              rintro e w10 ⟨rfl, cs3, st10, ht10⟩
              have cf10 := C1'.out st10.bel
              have ST10 := Lib.hid st10
              have r10 := Lib.hid ((ht10.block g (lt_of R9.out) YN.out.1).trans R9.out)
              have cg10 := head_cell r10.out (set_take (by have := Y6.out; simpa using this))
              clear st10 ht10
              go_simp
              refine hK _ _ ?_
              clear hK K
              repeat (go_big_quiet_step (fail))
              refine wpQuiet_nil ?_
              intro _ hw'
              obtain ⟨nq3, rfl⟩ := hw'
              go_wp2_with fail
              go_roundg (z2.length - (i + 1))
              case measure => omega
              case rel => exact ⟨i + 1, true, by omega, by omega, by go_num, rfl, .mkYes (ST10.out.drewN nq3) ⟨YN.out.1, YN.out.2.1, YN.out.2.2.1, YN.out.2.2.2, _, r10.out, Y6.out⟩⟩
          | true =>
            obtain ⟨g1, R1, len1, cs1, bst1, G1, st1, YY⟩ := HREL.out.yes
            have HY := Lib.hid YY
            clear YY
            obtain ⟨ax, cx, hax, _, _, hrows⟩ := H2.out
            obtain ⟨b2, o2, rfl, hrow⟩ := hrows (by omega)
            obtain ⟨rv, hrc, hrr, hrl, _⟩ := hrow i hlt
            simp only [Value.slice.injEq, true_and] at hax
            obtain ⟨rfl, rfl⟩ := hax
            have k1 : wr.cell? ⟨b2, o2 + i, none⟩ = some rv := by
              rw [← hrc]
              exact st1.bel.cell (p := ⟨b2, o2 + i, none⟩) (World.block_lt_of_cell? w ⟨b2, o2 + i, none⟩ hrc)
            have WR := Lib.hid (tm_write w wr r bp k s m f0 g1 R1 len1 cs1 bst1 G1 st1 rv _ (hrr.below st1.bel rfl) hrl)
            have RM1 := Lib.hid (room_any r bp 1 k s m (some g1) R1 0 len1 wr st1.ring)
            obtain ⟨ra, rc, rfl, _, _⟩ := hrr
            have ST1 := Lib.hid st1
            clear st1 hrc hrow hrows hrl
            go_wp2_with fail
            refine RM1.out.mono ?_
            rintro e w7 ⟨rfl, rfl⟩
            go_wp2_with fail
            refine WR.out.mono ?_
            intro e w7 hwr
            rcases hwr with ⟨err, herr, rfl, G2, st2, hG2, ht2⟩ | ⟨rfl, len2, cs2, st2, ht2⟩ | ⟨rfl, g2, R2, len2, cs2, bst2, G2, st2, hdf, hg2, hG2, ht2⟩
            · have hE : (err == 0) = false := by simpa using herr
              have hE2 : (err != 0) = true := by simpa using herr
              have RM2 := Lib.hid (room_any r bp 1 k s m (some g1) R1 0 len1 w7 st2.ring)
              have hnew : Hid (TmRel w f0 r bp k s m g R true w7) := Lib.hid (by
                obtain ⟨y1, y2, y3, y4, ls, y5, y6⟩ := HY.out
                exact .mkYes st2 ⟨y1, y2, fun x => (hG2 _ x).elim y3 (fun z => by have := lt_of y5; omega), y4, ls, (ht2.block _ (lt_of y5) y3).trans y5, y6⟩)
              clear herr st2 hG2 ht2
              go_wp2_with fail
              refine RM2.out.mono ?_
              rintro e w8 ⟨rfl, rfl⟩
              go_wp2_with fail
              go_roundg (z2.length - (i + 1))
              case measure => omega
              case rel => exact ⟨i + 1, true, by omega, by omega, by go_num, rfl, hnew.out⟩
            · have RM2 := Lib.hid (room_any r bp 1 k s m (some g1) R1 0 len2 w7 st2.ring)
              have cf := C1'.out st2.bel
              have ST2 := Lib.hid st2
              have YY : Hid (LookApart w r g g1 G1 w7) := Lib.hid (by
                obtain ⟨y1, y2, y3, y4, ls, y5, y6⟩ := HY.out
                exact ⟨y1, y2, y3, y4, ls, (ht2.block _ (lt_of y5) (fun z => z.elim y2 y1)).trans y5, y6⟩)
              clear st2 ht2
              go_wp2_with fail
              refine RM2.out.mono ?_
              rintro e w8 ⟨rfl, rfl⟩
              have m1 : 0 ≤ (i : Int) % 100 := Int.emod_nonneg _ (by omega)
              have m2 : (i : Int) % 100 < 100 := Int.emod_lt_of_pos _ (by omega)
              go_upto_region 28 with fail
              generalize hX : ((f0 + 1) % 256 + (i : Int) % 100) % 256 = X
              generalize (f0 + 1) % 256 = X1
              generalize (i : Int) % 100 = X2
              clear hX m1 m2 cf
              obtain ⟨y1, y2, y3, y4, ls, y5, y6⟩ := YY.out
              have d7 : w7.cell? ⟨g, 0, none⟩ = some (.int .u8 (ls.getD 0 0)) := look_cell y5 y6
              have f7 : w7.frozen? ⟨g, 0, none⟩ = false := free_of y5 0
              have R8 := Lib.hid (set_row y5 X)
              have ST8 := Lib.hid (ST2.out.other ((Touch.refl (fun k => k = g) w7).setCell (p := ⟨g, 0, none⟩) (Or.inl rfl) (.int .u8 X)) (fun k hk => by subst hk; exact ⟨y4, y1, y2, y3⟩))
              have Y6 := Lib.hid (show 0 < (ls.set 0 X).length by simpa using y6)
              have YN := Lib.hid (And.intro y1 (And.intro y2 (And.intro y3 y4)))
              clear y1 y2 y3 y4 y5 y6
              have PK := Lib.hid (tm_peek ST8.out)
              go_wp2_with fail
              refine PK.out.mono ?_
              rintro e w9 ⟨vb, vo, vc, rfl, cv, hb9⟩
              have ST9 := Lib.hid (ST8.out.other (Touch.of_below (F := fun _ => False) hb9) (fun k x => x.elim))
              have cf9 := C1'.out ST9.out.bel
              have RMQ : Hid (∀ n, Calls Try.prog 11 #[.pointer (some ⟨r, 0, none⟩)] (w9.drewN n) (fun e w' => e = .returned (.int .i64 R1) ∧ ∃ q, w' = (w9.drewN n).drewN q)) := Lib.hid (fun n => (room_any r bp 1 k s m (some g1) R1 0 len2 (w9.drewN n) ST9.out.ring).mono (fun e w' ⟨ha, hb⟩ => ⟨ha, 0, hb ▸ rfl⟩))
              have R9 := Lib.hid ((hb9.block g (lt_of R8.out)).trans R8.out)
              clear hb9 d7 f7
              go_upto_region 30 with fail
              go_quiet ((go_at_call 11; exact Calls.quiet_of (RMQ.out _)))
              go_upto_region 32 with fail
              have SE := Lib.hid (fun n => tm_set (ST9.out.drewN n) (C1r.out (ST9.out.drewN n).bel))
              refine wp_region_mid 3 _ (by kernel_rfl) (by kernel_rfl) rfl ?_
              simp only [List.take_succ_cons, List.take_zero, List.drop_succ_cons, List.drop_zero]
              repeat (go_big_quiet_step (fail))
              refine wpQuiet_nil ?_
              intro _ hw'
              obtain ⟨nq2, rfl⟩ := hw'
              intro K hK
              go_simp
              refine (SE.out _).mono ?_
              rintro e w10 ⟨rfl, cs3, st10, ht10⟩
              have cf10 := C1'.out st10.bel
              have ST10 := Lib.hid st10
              have r10 := Lib.hid ((ht10.block g (lt_of R9.out) YN.out.1).trans R9.out)
              have cg10 := head_cell r10.out (set_take (by have := Y6.out; simpa using this))
              clear st10 ht10
              go_simp
              refine hK _ _ ?_
              clear hK K
              repeat (go_big_quiet_step (fail))
              refine wpQuiet_nil ?_
              intro _ hw'
              obtain ⟨nq3, rfl⟩ := hw'
              go_wp2_with fail
              go_roundg (z2.length - (i + 1))
              case measure => omega
              case rel => exact ⟨i + 1, true, by omega, by omega, by go_num, rfl, .mkYes (ST10.out.drewN nq3) ⟨YN.out.1, YN.out.2.1, YN.out.2.2.1, YN.out.2.2.2, _, r10.out, Y6.out⟩⟩
            · have RM2 := Lib.hid (room_any r bp 1 k s m (some g2) R2 0 len2 w7 st2.ring)
              have cf := C1'.out st2.bel
              have ST2 := Lib.hid st2
              have hdn : ((R2 : Int) != R1) = true := bne_iff_ne.2 (by omega)
              have YY : Hid (LookApart w r g g2 G2 w7) := Lib.hid (by
                obtain ⟨y1, y2, y3, y4, ls, y5, y6⟩ := HY.out
                exact ⟨by have := lt_of y5; omega, y2, fun x => (hG2 _ x).elim y3 (fun z => by have := lt_of y5; omega), y4, ls, (ht2.block _ (lt_of y5) (fun z => z.elim y3 y2)).trans y5, y6⟩)
              clear st2 ht2 hdf hg2 hG2
              go_wp2_with fail
              refine RM2.out.mono ?_
              rintro e w8 ⟨rfl, rfl⟩
              have m1 : 0 ≤ (i : Int) % 100 := Int.emod_nonneg _ (by omega)
              have m2 : (i : Int) % 100 < 100 := Int.emod_lt_of_pos _ (by omega)
              go_upto_region 28 with fail
              generalize hX : ((f0 + 1) % 256 + (i : Int) % 100) % 256 = X
              generalize (f0 + 1) % 256 = X1
              generalize (i : Int) % 100 = X2
              clear hX m1 m2 cf
              obtain ⟨y1, y2, y3, y4, ls, y5, y6⟩ := YY.out
              have d7 : w7.cell? ⟨g, 0, none⟩ = some (.int .u8 (ls.getD 0 0)) := look_cell y5 y6
              have f7 : w7.frozen? ⟨g, 0, none⟩ = false := free_of y5 0
              have R8 := Lib.hid (set_row y5 X)
              have ST8 := Lib.hid (ST2.out.other ((Touch.refl (fun k => k = g) w7).setCell (p := ⟨g, 0, none⟩) (Or.inl rfl) (.int .u8 X)) (fun k hk => by subst hk; exact ⟨y4, y1, y2, y3⟩))
              have Y6 := Lib.hid (show 0 < (ls.set 0 X).length by simpa using y6)
              have YN := Lib.hid (And.intro y1 (And.intro y2 (And.intro y3 y4)))
              clear y1 y2 y3 y4 y5 y6
              have PK := Lib.hid (tm_peek ST8.out)
              go_wp2_with fail
              refine PK.out.mono ?_
              rintro e w9 ⟨vb, vo, vc, rfl, cv, hb9⟩
              have ST9 := Lib.hid (ST8.out.other (Touch.of_below (F := fun _ => False) hb9) (fun k x => x.elim))
              have cf9 := C1'.out ST9.out.bel
              have RMQ : Hid (∀ n, Calls Try.prog 11 #[.pointer (some ⟨r, 0, none⟩)] (w9.drewN n) (fun e w' => e = .returned (.int .i64 R2) ∧ ∃ q, w' = (w9.drewN n).drewN q)) := Lib.hid (fun n => (room_any r bp 1 k s m (some g2) R2 0 len2 (w9.drewN n) ST9.out.ring).mono (fun e w' ⟨ha, hb⟩ => ⟨ha, 0, hb ▸ rfl⟩))
              have R9 := Lib.hid ((hb9.block g (lt_of R8.out)).trans R8.out)
              clear hb9 d7 f7
              go_upto_region 30 with fail
              go_quiet ((go_at_call 11; exact Calls.quiet_of (RMQ.out _)))
              go_upto_region 32 with fail
              have SE := Lib.hid (fun n => tm_set (ST9.out.drewN n) (C1r.out (ST9.out.drewN n).bel))
              refine wp_region_mid 3 _ (by kernel_rfl) (by kernel_rfl) rfl ?_
              simp only [List.take_succ_cons, List.take_zero, List.drop_succ_cons, List.drop_zero]
              repeat (go_big_quiet_step (fail))
              refine wpQuiet_nil ?_
              intro _ hw'
              obtain ⟨nq2, rfl⟩ := hw'
              intro K hK
              go_simp
              refine (SE.out _).mono ?_
              rintro e w10 ⟨rfl, cs3, st10, ht10⟩
              have cf10 := C1'.out st10.bel
              have ST10 := Lib.hid st10
              have r10 := Lib.hid ((ht10.block g (lt_of R9.out) YN.out.1).trans R9.out)
              have cg10 := head_cell r10.out (set_take (by have := Y6.out; simpa using this))
              clear st10 ht10
              go_simp
              refine hK _ _ ?_
              clear hK K
              repeat (go_big_quiet_step (fail))
              refine wpQuiet_nil ?_
              intro _ hw'
              obtain ⟨nq3, rfl⟩ := hw'
              go_wp2_with fail
              go_roundg (z2.length - (i + 1))
              case measure => omega
              case rel => exact ⟨i + 1, true, by omega, by omega, by go_num, rfl, .mkYes (ST10.out.drewN nq3) ⟨YN.out.1, YN.out.2.1, YN.out.2.2.1, YN.out.2.2.2, _, r10.out, Y6.out⟩⟩

end Go.Proofs.Ytmapdgpdpojjjaa
