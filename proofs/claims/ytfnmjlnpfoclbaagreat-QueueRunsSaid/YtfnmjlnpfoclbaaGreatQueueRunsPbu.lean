/-
  Owners of the program's book and of the reference's: the same list. No conditions but what always holds of a book.
  The program's book and the reference's, side by side: what stays when one of the two is turned. No conditions.
  slices.Clone over leases. No conditions but lengths.
  The leases and the entries that a book tells. No conditions but those of the book's own state.
  slices.Equal at leases and at the book's entries: the same are equal. No conditions.
-/
import Derived.Test.YtfnmjlnpfoclbaaGreatQueueRunsPbt
import Derived.Test.YtfnmjlnpfoclbaaGreatQueueRunsPbj
import Derived.Test.YtfnmjlnpfoclbaaGreatQueueRunsPaw
import Derived.Test.YtfnmjlnpfoclbaaGreatQueueRunsPay
import Derived.Test.YtfnmjlnpfoclbaaGreatQueueRunsPal
import Derived.Test.YtfnmjlnpfoclbaaGreatQueueRunsPaf
import Derived.Test.YtfnmjlnpfoclbaaGreatQueueRunsPak
import Derived.Test.YtfnmjlnpfoclbaaGreatQueueRunsPau

namespace Go.Proofs.YtfnmjlnpfoclbaaGreat
section
open Go.RowKit Go.Maps
set_option linter.unusedVariables false

def OwnInts (xs : List Int) (w : World) : Ending → World → Prop := fun e w' =>
  ∃ v, e = .returned v ∧ w'.ownsRow w.heap.size 3 1 v xs.length (xs.map fun x => Value.int .i64 x) ∧ Below w.heap.size w w'

set_option maxHeartbeats 2000000 in
set_option maxRecDepth 100000 in
theorem ownersR_any (p : Nat) (w : World) (F : Nat → Prop) (st : BookSt) (wh : Bool) (hb : RB w F p st wh) :
    Calls Tryz.prog 48 #[.pointer (some ⟨p, 0, none⟩)] w (OwnInts (ownersL st) w) := by
  obtain ⟨i0, hi0, hz0, hz1, hz2⟩ := info_parts infoInt
  have HB := Lib.hid hb
  obtain ⟨mb, lv, ev, D, hm⟩ := hb
  have HM := Lib.hid hm
  clear hm
  go_enter Tryz.func48, Tryz.ntmps48
  go_wp2_with fail
  go_loopw [3, 4] (fun out i wr => ∃ k : Nat, k ≤ 40 ∧ i = .int .i64 ((k : Int) + 1) ∧ wr.ownsRow w.heap.size 3 1 out (ownK st k).length ((ownK st k).map fun x => Value.int .i64 x) ∧ Below w.heap.size w wr) (fun _ i _ => 41 - (intOf i).toNat)
  case atStart => exact ⟨0, Nat.zero_le _, by simp, World.ownsRow_nil _ _ _ _, Below.refl _ _⟩
  case round =>
    obtain ⟨k, hk, rfl, hrow, hb9⟩ := hrel
    have HB9 := Lib.hid hb9
    have hs9 := hb9.size
    by_cases hlt : k < 40
    · have hm9 := HM.out.same (Below.same_on hb9)
      have c1 : wr.cell? ⟨p, 1, none⟩ = some (.map (some mb)) := by rw [cell_of hm9.self]; rfl
      obtain ⟨x, y, LK⟩ := ref_look_ok hm9 ((k : Int) + 1) (by omega)
      have HK : Hid (ownK st (k + 1) = ownK st k ++ (if (st.acc ((k : Int) + 1)).isSome then [(k : Int) + 1] else [])) := Lib.hid rfl
      have hlen := ownK_len st k
      have HR := Lib.hid hrow
      clear hm9 hb9
      cases hsome : (st.acc ((k : Int) + 1)).isSome with
      | false =>
        rw [hsome] at LK HK
        have FIN : Hid ((wr.alloc (.cells #[.int .i64 x, .int .i64 y] 115)).ownsRow w.heap.size 3 1 u3 (ownK st (k + 1)).length ((ownK st (k + 1)).map fun x => Value.int .i64 x)) := Lib.hid (by
          rw [HK.out]; simpa using HR.out.alloc _)
        clear hsome hrow
        go_wp2_with fail
        go_roundw
        case measure => simp only [intOf]; omega
        case rel => exact ⟨k + 1, by omega, by simp, FIN.out, HB9.out.alloc HB9.out.size _⟩
      | true =>
        rw [hsome] at LK HK
        have OR : Hid ((wr.alloc (.cells #[.int .i64 x, .int .i64 y] 115)).ownsRow w.heap.size 3 1 u3 (ownK st k).length ((ownK st k).map fun x => Value.int .i64 x)) := Lib.hid (HR.out.alloc _)
        have B2 := Lib.hid (HB9.out.alloc HB9.out.size (.cells #[.int .i64 x, .int .i64 y] 115))
        have hlen2 : (ownK st k).length ≤ 40 := by omega
        clear hsome hrow hlen
        go_wp2_with (at_builtin; go_must (refine wpList_append_at rfl (.tmp 21) (.tmp 23) 25 rfl w.heap.size 3 i0 (.int .i64 0) 1 8 Tryz.underlying25 hi0 hz0 hz1 hz2 rfl (by decide) u3 (ownK st k).length ((ownK st k).map fun x => Value.int .i64 x) (wr.alloc (.cells #[.int .i64 x, .int .i64 y] 115)) _ [.int .i64 ((k : Int) + 1)] rfl OR.out (by simp [Act.eval]) rfl (by intro u hu; simp at hu; subst hu; rfl) (by unfold maxLen; omega) (by omega) (by simp; omega) ?_))
        intro gb cap w5 hown hgr hpl
        have FIN : Hid (w5.ownsRow w.heap.size 3 1 (.slice (some ⟨gb, 0, none⟩) ((ownK st k).length + 1) cap) (ownK st (k + 1)).length ((ownK st (k + 1)).map fun x => Value.int .i64 x) ∧ Below w.heap.size w w5) := Lib.hid ⟨by
          rw [HK.out]; simpa using hown, B2.out.grown hgr B2.out.size (fun j hj => (HR.out.lt j hj).1)⟩
        clear hown hgr hpl
        go_wp2_with fail
        go_roundw
        case measure => simp only [intOf]; omega
        case rel => exact ⟨k + 1, by omega, by simp, FIN.out.1, FIN.out.2⟩
    · obtain rfl : k = 40 := by omega
      have FIN : Hid (OwnInts (ownersL st) w (.returned u3) wr) := Lib.hid ⟨_, rfl, hrow, hb9⟩
      clear hrow hb9
      go_wp2_with fail
      go_ret
      exact FIN.out

/-! The program's. -/
set_option maxHeartbeats 2000000 in
set_option maxRecDepth 100000 in
theorem ownersB_any (p : Nat) (w : World) (F : Nat → Prop) (st : BookSt) (N : Nat) (hb : BookAt w F p st N) (g : GoodE st) :
    Calls Tryz.prog 47 #[.pointer (some ⟨p, 0, none⟩)] w (OwnInts (ownersL st) w) := by
  obtain ⟨i0, hi0, hz0, hz1, hz2⟩ := info_parts infoInt
  have HG := Lib.hid g
  obtain ⟨mb, blk, lv, ev, D, hm⟩ := hb
  have c4 : w.cell? ⟨p, 4, none⟩ = some (.map (some mb)) := by rw [cell_of hm.self]; rfl
  have hown := hm.map
  have HM := Lib.hid hm
  clear hm g
  go_enter Tryz.func47, Tryz.ntmps47
  go_wp2_with (first
    | (at_range; refine wpList_range_own _ rfl _ 105 rfl 3 110 intKey Tryz.underlying105 ptrElem mb N D rfl hown ?_; intro w0 hrg0 hg0 hs0)
    | fail)
  have hb0 : Below w.heap.size w w0 := (Below.refl _ w).grown hg0 (Nat.le_refl _) (fun k e => by cases e)
  go_frame
  go_loopw [3] (fun out wr => ∃ (left : Lit → Bool) (cnt : Nat) (ss : List Int), wr.ownsRow w.heap.size 3 1 out ss.length (ss.map fun x => Value.int .i64 x) ∧ wr.ranges Tryz.prog 3 ptrElem mb w.heap.size N D left cnt ∧ CameR st left ss ∧ Below w.heap.size w wr)
    (fun _ wr => wr.rangeLeft mb w.heap.size)
  case atStart =>
    exact ⟨_, _, [], World.ownsRow_nil _ _ _ _, hrg0, ⟨List.nodup_nil, fun x => by rw [HM.out.has x]; cases (st.acc x).isSome <;> simp⟩, hb0⟩
  case round =>
    obtain ⟨left, cnt, ss, hrow, hrg, hC, hbr⟩ := hrel
    have HBR := Lib.hid hbr
    have HR := Lib.hid hrow
    have hss : ss.length ≤ 40 := hC.len HG.out
    go_wp2_with (first
      | (at_next; refine wpList_next_ranges _ rfl _ rfl 3 intKey ptrElem (fun x : Int => .int .i64 x) (fun c : Option Nat => ptrOf c) (fun key kl hkey => by obtain ⟨x, rfl, _⟩ := Maps.keyOf_int_inv Tryz.underlying3 hkey; exact ⟨x, rfl⟩) (fun v y hv => ptrElem_shape hv) mb w.heap.size N D _ _ rfl hrg ?_ ?_)
      | fail)
    · intro hc0 hl0
      have HS := Lib.hid (owners_sorted HG.out hC.1 (fun o => by rw [hC.2 o, hl0]; simp))
      have SO := Lib.hid (sort_own u3 w.heap.size ss wr hrow (by omega) hbr.size)
      rw [HS.out] at SO
      obtain ⟨oa, oc, rfl, _, _⟩ := ownsRow_sh hrow
      clear hrow hrg hC hbr
      go_wp2_with fail
      refine SO.out.mono ?_
      rintro e w3 ⟨rfl, hr3, hb3⟩
      have FIN : Hid (OwnInts (ownersL st) w (.returned (.slice oa ss.length oc)) w3) := Lib.hid ⟨_, rfl, hr3, HBR.out.trans hb3⟩
      clear hr3 hb3
      go_wp2_with fail
      go_ret
      exact FIN.out
    · intro x c kl y ps w2 cnt2 hkey hlk hv hat hrg2 hlt hg2 hs2 hen
      obtain ⟨x', ex, rfl, hwx⟩ := Maps.keyOf_int_inv Tryz.underlying3 hkey
      cases ex
      have hacc : (st.acc x).isSome = true := by
        rw [← HM.out.has x]
        exact has_true_of_atKey hat
      have B2 := Lib.hid (hbr.grown hg2 hbr.size (fun k e => by cases e; exact Nat.le_refl _))
      have hC2 := hC.step (x := x) hacc hlk
      have hne : ∀ j, u3.ownBlock = some j → j ≠ w.heap.size := fun j hj e => by
        obtain ⟨cur, hc⟩ := row_block HR.out hj
        obtain ⟨o, ho, hw⟩ := hrg.iter_walk
        rw [e] at hc
        rw [hc] at ho
        cases ho
        simp [Obj.isWalk] at hw
      have OR : Hid (w2.ownsRow w.heap.size 3 1 u3 ss.length (ss.map fun x => Value.int .i64 x)) := Lib.hid (ownsRow_same hrow (fun j hj => hg2.block j (HR.out.lt j hj).2 (fun e => hne j hj (Option.some.inj e))))
      have hw2 := B2.out.size
      have HRG := Lib.hid hrg2
      have HNE := Lib.hid hne
      have HRL := Lib.hid hrg.left_eq
      have HLT := Lib.hid hlt
      have HC2 := Lib.hid hC2
      clear hs2 hat hv hacc hbr hrow hg2 hne hlk hrg2 hC hC2 hrg hlt hkey
      go_wp2_with (at_builtin; go_must (refine wpList_append_at rfl (.tmp 14) (.tmp 16) 25 rfl w.heap.size 3 i0 (.int .i64 0) 1 8 Tryz.underlying25 hi0 hz0 hz1 hz2 rfl (by decide) u3 ss.length (ss.map fun x => Value.int .i64 x) w2 _ [.int .i64 x] rfl OR.out rfl rfl (by intro u hu; simp at hu; subst hu; rfl) (by unfold maxLen; omega) (by omega) hw2 ?_))
      intro gb cap w5 hown5 hgr hpl
      have FIN : Hid (w5.ownsRow w.heap.size 3 1 (.slice (some ⟨gb, 0, none⟩) (ss.length + 1) cap) (ss ++ [x]).length ((ss ++ [x]).map fun x => Value.int .i64 x) ∧ Below w.heap.size w w5) := Lib.hid ⟨by simpa using hown5, B2.out.grown hgr B2.out.size (fun j hj => (HR.out.lt j hj).1)⟩
      have RG : Hid (w5.ranges Tryz.prog 3 ptrElem mb w.heap.size N D (fun z => left z && !z.sameKey (.int .i64 x)) cnt2) := Lib.hid (HRG.out.of_walks (KeepsWalks.of_grownBy hgr (fun j o hj ho => by
        obtain ⟨cur, hc⟩ := row_block OR.out hj
        rw [hc] at ho
        cases ho
        rfl)))
      clear hown5 hgr hpl
      go_wp2_with fail
      go_roundw
      case rel => exact ⟨_, cnt2, ss ++ [x], FIN.out.1, RG.out, HC2.out, FIN.out.2⟩
      case measure => rw [RG.out.left_eq, HRL.out]; exact HLT.out

end
end Go.Proofs.YtfnmjlnpfoclbaaGreat

namespace Go.Proofs.YtfnmjlnpfoclbaaGreat
section
open Go.RowKit
set_option linter.unusedVariables false

structure BothAt (w wr : World) (p q : Nat) (st : BookSt) (N : Nat) (F G : Nat → Prop) : Prop where
  own : BookAt wr F p st N
  ref : RB wr G q st false
  dis : ∀ k, F k → ¬ G k
  flt : ∀ k, F k → k < wr.heap.size
  glt : ∀ k, G k → k < wr.heap.size
  flo : ∀ k, F k → w.heap.size ≤ k
  glo : ∀ k, G k → w.heap.size ≤ k
  below : Below w.heap.size w wr

theorem BothAt.under {w wr w' : World} {p q : Nat} {st : BookSt} {N : Nat} {F G : Nat → Prop} (h : BothAt w wr p q st N F G) (hb : Below wr.heap.size wr w') : BothAt w w' p q st N F G :=
  ⟨h.own.same (Below.same_on hb), h.ref.same (Below.same_on hb), h.dis, fun k hk => Nat.lt_of_lt_of_le (h.flt k hk) hb.size, fun k hk => Nat.lt_of_lt_of_le (h.glt k hk) hb.size, h.flo, h.glo, h.below.trans (hb.mono h.below.size)⟩
theorem BothAt.mid {w wr w1 : World} {p q : Nat} {st : BookSt} {N : Nat} {F G : Nat → Prop} (h : BothAt w wr p q st N F G) (ht : Touch F wr w1) : RB w1 G q st false :=
  h.ref.same (ht.same (fun k hk _ hF => h.dis k hF hk))
/-- Both have made the same call. -/
theorem BothAt.step {w wr w1 w2 : World} {p q : Nat} {st st' : BookSt} {N N' : Nat} {F G : Nat → Prop} (h : BothAt w wr p q st N F G) (hb1 : BookAt w1 (fun k => F k ∨ wr.heap.size ≤ k) p st' N') (ht1 : Touch F wr w1)
    (hr2 : RB w2 (fun k => G k ∨ w1.heap.size ≤ k) q st' false) (ht2 : Touch G w1 w2) :
    BothAt w w2 p q st' N' (fun k => (F k ∨ wr.heap.size ≤ k) ∧ k < w1.heap.size) (fun k => (G k ∨ w1.heap.size ≤ k) ∧ k < w2.heap.size) := by
  have s0 := h.below.size
  have s1 := ht1.size
  have s2 := ht2.size
  refine ⟨hb1.narrow'.same (fun k hk hlt => ht2.block k hk.2 (fun hG => ?_)), RefAt.narrow' hr2, fun k hF hG => ?_, fun k hk => Nat.lt_of_lt_of_le hk.2 s2, fun k hk => hk.2, fun k hk => ?_, fun k hk => ?_, ?_⟩
  · rcases hk.1 with h1 | h1
    · exact h.dis k h1 hG
    · have := h.glt k hG; omega
  · rcases hG.1 with h2 | h2
    · rcases hF.1 with h1 | h1
      · exact h.dis k h1 h2
      · have := h.glt k h2; omega
    · omega
  · rcases hk.1 with h1 | h1
    · exact h.flo k h1
    · omega
  · rcases hk.1 with h1 | h1
    · exact h.glo k h1
    · omega
  · exact h.below.trans ((ht1.below s0 h.flo).trans (ht2.below (by omega) h.glo))

end
end Go.Proofs.YtfnmjlnpfoclbaaGreat

namespace Go.Proofs.YtfnmjlnpfoclbaaGreat
section
open Go.RowKit
set_option linter.unusedVariables false

def OwnLeas (ls : List Lea) (w : World) : Ending → World → Prop := fun e w' =>
  ∃ v, e = .returned v ∧ w'.ownsRow w.heap.size 98 4 v ls.length (ls.flatMap Lea.cells) ∧ Below w.heap.size w w'

set_option maxHeartbeats 1000000 in
set_option maxRecDepth 100000 in
theorem clone_lea (v : Value) (B : Nat) (ls : List Lea) (w : World) (hr : w.ownsRow B 98 4 v ls.length (ls.flatMap Lea.cells)) (hmax : ls.length ≤ 1000000) :
    Calls Tryz.prog 85 #[v] w (OwnLeas ls w) := by
  obtain ⟨i0, hi0, hz0, hz1, hz2⟩ := info_parts infoLea
  have hq := fun (w : World) (a : Option Addr) (n c : Nat) => Lib.run_eql_slice_nil (P := Tryz.prog) w 64 98 a n c 0 0 Tryz.underlying64
  rcases hr.2 with ⟨rfl, h0⟩ | ⟨g, cap, cur, rfl, hb, hg, hn, hcm, hs, ht⟩
  · have hz : ls = [] := by cases ls with | nil => rfl | cons x xs => simp at h0
    subst hz
    clear hr
    go_enter Tryz.func85, Tryz.ntmps85
    go_wp2_with fail
    go_ret
    exact ⟨_, rfl, World.ownsRow_nil _ _ _ _, Below.refl _ _⟩
  · have hc := hr.cells (g := g) rfl
    have HN : Hid (∀ j u, (ls.flatMap Lea.cells)[j]? = some u → (w.alloc (.cells #[] 98)).cell? ((⟨g, 0, none⟩ : Addr).add j) = some u) := Lib.hid (fun j u hj => by
      have h1 := hc j u hj
      have hlt : ((⟨g, 0, none⟩ : Addr).add j).block < w.heap.size := World.block_lt_of_cell? w _ h1
      exact (((Below.refl w.heap.size w).alloc (Nat.le_refl _) _).cell hlt).trans h1)
    have HM : Hid (World.ownsRow (w.alloc (.cells #[] 98)) w.heap.size 98 4 (.slice (some ⟨w.heap.size, 0, none⟩) 0 0) 0 []) := World.ownsRow_made w #[] 0 (Nat.le_refl _) (by unfold maxLen; omega) rfl
    have HL : Hid ((ls.flatMap Lea.cells).length = ls.length * 4) := Lib.hid (lcells_len ls)
    have H1 := Lib.hid (lcells_one ls)
    clear hc hr hg hs ht
    go_enter Tryz.func85, Tryz.ntmps85
    go_wp2_with (at_builtin; go_must (refine wpList_append_own _ rfl (.tmp 5) (.tmp 6) 64 rfl w.heap.size 98 i0 (.agg #[.int .i64 0, .int .i64 0, .int .i64 0, .int .i64 0]) 4 32 Tryz.underlying64 hi0 hz0 hz1 hz2 rfl (by decide) _ 0 [] rfl HM.out ⟨g, 0, none⟩ ls.length cap (ls.flatMap Lea.cells) rfl HL.out HN.out H1.out (by unfold maxLen; omega) (by omega) (by simp) ?_))
    intro v' w1 hown hgr _
    have hb : Below w.heap.size w w1 := ((Below.refl w.heap.size w).alloc (Nat.le_refl _) _).grown hgr (by simp) (fun q hq => by simp [Value.ownBlock] at hq; omega)
    go_wp2_with fail
    go_ret
    exact ⟨_, rfl, by simpa using hown, hb⟩

end
end Go.Proofs.YtfnmjlnpfoclbaaGreat

namespace Go.Proofs.YtfnmjlnpfoclbaaGreat
section
open Go.RowKit
set_option linter.unusedVariables false

set_option maxHeartbeats 1000000 in
set_option maxRecDepth 100000 in
theorem leasesB_any (p : Nat) (w : World) (F : Nat → Prop) (st : BookSt) (N : Nat) (hb : BookAt w F p st N) (g : Good st) :
    Calls Tryz.prog 50 #[.pointer (some ⟨p, 0, none⟩)] w (OwnLeas st.leases w) := by
  obtain ⟨mb, blk, lv, ev, D, hm⟩ := hb
  have c5 : w.cell? ⟨p, 5, none⟩ = some lv := by rw [cell_of hm.self]; rfl
  have CL := Lib.hid (clone_lea lv 0 st.leases w hm.lrow (by have := g.leaLen; omega))
  obtain ⟨la, lc, rfl, _, _⟩ := ownsRow_sh hm.lrow
  clear hm g
  go_enter Tryz.func50, Tryz.ntmps50
  go_wp2_with fail
  refine CL.out.mono ?_
  rintro e w3 ⟨v3, rfl, h1, h2⟩
  have H := Lib.hid (And.intro h1 h2)
  clear h1 h2
  go_wp2_with fail
  go_ret
  exact ⟨_, rfl, H.out.1, H.out.2⟩

set_option maxHeartbeats 1000000 in
set_option maxRecDepth 100000 in
theorem clone_ents_nil (w : World) :
    Calls Tryz.prog 53 #[.slice none 0 0] w (OwnEnts [] 0 w) := by
  have hq := fun (w : World) (a : Option Addr) (n c : Nat) => Lib.run_eql_slice_nil (P := Tryz.prog) w 59 61 a n c 0 0 Tryz.underlying59
  go_enter Tryz.func53, Tryz.ntmps53
  go_wp2_with fail
  go_ret
  exact ⟨_, rfl, World.ownsRow_nil _ _ _ _, Below.refl _ _⟩

def lastE (st : BookSt) : List Ent := st.entries.drop (st.entries.length - 5000)

set_option maxHeartbeats 2000000 in
set_option maxRecDepth 100000 in
theorem entriesB_any (p : Nat) (w : World) (F : Nat → Prop) (st : BookSt) (N : Nat) (hb : BookAt w F p st N) (g : Good st) :
    Calls Tryz.prog 18 #[.pointer (some ⟨p, 0, none⟩)] w (fun e w' => ∃ v, e = .returned v ∧ w'.ownsRow w.heap.size 61 6 v (lastE st).length ((lastE st).flatMap Ent.cells) ∧ Below w.heap.size w w') := by
  obtain ⟨mb, blk, lv, ev, D, hm⟩ := hb
  have c6 : w.cell? ⟨p, 6, none⟩ = some ev := by rw [cell_of hm.self]; rfl
  have hn := g.ents
  have hER := hm.erow
  clear hm g
  unfold lastE
  rcases hER.2 with ⟨rfl, h0⟩ | ⟨g, cap, cur, rfl, _, hg, hcap, hcm, hs, ht⟩
  · have hz : st.entries = [] := by cases h : st.entries with | nil => rfl | cons x xs => rw [h] at h0; simp at h0
    rw [hz]
    clear hER hz
    have CL := Lib.hid (fun q => clone_ents_nil (w.drewN q))
    go_enter Tryz.func18, Tryz.ntmps18
    go_wp2_with fail
    refine wp_region_mid 12 _ (by kernel_rfl) (by kernel_rfl) rfl ?_
    simp only [List.take_succ_cons, List.take_zero, List.drop_succ_cons, List.drop_zero]
    repeat (go_big_quiet_step (fail))
    refine wpQuiet_nil ?_
    intro _ hw'
    obtain ⟨nq, rfl⟩ := hw'
    intro K hK
    go_simp
    refine (CL.out nq).mono ?_
    rintro e w3 ⟨v3, rfl, h1, h2⟩
    have H := Lib.hid (fun q => And.intro (show (w3.drewN q).ownsRow w.heap.size 61 6 v3 0 [] from h1) ((bdrewN (Below.refl w.heap.size w) nq).trans (bdrewN (show Below w.heap.size (w.drewN nq) w3 from h2) q)))
    clear h1 h2
    go_simp
    refine hK _ _ ?_
    clear hK K
    repeat (go_big_quiet_step (fail))
    refine wpQuiet_nil ?_
    intro _ hw'
    obtain ⟨nq3, rfl⟩ := hw'
    go_wp2_with fail
    go_ret
    exact ⟨_, rfl, (H.out nq3).1, (H.out nq3).2⟩
  · obtain ⟨low, hlow⟩ : ∃ low, low = st.entries.length - 5000 := ⟨_, rfl⟩
    have hmax : max ((st.entries.length : Int) - 5000) 0 = (low : Int) := by omega
    have hll : low ≤ st.entries.length := by omega
    have hcells : ∀ W : World, W.heap[g]? = some (.cells cur 61 (0, 0)) → ∀ j u, ((st.entries.drop low).flatMap Ent.cells)[j]? = some u → W.cell? ⟨g, low * 6 + j, none⟩ = some u := by
      intro W hW j u hj
      rw [← drop_cells, List.getElem?_drop, ← ht] at hj
      have hlt := (List.getElem?_eq_some_iff.1 hj).1
      rw [List.length_take] at hlt
      rw [List.getElem?_take_of_lt (by omega), Array.getElem?_toList] at hj
      rw [cell_of hW]; exact hj
    obtain ⟨A, hA, hsrc⟩ : ∃ A : Addr, (if cap = low then (some ⟨g, 0, none⟩ : Option Addr) else some ⟨g, low * 6, none⟩) = some A ∧ Hid (∀ W : World, W.heap[g]? = some (.cells cur 61 (0, 0)) → ∀ j u, ((st.entries.drop low).flatMap Ent.cells)[j]? = some u → W.cell? (A.add j) = some u) := by
      by_cases h : cap = low
      · refine ⟨⟨g, 0, none⟩, by simp [h], Lib.hid fun W hW j u hj => ?_⟩
        have : st.entries.drop low = [] := List.drop_eq_nil_of_le (by omega)
        rw [this] at hj; simp at hj
      · refine ⟨⟨g, low * 6, none⟩, by simp [h], Lib.hid fun W hW j u hj => ?_⟩
        rw [Addr.add_lit]; exact hcells W hW j u hj
    have hdl : (st.entries.drop low).length = st.entries.length - low := by rw [List.length_drop]
    have CL := Lib.hid (fun (q : Nat) => clone_ents A (st.entries.length - low) (cap - low) (st.entries.drop low) (w.drewN q) hdl (hsrc.out _ hg) (by omega))
    rw [← hlow, hdl]
    have hmx : max ((st.entries.length : Int) - 5000) 0 = (low : Int) := hmax
    have HDL := Lib.hid hdl
    clear hER hcells hsrc hs ht hg hdl hlow
    have hlc : low ≤ cap := by omega
    have hcc : cap ≤ 9223372036854775807 := by unfold maxLen at hcm; omega
    go_enter Tryz.func18, Tryz.ntmps18
    go_wp2_with fail
    refine wp_region_mid 12 _ (by kernel_rfl) (by kernel_rfl) rfl ?_
    simp only [List.take_succ_cons, List.take_zero, List.drop_succ_cons, List.drop_zero]
    repeat (go_big_quiet_step (fail))
    refine wpQuiet_nil ?_
    intro _ hw'
    obtain ⟨nq, rfl⟩ := hw'
    intro K hK
    go_simp
    refine (CL.out nq).mono ?_
    rintro e w3 ⟨v3, rfl, h1, h2⟩
    have H := Lib.hid (fun q => And.intro (show (w3.drewN q).ownsRow w.heap.size 61 6 v3 (st.entries.length - low) ((st.entries.drop low).flatMap Ent.cells) from h1) ((bdrewN (Below.refl w.heap.size w) nq).trans (bdrewN (show Below w.heap.size (w.drewN nq) w3 from h2) q)))
    clear h1 h2
    go_simp
    refine hK _ _ ?_
    clear hK K
    repeat (go_big_quiet_step (fail))
    refine wpQuiet_nil ?_
    intro _ hw'
    obtain ⟨nq3, rfl⟩ := hw'
    go_wp2_with fail
    go_ret
    exact ⟨_, rfl, (H.out nq3).1, (H.out nq3).2⟩

end
end Go.Proofs.YtfnmjlnpfoclbaaGreat

namespace Go.Proofs.YtfnmjlnpfoclbaaGreat
section
open Go.RowKit
set_option linter.unusedVariables false

/-- A slice of leases, of entries, wherever it begins. -/
def LeasIn (w : World) (v : Value) (L : List Lea) : Prop :=
  ∃ a cap, v = .slice a L.length cap ∧ ∀ k l, L[k]? = some l → ∃ b o, a = some ⟨b, o, none⟩ ∧ w.cell? ⟨b, o + k * 4, none⟩ = some (.int .i64 l.no) ∧ w.cell? ⟨b, o + k * 4 + 1, none⟩ = some (.int .i64 l.owner) ∧ w.cell? ⟨b, o + k * 4 + 2, none⟩ = some (.int .i64 l.amount) ∧ w.cell? ⟨b, o + k * 4 + 3, none⟩ = some (.int .i64 l.untl)
def EntrIn (w : World) (v : Value) (L : List Ent) : Prop :=
  ∃ a cap, v = .slice a L.length cap ∧ ∀ k e, L[k]? = some e → ∃ b o, a = some ⟨b, o, none⟩ ∧ w.cell? ⟨b, o + k * 6, none⟩ = some (.int .i64 e.kind) ∧ w.cell? ⟨b, o + k * 6 + 1, none⟩ = some (.int .i64 e.owner) ∧ w.cell? ⟨b, o + k * 6 + 2, none⟩ = some (.int .i64 e.other) ∧ w.cell? ⟨b, o + k * 6 + 3, none⟩ = some (.int .i64 e.amount) ∧ w.cell? ⟨b, o + k * 6 + 4, none⟩ = some (.int .i64 e.lease) ∧ w.cell? ⟨b, o + k * 6 + 5, none⟩ = some (.int .i64 e.untl)
theorem LeasIn.below {w w' : World} {v : Value} {L : List Lea} (h : LeasIn w v L) (hb : Below w.heap.size w w') : LeasIn w' v L := by
  obtain ⟨a, cap, rfl, hc⟩ := h
  refine ⟨a, cap, rfl, fun k l hk => ?_⟩
  obtain ⟨b, o, ha, h0, h1, h2, h3⟩ := hc k l hk
  exact ⟨b, o, ha, old_cell hb h0, old_cell hb h1, old_cell hb h2, old_cell hb h3⟩
theorem EntrIn.below {w w' : World} {v : Value} {L : List Ent} (h : EntrIn w v L) (hb : Below w.heap.size w w') : EntrIn w' v L := by
  obtain ⟨a, cap, rfl, hc⟩ := h
  refine ⟨a, cap, rfl, fun k l hk => ?_⟩
  obtain ⟨b, o, ha, h0, h1, h2, h3, h4, h5⟩ := hc k l hk
  exact ⟨b, o, ha, old_cell hb h0, old_cell hb h1, old_cell hb h2, old_cell hb h3, old_cell hb h4, old_cell hb h5⟩
theorem leasIn_row {w : World} {B : Nat} {v : Value} {ls : List Lea} (h : w.ownsRow B 98 4 v ls.length (ls.flatMap Lea.cells)) : LeasIn w v ls := by
  rcases Nat.eq_zero_or_pos ls.length with h0 | h0
  · obtain ⟨a, c, rfl, _, _⟩ := ownsRow_sh h
    refine ⟨a, c, rfl, fun k l hk => ?_⟩
    have := (List.getElem?_eq_some_iff.1 hk).1
    omega
  · obtain ⟨g, cap, cur, rfl, _, _, _, _, _, _, hc⟩ := lrow_open h h0
    refine ⟨_, _, rfl, fun k l hk => ⟨g, 0, rfl, ?_, ?_, ?_, ?_⟩⟩
    · rw [Nat.zero_add]; exact (hc k l hk 0 (by omega)).trans rfl
    · rw [Nat.zero_add]; exact (hc k l hk 1 (by omega)).trans rfl
    · rw [Nat.zero_add]; exact (hc k l hk 2 (by omega)).trans rfl
    · rw [Nat.zero_add]; exact (hc k l hk 3 (by omega)).trans rfl

set_option maxHeartbeats 2000000 in
set_option maxRecDepth 100000 in
theorem equal_leas (v1 v2 : Value) (L : List Lea) (w : World) (hl : L.length ≤ 1000000) (h1 : LeasIn w v1 L) (h2 : LeasIn w v2 L) :
    Calls Tryz.prog 49 #[v1, v2] w (EqPost true w) := by
  obtain ⟨a1, c1, rfl, hc1⟩ := h1
  obtain ⟨a2, c2, rfl, hc2⟩ := h2
  have HC1 := Lib.hid hc1
  have HC2 := Lib.hid hc2
  clear hc1 hc2
  go_enter Tryz.func49, Tryz.ntmps49
  go_wp2_with fail
  go_loopg [13] L.length (fun g s13 wr => ∃ k q : Nat, k ≤ L.length ∧ L.length - k ≤ g ∧ s13 = .int .i64 k ∧ wr = w.drewN q)
  case atStart => exact ⟨0, 0, Nat.zero_le _, by omega, rfl, rfl⟩
  case round =>
    obtain ⟨k, q, hk, hg, rfl, rfl⟩ := hrel
    by_cases hlt : k < L.length
    · obtain ⟨e, he⟩ : ∃ e, L[k]? = some e := ⟨_, List.getElem?_eq_getElem hlt⟩
      obtain ⟨b1, o1, rfl, p0, p1, p2, p3⟩ := HC1.out k e he
      obtain ⟨b2, o2, rfl, q0, q1, q2, q3⟩ := HC2.out k e he
      obtain ⟨e1, e2, e3, e4⟩ := e
      clear he
      go_wp2_with fail
      go_region
      go_wp2
      go_roundg (L.length - (k + 1))
      case measure => omega
      case rel => exact ⟨k + 1, q + 1, by omega, by omega, by go_num, rfl⟩
    · have : k = L.length := by omega
      subst this
      go_wp2
      go_ret
      exact ⟨rfl, q, rfl⟩

set_option maxHeartbeats 2000000 in
set_option maxRecDepth 100000 in
theorem equal_entr (v1 v2 : Value) (L : List Ent) (w : World) (hl : L.length ≤ 1000000) (h1 : EntrIn w v1 L) (h2 : EntrIn w v2 L) :
    Calls Tryz.prog 17 #[v1, v2] w (EqPost true w) := by
  obtain ⟨a1, c1, rfl, hc1⟩ := h1
  obtain ⟨a2, c2, rfl, hc2⟩ := h2
  have HC1 := Lib.hid hc1
  have HC2 := Lib.hid hc2
  clear hc1 hc2
  go_enter Tryz.func17, Tryz.ntmps17
  go_wp2_with fail
  go_loopg [13] L.length (fun g s13 wr => ∃ k q : Nat, k ≤ L.length ∧ L.length - k ≤ g ∧ s13 = .int .i64 k ∧ wr = w.drewN q)
  case atStart => exact ⟨0, 0, Nat.zero_le _, by omega, rfl, rfl⟩
  case round =>
    obtain ⟨k, q, hk, hg, rfl, rfl⟩ := hrel
    by_cases hlt : k < L.length
    · obtain ⟨e, he⟩ : ∃ e, L[k]? = some e := ⟨_, List.getElem?_eq_getElem hlt⟩
      obtain ⟨b1, o1, rfl, p0, p1, p2, p3, p4, p5⟩ := HC1.out k e he
      obtain ⟨b2, o2, rfl, q0, q1, q2, q3, q4, q5⟩ := HC2.out k e he
      obtain ⟨e1, e2, e3, e4, e5, e6⟩ := e
      clear he
      go_wp2_with fail
      go_region
      go_wp2
      go_roundg (L.length - (k + 1))
      case measure => omega
      case rel => exact ⟨k + 1, q + 1, by omega, by omega, by go_num, rfl⟩
    · have : k = L.length := by omega
      subst this
      go_wp2
      go_ret
      exact ⟨rfl, q, rfl⟩

end
end Go.Proofs.YtfnmjlnpfoclbaaGreat
