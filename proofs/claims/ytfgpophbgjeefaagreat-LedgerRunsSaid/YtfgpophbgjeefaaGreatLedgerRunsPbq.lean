/-
  sameBook: two books in the same state say the same. No conditions but what always holds of a book.
-/
import Derived.Test.YtfgpophbgjeefaaGreatLedgerRunsPaz
import Derived.Test.YtfgpophbgjeefaaGreatLedgerRunsPbo
import Derived.Test.YtfgpophbgjeefaaGreatLedgerRunsPbp
namespace Go.Proofs.YtfgpophbgjeefaaGreat
open Go.RowKit
set_option linter.unusedVariables false

theorem OwnInts.post {xs : List Int} {w w' : World} {v : Value} (h : w'.ownsRow w.heap.size 3 1 v xs.length (xs.map fun x => Value.int .i64 x)) (hl : xs.length ≤ 1000000) : Reads w' .i64 v xs := Reads.own (B := w.heap.size) (t := 3) h (by omega)

set_option maxHeartbeats 4000000 in
set_option maxRecDepth 100000 in
theorem sameBook_any (p q : Nat) (o : Int) (w0 w : World) (st : BookSt) (N : Nat) (F G : Nat → Prop) (h : BothAt w0 w p q st N F G) (g : Good st) :
    Calls Tryz.prog 11 #[.pointer (some ⟨p, 0, none⟩), .pointer (some ⟨q, 0, none⟩), .int .i64 o] w (LawPost w) := by
  have HE := Lib.hid (fun W (hW : Below w.heap.size w W) (z : Int) => held_any p z W F st N (h.own.same (Below.same_on hW)))
  have LE := Lib.hid (fun W (hW : Below w.heap.size w W) (z : Int) => leasedB_any p z W F st N (h.own.same (Below.same_on hW)))
  have LF := Lib.hid (fun W (hW : Below w.heap.size w W) (z : Int) => leftB_any p z W F st N (h.own.same (Below.same_on hW)) g)
  have AS := Lib.hid (fun W (hW : Below w.heap.size w W) (z : Int) => askR_all q z W G st false (h.ref.below hW) g.e)
  have TB := Lib.hid (fun W (hW : Below w.heap.size w W) => total_any p W F st N (h.own.same (Below.same_on hW)))
  have TR := Lib.hid (totalR_on q w G st false h.ref g.e)
  have OB := Lib.hid (fun W (hW : Below w.heap.size w W) => ownersB_any p W F st N (h.own.same (Below.same_on hW)) g.e)
  have OR := Lib.hid (fun W (hW : Below w.heap.size w W) => ownersR_any q W G st false (h.ref.below hW))
  have LB := Lib.hid (fun W (hW : Below w.heap.size w W) => leasesB_any p W F st N (h.own.same (Below.same_on hW)) g)
  have LR := Lib.hid (fun W (hW : Below w.heap.size w W) => leasesR_any q W G st false (h.ref.below hW) g.e)
  have hol : (ownersL st).length ≤ 40 := ownK_len st 40
  have hll := g.leaLen
  clear h g
  go_enter Tryz.func11, Tryz.ntmps11
  go_upto_region 2 with fail
  have hlit := heap_alloc_new w (.cells #[.int .i64 o, .int .i64 1, .int .i64 2, .int .i64 3] 3)
  have B0 := Lib.hid ((Below.refl w.heap.size w).alloc (Nat.le_refl _) (.cells #[.int .i64 o, .int .i64 1, .int .i64 2, .int .i64 3] 3))
  have hel : ∀ k, k < 4 → ∃ z : Int, (w.alloc (.cells #[.int .i64 o, .int .i64 1, .int .i64 2, .int .i64 3] 3)).cell? ⟨w.heap.size, k, none⟩ = some (.int .i64 z) := by
    intro k hk
    rcases (show k = 0 ∨ k = 1 ∨ k = 2 ∨ k = 3 by omega) with rfl | rfl | rfl | rfl
    · exact ⟨o, by rw [cell_of hlit]; rfl⟩
    · exact ⟨1, by rw [cell_of hlit]; rfl⟩
    · exact ⟨2, by rw [cell_of hlit]; rfl⟩
    · exact ⟨3, by rw [cell_of hlit]; rfl⟩
  have HEL := Lib.hid hel
  clear hlit hel
  generalize w.alloc (.cells #[.int .i64 o, .int .i64 1, .int .i64 2, .int .i64 3] 3) = W1 at *
  go_wp2_with fail
  go_loopw [22] (fun i wr => ∃ k : Nat, k ≤ 4 ∧ i = .int .i64 k ∧ Below w.heap.size w wr ∧ ∀ j, j < 4 → ∃ z : Int, wr.cell? ⟨w.heap.size, j, none⟩ = some (.int .i64 z)) (fun i _ => 4 - (intOf i).toNat)
  case atStart => exact ⟨0, Nat.zero_le _, rfl, B0.out, HEL.out⟩
  case round =>
    obtain ⟨k, hk, rfl, hb, hel⟩ := hrel
    have HB := Lib.hid hb
    have HL := Lib.hid hel
    by_cases hlt : k < 4
    · obtain ⟨z, hz⟩ := hel k hlt
      have HK := Lib.hid hlt
      have hki : (k : Int) < 4 := by omega
      clear hel hb hk hlt
      go_wp2_with fail
      refine (HE.out _ HB.out z).mono ?_
      rintro e w1 ⟨rfl, rfl⟩
      go_wp2_with fail
      refine (LE.out _ HB.out z).mono ?_
      rintro e w1 ⟨rfl, rfl⟩
      go_wp2_with fail
      refine (LF.out _ HB.out z).mono ?_
      rintro e w2 ⟨rfl, hb2⟩
      have B2 := Lib.hid (HB.out.trans (hb2.mono HB.out.size))
      have hz2 := fun j hj => (HL.out j hj).imp (fun y hy => old_cell hb2 hy)
      have HZ2 := Lib.hid hz2
      clear hb2 hz2 hz
      go_wp2_with fail
      refine (AS.out _ B2.out z).mono ?_
      rintro e w3 ⟨rfl, hb3⟩
      have B3 := Lib.hid (B2.out.trans (hb3.mono B2.out.size))
      have HZ3 := Lib.hid (fun j hj => (HZ2.out j hj).imp (fun y hy => old_cell hb3 hy))
      clear hb3
      generalize heldV st z = hv at *
      generalize leasedV st z = lv at *
      generalize leftV st z = fv at *
      generalize heldE st z = ev at *
      go_wp2_with fail
      go_roundw
      case measure => have := HK.out; simp only [intOf]; omega
      case rel => exact ⟨k + 1, by have := HK.out; omega, by simp, B3.out, HZ3.out⟩
    · obtain rfl : k = 4 := by omega
      clear hel hb hk hlt
      go_wp2_with fail
      refine (TB.out _ HB.out).mono ?_
      rintro e w1 ⟨rfl, rfl⟩
      go_wp2_with fail
      refine (TR.out _ HB.out).mono ?_
      rintro e w2 ⟨rfl, hb2⟩
      have B2 := Lib.hid hb2
      clear hb2
      go_wp2_with fail
      refine (OB.out _ B2.out).mono ?_
      rintro e w3 ⟨v3, rfl, hr3, hb3⟩
      have B3 := Lib.hid (B2.out.trans (hb3.mono B2.out.size))
      have R3 := Lib.hid (OwnInts.post hr3 (by omega))
      obtain ⟨a3, c3, rfl, _, _⟩ := ownsRow_sh hr3
      clear hr3 hb3
      go_wp2_with fail
      refine (OR.out _ B3.out).mono ?_
      rintro e w4 ⟨v4, rfl, hr4, hb4⟩
      have B4 := Lib.hid (B3.out.trans (hb4.mono B3.out.size))
      have EQ := equal_int _ _ _ _ w4 (R3.out.below hb4 rfl) (OwnInts.post hr4 (by omega))
      rw [decide_eq_true rfl] at EQ
      have EQ := Lib.hid EQ
      obtain ⟨a4, c4, rfl, _, _⟩ := ownsRow_sh hr4
      clear hr4 hb4
      go_wp2_with fail
      refine EQ.out.mono ?_
      rintro e w5 ⟨rfl, q5, rfl⟩
      have B5 := Lib.hid (bdrewN B4.out q5)
      go_wp2_with fail
      refine (LB.out _ B5.out).mono ?_
      rintro e w6 ⟨v6, rfl, hr6, hb6⟩
      have B6 := Lib.hid (B5.out.trans (hb6.mono B5.out.size))
      have R6 := Lib.hid (leasIn_row hr6)
      obtain ⟨a6, c6, rfl, _, _⟩ := ownsRow_sh hr6
      clear hr6 hb6
      go_wp2_with fail
      refine (LR.out _ B6.out).mono ?_
      rintro e w7 ⟨v7, rfl, hr7, hb7⟩
      have B7 := Lib.hid (B6.out.trans (hb7.mono B6.out.size))
      have EL := Lib.hid (equal_leas _ _ st.leases w7 (by omega) (R6.out.below hb7) (leasIn_row hr7))
      obtain ⟨a7, c7, rfl, _, _⟩ := ownsRow_sh hr7
      clear hr7 hb7
      go_wp2_with fail
      refine EL.out.mono ?_
      rintro e w8 ⟨rfl, q8, rfl⟩
      have B8 := Lib.hid (bdrewN B7.out q8)
      go_wp2_with fail
      go_ret
      exact ⟨rfl, B8.out⟩

end Go.Proofs.YtfgpophbgjeefaaGreat
