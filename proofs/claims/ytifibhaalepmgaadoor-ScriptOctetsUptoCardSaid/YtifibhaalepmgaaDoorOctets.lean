/-
  Octets: what it gives, for all strings. No conditions.
-/
import Derived.Test.YtifibhaalepmgaaDoorUnquote2
namespace Go.Proofs.YtifibhaalepmgaaDoor
open Go.RowKit

def unqL (s : ByteArray) : List UInt8 := unq s.size s.data.toList 1
def octE (s : ByteArray) : Int :=
  if 200000 < s.size then 4 else if s.size = 0 then 8 else if s.data.toList.getD 0 0 ≠ 34 then 8 else if qEnd s.size s.data.toList 1 ≠ s.size then 8
  else if quoteL (unqL s) ≠ s.data.toList then 8 else 0

def OctPost (s : ByteArray) (w : World) : Ending → World → Prop := fun e w' =>
  ∃ v, e = .returned (.tuple #[v, .int .i64 (octE s)]) ∧ Below w.heap.size w w' ∧ (octE s ≠ 0 → v = .slice none 0 0) ∧ (octE s = 0 → w'.ownsRow w.heap.size 5 1 v (unqL s).length (Lib.byteCells (unqL s)))

theorem octNone {s : ByteArray} {w w' : World} {x : Int} (h : octE s = x) (h0 : x ≠ 0) (hb : Below w.heap.size w w') : OctPost s w (.returned (.tuple #[.slice none 0 0, .int .i64 x])) w' :=
  ⟨_, by rw [h], hb, fun _ => rfl, fun e => absurd (h.symm.trans e) h0⟩

theorem unq_len (f : Nat) (s : List UInt8) : ∀ i, (unq f s i).length ≤ f := by
  induction f with
  | zero => intro i; simp [unq]
  | succ f ih =>
    intro i
    unfold unq
    have h1 := ih (i + 1); have h2 := ih (i + 2); have h3 := ih (i + 4)
    repeat' split
    all_goals simp
    all_goals omega

theorem ownsRow_keep {w w' : World} {B e size n : Nat} {v : Value} {xs : List Value} (h : w.ownsRow B e size v n xs) (hb : Below w.heap.size w w') : w'.ownsRow B e size v n xs := by
  have hl := h.lt
  refine ⟨h.1, ?_⟩
  rcases h.2 with hn | ⟨g, cap, cur, rfl, hg, hgg, rest⟩
  · exact .inl hn
  · exact .inr ⟨g, cap, cur, rfl, hg, (hb.block g (hl g rfl).2).trans hgg, rest⟩

set_option maxHeartbeats 2000000 in
set_option maxRecDepth 100000 in
theorem octets_any (s : ByteArray) (w : World) : Calls Tryd.prog 13 #[.string s] w (OctPost s w) := by
  by_cases h1 : 200000 < s.size
  · have E := Lib.hid (show octE s = 4 from by unfold octE; rw [if_pos h1])
    have h1' : (200000 : Int) < (s.size : Int) := by omega
    clear h1
    go_enter Tryd.func13, Tryd.ntmps13
    go_wp2
    go_ret2
    exact octNone E.out (by decide) (Below.refl _ _)
  · have h1' : (s.size : Int) ≤ 200000 := by omega
    by_cases h2 : s.size = 0
    · have E := Lib.hid (show octE s = 8 from by unfold octE; rw [if_neg h1, if_pos h2])
      have e : s = ⟨#[]⟩ := by
        obtain ⟨d⟩ := s
        congr 1
        exact Array.eq_empty_of_size_eq_zero h2
      clear h1 h2
      subst e
      go_enter Tryd.func13, Tryd.ntmps13
      go_wp2
      go_ret2
      exact octNone E.out (by decide) (Below.refl _ _)
    · have hx0 := str_at s 0 (by omega)
      have e0 : s.toList.isEmpty = false := by
        cases hh : s.toList.isEmpty with
        | false => rfl
        | true =>
          exfalso
          have hl : s.toList = [] := List.isEmpty_iff.1 hh
          rw [ByteArray.toList_eq] at hl
          apply h2
          rw [str_size, hl]
          rfl
      obtain ⟨x, hx⟩ : ∃ x : UInt8, x = s.data.toList.getD 0 0 := ⟨_, rfl⟩
      rw [← hx] at hx0
      have ix : ∀ h : 0 < s.data.size, ((s.data[0]'h).toNat : Int) = (x.toNat : Int) := fun _ => hx0
      have ix2 : ∀ h : 0 < s.size, ((s[0]'h).toNat : Int) = (x.toNat : Int) := fun _ => hx0
      have hpos : 0 < s.size := by omega
      by_cases h3 : x ≠ 34
      · have E := Lib.hid (show octE s = 8 from by unfold octE; rw [if_neg h1, if_neg h2, if_pos (by rw [← hx]; exact h3)])
        have d1 : ((x.toNat : Int) != 34) = true := by
          rw [bne_iff_ne]; intro e; apply h3
          apply UInt8.toNat_inj.1
          show x.toNat = 34
          omega
        clear h1 h2 hx hx0 h3
        go_enter Tryd.func13, Tryd.ntmps13
        go_wp2_with fail
        go_ret2
        exact octNone E.out (by decide) (Below.refl _ _)
      · have h3 : x = 34 := Decidable.not_not.1 h3
        have QE := Lib.hid (fun w => quotedEnd_any s w (by omega))
        have d1 : ((x.toNat : Int) != 34) = false := by rw [h3]; rfl
        by_cases h4 : qEnd s.size s.data.toList 1 ≠ s.size
        · have E := Lib.hid (show octE s = 8 from by unfold octE; rw [if_neg h1, if_neg h2, if_neg (by rw [← hx]; exact fun h => h h3), if_pos h4])
          clear h1 h2 hx hx0 h3
          generalize qEnd s.size s.data.toList 1 = qe at *
          have d2 : (qe != (s.size : Int)) = true := bne_iff_ne.2 h4
          go_enter Tryd.func13, Tryd.ntmps13
          go_wp2_with fail
          refine (QE.out _).mono ?_
          rintro e w1 ⟨rfl, rfl⟩
          go_wp2_with fail
          go_ret2
          exact octNone E.out (by decide) (Below.refl _ _)
        · have h4 : qEnd s.size s.data.toList 1 = s.size := Decidable.not_not.1 h4
          rw [h4] at QE
          have UL := unq_len s.size s.data.toList 1
          have UQ := Lib.hid (unquote_any s w (by omega))
          by_cases h5 : quoteL (unqL s) ≠ s.data.toList
          · have E := Lib.hid (show octE s = 8 from by unfold octE; rw [if_neg h1, if_neg h2, if_neg (by rw [← hx]; exact fun h => h h3), if_neg (fun h => h h4), if_pos h5])
            clear h1 h2 hx hx0 h3 h4
            have HU : unqL s = unq s.size s.data.toList 1 := rfl
            rw [HU] at h5
            clear HU
            generalize unq s.size s.data.toList 1 = out at *
            have d3 : (quoteL out == s.toList) = false := by rw [beq_eq_false_iff_ne, ByteArray.toList_eq]; exact h5
            go_enter Tryd.func13, Tryd.ntmps13
            go_wp2_with fail
            refine (QE.out _).mono ?_
            rintro e w1 ⟨rfl, rfl⟩
            go_wp2_with fail
            refine UQ.out.mono ?_
            rintro e w2 ⟨v, rfl, hown, hbel⟩
            have hrd : Reads w2 .u8 v (ints out) := Reads.own (by rw [ints_len]; simpa [ints, Lib.byteCells, Function.comp_def] using hown) (by rw [ints_len]; omega)
            go_wp2_with fail
            refine (quote_any v out w2 hrd (by omega)).mono ?_
            rintro e w3 ⟨rfl, hbel3⟩
            have bel3 := hbel.trans (hbel3.mono hbel.size)
            go_wp2_with fail
            go_ret2
            exact octNone E.out (by decide) bel3
          · have h5 : quoteL (unqL s) = s.data.toList := Decidable.not_not.1 h5
            have E := Lib.hid (show octE s = 0 from by unfold octE; rw [if_neg h1, if_neg h2, if_neg (by rw [← hx]; exact fun h => h h3), if_neg (fun h => h h4), if_neg (fun h => h h5)])
            clear h1 h2 hx hx0 h3 h4
            have HU : unqL s = unq s.size s.data.toList 1 := rfl
            rw [HU] at h5
            have HU := Lib.hid HU
            generalize unq s.size s.data.toList 1 = out at *
            have d3 : (quoteL out == s.toList) = true := by rw [beq_iff_eq, ByteArray.toList_eq]; exact h5
            go_enter Tryd.func13, Tryd.ntmps13
            go_wp2_with fail
            refine (QE.out _).mono ?_
            rintro e w1 ⟨rfl, rfl⟩
            go_wp2_with fail
            refine UQ.out.mono ?_
            rintro e w2 ⟨v, rfl, hown, hbel⟩
            have hrd : Reads w2 .u8 v (ints out) := Reads.own (by rw [ints_len]; simpa [ints, Lib.byteCells, Function.comp_def] using hown) (by rw [ints_len]; omega)
            go_wp2_with fail
            refine (quote_any v out w2 hrd (by omega)).mono ?_
            rintro e w3 ⟨rfl, hbel3⟩
            have bel3 := hbel.trans (hbel3.mono hbel.size)
            go_wp2_with fail
            go_ret2
            refine ⟨v, by rw [E.out]; rfl, bel3, fun h => absurd E.out h, fun _ => ?_⟩
            rw [HU.out]
            exact ownsRow_keep hown hbel3

end Go.Proofs.YtifibhaalepmgaaDoor
