/-
  PolicyText and PolicyString: the text of a policy. Conditions: Go's own tables, and the reference's words, hold what their initialisers lay.
-/
import Derived.Test.YtifibhaalepmgaaDoorPolicy
import Derived.Test.YtifibhaalepmgaaDoorShelf
import Derived.Test.YtifibhaalepmgaaDoorTouch
import Derived.Test.YtifibhaalepmgaaDoorMid
import Derived.Lib.AppendIntMem
import Derived.Lib.ItoaLen
import Derived.WalkSmall
namespace Go.Proofs.YtifibhaalepmgaaDoor
open Go.RowKit
set_option linter.unusedVariables false

/-- Go's own tables that are read here. -/
def TabsAt (w : World) : Prop := Lib.TabIs Tryd.prog w "internal/strconv.uint64pow10" .u64 Lib.pow10Tab ∧ Lib.TabIs Tryd.prog w "strings.asciiSpace" .u8 Lib.asciiSpaceTab
theorem TabIs_below {n : String} {k : IntKind} {zs : List Int} {w w' : World} {B : Nat} (h : Lib.TabIs Tryd.prog w n k zs) (hb : Below B w w') (hB : B = w.heap.size) : Lib.TabIs Tryd.prog w' n k zs := by
  subst hB
  unfold Lib.TabIs at *
  cases hg : Tryd.prog.globalNamed n with
  | none => unfold World.var? at h; rw [hg] at h; cases h
  | some g =>
    have hlt : g < w.heap.size := by
      unfold World.var? at h
      rw [hg] at h
      simp only [Option.bind_some] at h
      rcases Nat.lt_or_ge g w.heap.size with x | x
      · exact x
      · rw [Array.getElem?_eq_none x] at h; cases h
    exact var?_below hb hg hlt h
theorem TabsAt.below {w w' : World} (h : TabsAt w) (hb : Below w.heap.size w w') : TabsAt w' := ⟨TabIs_below h.1 hb rfl, TabIs_below h.2 hb rfl⟩

/-- The kinds' words. -/
def word (k : Int) : List UInt8 := if k = 1 then [101, 120, 97, 99, 116] else if k = 2 then [115, 116, 101, 112, 115] else if k = 3 then [104, 97, 108, 102] else if k = 4 then [100, 111, 117, 98, 108, 101] else [115, 111, 114, 116, 101, 100]
def wordA (k : Int) : ByteArray := ⟨(word k).toArray⟩
theorem itoa_any (n : Int) (w : World) (h0 : -9223372036854775808 ≤ n) (h1 : n ≤ 9223372036854775807) (ht : TabsAt w) :
    Calls Tryd.prog 27 #[.int .i64 n] w (fun e w' => ∃ x : ByteArray, e = .returned (.string x) ∧ x.data.toList = Lib.itoa n ∧ x.size ≤ 21 ∧ Below w.heap.size w w') :=
  (Tryd.strconv_Itoa n h0 h1 w ht.1).mono fun e w' ⟨he, k, os, hw⟩ => ⟨_, he, by simp, by have := Lib.itoa_length_le n h0 h1; simpa [ByteArray.size] using this, by subst hw; exact Lib.below_grow _ _ (Nat.le_refl _) _ _⟩
theorem wordA_size (k : Int) : (wordA k).size ≤ 6 := by
  unfold wordA word
  split
  · decide
  · split
    · decide
    · split
      · decide
      · split <;> decide

def wordsB : ByteArray := { data := #[101, 120, 97, 99, 116, 32, 115, 116, 101, 112, 115, 32, 104, 97, 108, 102, 32, 100, 111, 117, 98, 108, 101, 32, 115, 111, 114, 116, 101, 100] }

theorem words_fields : Lib.fields wordsB.data.toList = [word 1, word 2, word 3, word 4, word 5] := by kernel_rfl

theorem fields_any (w : World) (ht : TabsAt w) :
    Calls Tryd.prog 26 #[.string wordsB] w (fun e w' => e = .returned (.slice (some ⟨w.heap.size, 0, none⟩) 5 5) ∧ w' = w.alloc (.cells #[.string (wordA 1), .string (wordA 2), .string (wordA 3), .string (wordA 4), .string (wordA 5)] 9)) := by
  have h := Tryd.strings_Fields_laid wordsB w (by decide) (fun _ b hb => of_decide_eq_true (List.all_eq_true.1 (show (wordsB.data.toList.all fun b => decide (b.toNat < 128)) = true by decide) b (List.mem_of_getElem? hb))) ht.2
  rw [words_fields] at h
  exact h

/-- The text of a policy; empty where it is none. -/
def polText (k s m : Int) : List UInt8 := if polErr k s m = 0 then word k ++ (if k = 2 then 32 :: Lib.itoa s else []) ++ 32 :: Lib.itoa m else []
def TextPost (k s m : Int) (w : World) : Ending → World → Prop := fun e w' => ∃ x : ByteArray, e = .returned (.tuple #[.string x, .int .i64 (polErr k s m)]) ∧ x.data.toList = polText k s m ∧ Below w.heap.size w w'

theorem box_keep {w w' : World} {o : Obj} (hb : Below (w.heap.size + 1) (w.alloc o) w') : w'.heap[w.heap.size]? = some o :=
  (hb.block w.heap.size (by simp)).trans (heap_alloc_new w o)

set_option maxHeartbeats 2000000 in
set_option maxRecDepth 100000 in
theorem policyText_any (k s m : Int) (w : World) (ht : TabsAt w) (hs : -9223372036854775808 ≤ s ∧ s ≤ 9223372036854775807) (hm : -9223372036854775808 ≤ m ∧ m ≤ 9223372036854775807) :
    Calls Tryd.prog 9 #[.agg #[.int .i64 k, .int .i64 s, .int .i64 m]] w (TextPost k s m w) := by
  have TT : Hid (∀ {w' : World}, Below w.heap.size w w' → TabsAt w') := Lib.hid (fun h => ht.below h)
  have HS := Lib.hid hs
  have HM := Lib.hid hm
  clear ht hs hm
  by_cases hp : polErr k s m = 0
  case neg =>
    have E := Lib.hid (show polText k s m = [] by unfold polText; rw [if_neg hp])
    have hp' : (polErr k s m == 0) = false := by simpa using hp
    unfold TextPost
    have CP := Lib.hid (checkPolicy_any k s m (w.alloc (.cells #[.int .i64 k, .int .i64 s, .int .i64 m] 23)))
    generalize polErr k s m = pe at *
    clear hp
    go_enter Tryd.func9, Tryd.ntmps9
    go_wp2_with fail
    refine CP.out.mono ?_
    rintro e w1 ⟨rfl, rfl, _⟩
    go_wp2_with fail
    go_ret2
    exact ⟨_, rfl, by rw [E.out], by go_grown⟩
  case pos =>
    have hk : 1 ≤ k ∧ k ≤ 5 := by
      by_cases x : 1 ≤ k ∧ k ≤ 5
      · exact x
      · rw [polErr_kind x] at hp; omega
    have E := Lib.hid (show polText k s m = word k ++ (if k = 2 then 32 :: Lib.itoa s else []) ++ 32 :: Lib.itoa m by unfold polText; rw [if_pos hp])
    have CP := Lib.hid (checkPolicy_any k s m (w.alloc (.cells #[.int .i64 k, .int .i64 s, .int .i64 m] 23)))
    unfold TextPost
    rw [hp] at CP ⊢
    clear hp
    rcases (show k = 1 ∨ k = 2 ∨ k = 3 ∨ k = 4 ∨ k = 5 by omega) with rfl | rfl | rfl | rfl | rfl
    case inl =>
      go_enter Tryd.func9, Tryd.ntmps9
      go_wp2_with fail
      refine CP.out.mono ?_
      rintro e w1 ⟨rfl, rfl, _⟩
      go_wp2_with fail
      go_region_with ((go_at_call 26; refine (fields_any _ (TT.out (by go_grown))).mono ?_; rintro e w2 ⟨rfl, rfl⟩))
      all_goals
        have c0 : ¬ 9223372036854775807 < (wordA 1).size + 1 := by have := wordA_size 1; omega
        go_wp2_with fail
        refine (itoa_any _ _ HM.out.1 HM.out.2 (TT.out (by go_grown))).mono ?_
        rintro e w3 ⟨x3, rfl, hx3, hz3, hb3⟩
        have HX3 := Lib.hid hx3
        clear hx3
        have c1 : ¬ 9223372036854775807 < (wordA 1).size + 1 + x3.size := by have := wordA_size 1; omega
        go_wp2_with fail
        go_ret2
        refine ⟨_, rfl, ?_, Below.trans (by go_grown) (hb3.mono (by simp; omega))⟩
        rw [E.out]
        simp [wordA, HX3.out]
    case inr.inl =>
      go_enter Tryd.func9, Tryd.ntmps9
      go_wp2_with fail
      refine CP.out.mono ?_
      rintro e w1 ⟨rfl, rfl, _⟩
      go_wp2_with fail
      go_region_with ((go_at_call 26; refine (fields_any _ (TT.out (by go_grown))).mono ?_; rintro e w2 ⟨rfl, rfl⟩))
      all_goals
        go_wp2_with fail
        refine (itoa_any _ _ HS.out.1 HS.out.2 (TT.out (by go_grown))).mono ?_
        rintro e w3 ⟨x3, rfl, hx3, hz3, hb3⟩
        have HX3 := Lib.hid hx3
        have B3 := Lib.hid (show Below w.heap.size w w3 from Below.trans (by go_grown) (hb3.mono (by simp; omega)))
        have X3 := box_keep (w := w) (o := .cells #[.int .i64 2, .int .i64 s, .int .i64 m] 23) (w' := w3) (Below.trans (by go_grown) (hb3.mono (by simp)))
        have x2 : w3.cell? ⟨w.heap.size, 2, none⟩ = some (.int .i64 m) := by rw [cell_of X3]; rfl
        have T3 := Lib.hid (TT.out B3.out)
        clear hb3 X3 hx3
        have c1 : ¬ 9223372036854775807 < 1 + x3.size := by omega
        have c2 : ¬ 9223372036854775807 < (wordA 2).size + (1 + x3.size) := by have := wordA_size 2; omega
        have c3 : ¬ 9223372036854775807 < (wordA 2).size + (1 + x3.size) + 1 := by have := wordA_size 2; omega
        go_wp2_with fail
        refine (itoa_any _ _ HM.out.1 HM.out.2 T3.out).mono ?_
        rintro e w4 ⟨x4, rfl, hx4, hz4, hb4⟩
        have HX4 := Lib.hid hx4
        clear hx4
        have c4 : ¬ 9223372036854775807 < (wordA 2).size + (1 + x3.size) + 1 + x4.size := by have := wordA_size 2; omega
        go_wp2_with fail
        go_ret2
        refine ⟨_, rfl, ?_, B3.out.trans (hb4.mono B3.out.size)⟩
        rw [E.out]
        simp [wordA, HX3.out, HX4.out]
    case inr.inr.inl =>
      go_enter Tryd.func9, Tryd.ntmps9
      go_wp2_with fail
      refine CP.out.mono ?_
      rintro e w1 ⟨rfl, rfl, _⟩
      go_wp2_with fail
      go_region_with ((go_at_call 26; refine (fields_any _ (TT.out (by go_grown))).mono ?_; rintro e w2 ⟨rfl, rfl⟩))
      all_goals
        have c0 : ¬ 9223372036854775807 < (wordA 3).size + 1 := by have := wordA_size 3; omega
        go_wp2_with fail
        refine (itoa_any _ _ HM.out.1 HM.out.2 (TT.out (by go_grown))).mono ?_
        rintro e w3 ⟨x3, rfl, hx3, hz3, hb3⟩
        have HX3 := Lib.hid hx3
        clear hx3
        have c1 : ¬ 9223372036854775807 < (wordA 3).size + 1 + x3.size := by have := wordA_size 3; omega
        go_wp2_with fail
        go_ret2
        refine ⟨_, rfl, ?_, Below.trans (by go_grown) (hb3.mono (by simp; omega))⟩
        rw [E.out]
        simp [wordA, HX3.out]
    case inr.inr.inr.inl =>
      go_enter Tryd.func9, Tryd.ntmps9
      go_wp2_with fail
      refine CP.out.mono ?_
      rintro e w1 ⟨rfl, rfl, _⟩
      go_wp2_with fail
      go_region_with ((go_at_call 26; refine (fields_any _ (TT.out (by go_grown))).mono ?_; rintro e w2 ⟨rfl, rfl⟩))
      all_goals
        have c0 : ¬ 9223372036854775807 < (wordA 4).size + 1 := by have := wordA_size 4; omega
        go_wp2_with fail
        refine (itoa_any _ _ HM.out.1 HM.out.2 (TT.out (by go_grown))).mono ?_
        rintro e w3 ⟨x3, rfl, hx3, hz3, hb3⟩
        have HX3 := Lib.hid hx3
        clear hx3
        have c1 : ¬ 9223372036854775807 < (wordA 4).size + 1 + x3.size := by have := wordA_size 4; omega
        go_wp2_with fail
        go_ret2
        refine ⟨_, rfl, ?_, Below.trans (by go_grown) (hb3.mono (by simp; omega))⟩
        rw [E.out]
        simp [wordA, HX3.out]
    case inr.inr.inr.inr =>
      go_enter Tryd.func9, Tryd.ntmps9
      go_wp2_with fail
      refine CP.out.mono ?_
      rintro e w1 ⟨rfl, rfl, _⟩
      go_wp2_with fail
      go_region_with ((go_at_call 26; refine (fields_any _ (TT.out (by go_grown))).mono ?_; rintro e w2 ⟨rfl, rfl⟩))
      all_goals
        have c0 : ¬ 9223372036854775807 < (wordA 5).size + 1 := by have := wordA_size 5; omega
        go_wp2_with fail
        refine (itoa_any _ _ HM.out.1 HM.out.2 (TT.out (by go_grown))).mono ?_
        rintro e w3 ⟨x3, rfl, hx3, hz3, hb3⟩
        have HX3 := Lib.hid hx3
        clear hx3
        have c1 : ¬ 9223372036854775807 < (wordA 5).size + 1 + x3.size := by have := wordA_size 5; omega
        go_wp2_with fail
        go_ret2
        refine ⟨_, rfl, ?_, Below.trans (by go_grown) (hb3.mono (by simp; omega))⟩
        rw [E.out]
        simp [wordA, HX3.out]


/-- The reference's words, in memory. -/
def PolWords (w : World) : Prop := ∃ gb go gc, w.cell? ⟨0, 0, none⟩ = some (.slice (some ⟨gb, go, none⟩) 6 gc) ∧ ∀ k : Nat, 1 ≤ k → k ≤ 5 → w.cell? ⟨gb, go + k, none⟩ = some (.string (wordA k))

set_option maxHeartbeats 2000000 in
set_option maxRecDepth 100000 in
theorem policyString_any (k s m : Int) (w : World) (ht : TabsAt w) (hw : PolWords w) (hs : -9223372036854775808 ≤ s ∧ s ≤ 9223372036854775807) (hm : -9223372036854775808 ≤ m ∧ m ≤ 9223372036854775807) :
    Calls Tryd.prog 10 #[.agg #[.int .i64 k, .int .i64 s, .int .i64 m]] w (TextPost k s m w) := by
  have TT : Hid (∀ {w' : World}, Below w.heap.size w w' → TabsAt w') := Lib.hid (fun h => ht.below h)
  have HW := Lib.hid hw
  have HS := Lib.hid hs
  have HM := Lib.hid hm
  clear ht hs hm hw
  by_cases hp : polErr k s m = 0
  case neg =>
    have E := Lib.hid (show polText k s m = [] by unfold polText; rw [if_neg hp])
    have hp' : (polErr k s m == 0) = false := by simpa using hp
    unfold TextPost
    have CP := Lib.hid (policyFault_any k s m (w.alloc (.cells #[.int .i64 k, .int .i64 s, .int .i64 m] 23)))
    generalize polErr k s m = pe at *
    clear hp
    go_enter Tryd.func10, Tryd.ntmps10
    go_wp2_with fail
    refine CP.out.mono ?_
    rintro e w1 ⟨rfl, rfl, _⟩
    go_wp2_with fail
    go_ret2
    exact ⟨_, rfl, by rw [E.out], by go_grown⟩
  case pos =>
    have hk : 1 ≤ k ∧ k ≤ 5 := by
      by_cases x : 1 ≤ k ∧ k ≤ 5
      · exact x
      · rw [polErr_kind x] at hp; omega
    have E := Lib.hid (show polText k s m = word k ++ (if k = 2 then 32 :: Lib.itoa s else []) ++ 32 :: Lib.itoa m by unfold polText; rw [if_pos hp])
    have CP := Lib.hid (policyFault_any k s m (w.alloc (.cells #[.int .i64 k, .int .i64 s, .int .i64 m] 23)))
    unfold TextPost
    rw [hp] at CP ⊢
    clear hp
    rcases (show k = 1 ∨ k = 2 ∨ k = 3 ∨ k = 4 ∨ k = 5 by omega) with rfl | rfl | rfl | rfl | rfl
    case inl =>
      obtain ⟨gb, go, gc, hg0, hgw⟩ := HW.out
      have hgk : w.cell? ⟨gb, go + 1, none⟩ = some (.string (wordA 1)) := hgw 1 (by omega) (by omega)
      have HL := World.block_lt_of_cell? w _ hg0
      clear HW
      have HL2 := World.block_lt_of_cell? w _ hgk
      clear hgw
      go_enter Tryd.func10, Tryd.ntmps10
      go_wp2_with fail
      refine CP.out.mono ?_
      rintro e w1 ⟨rfl, rfl, _⟩
      go_wp2_with fail
      have c0 : ¬ 9223372036854775807 < (wordA 1).size + 1 := by have := wordA_size 1; omega
      go_wp2_with fail
      refine (itoa_any _ _ HM.out.1 HM.out.2 (TT.out (by go_grown))).mono ?_
      rintro e w3 ⟨x3, rfl, hx3, hz3, hb3⟩
      have HX3 := Lib.hid hx3
      clear hx3
      have c1 : ¬ 9223372036854775807 < (wordA 1).size + 1 + x3.size := by have := wordA_size 1; omega
      go_wp2_with fail
      go_ret2
      refine ⟨_, rfl, ?_, Below.trans (by go_grown) (hb3.mono (by simp; omega))⟩
      rw [E.out]
      simp [wordA, HX3.out]
    case inr.inl =>
      obtain ⟨gb, go, gc, hg0, hgw⟩ := HW.out
      have hgk : w.cell? ⟨gb, go + 2, none⟩ = some (.string (wordA 2)) := hgw 2 (by omega) (by omega)
      have HL := World.block_lt_of_cell? w _ hg0
      clear HW
      have HL2 := World.block_lt_of_cell? w _ hgk
      clear hgw
      go_enter Tryd.func10, Tryd.ntmps10
      go_wp2_with fail
      refine CP.out.mono ?_
      rintro e w1 ⟨rfl, rfl, _⟩
      go_wp2_with fail
      go_wp2_with fail
      refine (itoa_any _ _ HS.out.1 HS.out.2 (TT.out (by go_grown))).mono ?_
      rintro e w3 ⟨x3, rfl, hx3, hz3, hb3⟩
      have HX3 := Lib.hid hx3
      have B3 := Lib.hid (show Below w.heap.size w w3 from Below.trans (by go_grown) (hb3.mono (by simp; omega)))
      have X3 := box_keep (w := w) (o := .cells #[.int .i64 2, .int .i64 s, .int .i64 m] 23) (w' := w3) (Below.trans (by go_grown) (hb3.mono (by simp)))
      have x2 : w3.cell? ⟨w.heap.size, 2, none⟩ = some (.int .i64 m) := by rw [cell_of X3]; rfl
      have T3 := Lib.hid (TT.out B3.out)
      clear hb3 X3 hx3
      have c1 : ¬ 9223372036854775807 < 1 + x3.size := by omega
      have c2 : ¬ 9223372036854775807 < (wordA 2).size + (1 + x3.size) := by have := wordA_size 2; omega
      have c3 : ¬ 9223372036854775807 < (wordA 2).size + (1 + x3.size) + 1 := by have := wordA_size 2; omega
      go_wp2_with fail
      refine (itoa_any _ _ HM.out.1 HM.out.2 T3.out).mono ?_
      rintro e w4 ⟨x4, rfl, hx4, hz4, hb4⟩
      have HX4 := Lib.hid hx4
      clear hx4
      have c4 : ¬ 9223372036854775807 < (wordA 2).size + (1 + x3.size) + 1 + x4.size := by have := wordA_size 2; omega
      go_wp2_with fail
      go_ret2
      refine ⟨_, rfl, ?_, B3.out.trans (hb4.mono B3.out.size)⟩
      rw [E.out]
      simp [wordA, HX3.out, HX4.out]
    case inr.inr.inl =>
      obtain ⟨gb, go, gc, hg0, hgw⟩ := HW.out
      have hgk : w.cell? ⟨gb, go + 3, none⟩ = some (.string (wordA 3)) := hgw 3 (by omega) (by omega)
      have HL := World.block_lt_of_cell? w _ hg0
      clear HW
      have HL2 := World.block_lt_of_cell? w _ hgk
      clear hgw
      go_enter Tryd.func10, Tryd.ntmps10
      go_wp2_with fail
      refine CP.out.mono ?_
      rintro e w1 ⟨rfl, rfl, _⟩
      go_wp2_with fail
      have c0 : ¬ 9223372036854775807 < (wordA 3).size + 1 := by have := wordA_size 3; omega
      go_wp2_with fail
      refine (itoa_any _ _ HM.out.1 HM.out.2 (TT.out (by go_grown))).mono ?_
      rintro e w3 ⟨x3, rfl, hx3, hz3, hb3⟩
      have HX3 := Lib.hid hx3
      clear hx3
      have c1 : ¬ 9223372036854775807 < (wordA 3).size + 1 + x3.size := by have := wordA_size 3; omega
      go_wp2_with fail
      go_ret2
      refine ⟨_, rfl, ?_, Below.trans (by go_grown) (hb3.mono (by simp; omega))⟩
      rw [E.out]
      simp [wordA, HX3.out]
    case inr.inr.inr.inl =>
      obtain ⟨gb, go, gc, hg0, hgw⟩ := HW.out
      have hgk : w.cell? ⟨gb, go + 4, none⟩ = some (.string (wordA 4)) := hgw 4 (by omega) (by omega)
      have HL := World.block_lt_of_cell? w _ hg0
      clear HW
      have HL2 := World.block_lt_of_cell? w _ hgk
      clear hgw
      go_enter Tryd.func10, Tryd.ntmps10
      go_wp2_with fail
      refine CP.out.mono ?_
      rintro e w1 ⟨rfl, rfl, _⟩
      go_wp2_with fail
      have c0 : ¬ 9223372036854775807 < (wordA 4).size + 1 := by have := wordA_size 4; omega
      go_wp2_with fail
      refine (itoa_any _ _ HM.out.1 HM.out.2 (TT.out (by go_grown))).mono ?_
      rintro e w3 ⟨x3, rfl, hx3, hz3, hb3⟩
      have HX3 := Lib.hid hx3
      clear hx3
      have c1 : ¬ 9223372036854775807 < (wordA 4).size + 1 + x3.size := by have := wordA_size 4; omega
      go_wp2_with fail
      go_ret2
      refine ⟨_, rfl, ?_, Below.trans (by go_grown) (hb3.mono (by simp; omega))⟩
      rw [E.out]
      simp [wordA, HX3.out]
    case inr.inr.inr.inr =>
      obtain ⟨gb, go, gc, hg0, hgw⟩ := HW.out
      have hgk : w.cell? ⟨gb, go + 5, none⟩ = some (.string (wordA 5)) := hgw 5 (by omega) (by omega)
      have HL := World.block_lt_of_cell? w _ hg0
      clear HW
      have HL2 := World.block_lt_of_cell? w _ hgk
      clear hgw
      go_enter Tryd.func10, Tryd.ntmps10
      go_wp2_with fail
      refine CP.out.mono ?_
      rintro e w1 ⟨rfl, rfl, _⟩
      go_wp2_with fail
      have c0 : ¬ 9223372036854775807 < (wordA 5).size + 1 := by have := wordA_size 5; omega
      go_wp2_with fail
      refine (itoa_any _ _ HM.out.1 HM.out.2 (TT.out (by go_grown))).mono ?_
      rintro e w3 ⟨x3, rfl, hx3, hz3, hb3⟩
      have HX3 := Lib.hid hx3
      clear hx3
      have c1 : ¬ 9223372036854775807 < (wordA 5).size + 1 + x3.size := by have := wordA_size 5; omega
      go_wp2_with fail
      go_ret2
      refine ⟨_, rfl, ?_, Below.trans (by go_grown) (hb3.mono (by simp; omega))⟩
      rw [E.out]
      simp [wordA, HX3.out]

end Go.Proofs.YtifibhaalepmgaaDoor
