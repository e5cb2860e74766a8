/-
  The search of a slab by its number, and of the first free slot. No conditions but bounds.
  Frames told by a function (slot number to value): loops and cuts over wide frames with ONE name for all slots. No conditions.
-/
import Derived.Test.YtiaedonhbafpjaaTopSlabPas
import Derived.Deep.LoopGhost
import Derived.Deep.Cut
import Derived.Test.YtiaedonhbafpjaaTopSlabPaa

namespace Go.Proofs.Ytiaedonhbafpjaa
section
open Go.RowKit
set_option linter.unusedVariables false

theorem compareI {x y : Int} : (Lib.compareInt x y < 0 ↔ x < y) ∧ (Lib.compareInt x y = 0 ↔ x = y) := by
  unfold Lib.compareInt
  constructor <;> (repeat' split) <;> omega

set_option maxHeartbeats 1000000 in
set_option maxRecDepth 100000 in
theorem findCmp_any (p : Nat) (no t : Int) (w : World) (h : w.cell? ⟨p, 0, none⟩ = some (.int .i64 no)) :
    Calls Try.prog 58 #[.pointer (some ⟨p, 0, none⟩), .int .i64 t] w (fun e w' => e = .returned (.int .i64 (Lib.compareInt no t)) ∧ w' = w) := by
  have CM := Lib.hid (Go.Proofs.Try.cmp_Compare_int no t w)
  go_enter Try.func58, Try.ntmps58
  go_wp2_with fail
  refine CM.out.mono ?_
  rintro e w' ⟨rfl, rfl⟩
  go_wp2_with fail
  go_ret
  exact ⟨rfl, rfl⟩

def BfPost (l : List Sl) (t : Int) (w : World) : Ending → World → Prop := fun e w' =>
  w' = w ∧ ((∃ i x, e = .returned (.tuple #[.int .i64 (i : Nat), .bool true]) ∧ l[i]? = some x ∧ (x.no : Int) = t) ∨ (∃ i : Nat, e = .returned (.tuple #[.int .i64 (i : Nat), .bool false]) ∧ ∀ x ∈ l, (x.no : Int) ≠ t))
theorem nos_at {l : List Sl} (hn : (l.map Sl.no).Pairwise (· < ·)) {i j : Nat} {x y : Sl} (hij : i < j) (hx : l[i]? = some x) (hy : l[j]? = some y) : x.no < y.no := by
  rw [List.pairwise_iff_getElem] at hn
  obtain ⟨h1, rfl⟩ := List.getElem?_eq_some_iff.1 hx
  obtain ⟨h2, rfl⟩ := List.getElem?_eq_some_iff.1 hy
  have := hn i j (by simpa using h1) (by simpa using h2) hij
  simpa using this

set_option maxHeartbeats 2000000 in
set_option maxRecDepth 100000 in
theorem bfind_any (a : Option Addr) (cap : Nat) (l : List Sl) (t : Int) (w : World) (hl : l.length ≤ 1000000) (hn : (l.map Sl.no).Pairwise (· < ·)) (hc : ∀ k x, l[k]? = some x → ∃ g, a = some ⟨g, 0, none⟩ ∧ w.cell? ⟨g, k, none⟩ = some (.pointer (some ⟨x.p, 0, none⟩)) ∧ w.cell? ⟨x.p, 0, none⟩ = some (.int .i64 (x.no : Int))) :
    Calls Try.prog 57 #[.slice a l.length cap, .int .i64 t, .func (.func 58) #[] #[]] w (BfPost l t w) := by
  have HC := Lib.hid hc
  have HN := Lib.hid hn
  obtain ⟨n, hln⟩ : ∃ n, l.length = n := ⟨_, rfl⟩
  have HL := Lib.hid hln
  rw [hln] at hl ⊢
  clear hc hn hln
  go_enter Try.func57, Try.ntmps57
  go_wp2_with fail
  go_loopw [9, 10] (fun x y wr => wr = w ∧ ∃ i j : Nat, i ≤ j ∧ j ≤ n ∧ x = .int .i64 (i : Int) ∧ y = .int .i64 (j : Int) ∧ (∀ m z, m < i → l[m]? = some z → (z.no : Int) < t) ∧ (∀ m z, j ≤ m → l[m]? = some z → t ≤ (z.no : Int))) (fun x y _ => (intOf y - intOf x).toNat)
  case atStart => exact ⟨rfl, 0, n, by omega, by omega, rfl, rfl, fun m z hm => absurd hm (by omega), fun m z h1 h2 => by have := (List.getElem?_eq_some_iff.1 h2).1; have := HL.out; omega⟩
  case round =>
    obtain ⟨hwr, i, j, hij, hjn, rfl, rfl, h1, h2⟩ := hrel
    obtain rfl := hwr.symm
    clear hwr
    have H1 := Lib.hid h1
    have H2 := Lib.hid h2
    clear h1 h2
    by_cases hlt : i < j
    · obtain ⟨x, hx⟩ : ∃ x, l[(i + j) / 2]? = some x := ⟨_, List.getElem?_eq_getElem (by have := HL.out; omega)⟩
      obtain ⟨g, rfl, c1, c2⟩ := HC.out _ x hx
      have HX := Lib.hid hx
      have CM := Lib.hid (findCmp_any x.p (x.no : Int) t w c2)
      obtain ⟨cv, hcv⟩ : ∃ cv, Lib.compareInt (x.no : Int) t = cv := ⟨_, rfl⟩
      have cmp := (compareI (x := (x.no : Int)) (y := t)).1
      rw [hcv] at CM cmp
      have HCV := Lib.hid cmp
      clear hx c2 hcv cmp
      by_cases hxt : cv < 0
      · go_wp2_with fail
        refine CM.out.mono ?_
        rintro e w' ⟨rfl, hw'⟩
        obtain rfl := hw'.symm
        clear hw' CM
        go_wp2_with fail
        go_roundw
        case rel =>
          refine ⟨by first | rfl | trivial, (i + j) / 2 + 1, j, by omega, by omega, by go_num, rfl, fun m z hm hz => ?_, H2.out⟩
          have h5 := HCV.out.1 hxt
          rcases Nat.lt_or_ge m ((i + j) / 2) with h6 | h6
          · have := nos_at HN.out h6 hz HX.out
            omega
          · have e : m = (i + j) / 2 := by omega
            rw [e, HX.out] at hz
            cases hz
            exact h5
        case measure => simp [intOf]; omega
      · have HXT := Lib.hid hxt
        go_wp2_with fail
        refine CM.out.mono ?_
        rintro e w' ⟨rfl, hw'⟩
        obtain rfl := hw'.symm
        clear hw' CM
        go_wp2_with fail
        go_roundw
        case rel =>
          refine ⟨by first | rfl | trivial, i, (i + j) / 2, by omega, by omega, rfl, by go_num, H1.out, fun m z h1 hz => ?_⟩
          have h5 : ¬ (x.no : Int) < t := fun e => by have h8 := HXT.out; have h9 := HCV.out.2 e; omega
          rcases Nat.lt_or_ge ((i + j) / 2) m with h6 | h6
          · have := nos_at HN.out h6 HX.out hz
            omega
          · have e : m = (i + j) / 2 := by omega
            rw [e, HX.out] at hz
            cases hz
            omega
        case measure => simp [intOf]; omega
    · obtain rfl : i = j := by omega
      have NONE : Hid ((∀ z, l[i]? = some z → (z.no : Int) ≠ t) → ∀ x ∈ l, (x.no : Int) ≠ t) := Lib.hid (fun h0 x hx => by
        obtain ⟨m, hm⟩ := List.getElem?_of_mem hx
        rcases Nat.lt_trichotomy m i with h5 | h5 | h5
        · have := H1.out m x h5 hm; omega
        · subst h5; exact h0 x hm
        · intro e
          have h6 : i < l.length := by have := (List.getElem?_eq_some_iff.1 hm).1; omega
          obtain ⟨z, hz⟩ : ∃ z, l[i]? = some z := ⟨_, List.getElem?_eq_getElem h6⟩
          have h7 := nos_at HN.out h5 hz hm
          have h8 := H2.out i z (Nat.le_refl _) hz
          omega)
      by_cases hin : i < n
      · obtain ⟨x, hx⟩ : ∃ x, l[i]? = some x := ⟨_, List.getElem?_eq_getElem (by have := HL.out; omega)⟩
        obtain ⟨g, rfl, c1, c2⟩ := HC.out _ x hx
        have HX := Lib.hid hx
        have CM := Lib.hid (findCmp_any x.p (x.no : Int) t w c2)
        obtain ⟨cv, hcv⟩ : ∃ cv, Lib.compareInt (x.no : Int) t = cv := ⟨_, rfl⟩
        have cmp := (compareI (x := (x.no : Int)) (y := t)).2
        rw [hcv] at CM cmp
        have HCV := Lib.hid cmp
        clear hx c2 hcv cmp
        by_cases hxt : cv = 0
        · have HEQ := Lib.hid (HCV.out.1 hxt)
          clear HCV
          subst hxt
          go_wp2_with fail
          refine CM.out.mono ?_
          rintro e w' ⟨rfl, hw'⟩
          obtain rfl := hw'.symm
          clear hw' CM
          go_wp2_with fail
          go_ret2
          exact ⟨rfl, Or.inl ⟨i, x, rfl, HX.out, HEQ.out⟩⟩
        · have hcf : (cv == 0) = false := by simpa using hxt
          have HNE := Lib.hid (fun e => hxt (HCV.out.2 e))
          clear hxt
          go_wp2_with fail
          refine CM.out.mono ?_
          rintro e w' ⟨rfl, hw'⟩
          obtain rfl := hw'.symm
          clear hw' CM
          go_wp2_with fail
          go_ret2
          exact ⟨rfl, Or.inr ⟨i, rfl, NONE.out (fun z hz => by rw [HX.out] at hz; cases hz; exact HNE.out)⟩⟩
      · have FIN : Hid (∀ x ∈ l, (x.no : Int) ≠ t) := Lib.hid (NONE.out (fun z hz => by have := (List.getElem?_eq_some_iff.1 hz).1; have := HL.out; omega))
        go_wp2_with fail
        go_ret2
        exact ⟨rfl, Or.inr ⟨i, rfl, FIN.out⟩⟩

/-- A slab by its number: its address, or nil. -/
def FnPost (S : CaSt) (no : Int) (w : World) : Ending → World → Prop := fun e w' => w' = w ∧ match slabOf S.sl no with
  | none => e = .returned (.pointer none)
  | some x => e = .returned (.pointer (some ⟨x.p, 0, none⟩))
set_option maxHeartbeats 2000000 in
set_option maxRecDepth 100000 in
theorem findS_any {w : World} {F : Nat → Prop} {c bp : Nat} {S : CaSt} {vc vs : Value} (m : CaMem w F c bp S vc vs) (no : Int) :
    Calls Try.prog 38 #[.pointer (some ⟨c, 0, none⟩), .int .i64 no] w (FnPost S no w) := by
  obtain ⟨c0, c1, c2, c3, c4, c5, c6⟩ := m.cells
  obtain ⟨a, cap, rfl, hcap, hcap2, hrow⟩ := m.slice
  have BF := Lib.hid (bfind_any a cap S.sl no w (by have := m.few.1; omega) m.nos (fun k x hk => by
    obtain ⟨g, h1, h2⟩ := hrow k x hk
    exact ⟨g, h1, h2, (m.sl x (List.mem_of_getElem? hk)).cells.1⟩))
  have HR := Lib.hid hrow
  have HN := Lib.hid m.nos
  have hfew := m.few.1
  clear m hrow c0 c1 c2 c3 c4 c5
  go_enter Try.func38, Try.ntmps38
  go_wp2_with fail
  refine BF.out.mono ?_
  rintro e w' ⟨hw', ⟨i, x, rfl, hx, hno⟩ | ⟨i, rfl, hno⟩⟩
  · obtain rfl := hw'.symm
    have hi := (List.getElem?_eq_some_iff.1 hx).1
    obtain ⟨g, rfl, d⟩ := HR.out i x hx
    have HX := Lib.hid (show slabOf S.sl no = some x by rw [← hno]; exact slabOf_at HN.out (List.mem_of_getElem? hx))
    clear hw' hx hno BF
    go_wp2_with fail
    go_ret
    refine ⟨rfl, ?_⟩
    rw [HX.out]
    rfl
  · obtain rfl := hw'.symm
    have HX := Lib.hid (slabOf_none hno)
    clear hw' hno BF
    go_wp2_with fail
    go_ret
    refine ⟨rfl, ?_⟩
    rw [HX.out]
    rfl

end
end Go.Proofs.Ytiaedonhbafpjaa

namespace Go.Proofs.Ytiaedonhbafpjaa
section
open Go.RowKit
set_option linter.unusedVariables false

/-- The slots as a list. -/
def slotsOf (n : Nat) (f : Nat → Value) : List Value := (List.range n).map f
theorem slots_eq {n : Nat} {l : List Value} (h : l.length = n) : slotsOf n (fun i => l.getD i undef) = l := by
  unfold slotsOf
  refine List.ext_getElem (by simp [h]) (fun i h1 h2 => ?_)
  simp [List.getD_eq_getElem?_getD, h2]
/-- A loop: I: what holds of the slots (by their numbers) and the world at its head. -/
theorem wp_loop_framed {P : Program} {Q : Exit → Act → World → Prop} {w : World} {c : Code} (n : Nat) (I : Nat → (Nat → Value) → World → Prop) (l : List Value) (ds : List Deferred) (hl : l.length = n) (n₀ : Nat) (h₀ : I n₀ (fun i => l.getD i undef) w)
    (round : ∀ g f w, I g f w → ∀ (J : Nat → Act → World → Prop) (K : Act → World → Prop), (∀ k l' w', List.length l' = n → I k (fun i => l'.getD i undef) w' → J k ⟨l'.toArray, ds⟩ w') → (∀ a' w', Handed J g a' w' → K a' w') → c.wp P (Exit.then K Q) ⟨(slotsOf n f).toArray, ds⟩ w) : (Code.loop c).wp P Q ⟨l.toArray, ds⟩ w := by
  refine wp_loop_ghost_k (fun k a' w' => ∃ f, a' = ⟨(slotsOf n f).toArray, ds⟩ ∧ I k f w') n₀ ⟨_, by rw [slots_eq hl], h₀⟩ ?_
  rintro g a' w' ⟨f, rfl, hI⟩ J K hJ hK
  exact round g f w' hI J K (fun k l' w' h1 h2 => hJ k _ w' ⟨_, by rw [slots_eq h1], h2⟩) hK
/-- A statement that is cut around. -/
theorem wp_cut_framed {P : Program} {K : Act → World → Prop} {Q' : Exit → Act → World → Prop} {w : World} {s : Code} (n : Nat) (R : (Nat → Value) → World → Prop) (l : List Value) (ds : List Deferred) 
    (first : ∀ (J K' : Act → World → Prop), (∀ l' w', List.length l' = n → R (fun i => l'.getD i undef) w' → J ⟨l'.toArray, ds⟩ w') → (∀ a' w', Met J a' w' → K' a' w') → s.wp P (Exit.then K' Q') ⟨l.toArray, ds⟩ w)
    (rest : ∀ f w', R f w' → K ⟨(slotsOf n f).toArray, ds⟩ w') : s.wp P (Exit.then K Q') ⟨l.toArray, ds⟩ w := by
  refine wp_cut (fun a' w' => ∃ f, a' = ⟨(slotsOf n f).toArray, ds⟩ ∧ R f w') ?_ ?_
  · rintro a' w' ⟨f, rfl, hR⟩
    exact rest f w' hR
  · intro J K' hJ hK
    exact first J K' (fun l' w' h1 h2 => hJ _ w' ⟨_, by rw [slots_eq h1], h2⟩) hK

end
end Go.Proofs.Ytiaedonhbafpjaa
