/-
  The readers of a number: number and Digits. Conditions: Go's own variables hold what their initialisers lay.
-/
import Derived.Test.YtifibhaalepmgaaDoorPolText
import Derived.Test.YtifibhaalepmgaaDoorNumer
import Derived.Test.YtifibhaalepmgaaDoorParts
import Derived.Shelf.Strings.SlTrimAscii
namespace Go.Proofs.YtifibhaalepmgaaDoor
open Go.RowKit
set_option linter.unusedVariables false

/-- Go's own variables that are read here. -/
structure LibAt (w : World) : Prop where
  tabs : TabsAt w
  maxl : ∃ m : Int, w.cell? ⟨4, 0, none⟩ = some (.int .i64 m)
  esyn : ∃ tp p, w.var? Tryd.prog "strconv.ErrSyntax" = some #[.iface tp p]
  erng : ∃ tp p, w.var? Tryd.prog "strconv.ErrRange" = some #[.iface tp p]
theorem var_below {n : String} {cs : Array Value} {w w' : World} (h : w.var? Tryd.prog n = some cs) (hb : Below w.heap.size w w') : w'.var? Tryd.prog n = some cs := by
  cases hg : Tryd.prog.globalNamed n with
  | none => unfold World.var? at h; rw [hg] at h; cases h
  | some g =>
    have hlt : g < w.heap.size := by
      unfold World.var? at h
      rw [hg] at h
      simp only [Option.bind_some] at h
      rcases Nat.lt_or_ge g w.heap.size with x | x
      · exact x
      · rw [Array.getElem?_eq_none x] at h; cases h
    exact var?_below hb hg hlt h
theorem LibAt.below {w w' : World} (h : LibAt w) (hb : Below w.heap.size w w') : LibAt w' := by
  obtain ⟨m, hm⟩ := h.maxl
  obtain ⟨t1, p1, h1⟩ := h.esyn
  obtain ⟨t2, p2, h2⟩ := h.erng
  exact ⟨h.tabs.below hb, ⟨m, (hb.cell (p := ⟨_, 0, none⟩) (World.block_lt_of_cell? w _ hm)).trans hm⟩, ⟨t1, p1, var_below h1 hb⟩, ⟨t2, p2, var_below h2 hb⟩⟩

theorem atoi_ok (s : ByteArray) (v : Int) (w : World) (hs : s.size ≤ 1000000) (h : Lib.atoiAll s.data.toList = .ok v) :
    Calls Tryd.prog 57 #[.string s] w (fun e w' => e = .returned (.tuple #[.int .i64 v, .nilIface]) ∧ Below w.heap.size w w') :=
  (Tryd.strconv_Atoi_ok s (by omega) v h w).mono fun e w' ⟨he, hw⟩ => ⟨he, by
    rcases hw with rfl | ⟨t, rfl⟩
    · exact Below.refl _ _
    · exact Lib.bytesWorld_below _ _ _⟩
def BadPost (w : World) : Ending → World → Prop := fun e w' => ∃ n t p, e = .returned (.tuple #[.int .i64 n, .iface t (.pointer (some p))]) ∧ Below w.heap.size w w'
theorem atoi_bad (s : ByteArray) (w : World) (hs : s.size ≤ 1000000) (h : ∀ v, Lib.atoiAll s.data.toList ≠ .ok v) (hl : LibAt w) :
    Calls Tryd.prog 57 #[.string s] w (BadPost w) := by
  cases hx : Lib.atoiAll s.data.toList with
  | ok v => exact absurd hx (h v)
  | range =>
    obtain ⟨tp, p, hv⟩ := hl.erng
    exact (Tryd.strconv_Atoi_range_var s (by omega) hx tp p w hv).mono fun e w' ⟨N, he, _, _, hb⟩ => ⟨_, _, _, he, hb⟩
  | _ =>
    obtain ⟨tp, p, hv⟩ := hl.esyn
    exact (Tryd.strconv_Atoi_syntax_var s (by omega) ⟨h, by rw [hx]; simp⟩ tp p w hv).mono fun e w' ⟨N, he, _, _, hb⟩ => ⟨_, _, _, he, hb⟩

theorem trimPrefix_D (s : List UInt8) : Lib.trimPrefix s [45] = trimD s := by
  cases s with
  | nil => rfl
  | cons c r =>
    unfold Lib.trimPrefix Lib.hasPrefix trimD
    by_cases h : c = 45
    · subst h; simp [List.isPrefixOf]
    · simp [List.isPrefixOf, h, Ne.symm h]

def trimA (s : ByteArray) : ByteArray := ⟨(trimD s.data.toList).toArray⟩
theorem trimA_size (s : ByteArray) : (trimA s).size = (trimD s.data.toList).length := by simp [trimA, ByteArray.size]
theorem trim_any (s : ByteArray) (w : World) :
    Calls Tryd.prog 58 #[.string s, .string { data := #[45] }] w (fun e w' => e = .returned (.string (trimA s)) ∧ w = w') :=
  (Tryd.strings_TrimPrefix s { data := #[45] } w).mono fun e w' ⟨he, hw⟩ => ⟨by rw [he]; unfold trimA; rw [← trimPrefix_D], hw.symm⟩

theorem str_ne {x s : ByteArray} (h : x.data.toList ≠ s.data.toList) : (x.toList == s.toList) = false := by
  rw [ByteArray.toList_eq, ByteArray.toList_eq]
  simpa using h
theorem str_eq {x s : ByteArray} (h : x.data.toList = s.data.toList) : (x.toList == s.toList) = true := by
  rw [ByteArray.toList_eq, ByteArray.toList_eq]
  simpa using h

/-- A number read, or not. -/
def NumPost (s : ByteArray) (w : World) : Ending → World → Prop := fun e w' => ∃ n : Int, e = .returned (.tuple #[.int .i64 n, .bool (progNum s.data.toList).isSome]) ∧ (∀ v, progNum s.data.toList = some v → n = v) ∧ Below w.heap.size w w'

set_option maxHeartbeats 1000000 in
set_option maxRecDepth 100000 in
theorem number_any (s : ByteArray) (w : World) (hs : s.size ≤ 1000000) (hl : LibAt w) :
    Calls Tryd.prog 38 #[.string s] w (NumPost s w) := by
  have HL := Lib.hid hl
  by_cases h : ∃ v, Lib.atoiAll s.data.toList = .ok v
  · obtain ⟨v, hv⟩ := h
    have bv := Lib.atoiAll_bounds hv
    have A := Lib.hid (atoi_ok s v w hs hv)
    by_cases h1 : Lib.itoa v = s.data.toList
    · by_cases h2 : (trimA s).size ≤ 9
      · have E := Lib.hid (show progNum s.data.toList = some v by unfold progNum; rw [hv]; rw [trimA_size] at h2; simp [h1, h2])
        have H1 := Lib.hid h1
        clear hv h1 hl
        obtain ⟨bv1, bv2⟩ := bv
        go_enter Tryd.func38, Tryd.ntmps38
        go_wp2_with fail
        refine A.out.mono ?_
        rintro e w1 ⟨rfl, hb1⟩
        have B1 := Lib.hid hb1
        clear hb1
        go_wp2_with fail
        refine (itoa_any v w1 bv1 bv2 (HL.out.below B1.out).tabs).mono ?_
        rintro e w2 ⟨x, rfl, hx, _, hb2⟩
        have hxs : x = s := by
          have : x.data.toList = s.data.toList := hx.trans H1.out
          cases x; cases s; simpa using this
        have B2 := Lib.hid (B1.out.trans (hb2.mono B1.out.size))
        clear hx hb2
        go_wp2_with fail
        refine (trim_any s w2).mono ?_
        rintro e w3 ⟨rfl, rfl⟩
        have h9 : ((trimA s).size : Int) ≤ 9 := by omega
        go_wp2_with fail
        go_ret2
        exact ⟨v, by rw [E.out]; rfl, fun u hu => by rw [E.out] at hu; simpa using hu, B2.out⟩
      · have E := Lib.hid (show progNum s.data.toList = none by unfold progNum; rw [hv]; rw [trimA_size] at h2; simp [h2])
        have H1 := Lib.hid h1
        clear hv h1 hl
        obtain ⟨bv1, bv2⟩ := bv
        go_enter Tryd.func38, Tryd.ntmps38
        go_wp2_with fail
        refine A.out.mono ?_
        rintro e w1 ⟨rfl, hb1⟩
        have B1 := Lib.hid hb1
        clear hb1
        go_wp2_with fail
        refine (itoa_any v w1 bv1 bv2 (HL.out.below B1.out).tabs).mono ?_
        rintro e w2 ⟨x, rfl, hx, _, hb2⟩
        have hxs : x = s := by
          have : x.data.toList = s.data.toList := hx.trans H1.out
          cases x; cases s; simpa using this
        have B2 := Lib.hid (B1.out.trans (hb2.mono B1.out.size))
        clear hx hb2
        go_wp2_with fail
        refine (trim_any s w2).mono ?_
        rintro e w3 ⟨rfl, rfl⟩
        have h9 : decide (((trimA s).size : Int) ≤ 9) = false := by rw [decide_eq_false_iff_not]; omega
        go_wp2_with fail
        go_ret2
        exact ⟨v, by rw [E.out]; rfl, fun u hu => by rw [E.out] at hu; simp at hu, B2.out⟩
    · have E := Lib.hid (show progNum s.data.toList = none by unfold progNum; rw [hv]; simp [h1])
      have H1 := Lib.hid h1
      clear hv h1 hl
      obtain ⟨bv1, bv2⟩ := bv
      go_enter Tryd.func38, Tryd.ntmps38
      go_wp2_with fail
      refine A.out.mono ?_
      rintro e w1 ⟨rfl, hb1⟩
      have B1 := Lib.hid hb1
      clear hb1
      go_wp2_with fail
      refine (itoa_any v w1 bv1 bv2 (HL.out.below B1.out).tabs).mono ?_
      rintro e w2 ⟨x, rfl, hx, _, hb2⟩
      have hxs : (x.toList == s.toList) = false := str_ne (fun y => H1.out (by rw [← y]; exact hx.symm))
      have B2 := Lib.hid (B1.out.trans (hb2.mono B1.out.size))
      clear hx hb2
      go_wp2_with fail
      go_ret2
      exact ⟨v, by rw [E.out]; rfl, fun u hu => by rw [E.out] at hu; simp at hu, B2.out⟩
  · have hn : ∀ v, Lib.atoiAll s.data.toList ≠ .ok v := fun v y => h ⟨v, y⟩
    have E := Lib.hid (show progNum s.data.toList = none by
      unfold progNum
      cases hx : Lib.atoiAll s.data.toList with
      | ok v => exact absurd hx (hn v)
      | range => rfl
      | _ => rfl)
    have A := Lib.hid (atoi_bad s w hs hn hl)
    clear hn h hl
    go_enter Tryd.func38, Tryd.ntmps38
    go_wp2_with fail
    refine A.out.mono ?_
    rintro e w1 ⟨n, t, p, rfl, hb1⟩
    have B1 := Lib.hid hb1
    clear hb1
    go_wp2_with fail
    go_ret2
    exact ⟨n, by rw [E.out]; rfl, fun u hu => by rw [E.out] at hu; simp at hu, B1.out⟩

end Go.Proofs.YtifibhaalepmgaaDoor
