/-
  The reference's reader of a number: Digits. Conditions: Go's own variables hold what their initialisers lay.
-/
import Derived.Test.YtifibhaalepmgaaDoorNumW
namespace Go.Proofs.YtifibhaalepmgaaDoor
open Go.RowKit
set_option linter.unusedVariables false

theorem trimD_le (s : List UInt8) : (trimD s).length ≤ s.length := by
  unfold trimD
  cases s with
  | nil => simp
  | cons c r => by_cases hc : c = 45 <;> simp [hc]
theorem num_none {s : List UInt8} (h : refBad s) : progNum s = none := by
  cases hx : progNum s with
  | none => rfl
  | some n =>
    exfalso
    unfold progNum at hx
    cases ha : Lib.atoiAll s with
    | ok v =>
      rw [ha] at hx
      simp only at hx
      by_cases hc : Lib.itoa v = s ∧ (trimD s).length ≤ 9
      · have := itoa_fine v (by rw [hc.1]; exact hc.2)
        rw [hc.1] at this
        exact this h
      · rw [if_neg hc] at hx; cases hx
    | range => rw [ha] at hx; cases hx
    | _ => rw [ha] at hx; cases hx
theorem num_fine {s : List UInt8} (h : ¬ refBad s) : (∀ v, Lib.atoiAll s = .ok v → progNum s = some v) ∧ ((∀ v, Lib.atoiAll s ≠ .ok v) → progNum s = none) := by
  have h2 : (trimD s).length ≤ 9 := by
    by_cases x : (trimD s).length ≤ 9
    · exact x
    · exact absurd (Or.inr (Or.inl (by omega))) h
  refine ⟨fun v hv => ?_, fun hv => ?_⟩
  · unfold progNum
    rw [hv]
    simp [fine_itoa h hv, h2]
  · unfold progNum
    cases ha : Lib.atoiAll s with
    | ok v => exact absurd ha (hv v)
    | range => rfl
    | _ => rfl

def digs : ByteArray := { data := #[48, 49, 50, 51, 52, 53, 54, 55, 56, 57] }
theorem digs_has (c : UInt8) : digs.data.toList.contains c = digitB c := by
  have h : ∀ n : Fin 256, digs.data.toList.contains (UInt8.ofNat n.val) = digitB (UInt8.ofNat n.val) := by decide +kernel
  have := h ⟨c.toNat, c.toNat_lt⟩
  simpa using this
theorem dropWhile_nil {p : UInt8 → Bool} : ∀ {l : List UInt8}, l.dropWhile p = [] ↔ l.all p = true
  | [] => by simp
  | x :: l => by
    rw [List.dropWhile_cons]
    by_cases h : p x = true
    · rw [if_pos h, dropWhile_nil, List.all_cons, h, Bool.true_and]
    · rw [if_neg h]; simp [h]
theorem dropWhile_head {p : UInt8 → Bool} : ∀ {l : List UInt8} {x : UInt8} {r : List UInt8}, l.dropWhile p = x :: r → p x = false
  | [], _, _, h => by simp at h
  | y :: l, x, r, h => by
    rw [List.dropWhile_cons] at h
    by_cases hy : p y = true
    · rw [if_pos hy] at h; exact dropWhile_head h
    · rw [if_neg hy] at h
      simp only [List.cons.injEq] at h
      rw [← h.1]; simpa using hy
theorem trimS_nil (l : List UInt8) : Lib.trimS l digs.data.toList = [] ↔ l.all digitB = true := by
  have e : (fun c => digs.data.toList.contains c) = digitB := funext digs_has
  unfold Lib.trimS Lib.trimLeftS Lib.trimRightS
  rw [show (digs.data.toList.contains ·) = digitB from e]
  constructor
  · intro h
    have h1 := dropWhile_nil.1 h
    cases hx : l.reverse.dropWhile digitB with
    | nil =>
      have := dropWhile_nil.1 hx
      simpa using this
    | cons x r =>
      have h2 := dropWhile_head hx
      rw [hx] at h1
      simp [h2] at h1
  · intro h
    have : l.reverse.dropWhile digitB = [] := dropWhile_nil.2 (by simpa using h)
    rw [this]
    rfl

def digA (s : ByteArray) : ByteArray := ⟨(Lib.trimS s.data.toList digs.data.toList).toArray⟩
theorem trimSet_any (s : ByteArray) (w : World) (hs : s.size ≤ 1000000) :
    Calls Tryd.prog 63 #[.string s, .string digs] w (fun e w' => e = .returned (.string (digA s)) ∧ Below w.heap.size w w') :=
  Any.strings_Trim_laid Tryd.lays160 (by kernel_rfl) s digs w (by omega) (by decide) (ascii_of_all (by decide))

/-- What Atoi gives, with the number that is read. -/
def AtoPost (s : ByteArray) (w : World) : Ending → World → Prop := fun e w' => ∃ n ev, e = .returned (.tuple #[.int .i64 n, ev]) ∧ ((∃ v, n = v ∧ ev = .nilIface ∧ progNum s.data.toList = some v) ∨ (∃ t q, ev = .iface t (.pointer (some q)) ∧ progNum s.data.toList = none)) ∧ Below w.heap.size w w'
theorem num_bad (s : ByteArray) (w : World) (h : refBad s.data.toList) (w' : World) (hb : Below w.heap.size w w') : NumPost s w (.returned (.tuple #[.int .i64 0, .bool false])) w' := by
  have e := num_none h
  exact ⟨0, by rw [e]; rfl, (fun v hv => by rw [e] at hv; cases hv), hb⟩

set_option maxHeartbeats 1000000 in
set_option maxRecDepth 100000 in
theorem digits_A (s a : ByteArray) (w : World) (hat : trimA s = a) (hd : Calls Tryd.prog 63 #[.string a, .string digs] w (fun e w' => e = .returned (.string (digA a)) ∧ Below w.heap.size w w')) (hr : refBad s.data.toList) (h : a.toList = []) :
    Calls Tryd.prog 45 #[.string s, .int .i64 9] w (NumPost s w) := by
  have HAT := Lib.hid hat
  have HD := Lib.hid hd
  clear hat hd
  have HR := Lib.hid hr
  have BAD := Lib.hid (num_bad s w)
  clear hr
  go_enter Tryd.func45, Tryd.ntmps45
  go_wp2_with fail
  refine (trim_any s w).mono ?_
  rintro e w1 ⟨rfl, rfl⟩
  rw [HAT.out]
  go_wp2_with fail
  go_ret2
  exact BAD.out HR.out _ (Below.refl _ _)

set_option maxHeartbeats 1000000 in
set_option maxRecDepth 100000 in
theorem digits_B (s a : ByteArray) (w : World) (hat : trimA s = a) (hd : Calls Tryd.prog 63 #[.string a, .string digs] w (fun e w' => e = .returned (.string (digA a)) ∧ Below w.heap.size w w')) (hr : refBad s.data.toList) (h1 : a.toList ≠ []) (h : 9 < (a.size : Int)) :
    Calls Tryd.prog 45 #[.string s, .int .i64 9] w (NumPost s w) := by
  have HAT := Lib.hid hat
  have HD := Lib.hid hd
  clear hat hd
  have HR := Lib.hid hr
  have BAD := Lib.hid (num_bad s w)
  clear hr
  have h1' : a.toList.isEmpty = false := by simpa using h1
  go_enter Tryd.func45, Tryd.ntmps45
  go_wp2_with fail
  refine (trim_any s w).mono ?_
  rintro e w1 ⟨rfl, rfl⟩
  rw [HAT.out]
  go_wp2_with fail
  go_ret2
  exact BAD.out HR.out _ (Below.refl _ _)

set_option maxHeartbeats 1000000 in
set_option maxRecDepth 100000 in
theorem digits_C (s a : ByteArray) (w : World) (hat : trimA s = a) (hd : Calls Tryd.prog 63 #[.string a, .string digs] w (fun e w' => e = .returned (.string (digA a)) ∧ Below w.heap.size w w')) (hr : refBad s.data.toList) (h1 : a.toList ≠ []) (h2 : (a.size : Int) ≤ 9) (h : (digA a).toList ≠ []) :
    Calls Tryd.prog 45 #[.string s, .int .i64 9] w (NumPost s w) := by
  have HAT := Lib.hid hat
  have HD := Lib.hid hd
  clear hat hd
  have HR := Lib.hid hr
  have BAD := Lib.hid (num_bad s w)
  clear hr
  have h1' : a.toList.isEmpty = false := by simpa using h1
  have h' : (digA a).toList.isEmpty = false := by simpa using h
  go_enter Tryd.func45, Tryd.ntmps45
  go_wp2_with fail
  refine (trim_any s w).mono ?_
  rintro e w1 ⟨rfl, rfl⟩
  rw [HAT.out]
  go_wp2_with fail
  refine HD.out.mono ?_
  rintro e w2 ⟨rfl, hb2⟩
  have HB2 := Lib.hid hb2
  clear hb2
  go_wp2_with fail
  go_ret2
  exact BAD.out HR.out _ HB2.out

set_option maxHeartbeats 1000000 in
set_option maxRecDepth 100000 in
theorem digits_D (s a : ByteArray) (w : World) (hat : trimA s = a) (hd : Calls Tryd.prog 63 #[.string a, .string digs] w (fun e w' => e = .returned (.string (digA a)) ∧ Below w.heap.size w w')) (hr : refBad s.data.toList) (h1 : a.toList ≠ []) (h2 : (a.size : Int) ≤ 9) (h3 : (digA a).toList = []) (h : 1 < (a.size : Int)) (hx : ∀ y : 0 < a.size, ((a[0]'y).toNat : Int) = 48) :
    Calls Tryd.prog 45 #[.string s, .int .i64 9] w (NumPost s w) := by
  have HAT := Lib.hid hat
  have HD := Lib.hid hd
  clear hat hd
  have HR := Lib.hid hr
  have BAD := Lib.hid (num_bad s w)
  clear hr
  have h1' : a.toList.isEmpty = false := by simpa using h1
  go_enter Tryd.func45, Tryd.ntmps45
  go_wp2_with fail
  refine (trim_any s w).mono ?_
  rintro e w1 ⟨rfl, rfl⟩
  rw [HAT.out]
  go_wp2_with fail
  refine HD.out.mono ?_
  rintro e w2 ⟨rfl, hb2⟩
  have HB2 := Lib.hid hb2
  clear hb2
  go_wp2_with fail
  go_ret2
  exact BAD.out HR.out _ HB2.out

set_option maxHeartbeats 1000000 in
set_option maxRecDepth 100000 in
theorem digits_F1 (s a : ByteArray) (w : World) (hat : trimA s = a) (hd : Calls Tryd.prog 63 #[.string a, .string digs] w (fun e w' => e = .returned (.string (digA a)) ∧ Below w.heap.size w w')) (hr : refBad s.data.toList) (h1 : a.toList ≠ []) (h2 : (a.size : Int) ≤ 9) (h3 : (digA a).toList = []) (h : (a.size : Int) ≤ 1) (hx : a.toList = [48]) (hy : (s.toList == [48]) = false) :
    Calls Tryd.prog 45 #[.string s, .int .i64 9] w (NumPost s w) := by
  have HAT := Lib.hid hat
  have HD := Lib.hid hd
  clear hat hd
  have HR := Lib.hid hr
  have BAD := Lib.hid (num_bad s w)
  clear hr
  have h1' : a.toList.isEmpty = false := by simpa using h1
  go_enter Tryd.func45, Tryd.ntmps45
  go_wp2_with fail
  refine (trim_any s w).mono ?_
  rintro e w1 ⟨rfl, rfl⟩
  rw [HAT.out]
  go_wp2_with fail
  refine HD.out.mono ?_
  rintro e w2 ⟨rfl, hb2⟩
  have HB2 := Lib.hid hb2
  clear hb2
  go_wp2_with fail
  go_ret2
  exact BAD.out HR.out _ HB2.out

set_option maxHeartbeats 1000000 in
set_option maxRecDepth 100000 in
theorem digits_E (s a : ByteArray) (w : World) (hat : trimA s = a) (hd : Calls Tryd.prog 63 #[.string a, .string digs] w (fun e w' => e = .returned (.string (digA a)) ∧ Below w.heap.size w w')) (ato : ∀ w2, Below w.heap.size w w2 → Calls Tryd.prog 57 #[.string s] w2 (AtoPost s w)) (h1 : a.toList ≠ []) (h2 : (a.size : Int) ≤ 9) (h3 : (digA a).toList = []) (h : 1 < (a.size : Int)) (c : Int) (hx : ∀ y : 0 < a.size, ((a[0]'y).toNat : Int) = c) (hc : (c == 48) = false) (hl : (a.toList == [48]) = false) :
    Calls Tryd.prog 45 #[.string s, .int .i64 9] w (NumPost s w) := by
  have HAT := Lib.hid hat
  have HD := Lib.hid hd
  clear hat hd
  have ATO := Lib.hid ato
  clear ato
  have h1' : a.toList.isEmpty = false := by simpa using h1
  go_enter Tryd.func45, Tryd.ntmps45
  go_wp2_with fail
  refine (trim_any s w).mono ?_
  rintro e w1 ⟨rfl, rfl⟩
  rw [HAT.out]
  go_wp2_with fail
  refine HD.out.mono ?_
  rintro e w2 ⟨rfl, hb2⟩
  have HB2 := Lib.hid hb2
  clear hb2
  go_wp2_with fail
  refine (ATO.out w2 HB2.out).mono ?_
  rintro e w3 ⟨n, ev, rfl, hev, hb3⟩
  have HEV := Lib.hid hev
  have HB3 := Lib.hid hb3
  clear hb3
  rcases hev with ⟨v, rfl, rfl, hx⟩ | ⟨t, q, rfl, hx⟩
  · have HX := Lib.hid hx
    clear hx HEV
    go_wp2_with fail
    go_quiet (fail)
    go_wp2_with fail
    go_ret2
    exact ⟨_, by rw [HX.out]; rfl, fun u hu => by rw [HX.out] at hu; simpa using hu, bdrewN HB3.out _⟩
  · have HX := Lib.hid hx
    clear hx HEV
    go_wp2_with fail
    go_quiet (fail)
    go_wp2_with fail
    go_ret2
    exact ⟨_, by rw [HX.out]; rfl, fun u hu => by rw [HX.out] at hu; simp at hu, bdrewN HB3.out _⟩

set_option maxHeartbeats 1000000 in
set_option maxRecDepth 100000 in
theorem digits_F2 (s a : ByteArray) (w : World) (hat : trimA s = a) (hd : Calls Tryd.prog 63 #[.string a, .string digs] w (fun e w' => e = .returned (.string (digA a)) ∧ Below w.heap.size w w')) (ato : ∀ w2, Below w.heap.size w w2 → Calls Tryd.prog 57 #[.string s] w2 (AtoPost s w)) (h1 : a.toList ≠ []) (h2 : (a.size : Int) ≤ 9) (h3 : (digA a).toList = []) (h : (a.size : Int) ≤ 1) (hx : a.toList = [48]) (hy : s.toList = [48]) :
    Calls Tryd.prog 45 #[.string s, .int .i64 9] w (NumPost s w) := by
  have HAT := Lib.hid hat
  have HD := Lib.hid hd
  clear hat hd
  have ATO := Lib.hid ato
  clear ato
  have h1' : a.toList.isEmpty = false := by simpa using h1
  go_enter Tryd.func45, Tryd.ntmps45
  go_wp2_with fail
  refine (trim_any s w).mono ?_
  rintro e w1 ⟨rfl, rfl⟩
  rw [HAT.out]
  go_wp2_with fail
  refine HD.out.mono ?_
  rintro e w2 ⟨rfl, hb2⟩
  have HB2 := Lib.hid hb2
  clear hb2
  go_wp2_with fail
  refine (ATO.out w2 HB2.out).mono ?_
  rintro e w3 ⟨n, ev, rfl, hev, hb3⟩
  have HEV := Lib.hid hev
  have HB3 := Lib.hid hb3
  clear hb3
  rcases hev with ⟨v, rfl, rfl, hx⟩ | ⟨t, q, rfl, hx⟩
  · have HX := Lib.hid hx
    clear hx HEV
    go_wp2_with fail
    go_quiet (fail)
    go_wp2_with fail
    go_ret2
    exact ⟨_, by rw [HX.out]; rfl, fun u hu => by rw [HX.out] at hu; simpa using hu, bdrewN HB3.out _⟩
  · have HX := Lib.hid hx
    clear hx HEV
    go_wp2_with fail
    go_quiet (fail)
    go_wp2_with fail
    go_ret2
    exact ⟨_, by rw [HX.out]; rfl, fun u hu => by rw [HX.out] at hu; simp at hu, bdrewN HB3.out _⟩

set_option maxHeartbeats 1000000 in
set_option maxRecDepth 100000 in
theorem digits_G (s a : ByteArray) (w : World) (hat : trimA s = a) (hd : Calls Tryd.prog 63 #[.string a, .string digs] w (fun e w' => e = .returned (.string (digA a)) ∧ Below w.heap.size w w')) (ato : ∀ w2, Below w.heap.size w w2 → Calls Tryd.prog 57 #[.string s] w2 (AtoPost s w)) (h1 : a.toList ≠ []) (h2 : (a.size : Int) ≤ 9) (h3 : (digA a).toList = []) (h : (a.size : Int) ≤ 1) (hl : (a.toList == [48]) = false) :
    Calls Tryd.prog 45 #[.string s, .int .i64 9] w (NumPost s w) := by
  have HAT := Lib.hid hat
  have HD := Lib.hid hd
  clear hat hd
  have ATO := Lib.hid ato
  clear ato
  have h1' : a.toList.isEmpty = false := by simpa using h1
  go_enter Tryd.func45, Tryd.ntmps45
  go_wp2_with fail
  refine (trim_any s w).mono ?_
  rintro e w1 ⟨rfl, rfl⟩
  rw [HAT.out]
  go_wp2_with fail
  refine HD.out.mono ?_
  rintro e w2 ⟨rfl, hb2⟩
  have HB2 := Lib.hid hb2
  clear hb2
  go_wp2_with fail
  refine (ATO.out w2 HB2.out).mono ?_
  rintro e w3 ⟨n, ev, rfl, hev, hb3⟩
  have HEV := Lib.hid hev
  have HB3 := Lib.hid hb3
  clear hb3
  rcases hev with ⟨v, rfl, rfl, hx⟩ | ⟨t, q, rfl, hx⟩
  · have HX := Lib.hid hx
    clear hx HEV
    go_wp2_with fail
    go_quiet (fail)
    go_wp2_with fail
    go_ret2
    exact ⟨_, by rw [HX.out]; rfl, fun u hu => by rw [HX.out] at hu; simpa using hu, bdrewN HB3.out _⟩
  · have HX := Lib.hid hx
    clear hx HEV
    go_wp2_with fail
    go_quiet (fail)
    go_wp2_with fail
    go_ret2
    exact ⟨_, by rw [HX.out]; rfl, fun u hu => by rw [HX.out] at hu; simp at hu, bdrewN HB3.out _⟩

theorem digits_any (s : ByteArray) (w : World) (hs : s.size ≤ 1000000) (hl : LibAt w) :
    Calls Tryd.prog 45 #[.string s, .int .i64 9] w (NumPost s w) := by
  have hts : (trimA s).size ≤ 1000000 := by
    rw [trimA_size]
    have := trimD_le s.data.toList
    have e : s.data.toList.length = s.size := Array.length_toList
    omega
  have HD := trimSet_any (trimA s) w hts
  have ea : (trimA s).toList = trimD s.data.toList := by rw [ByteArray.toList_eq]; simp [trimA]
  have ed : (digA (trimA s)).toList = Lib.trimS (trimD s.data.toList) digs.data.toList := by rw [ByteArray.toList_eq]; simp [digA, trimA]
  have es : s.toList = s.data.toList := ByteArray.toList_eq s
  have el := trimA_size s
  have e0 : ∀ y : 0 < (trimA s).size, some ((trimA s)[0]'y) = (trimD s.data.toList).head? := by
    intro y
    have : (trimA s)[0]'y = (trimD s.data.toList)[0]'(by rw [← el]; exact y) := by simp [trimA]; rfl
    rw [this, List.head?_eq_getElem?, List.getElem?_eq_getElem]
  by_cases hA : trimD s.data.toList = []
  · exact digits_A s _ w rfl HD (Or.inl hA) (by rw [ea]; exact hA)
  by_cases hB : 9 < (trimD s.data.toList).length
  · exact digits_B s _ w rfl HD (Or.inr (Or.inl hB)) (by rw [ea]; exact hA) (by rw [el]; omega)
  by_cases hC : (trimD s.data.toList).all digitB = true
  case neg =>
    exact digits_C s _ w rfl HD (Or.inr (Or.inr (Or.inl hC))) (by rw [ea]; exact hA) (by rw [el]; omega) (by rw [ed]; exact fun x => hC ((trimS_nil _).1 x))
  have hC' : (digA (trimA s)).toList = [] := by rw [ed]; exact (trimS_nil _).2 hC
  by_cases hD : 1 < (trimD s.data.toList).length ∧ (trimD s.data.toList).head? = some 48
  · refine digits_D s _ w rfl HD (Or.inr (Or.inr (Or.inr (Or.inl hD)))) (by rw [ea]; exact hA) (by rw [el]; omega) hC' (by rw [el]; omega) (fun y => ?_)
    have := e0 y
    rw [hD.2] at this
    simp only [Option.some.injEq] at this
    rw [this]
    rfl
  by_cases hF : trimD s.data.toList = [48] ∧ s.data.toList ≠ [48]
  · refine digits_F1 s _ w rfl HD (Or.inr (Or.inr (Or.inr (Or.inr hF)))) (by rw [ea]; exact hA) (by rw [el]; omega) hC' (by rw [el, hF.1]; simp) (by rw [ea]; exact hF.1) (by rw [es]; simpa using hF.2)
  have hfine : ¬ refBad s.data.toList := by
    rintro (x | x | x | x | x)
    · exact hA x
    · exact hB x
    · exact x hC
    · exact hD x
    · exact hF x
  have hn := num_fine hfine
  have ato : ∀ w2, Below w.heap.size w w2 → Calls Tryd.prog 57 #[.string s] w2 (AtoPost s w) := by
    intro w2 hb
    by_cases hx : ∃ v, Lib.atoiAll s.data.toList = .ok v
    · obtain ⟨v, hv⟩ := hx
      exact (atoi_ok s v w2 hs hv).mono fun e w' ⟨he, hb'⟩ => ⟨v, _, he, Or.inl ⟨v, rfl, rfl, hn.1 v hv⟩, hb.trans (hb'.mono hb.size)⟩
    · exact (atoi_bad s w2 hs (fun v y => hx ⟨v, y⟩) (hl.below hb)).mono fun e w' ⟨n, t, q, he, hb'⟩ => ⟨n, _, he, Or.inr ⟨t, q, rfl, hn.2 (fun v y => hx ⟨v, y⟩)⟩, hb.trans (hb'.mono hb.size)⟩
  by_cases hlen : 1 < (trimD s.data.toList).length
  · have hy0 : 0 < (trimA s).size := by rw [el]; omega
    refine digits_E s _ w rfl HD ato (by rw [ea]; exact hA) (by rw [el]; omega) hC' (by rw [el]; omega) (((trimA s)[0]'hy0).toNat : Int) (fun y => rfl) ?_ ?_
    · rw [beq_eq_false_iff_ne]
      intro x
      have h48 : (trimA s)[0]'hy0 = 48 := by apply UInt8.toNat_inj.1; have : (48 : UInt8).toNat = 48 := rfl; omega
      have := e0 hy0
      rw [h48] at this
      exact hD ⟨hlen, this.symm⟩
    · rw [ea]
      rw [beq_eq_false_iff_ne]
      intro x
      rw [x] at hlen
      simp at hlen
  · by_cases hx : trimD s.data.toList = [48]
    · have hs48 : s.data.toList = [48] := by
        by_cases y : s.data.toList = [48]
        · exact y
        · exact absurd ⟨hx, y⟩ hF
      exact digits_F2 s _ w rfl HD ato (by rw [ea]; exact hA) (by rw [el]; omega) hC' (by rw [el]; omega) (by rw [ea]; exact hx) (by rw [es]; exact hs48)
    · exact digits_G s _ w rfl HD ato (by rw [ea]; exact hA) (by rw [el]; omega) hC' (by rw [el]; omega) (by rw [ea]; simpa using hx)

end Go.Proofs.YtifibhaalepmgaaDoor
