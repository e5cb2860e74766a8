/-
  The reference's OctetsOf, and the walk of ScriptOctets. Conditions: Go's own ErrSyntax is laid.
-/
import Derived.Test.YtifibhaalepmgaaDoorQuotedW
import Derived.Test.YtifibhaalepmgaaDoorOctetsRoundW
import Derived.Test.YtifibhaalepmgaaDoorLibOf
namespace Go.Proofs.YtifibhaalepmgaaDoor
open Go Go.RowKit Go.ChangeShapes Go.WideShapes Go.ChangeAt
set_option linter.unusedVariables false

theorem quote_pf : ∀ (y x t : List UInt8), x.flatMap esc ++ [34] = y.flatMap esc ++ 34 :: t → t = []
  | [], [], t, h => by
    have := (List.cons.inj h).2
    exact this.symm
  | [], z :: x, t, h => by
    rw [List.flatMap_cons] at h
    rcases esc_kinds z with ⟨_, e⟩ | ⟨n, _, e⟩ | ⟨_, _, e⟩
    · rw [e] at h; exact absurd (List.cons.inj h).1 (by decide)
    · rw [e] at h; exact absurd (List.cons.inj h).1 n
    · rw [e] at h; exact absurd (List.cons.inj h).1 (by decide)
  | c :: y, [], t, h => by
    rw [List.flatMap_cons (xs := y)] at h
    rcases esc_kinds c with ⟨_, e⟩ | ⟨n, _, e⟩ | ⟨_, _, e⟩
    · rw [e] at h; exact absurd (List.cons.inj h).1 (by decide)
    · rw [e] at h; exact absurd (List.cons.inj h).1.symm n
    · rw [e] at h; exact absurd (List.cons.inj h).1 (by decide)
  | c :: y, z :: x, t, h => by
    rw [List.flatMap_cons, List.flatMap_cons, List.append_assoc, List.append_assoc] at h
    have ih := quote_pf y x t
    rcases esc_kinds z with ⟨hz, e⟩ | ⟨z1, z2, e⟩ | ⟨z1, z2, e⟩
    · rcases esc_kinds c with ⟨hc, f⟩ | ⟨c1, c2, f⟩ | ⟨c1, c2, f⟩
      · rw [e, f] at h
        simp only [List.cons_append, List.nil_append, List.cons.injEq] at h
        exact ih h.2.2
      · rw [e, f] at h
        simp only [List.cons_append, List.nil_append, List.cons.injEq] at h
        exact absurd h.1.symm c2
      · rw [e, f] at h
        simp only [List.cons_append, List.nil_append, List.cons.injEq] at h
        rw [h.2.1] at hz
        exact absurd hz (by decide)
    · rcases esc_kinds c with ⟨hc, f⟩ | ⟨c1, c2, f⟩ | ⟨c1, c2, f⟩
      · rw [e, f] at h
        simp only [List.cons_append, List.nil_append, List.cons.injEq] at h
        exact absurd h.1 z2
      · rw [e, f] at h
        simp only [List.cons_append, List.nil_append, List.cons.injEq] at h
        exact ih h.2
      · rw [e, f] at h
        simp only [List.cons_append, List.nil_append, List.cons.injEq] at h
        exact absurd h.1 z2
    · rcases esc_kinds c with ⟨hc, f⟩ | ⟨c1, c2, f⟩ | ⟨c1, c2, f⟩
      · rw [e, f] at h
        simp only [List.cons_append, List.nil_append, List.cons.injEq] at h
        rw [← h.2.1] at hc
        exact absurd hc (by decide)
      · rw [e, f] at h
        simp only [List.cons_append, List.nil_append, List.cons.injEq] at h
        exact absurd h.1.symm c2
      · rw [e, f] at h
        simp only [hex2, List.cons_append, List.nil_append, List.cons.injEq] at h
        exact ih h.2.2.2.2
theorem quoteL_pf {x y t : List UInt8} (h : quoteL x = quoteL y ++ t) : t = [] := by
  refine quote_pf y x t ?_
  unfold quoteL at h
  simp only [List.cons_append, List.append_assoc, List.cons.injEq, true_and, List.nil_append] at h
  exact h

theorem quote_one {s : ByteArray} {bs : List UInt8} (h : s.data.toList = quoteL bs) : s = ⟨(quoteL bs).toArray⟩ := bytes_eq (by rw [h])
theorem octE_is {s : ByteArray} {bs : List UInt8} (h : s.data.toList = quoteL bs) (hs : s.size ≤ 200000) : octE s = 0 ∧ unqL s = bs := by
  have e := quote_one h
  have el : s.data.toList.length = s.size := Array.length_toList
  rw [h] at el
  rw [e, octE_quote, unqL_back, if_neg (by omega)]
  exact ⟨rfl, rfl⟩
theorem octE_not {s : ByteArray} (h : ∀ bs, s.data.toList ≠ quoteL bs) (hs : s.size ≤ 200000) : octE s = 8 := by
  unfold octE
  rw [if_neg (by omega)]
  split
  · rfl
  · split
    · rfl
    · split
      · rfl
      · rw [if_pos (fun e => h _ e.symm)]

theorem octOk {s : ByteArray} {w w' : World} (v : Value) (h : octE s = 0) (hb : Below w.heap.size w w') (ho : w'.ownsRow w.heap.size 5 1 v (unqL s).length (Lib.byteCells (unqL s))) : OctPost s w (.returned (.tuple #[v, .int .i64 0])) w' :=
  ⟨v, by rw [h], hb, fun e => absurd h e, fun _ => ho⟩

set_option maxHeartbeats 2000000 in
set_option maxRecDepth 100000 in
theorem octetsOf_any (s : ByteArray) (w : World) (he : ErrAt w) : Calls Tryd.prog 14 #[.string s] w (OctPost s w) := by
  by_cases h1 : 200000 < s.size
  · have E := Lib.hid (show octE s = 4 from by unfold octE; rw [if_pos h1])
    have h1' : (200000 : Int) < (s.size : Int) := by omega
    clear h1
    go_enter Tryd.func14, Tryd.ntmps14
    go_wp2
    go_ret2
    exact octNone E.out (by decide) (Below.refl _ _)
  · have h1' : ¬ (200000 : Int) < (s.size : Int) := by omega
    have QW := Lib.hid (quoted_any s w (by omega) he)
    have hs := Lib.hid (show s.size ≤ 200000 by omega)
    clear h1 he
    go_enter Tryd.func14, Tryd.ntmps14
    go_wp2_with fail
    refine QW.out.mono ?_
    rintro e w1 ⟨v, rest, ok, rfl, hb, ⟨rfl, bs, hq, hbl, how⟩ | ⟨rfl, hnq⟩⟩
    · have B1 := Lib.hid hb
      have OW := Lib.hid how
      have HQ := Lib.hid hq
      clear hb how hq
      by_cases hr : rest.toList = []
      · have E := Lib.hid (octE_is (bs := bs) (by rw [HQ.out, ← ByteArray.toList_eq, hr, List.append_nil]) hs.out)
        go_wp2_with fail
        go_ret2
        exact octOk v E.out.1 B1.out (by rw [E.out.2]; exact OW.out)
      · have hr1 : rest.toList.isEmpty = false := by simpa using hr
        have E := Lib.hid (octE_not (s := s) (fun bs2 h2 => hr (by
          rw [ByteArray.toList_eq]
          exact quoteL_pf (h2.symm.trans HQ.out))) hs.out)
        go_wp2_with fail
        go_ret2
        exact octNone E.out (by decide) B1.out
    · have E := Lib.hid (octE_not (s := s) (fun bs2 h2 => hnq bs2 [] (by rw [h2, List.append_nil])) hs.out)
      have B1 := Lib.hid hb
      clear hb hnq
      go_wp2_with fail
      go_ret2
      exact octNone E.out (by decide) B1.out

theorem laid_oct {W : World} (h0 : laidMetH Tryd.prog Rows.scriptOctetsUptoRow.laid W) : ErrAt W := by
  have h : laidMet Tryd.prog Rows.scriptOctetsUptoRow.laid W := by
    rw [← MakeChecks.laidMetH_plain _ _ _ (by kernel_rfl)]; exact h0
  exact sent (g := 6) h.tail.tail.tail.tail (by kernel_rfl) (by kernel_rfl)

set_option maxHeartbeats 2000000 in
set_option maxRecDepth 100000 in
theorem scriptOctets (v : Value) (bs : List UInt8) (s : ByteArray) (w : World) (hr : Reads w .u8 v (ints bs)) (hlen : bs.length ≤ 10000000000) (he : ErrAt w) :
    Calls Tryd.prog 4 #[v, .string s] w (LawPost w) := by
  have HR := Lib.hid hr
  have P1 := Lib.hid (octets_any s w)
  have P2 : Hid (∀ w', Below w.heap.size w w' → Calls Tryd.prog 14 #[.string s] w' (OctPost s w')) := Lib.hid (fun w' hb => octetsOf_any s w' (he.below hb))
  have Q1 : Hid (∀ w', Below w.heap.size w w' → Calls Tryd.prog 16 #[v] w' (QuotePost bs w')) := Lib.hid (fun w' hb => quote_any v bs w' (HR.out.below hb rfl) hlen)
  have Q2 : Hid (∀ w', Below w.heap.size w w' → Calls Tryd.prog 17 #[v] w' (QuotePost bs w')) := Lib.hid (fun w' hb => quoteOf_any v bs w' (HR.out.below hb rfl) hlen)
  clear hr he
  go_enter Tryd.func4, Tryd.ntmps4
  go_wp2_with fail
  refine P1.out.mono ?_
  rintro e w1 ⟨v1, rfl, hb1, hn1, ho1⟩
  have B1 := Lib.hid hb1
  go_wp2_with fail
  refine (P2.out _ B1.out).mono ?_
  rintro e w2 ⟨v2, rfl, hb2, hn2, ho2⟩
  have B2 := Lib.hid (B1.out.trans (hb2.mono B1.out.size))
  have RD : Hid (∃ xs, Reads w2 .u8 v1 xs ∧ Reads w2 .u8 v2 xs) := Lib.hid (by
    by_cases h0 : octE s = 0
    · have hl : (unqL s).length ≤ 9223372036854775807 := by
        have hs : s.size ≤ 200000 := by
          by_cases hz : 200000 < s.size
          · exfalso
            have : octE s = 4 := by unfold octE; rw [if_pos hz]
            omega
          · omega
        have := unq_len s.size s.data.toList 1
        have e : (unqL s).length = (unq s.size s.data.toList 1).length := rfl
        omega
      refine ⟨ints (unqL s), Reads.own (by rw [ints_len]; simpa [ints, Lib.byteCells, Function.comp_def] using ownsRow_keep (ho1 h0) hb2) (by rw [ints_len]; exact hl), Reads.own (by rw [ints_len]; simpa [ints, Lib.byteCells, Function.comp_def] using ho2 h0) (by rw [ints_len]; exact hl)⟩
    · rw [hn1 h0, hn2 h0]
      exact ⟨[], ⟨none, 0, rfl, by simp, fun h => absurd rfl h⟩, ⟨none, 0, rfl, by simp, fun h => absurd rfl h⟩⟩)
  clear hb1 hn1 ho1 hb2 hn2 ho2
  obtain ⟨xs, r1, r2⟩ := RD.out
  have EQ := equal_byte v1 v2 xs xs w2 r1 r2
  rw [decide_eq_true (rfl : xs = xs)] at EQ
  have HEQ := Lib.hid EQ
  clear EQ r1 r2
  go_wp2_with fail
  refine HEQ.out.mono ?_
  rintro e w3 ⟨rfl, q, rfl⟩
  have B3 := Lib.hid (bdrewN B2.out q)
  go_wp2_with fail
  refine (Q1.out _ B3.out).mono ?_
  rintro e w4 ⟨rfl, hb4⟩
  have B4 := Lib.hid (B3.out.trans (hb4.mono B3.out.size))
  clear hb4
  go_wp2_with fail
  refine (Q2.out _ B4.out).mono ?_
  rintro e w5 ⟨rfl, hb5⟩
  have B5 := Lib.hid (B4.out.trans (hb5.mono B4.out.size))
  clear hb5
  go_wp2_with fail
  go_ret
  exact ⟨by first | rfl | exact ret_bool (by simp), B5.out⟩

theorem scriptOctetsC (v : Value) (zs : List Int) (s : ByteArray) (w : World) (hr : RowIn w .u8 1 v zs) (hlen : zs.length ≤ 1048576) (_ : s.size ≤ maxLen) (he : ErrAt w) :
    Calls Tryd.prog 4 #[v, .string s] w (LawPost w) := by
  refine scriptOctets v (zs.map fun z => z.toNat.toUInt8) s w ?_ (by simp; omega) he
  rw [ints_back zs hr.wf]
  exact hr.reads

end Go.Proofs.YtifibhaalepmgaaDoor
