/-
  Room; how many slots of a slab are in use. No conditions but bounds.
  Next. No conditions but bounds.
  The slabs that are not used: Trim's closure; IndexFunc over them. No conditions but bounds.
-/
import Derived.Test.YtiaedonhbafpjaaTopSlabPbc

namespace Go.Proofs.Ytiaedonhbafpjaa
section
open Go.RowKit Go.Shelf
set_option linter.unusedVariables false

def usedN (l : List Cel) : Nat := (l.filter fun y => y.used).length
theorem usedN_take {l : List Cel} {k : Nat} {y : Cel} (hy : l[k]? = some y) : usedN (l.take (k + 1)) = usedN (l.take k) + if y.used then 1 else 0 := by
  unfold usedN
  have hk := (List.getElem?_eq_some_iff.1 hy).1
  rw [List.take_add_one, hy]
  simp only [Option.toList_some, List.filter_append, List.length_append]
  cases h : y.used <;> simp [h]
theorem usedN_le (l : List Cel) (k : Nat) : usedN (l.take k) ≤ l.length := by
  unfold usedN
  refine Nat.le_trans (List.length_filter_le _ _) ?_
  rw [List.length_take]
  omega

set_option maxHeartbeats 4000000 in
set_option maxRecDepth 100000 in
theorem used_any {w : World} {F : Nat → Prop} {S : CaSt} {x : Sl} (m : SlMem w F S x) (h64 : S.slots ≤ 64) :
    Calls Try.prog 37 #[.pointer (some ⟨x.p, 0, none⟩)] w (fun e w' => e = .returned (.int .i64 (usedN x.cl : Nat)) ∧ Below w.heap.size w w') := by
  have MM := Lib.hid m
  obtain ⟨c0, c1, c2, c3⟩ := m.cells
  have HL := Lib.hid m.cl
  obtain ⟨n, hn⟩ : ∃ n, S.slots = n := ⟨_, rfl⟩
  have HN := Lib.hid hn
  rw [hn] at c3 h64
  clear m hn c0 c1 c2
  go_enter Try.func37, Try.ntmps37
  go_wp2_with fail
  go_loopw [3, 11] (fun u i wr => ∃ k : Nat, k ≤ n ∧ i = .int .i64 (k : Int) ∧ u = .int .i64 (usedN (x.cl.take k) : Nat) ∧ Below w.heap.size w wr) (fun _ i _ => n - (intOf i).toNat)
  case atStart => exact ⟨0, Nat.zero_le _, rfl, rfl, Below.refl _ _⟩
  case round =>
    obtain ⟨k, hk, rfl, rfl, hb⟩ := hrel
    have HB := Lib.hid hb
    by_cases hlt : k < n
    · obtain ⟨y, hy⟩ : ∃ y, x.cl[k]? = some y := ⟨_, List.getElem?_eq_getElem (by have := HL.out; have := HN.out; omega)⟩
      have e := usedN_take hy
      have hle := usedN_le x.cl k
      rw [HL.out, HN.out] at hle
      obtain ⟨d0, d1, d2⟩ := ((MM.out.same (fun k _ hk => hb.block k hk)).cell hy)
      generalize usedN (x.cl.take k) = U at *
      cases hu : y.used with
      | true =>
        rw [hu] at e d2
        have HE := Lib.hid e
        clear e hb
        go_wp2_with fail
        go_roundw
        case measure => simp only [intOf]; omega
        case rel => exact ⟨k + 1, by omega, by go_num, by rw [HE.out]; simp only [if_true]; go_num, HB.out.alloc HB.out.size _⟩
      | false =>
        rw [hu] at e d2
        have HE := Lib.hid e
        clear e hb
        go_wp2_with fail
        go_roundw
        case measure => simp only [intOf]; omega
        case rel => exact ⟨k + 1, by omega, by go_num, by rw [HE.out]; rfl, HB.out.alloc HB.out.size _⟩
    · obtain rfl : k = n := by omega
      clear hlt hb
      go_wp2_with fail
      go_ret
      refine ⟨?_, HB.out⟩
      have e : x.cl.take k = x.cl := List.take_of_length_le (by have := HL.out; have := HN.out; omega)
      rw [e]
      rfl

theorem roomsOf_take {S : CaSt} {l : List Sl} {k : Nat} {x : Sl} (hx : l[k]? = some x) : roomsOf S (l.take (k + 1)) = roomsOf S (l.take k) + S.room x.cls := by
  unfold roomsOf
  rw [List.take_add_one, hx]
  simp
theorem roomsOf_le {S : CaSt} {B : Nat} : ∀ (l : List Sl), (∀ x ∈ l, S.room x.cls ≤ B) → roomsOf S l ≤ l.length * B
  | [], _ => by simp [roomsOf]
  | x :: l, h => by
    have h1 := roomsOf_le l (fun y hy => h y (List.mem_cons_of_mem _ hy))
    have h2 := h x List.mem_cons_self
    have h3 : roomsOf S (x :: l) = S.room x.cls + roomsOf S l := by simp [roomsOf]
    rw [h3, List.length_cons, Nat.succ_mul]
    omega

set_option maxHeartbeats 4000000 in
set_option maxRecDepth 100000 in
theorem roomS_any {w : World} {F : Nat → Prop} {c bp : Nat} {S : CaSt} {vc vs : Value} (m : CaMem w F c bp S vc vs) :
    Calls Try.prog 20 #[.pointer (some ⟨c, 0, none⟩)] w (fun e w' => e = .returned (.int .i64 (S.tot : Nat)) ∧ w' = w) := by
  have MM := Lib.hid m
  have c6 := m.cells.2.2.2.2.2.2
  obtain ⟨a, cap, rfl, hcap, hcap2, hrow⟩ := m.slice
  have HR := Lib.hid hrow
  have hfew := m.few.1
  have BD := Lib.hid (fun k => roomsOf_le (S := S) (B := 262144) (S.sl.take k) (fun x hx => (room_le m (m.nb x (List.mem_of_mem_take hx)).2.2).2))
  obtain ⟨n, hn⟩ : ∃ n, S.sl.length = n := ⟨_, rfl⟩
  have HN := Lib.hid hn
  rw [hn] at c6 hfew
  clear m hrow hn hcap
  go_enter Try.func20, Try.ntmps20
  go_wp2_with fail
  go_loopw [3, 11] (fun u i wr => ∃ k : Nat, k ≤ n ∧ i = .int .i64 (k : Int) ∧ u = .int .i64 (roomsOf S (S.sl.take k) : Nat) ∧ wr = w) (fun _ i _ => n - (intOf i).toNat)
  case atStart => exact ⟨0, Nat.zero_le _, rfl, rfl, rfl⟩
  case round =>
    obtain ⟨k, hk, rfl, rfl, hwr⟩ := hrel
    obtain rfl := hwr.symm
    clear hwr
    by_cases hlt : k < n
    · obtain ⟨x, hx⟩ : ∃ x, S.sl[k]? = some x := ⟨_, List.getElem?_eq_getElem (by have := HN.out; omega)⟩
      obtain ⟨g, rfl, d⟩ := HR.out k x hx
      have e := roomsOf_take (S := S) hx
      have b1 := BD.out k
      have b2 := (room_le MM.out (MM.out.nb x (List.mem_of_getElem? hx)).2.2).2
      rw [List.length_take, HN.out, Nat.min_eq_left hk] at b1
      have mx := MM.out.sl x (List.mem_of_getElem? hx)
      have d2 := mx.cells.2.2.1
      obtain ⟨U, hU⟩ : ∃ U, roomsOf S (S.sl.take k) = U := ⟨_, rfl⟩
      obtain ⟨R, hR⟩ : ∃ R, S.room x.cls = R := ⟨_, rfl⟩
      rw [hU, hR] at e
      rw [hU] at b1 ⊢
      rw [hR] at b2 d2
      have HE := Lib.hid e
      clear e mx hU hR hx
      go_wp2_with fail
      go_roundw
      case measure => simp only [intOf]; omega
      case rel => exact ⟨k + 1, by omega, by go_num, by rw [HE.out]; go_num, by trivial⟩
    · obtain rfl : k = n := by omega
      clear hlt
      go_wp2_with fail
      go_ret
      refine ⟨?_, rfl⟩
      have e : S.sl.take k = S.sl := List.take_of_length_le (by have := HN.out; omega)
      rw [e]
      rfl

end
end Go.Proofs.Ytiaedonhbafpjaa

namespace Go.Proofs.Ytiaedonhbafpjaa
section
open Go.RowKit Go.Shelf
set_option linter.unusedVariables false

theorem results_cell_tmp2 {fn : Func} {p u v : Tmp} {ty : TypeId} (h : fn.results = #[.cell p ty, .tmp u, .tmp v]) (tmps : Array Value) (P : Program) (w : World) :
    (results fn tmps).run P w =
      ((asAddr (tmps.getD p undef)).run P w).andThen fun a w₁ => ((loadVar ty a).run P w₁).andThen fun x w₂ => .ok (.tuple #[x, tmps.getD u undef, tmps.getD v undef]) w₂ := by
  simp only [results, h]
  simp [Sem.run_bind, Result.andThen]

def NxPost (S : CaSt) (k : Int) (w : World) : Ending → World → Prop := fun e w' => Below w.heap.size w w' ∧ ∃ a b c d : Int, ∃ t, e = .returned (.tuple #[.agg #[.int .i64 a, .int .i64 b, .int .i64 c, .int .i64 d], .bool t, .int .i64 (clsE S k)]) ∧
  (clsE S k = 0 → match freeOf S.sl (clsIdx S.classes k) with | none => t = false | some (x, i, y) => t = true ∧ a = (clsIdx S.classes k : Nat) ∧ b = (x.no : Int) ∧ c = (i : Int) ∧ d = (y.gen : Int))

set_option maxHeartbeats 4000000 in
set_option maxRecDepth 100000 in
theorem nextS_any {w : World} {F : Nat → Prop} {c bp : Nat} {S : CaSt} {vc vs : Value} (m : CaMem w F c bp S vc vs) (k : Int) :
    Calls Try.prog 7 #[.pointer (some ⟨c, 0, none⟩), .int .i64 k] w (NxPost S k w) := by
  have B0 : Below w.heap.size w (w.alloc (.cells #[.int .i64 0, .int .i64 0, .int .i64 0, .int .i64 0] 37)) := (Below.refl _ w).alloc (Nat.le_refl _) _
  have RS0 := heap_alloc_new w (.cells #[.int .i64 0, .int .i64 0, .int .i64 0, .int .i64 0] 37)
  have CF := Lib.hid (classFor_any (m.below B0) k)
  have HM := Lib.hid m
  clear m
  go_enter Try.func7, Try.ntmps7
  go_upto_region 1 with fail
  generalize w.alloc (.cells #[.int .i64 0, .int .i64 0, .int .i64 0, .int .i64 0] 37) = W0 at *
  have HB0 := Lib.hid B0
  have HRS := Lib.hid RS0
  clear B0 RS0
  obtain ⟨r, hr⟩ : ∃ r, w.heap.size = r := ⟨_, rfl⟩
  rw [hr] at HRS ⊢
  have HRR := Lib.hid hr
  clear hr
  have hge : w.heap.size ≤ r := by rw [HRR.out]; exact Nat.le_refl _
  by_cases hE : clsE S k = 0
  case neg =>
    have hE1 : (clsE S k != 0) = true := bne_iff_ne.2 hE
    have hE2 : (clsE S k == 0) = false := by simpa using hE
    obtain ⟨q0, q1, q2, q3⟩ := cells4 HRS.out
    have f0 := free_of HRS.out 0
    have f1 := free_of HRS.out 1
    have f2 := free_of HRS.out 2
    have f3 := free_of HRS.out 3
    have HEE := Lib.hid hE
    obtain ⟨E, hEe⟩ : ∃ E, clsE S k = E := ⟨_, rfl⟩
    have HE := Lib.hid hEe
    rw [hEe] at CF hE1 hE2
    generalize clsV S k = V at *
    clear hE hEe
    go_wp2_with fail
    refine CF.out.mono ?_
    rintro e w2 ⟨rfl, hw2⟩
    obtain rfl := hw2.symm
    clear hw2
    go_wp2_with fail
    (try simp only [Exit.inBlock, Exit.then])
    obtain ⟨p0, p1, p2, p3⟩ := cells4 (res4 (a := .int .i64 0) (b := .int .i64 0) (c := .int .i64 0) (d := .int .i64 0) HRS.out)
    refine bodyPost_ret (v := .tuple #[.agg #[.int .i64 0, .int .i64 0, .int .i64 0, .int .i64 0], .bool false, .int .i64 E]) ?_ rfl ⟨(((HB0.out.setCell (p := ⟨r, 0, none⟩) hge _).setCell (p := ⟨r, 1, none⟩) hge _).setCell (p := ⟨r, 2, none⟩) hge _).setCell (p := ⟨r, 3, none⟩) hge _, 0, 0, 0, 0, false, by rw [HE.out], fun h => absurd h HEE.out⟩
    rw [results_cell_tmp2 rfl]
    go_simp
  case pos =>
  have hV : clsV S k = ((clsIdx S.classes k : Nat) : Int) := by unfold clsV; rw [if_pos hE]
  have hcl := clsIdx_le S.classes k
  have hcl20 := (clsErr_all HM.out.cok).2.1
  rw [hV, hE] at CF
  have HEE := Lib.hid hE
  obtain ⟨cls, hcls⟩ : ∃ cls, clsIdx S.classes k = cls := ⟨_, rfl⟩
  have HCLS := Lib.hid hcls
  rw [hcls] at CF hcl
  have FR := Lib.hid (free_any (HM.out.below HB0.out) cls (by omega))
  clear hcls hV hE hcl hcl20
  go_wp2_with fail
  refine CF.out.mono ?_
  rintro e w2 ⟨rfl, hw2⟩
  obtain rfl := hw2.symm
  clear hw2 CF
  go_wp2_with fail
  refine FR.out.mono ?_
  rintro e w3 ⟨hb3, he⟩
  have HB3 := Lib.hid (HB0.out.trans (hb3.mono HB0.out.size))
  have R3 := (hb3.block _ (lt_of HRS.out)).trans HRS.out
  have hl3 := lt_of R3
  have hsz3 := HB3.out.size
  have HR3 := Lib.hid R3
  clear hb3 FR HRS HB0
  have go : ∀ (A B C D : Int) (t : Bool), e = .returned (.tuple #[.agg #[.int .i64 A, .int .i64 B, .int .i64 C, .int .i64 D], .bool t]) → True := fun _ _ _ _ _ _ => trivial
  obtain ⟨A, B, C, D, t, rfl, hm⟩ : ∃ A B C D : Int, ∃ t, e = .returned (.tuple #[.agg #[.int .i64 A, .int .i64 B, .int .i64 C, .int .i64 D], .bool t]) ∧ (match freeOf S.sl cls with | none => t = false | some (x, i, y) => t = true ∧ A = (cls : Int) ∧ B = (x.no : Int) ∧ C = (i : Int) ∧ D = (y.gen : Int)) := by
    cases hfo : freeOf S.sl cls with
    | none => rw [hfo] at he; exact ⟨0, 0, 0, 0, false, he, rfl⟩
    | some q =>
      obtain ⟨x, i, y⟩ := q
      rw [hfo] at he
      exact ⟨_, _, _, _, true, he, rfl, rfl, rfl, rfl, rfl⟩
  have HMM := Lib.hid hm
  clear he go hm
  have N4 := heap_alloc_new w3 (.cells #[.int .i64 A, .int .i64 B, .int .i64 C, .int .i64 D] 37)
  have R4 := (heap_alloc_old w3 (.cells #[.int .i64 A, .int .i64 B, .int .i64 C, .int .i64 D] 37) hl3).trans HR3.out
  have HB4 := Lib.hid (HB3.out.alloc hsz3 (.cells #[.int .i64 A, .int .i64 B, .int .i64 C, .int .i64 D] 37))
  have HR4 := Lib.hid R4
  clear HR3 R3
  go_upto_region 5 with fail
  obtain ⟨b0, b1, b2, b3⟩ := cells4 N4
  obtain ⟨q0, q1, q2, q3⟩ := cells4 R4
  have f0 := free_of R4 0
  have f1 := free_of R4 1
  have f2 := free_of R4 2
  have f3 := free_of R4 3
  generalize w3.alloc (.cells #[.int .i64 A, .int .i64 B, .int .i64 C, .int .i64 D] 37) = W4 at *
  clear N4 R4
  go_wp2_with fail
  (try simp only [Exit.inBlock, Exit.then])
  obtain ⟨p0, p1, p2, p3⟩ := cells4 (res4 (a := .int .i64 A) (b := .int .i64 B) (c := .int .i64 C) (d := .int .i64 D) HR4.out)
  refine bodyPost_ret (v := .tuple #[.agg #[.int .i64 A, .int .i64 B, .int .i64 C, .int .i64 D], .bool t, .int .i64 0]) ?_ rfl ⟨(((HB4.out.setCell (p := ⟨r, 0, none⟩) hge _).setCell (p := ⟨r, 1, none⟩) hge _).setCell (p := ⟨r, 2, none⟩) hge _).setCell (p := ⟨r, 3, none⟩) hge _, A, B, C, D, t, by rw [HEE.out], fun _ => by rw [HCLS.out]; exact HMM.out⟩
  rw [results_cell_tmp2 rfl]
  go_simp

end
end Go.Proofs.Ytiaedonhbafpjaa

namespace Go.Proofs.Ytiaedonhbafpjaa
section
open Go.RowKit Go.Shelf
set_option linter.unusedVariables false

def idle (x : Sl) : Bool := usedN x.cl == 0

set_option maxHeartbeats 1000000 in
set_option maxRecDepth 100000 in
theorem trim1_any {w : World} {F : Nat → Prop} {S : CaSt} {x : Sl} (m : SlMem w F S x) (h64 : S.slots ≤ 64) :
    Calls Try.prog 36 #[.pointer (some ⟨x.p, 0, none⟩)] w (fun e w' => e = .returned (.bool (idle x)) ∧ Below w.heap.size w w') := by
  have US := Lib.hid (used_any m h64)
  have hid : Hid (idle x = (((usedN x.cl : Nat) : Int) == 0)) := Lib.hid (by
    unfold idle
    cases h : usedN x.cl with
    | zero => rfl
    | succ k => simp; omega)
  clear m
  go_enter Try.func36, Try.ntmps36
  go_wp2_with fail
  refine US.out.mono ?_
  rintro e w2 ⟨rfl, hb⟩
  have HB := Lib.hid hb
  clear US hb
  go_wp2_with fail
  go_ret
  refine ⟨?_, HB.out⟩
  rw [hid.out]
  first | rfl | (congr 1; done) | simp

/-- Where the first idle slab stands. -/
def FiPost (l : List Sl) (w : World) : Ending → World → Prop := fun e w' => Below w.heap.size w w' ∧
  ((e = .returned (.int .i64 (-1)) ∧ ∀ x ∈ l, idle x = false) ∨ ∃ (i : Nat) (x : Sl), e = .returned (.int .i64 (i : Int)) ∧ l[i]? = some x ∧ idle x = true ∧ ∀ y ∈ l.take i, idle y = false)

set_option maxHeartbeats 1000000 in
set_option maxRecDepth 100000 in
theorem indexD_any {F : Nat → Prop} {S : CaSt} (h64 : S.slots ≤ 64) (g n cap : Nat) (l : List Sl) (w : World) (hn : l.length = n) (hl : n ≤ 500) (hc : ∀ k x, l[k]? = some x → w.cell? ⟨g, k, none⟩ = some (.pointer (some ⟨x.p, 0, none⟩))) (hm : ∀ x ∈ l, SlMem w F S x) :
    Calls Try.prog 67 #[.slice (some ⟨g, 0, none⟩) n cap, .func (.func 36) #[] #[]] w (FiPost l w) := by
  have HC := Lib.hid hc
  have HM := Lib.hid hm
  have HN := Lib.hid hn
  clear hc hn hm
  go_enter Try.func67, Try.ntmps67
  go_wp2_with fail
  go_loopw [8] (fun i wr => ∃ k : Nat, k ≤ n ∧ i = .int .i64 (k : Int) ∧ Below w.heap.size w wr ∧ ∀ y ∈ l.take k, idle y = false) (fun i _ => n - (intOf i).toNat)
  case atStart => exact ⟨0, Nat.zero_le _, rfl, Below.refl _ _, fun y hy => by simp at hy⟩
  case round =>
    obtain ⟨k, hk, rfl, hb, hf⟩ := hrel
    have HB := Lib.hid hb
    have HF := Lib.hid hf
    clear hf
    by_cases hlt : k < n
    · obtain ⟨x, hx⟩ : ∃ x, l[k]? = some x := ⟨_, List.getElem?_eq_getElem (by have := HN.out; omega)⟩
      have c0 := old_cell hb (HC.out k x hx)
      have TR := Lib.hid (trim1_any ((HM.out x (List.mem_of_getElem? hx)).same (fun k _ hk => hb.block k hk)) h64)
      have HX := Lib.hid hx
      clear hb hx
      go_wp2_with fail
      refine TR.out.mono ?_
      rintro e w2 ⟨rfl, hb2⟩
      have B2 := Lib.hid (HB.out.trans (hb2.mono HB.out.size))
      clear hb2 TR c0
      cases hu : idle x with
      | false =>
        have HU := Lib.hid hu
        clear hu
        go_wp2_with fail
        go_roundw
        case measure => simp only [intOf]; omega
        case rel =>
          refine ⟨k + 1, by omega, by go_num, B2.out, fun y hy => ?_⟩
          rw [List.take_add_one, HX.out] at hy
          rcases List.mem_append.1 hy with h | h
          · exact HF.out y h
          · simp at h
            rw [h]
            exact HU.out
      | true =>
        have HU := Lib.hid hu
        clear hu
        go_wp2_with fail
        go_ret
        exact ⟨B2.out, Or.inr ⟨k, x, rfl, HX.out, HU.out, HF.out⟩⟩
    · obtain rfl : k = n := by omega
      have HE := Lib.hid (show l.take k = l from List.take_of_length_le (by have := HN.out; omega))
      clear hb
      go_wp2_with fail
      go_ret
      refine ⟨HB.out, Or.inl ⟨rfl, ?_⟩⟩
      have := HF.out
      rw [HE.out] at this
      exact this

end
end Go.Proofs.Ytiaedonhbafpjaa
