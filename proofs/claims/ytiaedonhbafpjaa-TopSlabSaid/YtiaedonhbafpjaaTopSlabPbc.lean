/-
  Alloc. No conditions but bounds.
-/
import Derived.Test.YtiaedonhbafpjaaTopSlabPbb
namespace Go.Proofs.Ytiaedonhbafpjaa
open Go.RowKit Go.Shelf
set_option linter.unusedVariables false

/-- The cache in which the free slot is. -/
def AlIn (S : CaSt) (cls n : Nat) (S1 : CaSt) (n1 : Nat) : Prop := (S1 = S ∧ n1 = n) ∨ (freeOf S.sl cls = none ∧ n1 = n + S.room cls ∧ ∃ p g q, S1 = S.add cls p g q)
def AlS (S1 : CaSt) (x : Sl) (i : Nat) (y : Cel) (k : Nat) : CaSt := S1.put { x with cs := fill 0 x.cs (i * clsN S1.classes x.cls) (clsN S1.classes x.cls), cl := x.cl.set i ⟨y.gen, k, true⟩ }
def AlPost (w : World) (c bp : Nat) (S : CaSt) (vc vs : Value) (F G : Nat → Prop) (M n : Nat) (k : Int) : Ending → World → Prop := fun e w' =>
  (∃ er : Int, er ≠ 0 ∧ e = .returned (.tuple #[.agg #[.int .i64 0, .int .i64 0, .int .i64 0, .int .i64 0], .int .i64 er]) ∧ ∃ G' b', CB w' c bp S vc vs F G' M n b' ∧ (∀ k, G' k → G k ∨ w.heap.size ≤ k) ∧ Touch G w w') ∨
  (clsE S k = 0 ∧ ∃ S1 n1 x i y vs' F' G' b', AlIn S (clsIdx S.classes k) n S1 n1 ∧ freeOf S1.sl (clsIdx S.classes k) = some (x, i, y) ∧ e = .returned (.tuple #[.agg #[.int .i64 (clsIdx S.classes k : Nat), .int .i64 (x.no : Int), .int .i64 (i : Int), .int .i64 (y.gen : Int)], .int .i64 0]) ∧
    CB w' c bp (AlS S1 x i y k.toNat) vc vs' F' G' M n1 b' ∧ (∀ k, F' k → F k ∨ w.heap.size ≤ k) ∧ (∀ k, G' k → G k ∨ w.heap.size ≤ k) ∧ Touch (fun k => F k ∨ G k) w w')

theorem CB.touch {w w' : World} {c bp : Nat} {S : CaSt} {vc vs : Value} {F G Z : Nat → Prop} {M n : Nat} {b : BookSt} (h : CB w c bp S vc vs F G M n b) (ht : Touch Z w w') (hF : ∀ k, Z k → ¬ F k) (hG : ∀ k, Z k → ¬ G k) : CB w' c bp S vc vs F G M n b :=
  ⟨h.cm.same (fun k hk hl => ht.block k hl (fun e => hF k e hk)), h.bk.touch ht hG, h.dis, fun k hk => Nat.lt_of_lt_of_le (h.fl k hk) ht.size⟩
theorem put_put (S : CaSt) (a b : Sl) (h : a.no = b.no) : (S.put a).put b = S.put b := by
  unfold CaSt.put
  simp only [List.map_map]
  congr 1
  refine List.map_congr_left fun y _ => ?_
  simp only [Function.comp]
  by_cases hy : y.no = b.no
  · have hya : y.no = a.no := hy.trans h.symm
    simp [hya, h]
  · have hya : ¬ y.no = a.no := fun e => hy (e.trans h)
    simp [hya, hy]
theorem put_in {S : CaSt} {x z : Sl} (hx : x ∈ S.sl) (h : z.no = x.no) : z ∈ (S.put z).sl := List.mem_map.2 ⟨x, hx, by rw [if_pos h.symm]⟩
theorem fill_bytes {cs : List Int} (h : bytes cs) {o n : Nat} (hl : o + n ≤ cs.length) : bytes (fill 0 cs o n) := fun z hz => by
  obtain ⟨j, hj⟩ := List.mem_iff_getElem?.1 hz
  rw [fill_at 0 n cs o j hl] at hj
  split at hj
  · cases hj; omega
  · exact h z (List.mem_of_getElem? hj)
theorem touch4 {w : World} (r : Nat) (a b c d : Value) : Touch (fun k => k = r) w ((((w.setCell ⟨r, 0, none⟩ a).setCell ⟨r, 1, none⟩ b).setCell ⟨r, 2, none⟩ c).setCell ⟨r, 3, none⟩ d) :=
  ((((Touch.refl (fun k => k = r) w).setCell (p := ⟨r, 0, none⟩) (Or.inl rfl) _).setCell (p := ⟨r, 1, none⟩) (Or.inl rfl) _).setCell (p := ⟨r, 2, none⟩) (Or.inl rfl) _).setCell (p := ⟨r, 3, none⟩) (Or.inl rfl) _

set_option maxHeartbeats 4000000 in
set_option maxRecDepth 100000 in
theorem alloc_any {w : World} {c bp : Nat} {S : CaSt} {vc vs : Value} {F G : Nat → Prop} {M n : Nat} {b : BookSt} (h : CB w c bp S vc vs F G M n b) (k : Int) (hlast : S.last < 1000000000) :
    Calls Try.prog 8 #[.pointer (some ⟨c, 0, none⟩), .int .i64 k] w (AlPost w c bp S vc vs F G M n k) := by
  have HB := Lib.hid h
  have B0 : Below w.heap.size w (w.alloc (.cells #[.int .i64 0, .int .i64 0, .int .i64 0, .int .i64 0] 37)) := (Below.refl _ w).alloc (Nat.le_refl _) _
  have RS0 := heap_alloc_new w (.cells #[.int .i64 0, .int .i64 0, .int .i64 0, .int .i64 0] 37)
  have CF0 := classFor_any (h.cm.below B0) k
  have CF := Lib.hid CF0
  clear h CF0
  go_enter Try.func8, Try.ntmps8
  go_upto_region 1 with fail
  generalize w.alloc (.cells #[.int .i64 0, .int .i64 0, .int .i64 0, .int .i64 0] 37) = W0 at *
  have HB0 := Lib.hid B0
  have HRS := Lib.hid RS0
  clear B0 RS0
  obtain ⟨r, hr⟩ : ∃ r, w.heap.size = r := ⟨_, rfl⟩
  rw [hr] at HRS ⊢
  have HRR := Lib.hid hr
  clear hr
  have hge : w.heap.size ≤ r := by rw [HRR.out]; exact Nat.le_refl _
  by_cases hE : clsE S k = 0
  case neg =>
    have hE1 : (clsE S k != 0) = true := bne_iff_ne.2 hE
    have hE2 : (clsE S k == 0) = false := by simpa using hE
    obtain ⟨q0, q1, q2, q3⟩ := cells4 HRS.out
    have f0 := free_of HRS.out 0
    have f1 := free_of HRS.out 1
    have f2 := free_of HRS.out 2
    have f3 := free_of HRS.out 3
    have HEE := Lib.hid hE
    generalize clsV S k = V at *
    generalize clsE S k = E at *
    clear hE
    go_wp2_with fail
    refine CF.out.mono ?_
    rintro e w2 ⟨rfl, hw2⟩
    obtain rfl := hw2.symm
    clear hw2
    go_wp2_with fail
    (try simp only [Exit.inBlock, Exit.then])
    obtain ⟨p0, p1, p2, p3⟩ := cells4 (res4 (a := .int .i64 0) (b := .int .i64 0) (c := .int .i64 0) (d := .int .i64 0) HRS.out)
    refine bodyPost_ret (v := .tuple #[.agg #[.int .i64 0, .int .i64 0, .int .i64 0, .int .i64 0], .int .i64 E]) ?_ rfl (Or.inl ⟨E, HEE.out, rfl, G, b, ?_, fun k hk => Or.inl hk, ?_⟩)
    · rw [results_cell_tmp rfl]
      go_simp
    · exact HB.out.below ((((HB0.out.setCell (p := ⟨r, 0, none⟩) hge _).setCell (p := ⟨r, 1, none⟩) hge _).setCell (p := ⟨r, 2, none⟩) hge _).setCell (p := ⟨r, 3, none⟩) hge _)
    · exact Touch.of_below ((((HB0.out.setCell (p := ⟨r, 0, none⟩) hge _).setCell (p := ⟨r, 1, none⟩) hge _).setCell (p := ⟨r, 2, none⟩) hge _).setCell (p := ⟨r, 3, none⟩) hge _)
  case pos =>
  have hV : clsV S k = ((clsIdx S.classes k : Nat) : Int) := by unfold clsV; rw [if_pos hE]
  have hcl : clsIdx S.classes k < S.classes.length := by
    have h1 := clsIdx_le S.classes k
    unfold clsE at hE
    split at hE
    · cases hE
    · split at hE
      · cases hE
      · split at hE
        · cases hE
        · omega
  have h0k : 0 ≤ k := by
    unfold clsE at hE
    split at hE
    · cases hE
    · split at hE
      · cases hE
      · omega
  have hcn := clsIdx_get hcl
  have hcl20 := (clsErr_all HB.out.cm.cok).2.1
  rw [hV, hE] at CF
  have HEE := Lib.hid hE
  generalize hcls : clsIdx S.classes k = cls at *
  have HCLS := Lib.hid hcls
  have HCL := Lib.hid (And.intro hcl hcn)
  clear hcls hV hE hcn
  have FR := Lib.hid (fun W (hW : Below w.heap.size w W) => free_any (HB.out.cm.below hW) cls (by omega))
  clear hcl hcl20
  go_wp2_with fail
  refine CF.out.mono ?_
  rintro e w2 ⟨rfl, hw2⟩
  obtain rfl := hw2.symm
  clear hw2 CF
  have FR2 := Lib.hid (FR.out _ HB0.out)
  go_upto_region 4 with fail
  go_cut [8, 9] (fun s8 s9 wx => ∃ (r8 : Nat) (t : Bool), s8 = .pointer (some ⟨r8, 0, none⟩) ∧ s9 = .bool t ∧ W0.heap.size ≤ r8 ∧ Below W0.heap.size W0 wx ∧ ((freeOf S.sl cls = none ∧ t = false ∧ wx.heap[r8]? = some (.cells #[.int .i64 0, .int .i64 0, .int .i64 0, .int .i64 0] 37 (0, 0))) ∨ ∃ x i y, freeOf S.sl cls = some (x, i, y) ∧ t = true ∧ wx.heap[r8]? = some (.cells #[.int .i64 (cls : Int), .int .i64 (x.no : Int), .int .i64 (i : Int), .int .i64 (y.gen : Int)] 37 (0, 0))))
  case first =>
    go_wp2_with fail
    refine FR2.out.mono ?_
    rintro e w3 ⟨hb3, he⟩
    have HB3 := Lib.hid hb3
    clear hb3 FR2
    cases hfo : freeOf S.sl cls with
    | none =>
      rw [hfo] at he
      simp only at he
      subst he
      have HFO := Lib.hid hfo
      clear hfo
      go_wp2_with fail
      go_meet
      exact ⟨_, _, rfl, rfl, HB3.out.size, HB3.out.trans ((Below.refl _ _).alloc HB3.out.size _), Or.inl ⟨HFO.out, rfl, heap_alloc_new w3 _⟩⟩
    | some q =>
      obtain ⟨x, i, y⟩ := q
      rw [hfo] at he
      simp only at he
      subst he
      have HFO := Lib.hid hfo
      clear hfo
      go_wp2_with fail
      go_meet
      exact ⟨_, _, rfl, rfl, HB3.out.size, HB3.out.trans ((Below.refl _ _).alloc HB3.out.size _), Or.inr ⟨x, i, y, HFO.out, rfl, heap_alloc_new w3 _⟩⟩
  case rest =>
  obtain ⟨r8, t, rfl, rfl, hr8, hb4, hcase⟩ := hcut
  rename_i wc _
  generalize wc = w4 at *
  have H8 := Lib.hid hr8
  have B4 := Lib.hid (HB0.out.trans (hb4.mono HB0.out.size))
  have R4 := Lib.hid ((hb4.block _ (lt_of HRS.out)).trans HRS.out)
  have hr0 : r < r8 := Nat.lt_of_lt_of_le (lt_of HRS.out) hr8
  have CASE := Lib.hid hcase
  clear hb4 FR2 HB0 HRS hr8
  go_upto_if 29 with fail
  go_cut [10] from 30 to 42 (fun _ wx => ∃ S1 n1 x i y vs' F' G' b', AlIn S cls n S1 n1 ∧ freeOf S1.sl cls = some (x, i, y) ∧ CB wx c bp S1 vc vs' F' G' M n1 b' ∧ (∀ k, F' k → F k ∨ w.heap.size ≤ k) ∧ (∀ k, G' k → G k ∨ w.heap.size ≤ k) ∧ ¬ F' r ∧ ¬ F' r8 ∧ ¬ G' r ∧ Touch (fun k => F k ∨ G k) w wx ∧ wx.heap[r]? = some (.cells #[.int .i64 0, .int .i64 0, .int .i64 0, .int .i64 0] 37 (0, 0)) ∧ wx.heap[r8]? = some (.cells #[.int .i64 (cls : Int), .int .i64 (x.no : Int), .int .i64 (i : Int), .int .i64 (y.gen : Int)] 37 (0, 0)))
  case first =>
    rcases CASE.out with ⟨hfo, ht, hrow⟩ | ⟨x, i, y, hfo, ht, hrow⟩
    · subst ht
      have GW := Lib.hid (grow_any1 (HB.out.below B4.out) cls HCL.out.1 hlast)
      have HFO := Lib.hid hfo
      have HROW := Lib.hid hrow
      clear hfo hrow hcase
      go_wp2_with fail
      refine GW.out.mono ?_
      rintro e w5 hgp
      clear GW
      rcases hgp with ⟨er, her, rfl, G', b', hcb, hg, ht⟩ | ⟨rfl, p, g, q, vs', F', G', b', hcb, hp, hgg, hq, hf, hg, ht⟩
      · have hnG : ∀ j, w.heap.size ≤ j → ¬ G j := fun j hj hG => by have := HB.out.bk.gl j hG; omega
        have R5 := (ht.block _ (lt_of R4.out) (hnG r hge)).trans R4.out
        have HR5 := Lib.hid R5
        obtain ⟨q0, q1, q2, q3⟩ := cells4 R5
        have f0 := free_of R5 0
        have f1 := free_of R5 1
        have f2 := free_of R5 2
        have f3 := free_of R5 3
        have hE1 : (er != 0) = true := bne_iff_ne.2 her
        have hE2 : (er == 0) = false := by simpa using her
        have HER := Lib.hid her
        have s4 := B4.out.size
        have hlr : r < w5.heap.size := lt_of R5
        have HC := Lib.hid hcb
        have HG := Lib.hid (And.intro hg ht)
        clear hcb hg ht her R5
        go_wp2_with fail
        (try simp only [Exit.inBlock, Exit.then])
        obtain ⟨p0, p1, p2, p3⟩ := cells4 (res4 (a := .int .i64 0) (b := .int .i64 0) (c := .int .i64 0) (d := .int .i64 0) HR5.out)
        have l4 := lt_of R4.out
        have nF : ¬ F r := fun hk => by have := HB.out.fl r hk; omega
        have nG : ¬ G r := hnG r hge
        refine bodyPost_ret (v := .tuple #[.agg #[.int .i64 0, .int .i64 0, .int .i64 0, .int .i64 0], .int .i64 er]) ?_ rfl (Or.inl ⟨er, HER.out, rfl, G', b', ?_, fun j hj => ?_, ?_⟩)
        · rw [results_cell_tmp rfl]
          go_simp
        · refine HC.out.touch (touch4 r _ _ _ _) (fun j hj => hj ▸ nF) (fun j hj => ?_)
          subst hj
          intro hj
          rcases HG.out.1 j hj with e | e
          · exact nG e
          · omega
        · rcases HG.out.1 j hj with e | e
          · exact Or.inl e
          · exact Or.inr (by omega)
        · exact ((Touch.of_below B4.out).then HG.out.2).trans (touch4 r _ _ _ _) (fun j hj => Or.inr (hj ▸ hge))
      · have FA := freeOf_add HFO.out HB.out.cm.sz.1 p g q
        have FR := free_any hcb.cm cls (by have := (clsErr_all HB.out.cm.cok).2.1; have := HCL.out.1; omega)
        unfold FrPost at FR
        rw [FA] at FR
        have FR5 := Lib.hid FR
        have HFA := Lib.hid FA
        have hlt4r := lt_of R4.out
        have hlt4 := lt_of HROW.out
        have R5 := Lib.hid ((ht.block _ hlt4r (fun e => e.elim (fun e => by have := HB.out.fl r e; omega) (fun e => by have := HB.out.bk.gl r e; omega))).trans R4.out)
        have s4 := B4.out.size
        have H8b : w.heap.size ≤ r8 := by omega
        have Q5 := Lib.hid ((ht.block _ hlt4 (fun e => e.elim (fun e => by have := HB.out.fl r8 e; omega) (fun e => by have := HB.out.bk.gl r8 e; omega))).trans HROW.out)
        have HC := Lib.hid hcb
        have HG := Lib.hid (And.intro hg (And.intro hf ht))
        clear hcb hg hf ht FA FR hp hgg hq HROW
        go_wp2_with fail
        refine FR5.out.mono ?_
        rintro e w6 ⟨hb6, he⟩
        (try simp only at he)
        subst he
        have HB6 := Lib.hid hb6
        have R6 := (hb6.block _ (lt_of R5.out)).trans R5.out
        have Q6 := (hb6.block _ (lt_of Q5.out)).trans Q5.out
        have HR6 := Lib.hid R6
        have HQ6 := Lib.hid Q6
        obtain ⟨q0, q1, q2, q3⟩ := cells4 Q6
        have f0 := free_of Q6 0
        have f1 := free_of Q6 1
        have f2 := free_of Q6 2
        have f3 := free_of Q6 3
        clear hb6 R6 Q6 FR5
        generalize hnew : newSl S cls (S.last + 1) p g q = xn at *
        go_wp2_with fail
        go_meet
        have nF : ¬ F' r := fun hk => by
          rcases HG.out.2.1 r hk with e | e
          · have := HB.out.fl r e; omega
          · omega
        have nF8 : ¬ F' r8 := fun hk => by
          rcases HG.out.2.1 r8 hk with e | e
          · have := HB.out.fl r8 e; omega
          · omega
        have nG0 : ¬ G' r := fun hk => by
          rcases HG.out.1 r hk with e | e
          · have := HB.out.bk.gl r e; omega
          · omega
        have nG8 : ¬ G' r8 := fun hk => by
          rcases HG.out.1 r8 hk with e | e
          · have := HB.out.bk.gl r8 e; omega
          · omega
        refine ⟨S.add cls p g q, n + S.room cls, xn, 0, ⟨1, 0, false⟩, vs', F', G', b', Or.inr ⟨HFO.out, rfl, p, g, q, rfl⟩, HFA.out, ?_, fun j hj => ?_, fun j hj => ?_, nF, nF8, nG0, ?_, ?_, ?_⟩
        · exact (HC.out.below HB6.out).touch (touch4 r8 _ _ _ _) (fun j hj => hj ▸ nF8) (fun j hj => hj ▸ nG8)
        · rcases HG.out.2.1 j hj with e | e
          · exact Or.inl e
          · exact Or.inr (by omega)
        · rcases HG.out.1 j hj with e | e
          · exact Or.inl e
          · exact Or.inr (by omega)
        · exact (((Touch.of_below B4.out).then HG.out.2.2).then (Touch.of_below HB6.out)).trans (touch4 r8 _ _ _ _) (fun j hj => Or.inr (by subst hj; exact H8b))
        · exact ((touch4 r8 _ _ _ _).block r (lt_of HR6.out) (by omega)).trans HR6.out
        · exact res4 HQ6.out
    · subst ht
      have FIN : Hid (∃ S1 n1 x i y vs' F' G' b', AlIn S cls n S1 n1 ∧ freeOf S1.sl cls = some (x, i, y) ∧ CB w4 c bp S1 vc vs' F' G' M n1 b' ∧ (∀ k, F' k → F k ∨ w.heap.size ≤ k) ∧ (∀ k, G' k → G k ∨ w.heap.size ≤ k) ∧ ¬ F' r ∧ ¬ F' r8 ∧ ¬ G' r ∧ Touch (fun k => F k ∨ G k) w w4 ∧ w4.heap[r]? = some (.cells #[.int .i64 0, .int .i64 0, .int .i64 0, .int .i64 0] 37 (0, 0)) ∧ w4.heap[r8]? = some (.cells #[.int .i64 (cls : Int), .int .i64 (x.no : Int), .int .i64 (i : Int), .int .i64 (y.gen : Int)] 37 (0, 0))) := Lib.hid
        ⟨S, n, x, i, y, vs, F, G, b, Or.inl ⟨rfl, rfl⟩, hfo, HB.out.below B4.out, fun k hk => Or.inl hk, fun k hk => Or.inl hk, fun hk => by have := HB.out.fl r hk; omega, fun hk => by have := HB.out.fl r8 hk; omega, fun hk => by have := HB.out.bk.gl r hk; omega, Touch.of_below B4.out, R4.out, hrow⟩
      clear hfo hrow
      go_wp2_with fail
      go_meet
      exact FIN.out
  case rest =>
  obtain ⟨S1, n1, x, i, y, vs1, F1, G1, b1, hin, hfo, hcb, hF, hG, hr, hr8, hrG, hT, hR, hR8⟩ := hcut
  rename_i wc _
  generalize wc = w5 at *
  obtain ⟨hx, hxc, hfi⟩ := freeOf_some hfo
  obtain ⟨hy, hyu⟩ := freeIdx_at hfi
  have hi : i < S1.slots := by rw [← (hcb.cm.sl x hx).cl]; exact (List.getElem?_eq_some_iff.1 hy).1
  have hcl1 : S1.classes = S.classes := by
    rcases hin with ⟨h, _⟩ | ⟨_, _, p, g, q, h⟩ <;> (rw [h]; try rfl)
  have hkn : ((k.toNat : Nat) : Int) = k := by omega
  have hkl : k.toNat ≤ clsN S1.classes x.cls := by
    have := HCL.out.2
    rw [hcl1, hxc]
    unfold clsN
    omega
  have HC := Lib.hid hcb
  have HI := Lib.hid (And.intro hin hfo)
  have HT := Lib.hid (And.intro hF (And.intro hG hT))
  have HN := Lib.hid (And.intro hr hr8)
  have HNG := Lib.hid hrG
  have HX := Lib.hid (And.intro hx (And.intro hxc hy))
  have HRr := Lib.hid hR
  have HR8 := Lib.hid hR8
  obtain ⟨b0, b1, b2, b3⟩ := cells4 hR8
  have CE := Lib.hid (cell_at (cls := (cls : Int)) (gen := (y.gen : Int)) hcb.cm hx hi)
  have HIK := Lib.hid (And.intro hi (And.intro hkl hcl1))
  clear hcb hin hfo hF hG hr hr8 hrG hT hR hR8 hcase hx hxc hfi hy hyu hi hcl1 hkl R4 CASE
  go_wp2_with fail
  refine CE.out.mono ?_
  rintro e w6 ⟨rfl, hb6⟩
  have HB6 := Lib.hid hb6
  have M6 := HC.out.cm.below hb6
  have mx := M6.sl x HX.out.1
  obtain ⟨d0, d1, d2⟩ := mx.cell HX.out.2.2
  have f1 := free_of mx.cel (i * 3 + 1)
  have f2 := free_of mx.cel (i * 3 + 2)
  have TKN := Lib.hid (M6.taken HX.out.1 HX.out.2.2 k.toNat HIK.out.2.1)
  rw [hkn] at TKN
  have Q6 := Lib.hid ((hb6.block _ (lt_of HR8.out)).trans HR8.out)
  have P6 := Lib.hid ((hb6.block _ (lt_of HRr.out)).trans HRr.out)
  clear CE hb6 M6 mx b0 b1 b2 b3 HR8 HRr
  go_upto_region 12 with fail
  generalize ((w6.setCell ⟨x.q, i * 3 + 2, none⟩ (.bool true)).setCell ⟨x.q, i * 3 + 1, none⟩ (.int .i64 k)) = w7 at *
  clear d0 d1 d2 f1 f2
  have M7 := TKN.out.1
  have hq1 : F1 x.q := (HC.out.cm.sl x HX.out.1).fq
  have hg1 : F1 x.g := (HC.out.cm.sl x HX.out.1).fg
  have Q7 := Lib.hid ((TKN.out.2.block r8 (lt_of Q6.out) (fun e => HN.out.2 (e ▸ hq1))).trans Q6.out)
  have P7 := Lib.hid ((TKN.out.2.block r (lt_of P6.out) (fun e => HN.out.1 (e ▸ hq1))).trans P6.out)
  obtain ⟨x1, hx1⟩ : ∃ x1 : Sl, { x with cl := x.cl.set i ⟨y.gen, k.toNat, true⟩ } = x1 := ⟨_, rfl⟩
  have X1 := Lib.hid hx1
  have e_no : x1.no = x.no := by rw [← hx1]
  have e_cls : x1.cls = x.cls := by rw [← hx1]
  have e_g : x1.g = x.g := by rw [← hx1]
  have e_cs : x1.cs = x.cs := by rw [← hx1]
  rw [hx1] at M7
  have hin1 : x1 ∈ (S1.put x1).sl := put_in HX.out.1 e_no
  have hil : i < x.cl.length := (List.getElem?_eq_some_iff.1 HX.out.2.2).1
  have IU : InUse (S1.put x1) x1 i ⟨y.gen, k.toNat, true⟩ (cls : Int) (x.no : Int) (i : Int) (y.gen : Int) := ⟨by rw [e_cls, HX.out.2.1], by rw [← e_no]; exact slabOf_at M7.nos hin1, rfl, by rw [← hx1]; simp [hil], rfl, rfl⟩
  have OC := Lib.hid (octetsS_any M7 IU)
  have M7h := Lib.hid M7
  have HIN := Lib.hid hin1
  have E4 := Lib.hid (And.intro e_no (And.intro e_cls (And.intro e_g e_cs)))
  obtain ⟨b0, b1, b2, b3⟩ := cells4 Q7.out
  clear M7 hx1 e_no e_cls e_g e_cs hin1 IU Q6 P6 hil
  go_wp2_with fail
  refine OC.out.mono ?_
  rintro e w8 ⟨rfl, hb8⟩
  have M8 := M7h.out.below hb8
  have mx8 := M8.sl x1 HIN.out
  have hcn : clsN (S1.put x1).classes x1.cls = clsN S1.classes x.cls := by rw [E4.out.2.1]; rfl
  obtain ⟨sz, hsz⟩ : ∃ sz, clsN S1.classes x.cls = sz := ⟨_, rfl⟩
  have hle : i * sz + sz ≤ x1.cs.length := by
    rw [mx8.ol]
    have h1 := HIK.out.1
    show i * sz + sz ≤ S1.slots * clsN S1.classes x1.cls
    rw [E4.out.2.1, hsz, ← Nat.succ_mul]
    exact Nat.mul_le_mul_right _ h1
  rw [hcn, hsz]
  obtain ⟨w9, CLR, hr9, ht9⟩ := clear_fact w8 x1.g (i * sz) sz sz (some ⟨x1.g, i * sz, none⟩) x1.cs mx8.oct hle (fun _ => rfl)
  have M9 := M8.octs HIN.out hr9 (fill_len 0 sz _ _) (fill_bytes mx8.ob hle) ht9
  have T9 : Hid (Touch (fun j => F1 j) w5 w9) := Lib.hid ((((Touch.of_below HB6.out).then (TKN.out.2.mono (fun j hj => hj ▸ hq1))).then (Touch.of_below hb8)).then (ht9.mono (fun j hj => by rw [hj, E4.out.2.2.1]; exact hg1)))
  have Q9 := Lib.hid ((ht9.block r8 (by have := lt_of Q7.out; have := hb8.size; omega) (fun e => HN.out.2 (by rw [e, E4.out.2.2.1]; exact hg1))).trans ((hb8.block _ (lt_of Q7.out)).trans Q7.out))
  have P9 := Lib.hid ((ht9.block r (by have := lt_of P7.out; have := hb8.size; omega) (fun e => HN.out.1 (by rw [e, E4.out.2.2.1]; exact hg1))).trans ((hb8.block _ (lt_of P7.out)).trans P7.out))
  have M9h := Lib.hid M9
  have HSZ := Lib.hid hsz
  clear M8 mx8 hcn hsz hle hr9 ht9 M9 OC hb8 b0 b1 b2 b3
  obtain ⟨u0, u1, u2, u3⟩ := cells4 Q9.out
  obtain ⟨q0, q1, q2, q3⟩ := cells4 P9.out
  have f0 := free_of P9.out 0
  have f1 := free_of P9.out 1
  have f2 := free_of P9.out 2
  have f3 := free_of P9.out 3
  go_wp2_with fail
  (try simp only [Exit.inBlock, Exit.then])
  obtain ⟨p0, p1, p2, p3⟩ := cells4 (res4 (a := .int .i64 (cls : Int)) (b := .int .i64 (x.no : Int)) (c := .int .i64 (i : Int)) (d := .int .i64 (y.gen : Int)) P9.out)
  have hAl : AlS S1 x i y k.toNat = (S1.put x1).put { x1 with cs := fill 0 x1.cs (i * sz) sz } := by
    refine Eq.trans ?_ (put_put S1 x1 { x1 with cs := fill 0 x1.cs (i * sz) sz } rfl).symm
    unfold AlS
    rw [HSZ.out, ← X1.out]
  have GD : ∀ j, F1 j → ¬ G1 j := HC.out.dis
  refine bodyPost_ret (v := .tuple #[.agg #[.int .i64 (cls : Int), .int .i64 (x.no : Int), .int .i64 (i : Int), .int .i64 (y.gen : Int)], .int .i64 0]) ?_ rfl (Or.inr ⟨HEE.out, S1, n1, x, i, y, vs1, F1, fun j => G1 j, b1, by rw [HCLS.out]; exact HI.out.1, by rw [HCLS.out]; exact HI.out.2, by rw [HCLS.out], ?_, HT.out.1, HT.out.2.1, ?_⟩)
  · rw [results_cell_tmp rfl]
    go_simp
  · rw [hAl]
    have tF := touch4 (w := w9) r (.int .i64 (cls : Int)) (.int .i64 (x.no : Int)) (.int .i64 (i : Int)) (.int .i64 (y.gen : Int))
    exact ⟨M9h.out.same (fun j hj hl => tF.block j hl (fun e => HN.out.1 (e ▸ hj))), (HC.out.bk.touch T9.out GD).touch tF (fun j hj => hj ▸ HNG.out), GD, fun j hj => Nat.lt_of_lt_of_le (Nat.lt_of_lt_of_le (HC.out.fl j hj) T9.out.size) tF.size⟩
  · have tF := touch4 (w := w9) r (.int .i64 (cls : Int)) (.int .i64 (x.no : Int)) (.int .i64 (i : Int)) (.int .i64 (y.gen : Int))
    exact (HT.out.2.2.trans T9.out (fun j hj => by
      rcases HT.out.1 j hj with e | e
      · exact Or.inl (Or.inl e)
      · exact Or.inr e)).trans tF (fun j hj => Or.inr (hj ▸ hge))

end Go.Proofs.Ytiaedonhbafpjaa
