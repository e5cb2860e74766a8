/-
  drop: the idle slabs are given up. No conditions but bounds.
-/
import Derived.Test.YtiaedonhbafpjaaTopSlabPbe
import Derived.Test.YtiaedonhbafpjaaTopSlabPar
namespace Go.Proofs.Ytiaedonhbafpjaa
open Go.RowKit Go.Shelf
set_option linter.unusedVariables false

set_option maxHeartbeats 1000000 in
set_option maxRecDepth 100000 in
theorem indexNil_any (w : World) : Calls Try.prog 67 #[.slice none 0 0, .func (.func 36) #[] #[]] w (fun e w' => e = .returned (.int .i64 (-1)) ∧ w' = w) := by
  go_enter Try.func67, Try.ntmps67
  go_wp2_with fail
  go_loopw [8] (fun i wr => i = .int .i64 0 ∧ wr = w) (fun i _ => 0)
  case atStart => exact ⟨rfl, rfl⟩
  case round =>
    obtain ⟨rfl, hwr⟩ := hrel
    obtain rfl := hwr.symm
    clear hwr
    go_wp2_with fail
    go_ret
    exact ⟨rfl, by trivial⟩
set_option maxHeartbeats 1000000 in
set_option maxRecDepth 100000 in
theorem deleteNil_any (w : World) : Calls Try.prog 54 #[.slice none 0 0, .func (.func 36) #[] #[]] w (fun e w' => e = .returned (.slice none 0 0) ∧ w' = w) := by
  have IX := Lib.hid (indexNil_any w)
  go_enter Try.func54, Try.ntmps54
  go_wp2_with fail
  refine IX.out.mono ?_
  rintro e w2 ⟨rfl, hw⟩
  obtain rfl := hw.symm
  clear hw
  go_wp2_with fail
  go_ret
  exact ⟨rfl, by trivial⟩

def DrPost (w : World) (c bp : Nat) (S : CaSt) (vc : Value) (F G : Nat → Prop) (M n : Nat) : Ending → World → Prop := fun e w' =>
  e = .returned (.int .i64 (idleN S S.sl : Nat)) ∧ ∃ vs' F' G' b', CB w' c bp S.trim vc vs' F' G' M (n - idleN S S.sl) b' ∧ (∀ k, F' k → F k ∨ w.heap.size ≤ k) ∧ (∀ k, G' k → G k ∨ w.heap.size ≤ k) ∧ Touch (fun k => F k ∨ G k) w w'

theorem drop_fin {w wr w' : World} {c bp : Nat} {S : CaSt} {vc vs vs' : Value} {F G Z : Nat → Prop} {M n : Nat} {b : BookSt} (h : CB w c bp S vc vs F G M n b) (hb : Below w.heap.size w wr)
    (hself : w'.heap[c]? = some (.cells #[.pointer (some ⟨bp, 0, none⟩), .int .i64 1, vc, .int .i64 (S.slots : Int), .bool S.closed, .int .i64 (S.last : Int), vs'] 65 (0, 0)))
    (hrow : w'.ownsRow 0 76 1 vs' (busy S.sl).length ((busy S.sl).map ptrS)) (hvo : ∀ k, vs'.ownBlock = some k → w.heap.size ≤ k)
    (ht : Touch Z wr w') (hZ : ∀ k, Z k → k = c ∨ w.heap.size ≤ k) : ∃ vs' F', CB w' c bp S.trim vc vs' F' G M n b ∧ (∀ k, F' k → F k ∨ w.heap.size ≤ k) ∧ Touch (fun k => F k ∨ G k) w w' := by
  have sz := hb.size
  have keep : ∀ k, k < w.heap.size → k ≠ c → w'.heap[k]? = w.heap[k]? := fun k h1 h2 => (ht.block k (by omega) (fun e => by rcases hZ k e with e | e <;> omega)).trans (hb.block k h1)
  refine ⟨vs', _, ⟨h.cm.trimmed hself hrow (fun k hk => Or.inr (hvo k hk)) keep, h.bk.same (fun k hk => keep k (h.bk.gl k hk) (fun e => h.dis k (e ▸ h.cm.fc) hk)) (Nat.le_trans sz ht.size), fun k hk hk' => ?_, fun k hk => ?_⟩, fun k hk => ?_, (Touch.of_below hb).trans ht (fun k hk => ?_)⟩
  · rcases hk with e | e
    · exact h.dis k e hk'
    · have := h.bk.gl k hk'; omega
  · rcases hk with e | e
    · exact Nat.lt_of_lt_of_le (h.fl k e) (Nat.le_trans sz ht.size)
    · exact e.2
  · rcases hk with e | e
    · exact Or.inl e
    · exact Or.inr e.1
  · rcases hZ k hk with e | e
    · exact Or.inl (Or.inl (e ▸ h.cm.fc))
    · exact Or.inr e

set_option maxHeartbeats 4000000 in
set_option maxRecDepth 100000 in
theorem drop_any {w : World} {c bp : Nat} {S : CaSt} {vc vs : Value} {F G : Nat → Prop} {M n : Nat} {b : BookSt} (h : CB w c bp S vc vs F G M n b) (hn : S.tot ≤ n) :
    Calls Try.prog 35 #[.pointer (some ⟨c, 0, none⟩), .func (.func 36) #[] #[]] w (DrPost w c bp S vc F G M n) := by
  have HB := Lib.hid h
  have m := h.cm
  have c6 := m.cells.2.2.2.2.2.2
  obtain ⟨a, cap, hvs, hcap, hcap2, hrow⟩ := m.slice
  have HVS := Lib.hid hvs
  rw [hvs] at c6
  have HR := Lib.hid hrow
  have hfew := m.few.1
  have h64 := m.sz.2
  have BD := Lib.hid (fun k => roomsOf_le (S := S) (B := 262144) ((S.sl.take k).filter idle) (fun x hx => (room_le m (m.nb x (List.mem_of_mem_take (List.mem_filter.1 hx).1)).2.2).2))
  obtain ⟨L, hL⟩ : ∃ L, S.sl.length = L := ⟨_, rfl⟩
  have HL := Lib.hid hL
  rw [hL] at c6 hfew hcap
  clear h m hvs hrow hL
  go_enter Try.func35, Try.ntmps35
  go_wp2_with fail
  go_loopw [5, 13] (fun u i wr => ∃ k : Nat, k ≤ L ∧ i = .int .i64 (k : Int) ∧ u = .int .i64 (idleN S (S.sl.take k) : Nat) ∧ Below w.heap.size w wr) (fun _ i _ => L - (intOf i).toNat)
  case atStart => exact ⟨0, Nat.zero_le _, rfl, rfl, Below.refl _ _⟩
  case round =>
    obtain ⟨k, hk, rfl, rfl, hb⟩ := hrel
    have HB2 := Lib.hid hb
    by_cases hlt : k < L
    · obtain ⟨x, hx⟩ : ∃ x, S.sl[k]? = some x := ⟨_, List.getElem?_eq_getElem (by have := HL.out; omega)⟩
      obtain ⟨g, rfl, d⟩ := HR.out k x hx
      have d := old_cell hb d
      have e := idleN_next (S := S) hx
      have b1 := BD.out k
      have b2 := (room_le HB.out.cm (HB.out.cm.nb x (List.mem_of_getElem? hx)).2.2).2
      have b3 : ((S.sl.take k).filter idle).length ≤ 500 := Nat.le_trans (List.length_filter_le _ _) (by rw [List.length_take]; omega)
      have b4 : idleN S (S.sl.take k) ≤ 500 * 262144 := Nat.le_trans b1 (Nat.mul_le_mul_right _ b3)
      have mx := (HB.out.cm.below hb).sl x (List.mem_of_getElem? hx)
      have TR := Lib.hid (trim1_any mx h64)
      obtain ⟨U, hU⟩ : ∃ U, idleN S (S.sl.take k) = U := ⟨_, rfl⟩
      obtain ⟨R, hR⟩ : ∃ R, S.room x.cls = R := ⟨_, rfl⟩
      rw [hU, hR] at e
      rw [hU] at b4 ⊢
      rw [hR] at b2
      have HE := Lib.hid e
      have HX := Lib.hid (List.mem_of_getElem? hx)
      clear e mx hU hx b1 b3 hb
      go_wp2_with fail
      refine TR.out.mono ?_
      rintro e w3 ⟨rfl, hb3⟩
      have B3 := Lib.hid (HB2.out.trans (hb3.mono HB2.out.size))
      have d2 := ((HB.out.cm.below B3.out).sl x HX.out).cells.2.2.1
      rw [hR] at d2
      clear hb3 TR d hR
      cases hu : idle x with
      | true =>
        rw [hu] at HE
        have HE := Lib.hid HE.out
        go_wp2_with fail
        go_roundw
        case measure => simp only [intOf]; omega
        case rel => exact ⟨k + 1, by omega, by go_num, by rw [HE.out]; simp only [if_true]; go_num, B3.out⟩
      | false =>
        rw [hu] at HE
        have HE := Lib.hid HE.out
        go_wp2_with fail
        go_roundw
        case measure => simp only [intOf]; omega
        case rel => exact ⟨k + 1, by omega, by go_num, by rw [HE.out]; rfl, B3.out⟩
    · obtain rfl : k = L := by omega
      have e : S.sl.take k = S.sl := List.take_of_length_le (by have := HL.out; omega)
      rw [e]
      clear hlt hb
      go_upto_region 8 with fail
      have CM := HB.out.cm.below HB2.out
      have S4 := CM.self
      rw [HVS.out, HL.out] at S4
      have z6 := free_of S4 6
      have c6r : wr.cell? ⟨c, 6, none⟩ = some (.slice a k cap) := by rw [cell_of S4]; rfl
      clear c6
      go_cut [28, 29, 30, 31, 32, 33, 34, 35, 36, 37] (fun _ _ _ _ _ _ _ _ _ _ wx => ∃ vs' F', CB wx c bp S.trim vc vs' F' G M n b ∧ (∀ k, F' k → F k ∨ w.heap.size ≤ k) ∧ Touch (fun k => F k ∨ G k) w wx)
      case first =>
        cases a with
        | none =>
          have NIL : Hid (S.sl = []) := Lib.hid (by
            have h0 : k = 0 := by
              rcases CM.row.1.2 with ⟨_, h2⟩ | ⟨g, cap', cur, h1, _⟩
              · have := HL.out; omega
              · rw [HVS.out] at h1; cases h1
            have := HL.out
            rw [h0] at this
            exact List.length_eq_zero_iff.1 this)
          have hk0 : k = 0 := by have h1 := HL.out; rw [NIL.out] at h1; simpa using h1.symm
          subst hk0
          have CLN := Lib.hid (Go.Proofs.Try.slices_Clone_nil_f55 0 cap wr)
          have DLN := Lib.hid (deleteNil_any wr)
          have FIN : Hid (∃ vs' F', CB (wr.setCell ⟨c, 6, none⟩ (.slice none 0 0)) c bp S.trim vc vs' F' G M n b ∧ (∀ k, F' k → F k ∨ w.heap.size ≤ k) ∧ Touch (fun k => F k ∨ G k) w (wr.setCell ⟨c, 6, none⟩ (.slice none 0 0))) := Lib.hid (by
            have tt : Touch (fun k => k = c) wr (wr.setCell ⟨c, 6, none⟩ (.slice none 0 0)) := (Touch.refl (fun k => k = c) _).setCell (p := ⟨c, 6, none⟩) (Or.inl rfl) _
            exact drop_fin HB.out HB2.out (by rw [block_setCell S4]; rfl) (by rw [NIL.out]; exact ⟨rfl, Or.inl ⟨rfl, rfl⟩⟩) (fun k hk => by cases hk) tt (fun k hk => Or.inl hk))
          clear CM S4
          go_wp2_with fail
          refine CLN.out.mono ?_
          rintro e w2 ⟨rfl, hw⟩
          obtain rfl := hw.symm
          clear hw
          go_wp2_with fail
          refine DLN.out.mono ?_
          rintro e w2 ⟨rfl, hw⟩
          obtain rfl := hw.symm
          clear hw
          go_wp2_with fail
          go_meet
          exact FIN.out
        | some ad =>
          obtain ⟨i0, hi0, hz0, hz1, hz2⟩ := info_parts (show (Try.prog.info? 76).map (fun i => (i.zero, i.size, i.bytes)) = some (some (.pointer none), 1, 8) by kernel_rfl)
          have ROW := CM.row.1
          rw [HVS.out] at ROW
          obtain ⟨ga, rfl⟩ : ∃ ga, ad = ⟨ga, 0, none⟩ := by
            rcases ROW.2 with ⟨h1, _⟩ | ⟨g, cap', cur, h1, _⟩
            · cases h1
            · simp only [Value.slice.injEq, Option.some.injEq] at h1
              exact ⟨g, h1.1⟩
          have hln : (S.sl.map ptrS).length = k * 1 := by rw [List.length_map, HL.out]; omega
          have hcl : ∀ j u, (S.sl.map ptrS)[j]? = some u → wr.cell? ⟨ga, 0 + j, none⟩ = some u := by
            intro j u hj
            obtain ⟨g, hg, hc, _⟩ := wrow_cell ROW hj
            cases hg
            simpa using hc
          have CL := Lib.hid (Go.Proofs.Try.slices_Clone_f55 i0 (.pointer none) 1 8 hi0 hz0 hz1 hz2 rfl (by decide) (fun w => by kernel_rfl) ga 0 k cap (S.sl.map ptrS) wr hln (by unfold maxLen; omega) (by omega) hcl (by intro u hu; obtain ⟨x, _, rfl⟩ := List.mem_map.1 hu; rfl))
          have KEEP := Lib.hid CM
          clear CM ROW hln hcl
          go_wp2_with fail
          refine CL.out.mono ?_
          rintro e w2 ⟨v', rfl, hv, hnn, hb2⟩
          obtain ⟨g, gcap, rfl⟩ : ∃ g gcap, v' = .slice (some ⟨g, 0, none⟩) k gcap := by
            rcases hv.2 with ⟨h1, h2⟩ | ⟨g, cap', cur, h1, _⟩
            · exact absurd h1 hnn
            · exact ⟨g, cap', h1⟩
          have hgl : wr.heap.size ≤ g := (hv.lt g (by simp [Value.ownBlock])).1
          have szr := HB2.out.size
          have DL := Lib.hid (deleteD_any (F := F) h64 wr.heap.size g gcap S.sl w2 (by rw [HL.out]; omega) (by rw [HL.out]; exact hv) (fun x hx => (KEEP.out.below hb2).sl x hx) (fun k hk e => by have := HB.out.fl k hk; omega))
          rw [HL.out] at DL
          have HB3 := Lib.hid hb2
          clear hv hnn hb2 CL
          go_wp2_with fail
          refine DL.out.mono ?_
          rintro e w3 ⟨rfl, hrow3, ht3⟩
          have t3 : Touch (fun k => k = g) wr w3 := (Touch.of_below HB3.out).then ht3
          have cg : c ≠ g := fun e => by have := HB.out.fl c HB.out.cm.fc; omega
          have S5 := (t3.block c (lt_of S4) cg).trans S4
          have z7 := free_of S5 6
          have c7 : w3.cell? ⟨c, 6, none⟩ = some (.slice (some ⟨ga, 0, none⟩) k cap) := by rw [cell_of S5]; rfl
          have FIN : Hid (∃ vs' F', CB (w3.setCell ⟨c, 6, none⟩ (.slice (some ⟨g, 0, none⟩) (busy S.sl).length gcap)) c bp S.trim vc vs' F' G M n b ∧ (∀ k, F' k → F k ∨ w.heap.size ≤ k) ∧ Touch (fun k => F k ∨ G k) w (w3.setCell ⟨c, 6, none⟩ (.slice (some ⟨g, 0, none⟩) (busy S.sl).length gcap))) := Lib.hid (by
            have tt := (t3.mono (G := fun k => k = c ∨ k = g) (fun k hk => Or.inr hk)).setCell (p := ⟨c, 6, none⟩) (Or.inl (Or.inl rfl)) (.slice (some ⟨g, 0, none⟩) (busy S.sl).length gcap)
            refine drop_fin HB.out HB2.out (by rw [block_setCell S5]; rfl) ?_ (fun k hk => ?_) tt (fun k hk => ?_)
            · exact ownsRow_same (row_low hrow3 (Nat.zero_le _)) (fun k hk => Below.heap_setCell _ _ _ _ (fun e => by
                simp [Value.ownBlock] at hk
                exact cg (e.symm.trans hk.symm)))
            · simp [Value.ownBlock] at hk
              omega
            · rcases hk with e | e
              · exact Or.inl e
              · exact Or.inr (by omega))
          clear hrow3 ht3 t3 DL KEEP
          go_wp2_with fail
          go_meet
          exact FIN.out
      case rest =>
        obtain ⟨vs', F', hCB, hF, hT⟩ := hcut
        rename_i wc _
        generalize wc = w4 at *
        have hI : idleN S S.sl ≤ S.tot := by have := idle_busy S S.sl; unfold CaSt.tot; omega
        have hI2 := hCB.bk.le
        have hT2 : w.heap.size ≤ w4.heap.size := hT.size
        obtain ⟨I, hII⟩ : ∃ I, idleN S S.sl = I := ⟨_, rfl⟩
        have HII := Lib.hid hII
        rw [hII] at hI ⊢
        have NOW := Lib.hid hCB
        have KF := Lib.hid (And.intro hF hT)
        have GV := Lib.hid (fun W (hW : Below w4.heap.size w4 W) => give1_any (hCB.bk.below hW) I (by omega))
        have cc0 := hCB.cm.cells.1
        have cc1 := hCB.cm.cells.2.1
        clear S4 z6 c6r CM hII hCB hF hT HR BD
        by_cases h0 : I = 0
        · subst h0
          have FIN : Hid (DrPost w c bp S vc F G M n (.returned (.int .i64 0)) w4) := Lib.hid ⟨by rw [HII.out]; rfl, vs', F', G, b, by rw [HII.out]; exact NOW.out, KF.out.1, fun k hk => Or.inl hk, KF.out.2⟩
          clear GV
          go_wp2_with fail
          go_ret
          exact FIN.out
        · have hpos : (0 : Int) < (I : Int) := by omega
          go_upto_region 10 with fail
          have S0 : BelW w4 w4 := Below.refl _ w4
          have r0 : ∀ y : WIn (BelW w4), y.w.cell? ⟨c, 0, none⟩ = some (.pointer (some ⟨bp, 0, none⟩)) := fun y => old_cell y.h cc0
          have r1 : ∀ y : WIn (BelW w4), y.w.cell? ⟨c, 1, none⟩ = some (.int .i64 1) := fun y => old_cell y.h cc1
          have S1 : BelW w4 w4.drew := (Below.refl _ w4).drew
          haveI ne : Nonempty (WIn (BelW w4)) := ⟨⟨w4.drew, S1⟩⟩
          refine wp_normal ?_
          refine wp_region_plan 9 (BelW w4) rfl ?_
          refine wpN_seg [0, 1, 2, 3, 4, 5, 6, 7, 8] (by kernel_rfl) (by kernel_rfl) (by kernel_rfl) (by kernel_rfl) (by decide) (fun _ _ _ _ _ h => h) S1 ?_
          simp only [pick, List.map_cons, List.map_nil, List.getElem?_cons_succ, List.getElem?_cons_zero, Option.getD_some]
          repeat (go_big_quiet_step (fail))
          refine wpQuiet_nil ?_
          clear r0 r1 ne
          have GV2 := Lib.hid (GV.out w4.drew S1)
          refine wpN_one 9 _ (by kernel_rfl) rfl ?_
          refine NextAt.free (by kernel_rfl) ?_
          intro K hK
          go_simp
          refine GV2.out.mono ?_
          rintro e w5 ⟨rfl, G', b', hbk, hg, ht⟩
          have FIN : Hid (DrPost w c bp S vc F G M n (.returned (.int .i64 (I : Nat))) w5) := Lib.hid (by
            have h5 := (NOW.out.below (Below.refl w4.heap.size w4).drew).asked hbk hg ht
            refine ⟨by rw [HII.out], vs', F', G', b', by rw [HII.out]; exact h5, KF.out.1, fun k hk => ?_, ?_⟩
            · rcases hg k hk with e | e
              · exact Or.inl e
              · exact Or.inr (Nat.le_trans hT2 e)
            · exact (KF.out.2.drew).trans ht (fun k hk => Or.inl (Or.inr hk)))
          clear hbk hg ht
          go_simp
          refine hK _ _ ?_
          clear hK K
          refine wpN_done (by kernel_rfl) ?_
          go_wp2_with fail
          go_ret
          exact FIN.out

set_option maxHeartbeats 1000000 in
set_option maxRecDepth 100000 in
theorem trimS_any {w : World} {c bp : Nat} {S : CaSt} {vc vs : Value} {F G : Nat → Prop} {M n : Nat} {b : BookSt} (h : CB w c bp S vc vs F G M n b) (hn : S.tot ≤ n) (ho : S.closed = false) :
    Calls Try.prog 16 #[.pointer (some ⟨c, 0, none⟩)] w (fun e w' => e = .returned (.tuple #[.int .i64 (idleN S S.sl : Nat), .int .i64 0]) ∧ ∃ vs' F' G' b', CB w' c bp S.trim vc vs' F' G' M (n - idleN S S.sl) b' ∧ (∀ k, F' k → F k ∨ w.heap.size ≤ k) ∧ (∀ k, G' k → G k ∨ w.heap.size ≤ k) ∧ Touch (fun k => F k ∨ G k) w w') := by
  have DR := Lib.hid (drop_any h hn)
  have c4 := h.cm.cells.2.2.2.2.1
  rw [ho] at c4
  clear h hn
  go_enter Try.func16, Try.ntmps16
  go_wp2_with fail
  refine DR.out.mono ?_
  rintro e w2 ⟨rfl, hp⟩
  have FIN := Lib.hid hp
  clear hp DR
  go_wp2_with fail
  go_ret2
  exact ⟨by first | rfl | simp, FIN.out⟩

end Go.Proofs.Ytiaedonhbafpjaa
