/-
  The walk of TopArena. No conditions.
-/
import Derived.Test.YtfolidedcejafaaArenQ
import Derived.Deep.CutRange
import Derived.Deep.DeepCutAuto
namespace Go.Proofs.Ytfolidedcejafaa
open Go.RowKit
set_option linter.unusedVariables false

/-- Pairs of integers that came in. -/
def TwoIn (W : World) (v : Value) (n : Nat) (es : Nat → Int × Int) : Prop :=
  ∃ a cap, v = .slice a n cap ∧ n ≤ 8796093022208 ∧ ∀ k, k < n → ∃ b o, a = some ⟨b, o, none⟩ ∧ W.cell? ⟨b, o + k * 2, none⟩ = some (.int .i64 (es k).1) ∧ W.cell? ⟨b, o + k * 2 + 1, none⟩ = some (.int .i64 (es k).2)

theorem infoThen : (Try.prog.info? 44).map (fun i => (i.zero, i.size, i.bytes)) = some (some (.agg #[.int .i64 0, .int .i64 0, .int .i64 0, .slice none 0 0]), 4, 48) := by kernel_rfl

set_option maxHeartbeats 16000000 in
set_option maxRecDepth 100000 in
theorem topArena (k s m sz : Int) (v2 : Value) (n : Nat) (es : Nat → Int × Int) (v3 : Value) (ms : List Int) (w : World) (h2 : TwoIn w v2 n es) (h3 : Reads w .i64 v3 ms) :
    Calls Try.prog 3 #[.agg #[.int .i64 k, .int .i64 s, .int .i64 m], .int .i64 sz, v2, v3] w (LawPost w) := by
  obtain ⟨i0, hi0, hz0, hz1, hz2⟩ := info_parts infoThen
  have B0 := BoxAt.new w k s m 23
  have bel0 : Below w.heap.size w (w.alloc (.cells #[.int .i64 k, .int .i64 s, .int .i64 m] 23)) := by go_grown
  obtain ⟨a2, c2, rfl, hn2, hc2⟩ := h2
  have H2 := Lib.hid hc2
  have H3 := Lib.hid h3
  have HB0 := Lib.hid B0
  have HL0 := Lib.hid bel0
  have hmm := @run_makeMap Try.prog
  clear hc2 h3 B0 bel0
  go_enter Try.func3, Try.ntmps3
  go_wp2_with fail
  refine (awakeTop_any _).mono ?_
  rintro e w1 ⟨rfl, hb1⟩
  have B1 := Lib.hid (HB0.out.below hb1)
  have L1 := Lib.hid (HL0.out.trans (hb1.mono (by simp)))
  clear hb1
  go_wp2_with fail
  refine (newBook_ok _ _ (by omega) (by omega)).mono ?_
  rintro e w2 ⟨bp, rfl, hb, hb2⟩
  have B2 := Lib.hid (B1.out.below hb2)
  have s1 := L1.out.size
  have L2 := Lib.hid (L1.out.trans (hb2.mono s1))
  have O := Lib.hid (open_new bp 1 10000000 w2 _ _ 0 hb (by simp [newSt]) (by unfold maxLen; omega) (by omega) (by omega) rfl)
  have hb2s := Lib.hid hb2.size
  have HB12 : Hid (∀ {w3 : World}, Below w1.heap.size w2 w3 → BoxAt w3 w.heap.size k s m) := Lib.hid (fun h => B1.out.below (hb2.trans h))
  clear hb hb2
  have s2 := L2.out.size
  go_wp2_with fail
  refine O.out.mono ?_
  rintro e w3 ⟨rfl, hb3, ht3⟩
  have s12 := hb2s.out
  have t3 := ht3.below (B := w1.heap.size) s12 (fun k hk => hk)
  have B3 := HB12.out t3
  have L3 := Lib.hid (L2.out.trans (t3.mono s1))
  have s3 := t3.size
  have HK3 := Lib.hid hb3.narrow
  have NW := Lib.hid (arNew_any bp k s m sz w3 _ _ _ hb3 (by rfl))
  clear hb3 ht3 t3
  obtain ⟨x0, x1, x2, x3⟩ := B3
  go_wp2_with fail
  refine NW.out.mono ?_
  rintro e w4 ⟨hb4, ⟨err, hne, rfl⟩ | ⟨r, hr, rfl, hpol, hsz, har⟩⟩
  · have L4 := Lib.hid (L3.out.trans (hb4.mono L3.out.size))
    have hE : (err == 0) = false := by simpa using hne
    clear hne hb4
    go_wp2_with fail
    go_ret
    exact ⟨rfl, L4.out⟩
  have L4 := Lib.hid (L3.out.trans (hb4.mono L3.out.size))
  have HB4 := Lib.hid hb4
  have HAR := Lib.hid har
  have HPO := Lib.hid hpol
  have HSZ := Lib.hid hsz
  have hr4 := lt_of har
  have s4 := hb4.size
  have ls3 := L3.out.size
  clear hb4 har hpol hsz
  go_wp2_with fail
  have START : Hid (AlAt w (w4.alloc (.map #[] 0)) ⟨r, bp, 1, k, s, m, sz⟩ w4.heap.size 0 (.slice none 0 0)) := Lib.hid (by
    have W5 : Below w4.heap.size w4 (w4.alloc (.map #[] 0)) := (Below.refl _ _).alloc (Nat.le_refl _) _
    have lw4 := L4.out.size
    refine ⟨⟨[], [], [], 0, 0, 0⟩, _, fun k => k = r, _, 0, [], ⟨⟨⟨⟨.slice none 0 0, .slice none 0 0, .slice none 0 0, ⟨(W5.block r hr4).trans HAR.out, rfl, World.ownsRow_nil _ _ _ _, fun k hk => by simp [Value.ownBlock] at hk, World.ownsRow_nil _ _ _ _, fun k hk => by simp [Value.ownBlock] at hk, World.ownsRow_nil _ _ _ _, fun k hk => by simp [Value.ownBlock] at hk, fun c hc => by simp at hc, by simp⟩⟩,
      HK3.out.same (fun k hk _ => (W5.block k (by have := hk.2; omega)).trans (HB4.out.block k hk.2)), ?_, ?_, ?_, rfl, HPO.out, HSZ.out, ?_, rfl, ?_, ?_, ?_, ?_, ?_, ?_⟩, ?_, ?_, ?_, ?_, ?_, by omega, ?_, ?_⟩, ?_, by simp⟩⟩
    · rintro k rfl ⟨_, hk⟩; omega
    · rintro k rfl; simp; omega
    · rintro k ⟨_, hk⟩; simp; omega
    · simp [openSt, newSt, sumN]
    · simp [openSt, newSt, sumN]
    · simp [openSt, newSt]
    · exact ⟨by simp, fun x hx => by simp at hx⟩
    · exact ⟨by simp, fun x hx => by simp at hx⟩
    · intro x hx; simp at hx
    · simp [sumN]
    · exact ⟨fun j k _ hk => by simp at hk, fun j k _ hk => by simp at hk, fun x hx => by simp at hx, fun x hx => by simp at hx⟩
    · exact ⟨⟨.map [], World.ownsMap_made w4 _ _ _, fun o h1 h2 => by have h2' : o ≤ 0 := h2; omega⟩, ⟨by omega, fun x => by have := x.2; omega⟩, lw4, World.ownsRow_nil _ _ _ _, fun b hb => by simp [Value.ownBlock] at hb, fun e he => by simp at he⟩
    · rintro k (rfl | ⟨hk, _⟩)
      · omega
      · rcases hk with hk | hk <;> omega
    · simp
    · simp
    · exact L4.out.alloc lw4 _
    · show w.heap.size ≤ r
      omega
    · exact ⟨rfl, fun j hj => by simp at hj, fun j k _ hk => by simp at hk, fun j hj => by simp at hj, fun j k _ hk => by simp at hk⟩)
  generalize hmb : w4.heap.size = mb at *
  clear x0 x1 x2 x3 s12
  go_loopw [12, 54] (fun v i wr => ∃ i' : Nat, i' ≤ n ∧ i = .int .i64 i' ∧ AlAt w wr ⟨r, bp, 1, k, s, m, sz⟩ mb (2 * i') v) (fun _ i _ => n - (intOf i).toNat)
  case atStart => exact ⟨0, Nat.zero_le _, rfl, START.out⟩
  case round =>
    obtain ⟨i, hi, rfl, st, bst, F, G, nn, stk, hal⟩ := hrel
    have HAL := Lib.hid hal
    by_cases hlt : i < n
    case neg =>
      obtain rfl : i = n := by omega
      clear hlt hi
      obtain ⟨cv, rv, mv, hm⟩ := hal.base.ab.ar
      have HD := held_any bp 1 wr G bst 1 hal.base.ab.bk
      have hv : heldV bst 1 = ((sumN Chk.len st.chunks : Nat) : Int) := by unfold heldV; rw [if_pos (by omega), hal.base.ab.acc]
      have he : heldE bst 1 = 0 := by unfold heldE; rw [if_pos (by omega), hal.base.ab.acc]
      rw [hv, he] at HD
      have HHD := Lib.hid HD
      have RM := Lib.hid (arRoom_any ⟨r, bp, 1, k, s, m, sz⟩ F st cv rv mv wr hm hal.base.ab.cok)
      have BL := Lib.hid hal.base.bel
      clear hal hm HD hv he HAL
      generalize sumN Chk.len st.chunks = S at *
      go_wp2_with fail
      refine HHD.out.mono ?_
      rintro e w6 ⟨rfl, rfl⟩
      go_wp2_with fail
      refine RM.out.mono ?_
      rintro e w6 ⟨rfl, rfl⟩
      go_wp2_with fail
      go_ret
      exact ⟨rfl, BL.out⟩
    obtain ⟨b2, o2, rfl, t0, t1⟩ := H2.out i hlt
    have t0' := old_cell hal.base.bel t0
    have t1' := old_cell hal.base.bel t1
    have hTw : w.heap.size ≤ wr.heap.size := hal.base.bel.size
    have W1 : Below wr.heap.size wr (wr.alloc (.cells #[.int .i64 (es i).1, .int .i64 (es i).2] 37)) := (Below.refl _ _).alloc (Nat.le_refl _) _
    have A1 : Hid (Al w (wr.alloc (.cells #[.int .i64 (es i).1, .int .i64 (es i).2] 37)) ⟨r, bp, 1, k, s, m, sz⟩ mb (2 * i) u12 st bst F G nn stk) := Lib.hid (hal.below W1)
    have BX1 : Hid (BoxT w (wr.alloc (.cells #[.int .i64 (es i).1, .int .i64 (es i).2] 37)) F G wr.heap.size (es i).1 (es i).2) := Lib.hid ⟨heap_alloc_new wr _, fun x => by have := hal.base.ab.fl _ x; omega, fun x => by have := hal.base.ab.gl _ x; omega, hTw⟩
    have CT := Lib.hid (containsInt_any v3 ms i _ (H3.out.below (A1.out.base.bel) rfl))
    clear t0 t1 hal W1
    generalize (es i).1 = ta at *
    generalize (es i).2 = tb at *
    go_upto_region 14 with fail
    generalize wr.alloc (.cells #[.int .i64 ta, .int .i64 tb] 37) = w5 at *
    generalize wr.heap.size = T at *
    go_upto_if 61 with (go_at_call 9; refine CT.out.mono ?_; rintro e w6 ⟨⟨b1, rfl⟩, rfl⟩)
    have hAI : AlIn w w5 ⟨r, bp, 1, k, s, m, sz⟩ mb (2 * i + 1) u12 T ta tb := ⟨st, bst, F, G, nn, stk, A1.out.next, BX1.out⟩
    have HAI := Lib.hid hAI
    clear hAI
    go_cut [12] (fun s12 wx => AlIn w wx ⟨r, bp, 1, k, s, m, sz⟩ mb (2 * i + 1) s12 T ta tb)
    case first =>
      cases b1 with
      | false =>
        go_wp2_with fail
        go_meet
        exact HAI.out
      | true =>
        have AB1 := A1.out.base.ab
        obtain ⟨cv, rv, mv, hm⟩ := AB1.ar
        have HM := Lib.hid hm
        have hml := A1.out.rel.len
        by_cases hfull : st.marks.length = 100
        · have MF := Lib.hid (arMark_full ⟨r, bp, 1, k, s, m, sz⟩ F st cv rv mv w5 hm hfull)
          have BB := Lib.hid A1.out.base.bel
          clear AB1 hm
          go_wp2_with fail
          refine MF.out.mono ?_
          rintro e w6 ⟨rfl, rfl⟩
          go_wp2_with fail
          go_ret
          exact ⟨rfl, BB.out⟩
        · have hlt100 : st.marks.length < 100 := by have := A1.out.ml; omega
          have hlm := A1.out.base.lm
          have hlr := A1.out.base.lr
          have MK := Lib.hid (arMark_any ⟨r, bp, 1, k, s, m, sz⟩ F st cv rv mv w5 hm AB1.rok hlt100 (by omega))
          clear AB1 hm
          go_wp2_with fail
          refine MK.out.mono ?_
          rintro e w6 ⟨rfl, ha6, ht6⟩
          obtain ⟨F6, al6, box6⟩ := A1.out.base.marked BX1.out ha6 ht6
          obtain ⟨cv6, rv6, mv6, hm6⟩ := al6.ab.ar
          have HM6 := Lib.hid hm6
          have AL6 := Lib.hid al6
          have BOX6 := Lib.hid box6
          clear ha6 ht6 al6 box6 hm6
          go_upto_region 18 with fail
          go_wp2_with fail
          refine (arLen_any _ F6 _ cv6 rv6 mv6 w6 HM6.out AL6.out.ab.rok).mono ?_
          rintro e w7 ⟨rfl, hb7⟩
          rw [show sumN Reg.len (markSt st).regs = sumN Reg.len st.regs from rfl]
          have hm7 := HM6.out.below hb7
          have HM7 := Lib.hid hm7
          have AL7 := Lib.hid (AL6.out.below hb7)
          have BX7 := Lib.hid (BOX6.out.below hb7)
          clear hb7 hm7
          go_wp2_with fail
          refine (arLost_any _ F6 _ cv6 rv6 mv6 w7 HM7.out AL7.out.ab.rok AL7.out.ab.cok AL7.out.ab.fit).mono ?_
          rintro e w8 ⟨rfl, hb8⟩
          rw [show lostOf (markSt st) = lostOf st from rfl]
          have HM8 := Lib.hid (HM7.out.below hb8)
          have AL8 := Lib.hid (AL7.out.below hb8)
          have BX8 := Lib.hid (BX7.out.below hb8)
          clear hb8
          go_wp2_with fail
          refine (arRegions_any _ F6 _ cv6 rv6 mv6 w8 HM8.out AL8.out.ab.rok).mono ?_
          rintro e w9 ⟨rv, rfl, hro, hb9⟩
          have AL9 := Lib.hid (AL8.out.below hb9)
          have BX9 := Lib.hid (BX8.out.below hb9)
          have hs89 := hb9.size
          have RV9 : Hid (w9.ownsRow w.heap.size 3 1 rv (st.regs.map Reg.no).length ((st.regs.map Reg.no).map (Value.int .i64)) ∧ ∀ b, rv.ownBlock = some b → ¬ F6 b ∧ ¬ G b) := Lib.hid ⟨row_lower hro AL8.out.bel.size, fun b hb => by
            have h1 := (hro.lt b hb).1
            exact ⟨fun x => by have := AL8.out.ab.fl _ x; omega, fun x => by have := AL8.out.ab.gl _ x; omega⟩⟩
          rw [show (markSt st).regs = st.regs from rfl] at hro
          obtain ⟨va, vc, rfl, _, _⟩ := ownsRow_sh hro
          generalize hNL : (st.regs.map Reg.no).length = NL at *
          generalize hSN : sumN Reg.len st.regs = SN at *
          generalize hLO : lostOf st = LO at *
          have ONE : ∀ u ∈ [Value.int .i64 (st.lm + 1), .int .i64 ((SN : Nat) : Int), .int .i64 LO, .slice va NL vc], u.oneCell' = true := by
            intro u hu
            simp only [List.mem_cons, List.not_mem_nil, or_false] at hu
            rcases hu with rfl | rfl | rfl | rfl <;> rfl
          have HONE := Lib.hid ONE
          have hsz9 := AL9.out.bel.size
          have hsl : stk.length ≤ 100 := by have := A1.out.ml; omega
          clear hro hb9 ONE
          go_wp2_with (at_builtin; go_must (refine wpList_append_place rfl (.tmp 71) (.tmp 80) 35 rfl w.heap.size 44 i0 (.agg #[.int .i64 0, .int .i64 0, .int .i64 0, .slice none 0 0]) 4 48 Try.underlying35 hi0 hz0 hz1 hz2 rfl (by decide) _ _ _ w9 _ [.int .i64 (st.lm + 1), .int .i64 ((SN : Nat) : Int), .int .i64 LO, .slice va NL vc] rfl (by exact AL9.out.loc.row) rfl rfl HONE.out (by unfold maxLen; omega) (by omega) hsz9 ?_))
          intro g cap w' hrow hgr hpl hszz
          obtain ⟨z1, z2⟩ := AL9.out.push ⟨st.lm + 1, ((SN : Nat) : Int), LO, .slice va NL vc, st.regs.map Reg.no⟩ g cap (by rw [hNL]; exact RV9.out) hrow hgr hpl
          have bx' := BX9.out.other z2 (fun x => row_ne AL9.out.loc.row BX9.out.1 (by decide) x)
          have FINA : Hid (AlIn w w' ⟨r, bp, 1, k, s, m, sz⟩ mb (2 * i + 1) (.slice (some ⟨g, 0, none⟩) (stk.length + 1) cap) T ta tb) := Lib.hid ⟨markSt st, bst, F6, G, nn, _, ⟨z1, by rw [← hSN, ← hLO]; exact A1.out.rel.marked _, by unfold markSt; simp; omega⟩, bx'⟩
          clear hrow hgr hpl z1 z2 bx'
          go_wp2_with fail
          go_meet
          exact FINA.out
    case rest =>
      obtain ⟨st, bst, F, G, nn, stk, al, bx⟩ := hcut
      have AL := Lib.hid al
      have BX := Lib.hid bx
      have t0 : wc.cell? ⟨T, 0, none⟩ = some (.int .i64 ta) := by rw [cell_of bx.1]; rfl
      have t1 : wc.cell? ⟨T, 1, none⟩ = some (.int .i64 tb) := by rw [cell_of bx.1]; rfl
      have hlr := al.base.lr
      have hnn := al.base.nn
      have TK := Lib.hid (arTake_any ⟨r, bp, 1, k, s, m, sz⟩ st bst F G ta tb wc al.base.ab (by omega))
      clear al bx A1 BX1 CT HAI t0' t1'
      go_upto_region 19 with fail
      go_cut [18, 19] (fun s18 s19 wx => ∃ no err : Int, s18 = .int .i64 no ∧ s19 = .int .i64 err ∧ ((err ≠ 0 ∧ AlIn w wx ⟨r, bp, 1, k, s, m, sz⟩ mb (2 * i + 2) u12 T ta tb) ∨
        (err = 0 ∧ no = st.lr + 1 ∧ 0 ≤ ta ∧ ∃ st' bst' F' G', TakeOk st ta.toNat st' ∧ Md w wx ⟨r, bp, 1, k, s, m, sz⟩ mb u12 st' bst' F' G' st.lr nn stk T ta tb)))
      case first =>
        go_wp2_with fail
        refine TK.out.mono ?_
        intro e w6 hp
        rcases hp with ⟨err, he, rfl, hp⟩ | ⟨rfl, h0, st', hok, hp⟩
        · obtain ⟨bst', F', G', al', bx'⟩ := AL.out.failed BX.out hp
          have R := Lib.hid (show AlIn w w6 ⟨r, bp, 1, k, s, m, sz⟩ mb (2 * i + 2) u12 T ta tb from ⟨st, bst', F', G', nn, stk, al'.next, bx'⟩)
          have HE := Lib.hid he
          clear hp al' bx' he
          go_wp2_with fail
          go_meet
          exact ⟨0, err, rfl, rfl, Or.inl ⟨HE.out, R.out⟩⟩
        · obtain ⟨bst', F', G', md⟩ := AL.out.took BX.out hp
          have R := Lib.hid md
          have HOK := Lib.hid hok
          have H0 := Lib.hid h0
          clear hp md hok h0
          go_wp2_with fail
          go_meet
          exact ⟨_, 0, rfl, rfl, Or.inr ⟨rfl, rfl, H0.out, st', bst', F', G', HOK.out, R.out⟩⟩
      case rest =>
        obtain ⟨no, err, rfl, rfl, hor⟩ := hcut
        have HOR := Lib.hid hor
        clear hor t0 t1 TK
        go_upto_if 92 with fail
        go_cut [14] (fun s14 wx => s14 = .int .i64 i ∧ AlIn w wx ⟨r, bp, 1, k, s, m, sz⟩ mb (2 * i + 2) u12 T ta tb)
        case first =>
          rcases HOR.out with ⟨he, hin⟩ | ⟨rfl, rfl, hta, st', bst', F', G', hok, md⟩
          · have he' : (err == 0) = false := by simpa using he
            have HIN := Lib.hid hin
            clear HOR he hin
            go_wp2_with fail
            go_meet
            exact ⟨rfl, HIN.out⟩
          · obtain ⟨N, rfl⟩ : ∃ N : Nat, ta = (N : Int) := ⟨ta.toNat, by omega⟩
            rw [Int.toNat_natCast] at hok
            obtain ⟨x, p1, p2, p3, p4, p5, p6, p7, p8, p9, p10, p11, p12⟩ := take_plain AL.out.base.pl AL.out.base.ab.rok AL.out.base.ab.fit AL.out.rel hlr.1 hok
            have hfst : FirstAt st'.regs (st.lr + 1) st.regs.length := by
              refine ⟨by rw [p1]; simp, by rw [p1, getD_last]; exact p2, fun j hj => ?_⟩
              rw [p1, getD_app _ _ _ _ hj]
              have := (AL.out.base.pl.rng _ (getD_in Reg.zero hj)).2
              omega
            have hxl : st'.regs.getD st.regs.length Reg.zero = x := by rw [p1, getD_last]
            obtain ⟨cv, rv, mv, hm⟩ := md.ab.ar
            have LK := Lib.hid (arLook_ok ⟨r, bp, 1, k, s, m, sz⟩ F' st' cv rv mv (st.lr + 1) st.regs.length wc hm md.ab.rok md.ab.cok md.ab.fit hfst)
            rw [hxl] at LK
            have hrow := (hm.mem _ (getD_in Chk.zero p8)).1
            have hNb : N ≤ 100000 := by
              have := md.ab.cok.2 _ (getD_in Chk.zero p8)
              unfold Reg.len at p4; omega
            have osl := md.ab.cok.2 _ (getD_in Chk.zero p8)
            have HROW := Lib.hid hrow
            have MD := Lib.hid md
            have P1 := Lib.hid p1
            have P10 := Lib.hid p10
            have P11 := Lib.hid p11
            have P12 := Lib.hid p12
            have P3 := Lib.hid p3
            have P5 := Lib.hid p5
            have P6 := Lib.hid p6
            have hlen : x.to - x.fr = N := p4
            clear HOR hok p1 p2 p3 p5 p6 p10 p11 p12 hfst hxl hm hrow md
            go_wp2_with fail
            refine LK.out.mono ?_
            rintro e w7 ⟨f, he, hf, hb7⟩
            rw [hlen] at he
            subst he
            have MD7 := Lib.hid (MD.out.below hb7)
            have ROW7 : byteRow w7 (st'.chunks.getD x.ch Chk.zero).b (st'.chunks.getD x.ch Chk.zero).os := (hb7.block _ (lt_of HROW.out)).trans HROW.out
            have rd : Reads w7 .u8 (.slice f N N) (zeros N) := by
              have h0 := reads_part ROW7 x.fr N (by omega) (by omega) f (fun h => hf (by omega))
              have h1 := P10.out
              unfold ArSt.shows Reg.len at h1
              rw [hlen] at h1
              rw [← h1]; exact h0
            have HZ := Lib.hid (hasZero_any _ N w7 rd)
            have HF := Lib.hid (fun h : 0 < N => hf (by omega))
            have R7 := Lib.hid ROW7
            have tx0 : w7.cell? ⟨T, 0, none⟩ = some (.int .i64 (N : Int)) := by rw [cell_of MD7.out.box.1]; rfl
            clear hf hb7 ROW7 rd
            go_wp2_with fail
            refine HZ.out.mono ?_
            rintro e w8 ⟨rfl, rfl⟩
            obtain ⟨D, hD, hDl⟩ := MD7.out.loc.con
            have hDm : Maps.IsMap D := by obtain ⟨_, _, _, _, _, hDD⟩ := hD; exact ⟨_, hDD⟩
            have hwfk : (Lit.int .i64 (st.lr + 1)).wf = true := WalkArith.wf_i64 (by omega)
            have hzm : 0 ≤ (st.lr + 1) % 256 ∧ (st.lr + 1) % 256 < 256 := ⟨Int.emod_nonneg _ (by omega), Int.emod_lt_of_pos _ (by omega)⟩
            have hwfz : (Lit.int .u8 ((st.lr + 1) % 256)).wf = true := by
              simp [Lit.wf, IntKind.min, IntKind.max, IntKind.signed, IntKind.bits]; omega
            have HD := Lib.hid hD
            have HDL := Lib.hid hDl
            have HDM := Lib.hid hDm
            clear hD hDl hDm
            go_wp2_with (at_mapUpdate; go_must (refine wpList_mapUpdate_own _ rfl _ _ _ 36 rfl 3 5 intKey Try.underlying36 (plainElem Try.prog 5) mb nn D rfl (by exact HD.out) (by unfold maxLen; omega) (.int .i64 (st.lr + 1)) (.int .u8 ((st.lr + 1) % 256)) (.int .i64 (st.lr + 1)) rfl rfl (Maps.keyOf_int_mk Try.underlying3 hwfk) (.lit (.int .u8 ((st.lr + 1) % 256))) [] (plainElem_int Try.underlying5 hwfz) ?_))
            intro w8 hown8 hg8
            have md8 := MD7.out.put D HDL.out HDM.out hown8 hg8
            have MD8 := Lib.hid md8
            have R8 : Hid (byteRow w8 (st'.chunks.getD x.ch Chk.zero).b (st'.chunks.getD x.ch Chk.zero).os) := Lib.hid ((hg8.block _ (lt_of R7.out) (fun e => by
              obtain ⟨D', ⟨es', clock, hb', _⟩, _⟩ := MD7.out.loc.con
              have h1 := R7.out
              unfold byteRow at h1
              simp only [Option.some.injEq] at e
              rw [e, hb'] at h1
              simp at h1)).trans R7.out)
            clear hown8 hg8 md8 tx0
            go_wp2_with fail
            go_loopw [118] (fun iv wr => ∃ j : Nat, j ≤ N ∧ iv = .int .i64 j ∧ byteRow wr (st'.chunks.getD x.ch Chk.zero).b (fill ((st.lr + 1) % 256) (st'.chunks.getD x.ch Chk.zero).os x.fr j) ∧ Touch (fun k => k = (st'.chunks.getD x.ch Chk.zero).b) w8 wr) (fun iv _ => N - (intOf iv).toNat)
            case atStart => exact ⟨0, Nat.zero_le _, rfl, R8.out, Touch.refl _ _⟩
            case round =>
              obtain ⟨j, hj, rfl, hrw, htw⟩ := hrel
              have RW := Lib.hid hrw
              have TW := Lib.hid htw
              by_cases hjN : j < N
              · obtain rfl := HF.out (by omega)
                have c1 : wr.cell? ⟨(st'.chunks.getD x.ch Chk.zero).b, x.fr + j, none⟩ = some (.int .u8 ((fill ((st.lr + 1) % 256) (st'.chunks.getD x.ch Chk.zero).os x.fr j).getD (x.fr + j) 0)) := hrw.cell (x.fr + j) (by rw [fill_len]; omega)
                have c2 : wr.frozen? ⟨(st'.chunks.getD x.ch Chk.zero).b, x.fr + j, none⟩ = false := free_of hrw _
                have RN : Hid (byteRow (wr.setCell ⟨(st'.chunks.getD x.ch Chk.zero).b, x.fr + j, none⟩ (.int .u8 ((st.lr + 1) % 256))) (st'.chunks.getD x.ch Chk.zero).b (fill ((st.lr + 1) % 256) (st'.chunks.getD x.ch Chk.zero).os x.fr (j + 1))) := Lib.hid (by
                  have := set_byte hrw (x.fr + j) ((st.lr + 1) % 256)
                  rw [fill_snoc] at this
                  exact this)
                have TN := Lib.hid (htw.setCell (p := ⟨(st'.chunks.getD x.ch Chk.zero).b, x.fr + j, none⟩) (Or.inl rfl) (.int .u8 ((st.lr + 1) % 256)))
                clear hrw htw
                generalize (fill ((st.lr + 1) % 256) (st'.chunks.getD x.ch Chk.zero).os x.fr j).getD (x.fr + j) 0 = old at *
                generalize hBB : (st'.chunks.getD x.ch Chk.zero).b = B at *
                go_wp2_with fail
                go_round
                case rel => exact ⟨j + 1, by omega, by go_num, RN.out, TN.out⟩
                case measure => simp [intOf]; omega
              · obtain rfl : N = j := by omega
                have md9 := MD8.out.wrote x.ch _ p8 (fill_len _ _ _ _) hrw htw
                have HH : Hid (AlIn w wr ⟨r, bp, 1, k, s, m, sz⟩ mb (2 * i + 2) u12 T N tb) := Lib.hid (by
                  refine ⟨{ st' with chunks := setChunk st'.chunks x.ch (fill ((st.lr + 1) % 256) (st'.chunks.getD x.ch Chk.zero).os x.fr N) }, bst', F', G', nn + 1, stk, ⟨⟨md9.ab, P11.out, ?_, md9.far, ?_, ?_, by omega, md9.bel, AL.out.base.rfar⟩, P12.out, ?_⟩, md9.box⟩
                  · show Loc w wr F' G' mb st'.lr (nn + 1) u12 stk
                    rw [P3.out]; exact md9.loc
                  · show 0 ≤ st'.lr ∧ st'.lr ≤ _
                    rw [P3.out]; omega
                  · show 0 ≤ st'.lm ∧ st'.lm ≤ _
                    rw [P5.out]
                    have := AL.out.base.lm
                    omega
                  · show st'.marks.length ≤ 100
                    rw [P6.out]; exact AL.out.ml)
                clear hrw htw md9 hjN hj
                go_wp2_with fail
                go_meet
                exact ⟨rfl, HH.out⟩
        case rest =>
          obtain ⟨rfl, st, bst, F, G, nn, stk, al, bx⟩ := hcut
          have AL := Lib.hid al
          obtain ⟨cv, rv, mv, hm⟩ := al.base.ab.ar
          have hlr2 := al.base.lr
          have AP := Lib.hid (apart_any ⟨r, bp, 1, k, s, m, sz⟩ F st cv rv mv mb nn wc hm al.base.ab.rok al.base.ab.cok al.base.ab.fit al.base.pl al.base.loc.con (by omega))
          clear al bx hm HOR
          go_wp2_with fail
          refine AP.out.mono ?_
          rintro e w6 ⟨rfl, hb6⟩
          have AL6 := Lib.hid (AL.out.below hb6)
          have CT2 := Lib.hid (containsInt_any v3 ms (-(i : Int)) w6 (H3.out.below AL6.out.base.bel rfl))
          clear hb6 AL
          go_wp2_with fail
          refine CT2.out.mono ?_
          rintro e w7 ⟨⟨b2, rfl⟩, rfl⟩
          have FIN6 : Hid (AlAt w w6 ⟨r, bp, 1, k, s, m, sz⟩ mb (2 * (i + 1)) u12) := Lib.hid ⟨st, bst, F, G, nn, stk, AL6.out⟩
          obtain ⟨sa, sc, hu12, hsc, _⟩ := ownsRow_sh AL6.out.base.loc.row
          cases b2 with
          | false =>
            clear hu12
            go_wp2_with fail
            go_round
            case rel => exact ⟨i + 1, by omega, by go_num, FIN6.out⟩
            case measure => simp [intOf]; omega
          | true =>
            by_cases hq0 : stk.length = 0
            · rw [hq0] at hu12
              subst hu12
              clear hsc
              go_wp2_with fail
              go_round
              case rel => exact ⟨i + 1, by omega, by go_num, FIN6.out⟩
              case measure => simp [intOf]; omega
            · obtain ⟨q, hq⟩ : ∃ q, stk.length = q + 1 := ⟨stk.length - 1, by omega⟩
              obtain ⟨g, cap, hgc⟩ := row_shape AL6.out.base.loc.row (by omega)
              rw [hq] at hgc hsc
              have q100 : q ≤ 100 := by have h1 := AL6.out.rel.len; have h2 := AL6.out.ml; omega
              have hcap : q + 1 ≤ cap := by
                rw [hgc] at hu12
                simp at hu12
                omega
              clear hu12 hsc hq0
              subst hgc
              have hrow6 := AL6.out.base.loc.row
              rw [← hq] at hrow6
              obtain ⟨y0, y1, y2, y3⟩ := then_cells hrow6 q (by omega)
              have hE := (AL6.out.rel.ent q (by omega))
              have hFM := AL6.out.rel.first q (by omega)
              obtain ⟨e1, e2, e3, e4, e5, e6⟩ := rel_plain AL6.out.base.pl AL6.out.rel q hq.symm
              obtain ⟨cv6, rv6, mv6, hm6⟩ := AL6.out.base.ab.ar
              have hin := getD_in Sk.zero (show q < stk.length by omega)
              have hLS := AL6.out.base.loc.lists _ hin
              generalize hSE : stk.getD q Sk.zero = E at *
              obtain ⟨ra, rc, hra, hle6, hrc6⟩ := ownsRow_sh hLS.1
              rw [hra] at y3 hLS
              have W8 : Below w6.heap.size w6 (w6.alloc (.cells #[.int .i64 E.mark, .int .i64 E.len, .int .i64 E.lost, (.slice ra E.nos.length rc)] 44)) := (Below.refl _ _).alloc (Nat.le_refl _) _
              have RL := Lib.hid (arRelease_any ⟨r, bp, 1, k, s, m, sz⟩ F st cv6 rv6 mv6 E.mark q _ (hm6.below W8) AL6.out.base.ab.rok AL6.out.ml hFM hE.2.1)
              have X8 : (w6.alloc (.cells #[.int .i64 E.mark, .int .i64 E.len, .int .i64 E.lost, (.slice ra E.nos.length rc)] 44)).heap[w6.heap.size]? = some (.cells #[.int .i64 E.mark, .int .i64 E.len, .int .i64 E.lost, (.slice ra E.nos.length rc)] 44 (0, 0)) := heap_alloc_new w6 _
              have nF : ¬ F w6.heap.size := fun x => by have := AL6.out.base.ab.fl _ x; omega
              have nFr : ∀ b, (Value.slice ra E.nos.length rc).ownBlock = some b → ¬ F b := fun b hb => (hLS.2 b hb).1
              have LS8 := Lib.hid (own_keep hLS.1 W8)
              have AL8 := Lib.hid (AL6.out.below W8)
              have HX8 := Lib.hid X8
              have HE4 := Lib.hid e4
              have HE5 := Lib.hid e5
              have HE6 := Lib.hid e6
              have hmb60 := hE.2.1
              clear hra hrow6 hE hFM e1 e2 e3 e4 e5 e6 hm6 hin hLS W8 X8 CT2 AP
              go_upto_region 35 with fail
              generalize hw8 : w6.alloc (.cells #[.int .i64 E.mark, .int .i64 E.len, .int .i64 E.lost, (.slice ra E.nos.length rc)] 44) = w8 at *
              generalize w6.heap.size = Bx at *
              have z0 : w8.cell? ⟨Bx, 0, none⟩ = some (.int .i64 E.mark) := by rw [cell_of HX8.out]; rfl
              clear hw8 y0 y1 y2 y3
              go_wp2_with fail
              refine RL.out.mono ?_
              rintro e w9 ⟨rfl, ha9, ht9⟩
              have al9 := AL8.out.released hq ha9 ht9
              have X9 : w9.heap[Bx]? = some (.cells #[.int .i64 E.mark, .int .i64 E.len, .int .i64 E.lost, (.slice ra E.nos.length rc)] 44 (0, 0)) := (ht9.block Bx (lt_of HX8.out) nF).trans HX8.out
              have LS9 := ownsRow_same LS8.out (fun b hb => ht9.block b (LS8.out.lt b hb).2 (nFr b hb))
              have FIN9 : Hid (∀ w', Below w9.heap.size w9 w' → AlAt w w' ⟨r, bp, 1, k, s, m, sz⟩ mb (2 * (i + 1)) (.slice (some ⟨g, 0, none⟩) q cap)) := Lib.hid (fun w' hb => ⟨_, _, _, _, _, _, al9.below hb⟩)
              obtain ⟨cv9, rv9, mv9, hm9⟩ := al9.base.ab.ar
              have rok9 := al9.base.ab.rok
              have LEN : Hid (∀ w', Below w9.heap.size w9 w' → Calls Try.prog 11 #[.pointer (some ⟨r, 0, none⟩)] w' (IntPost (sumN Reg.len (relSt st q).regs : Nat) w')) := Lib.hid (fun w' hb => arLen_any ⟨r, bp, 1, k, s, m, sz⟩ F _ cv9 rv9 mv9 w' (hm9.below hb) rok9)
              have LOST : Hid (∀ w', Below w9.heap.size w9 w' → Calls Try.prog 12 #[.pointer (some ⟨r, 0, none⟩)] w' (IntPost (lostOf (relSt st q)) w')) := Lib.hid (fun w' hb => arLost_any ⟨r, bp, 1, k, s, m, sz⟩ F _ cv9 rv9 mv9 w' (hm9.below hb) rok9 al9.base.ab.cok al9.base.ab.fit)
              have REGS : Hid (∀ w', Below w9.heap.size w9 w' → Calls Try.prog 13 #[.pointer (some ⟨r, 0, none⟩)] w' (RowPost ((relSt st q).regs.map Reg.no) w')) := Lib.hid (fun w' hb => arRegions_any ⟨r, bp, 1, k, s, m, sz⟩ F _ cv9 rv9 mv9 w' (hm9.below hb) rok9)
              have nlb : ((relSt st q).regs.map Reg.no).length ≤ 2000 := by rw [List.length_map]; exact rok9.1
              have hSN := rok9.sum (relSt st q).regs.length
              rw [List.take_length] at hSN
              have EQ : Hid (∀ w' v, Below w9.heap.size w9 w' → Reads w' .i64 v ((relSt st q).regs.map Reg.no) → Calls Try.prog 20 #[v, (.slice ra E.nos.length rc)] w' (EqPost true w')) := Lib.hid (fun w' v hb hr => by
                have hnl : E.nos.length ≤ 2000 := by rw [HE6.out]; exact nlb
                have h0 := equal_int v (.slice ra E.nos.length rc) _ _ w' hr (Reads.own (own_keep LS9 hb) (by omega))
                rw [decide_eq_true HE6.out.symm] at h0
                exact h0)
              have Y : Hid (∀ w', Below w9.heap.size w9 w' → w'.cell? ⟨Bx, 1, none⟩ = some (.int .i64 ((sumN Reg.len (relSt st q).regs : Nat) : Int)) ∧ w'.cell? ⟨Bx, 2, none⟩ = some (.int .i64 (lostOf (relSt st q))) ∧ w'.cell? ⟨Bx, 3, none⟩ = some (.slice ra E.nos.length rc)) := Lib.hid (fun w' hb => by
                have h0 := (hb.block Bx (lt_of X9)).trans X9
                exact ⟨by rw [cell_of h0, ← HE4.out]; rfl, by rw [cell_of h0, ← HE5.out]; rfl, by rw [cell_of h0]; rfl⟩)
              obtain ⟨u1, u2, u3⟩ := Y.out w9 (Below.refl _ _)
              have BxL := lt_of X9
              clear ha9 ht9 al9 X9 LS9 hm9 rok9 z0 AL8 AL6 LS8 HX8 HE4 HE5 HE6 FIN6
              generalize sumN Reg.len (relSt st q).regs = SN at *
              generalize lostOf (relSt st q) = LO at *
              generalize (relSt st q).regs.map Reg.no = NS at *
              try clear i0
              try clear hi0
              try clear hz0
              try clear hz1
              try clear hz2
              try clear H2
              try clear H3
              try clear HB0
              try clear HL0
              try clear hmm
              try clear B1
              try clear L1
              try clear B2
              try clear L2
              try clear O
              try clear hb2s
              try clear HB12
              try clear s1
              try clear s2
              try clear L3
              try clear s3
              try clear HK3
              try clear NW
              try clear hr
              try clear L4
              try clear HB4
              try clear HAR
              try clear HPO
              try clear HSZ
              try clear hr4
              try clear s4
              try clear ls3
              try clear START
              try clear HAL
              try clear hTw
              try clear nF
              try clear nFr
              try clear RL
              try clear hcap
              try clear q100
              try clear hq
              try clear hmb60
              try clear hle6
              try clear hrc6
              try clear hlr
              try clear hnn
              try clear hlr2
              try clear hra
              try clear hSE
              try clear hmb
              go_upto_region 36 with fail
              go_region_with (first
                | (go_at_call 11; refine (LEN.out _ (by first | exact (Below.refl _ _).drew | exact Below.refl _ _ | assumption)).mono ?_; rintro e wa ⟨rfl, hba⟩; have HA := (show Below w9.heap.size w9 wa from (Below.refl w9.heap.size w9).drew.trans hba); obtain ⟨ya1, ya2, ya3⟩ := Y.out wa HA)
                | (go_at_call 12; refine (LOST.out _ HA).mono ?_; rintro e wb ⟨rfl, hbb⟩; have HB := (HA.trans (hbb.mono HA.size)); obtain ⟨yb1, yb2, yb3⟩ := Y.out wb HB)
                | (go_at_call 13; refine (REGS.out _ HB).mono ?_; rintro e wd ⟨vd, rfl, hod, hbd⟩; have HD := (HB.trans (hbd.mono HB.size)); obtain ⟨yd1, yd2, yd3⟩ := Y.out wd HD; have RD := Reads.own hod (by omega))
                | (go_at_call 20; refine (EQ.out _ _ HD RD).mono ?_; rintro e we ⟨rfl, qe, rfl⟩))
              all_goals
                go_wp2_with fail
                go_round
                case rel => exact ⟨i + 1, by omega, by go_num, FIN9.out _ (by first | exact bdrewN (by assumption) _ | assumption)⟩
                case measure => simp [intOf]; omega

end Go.Proofs.Ytfolidedcejafaa
