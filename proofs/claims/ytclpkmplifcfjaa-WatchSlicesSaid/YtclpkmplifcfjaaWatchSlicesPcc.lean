/-
  WatchSlices: the walk. No conditions but what came in.
-/
import Derived.Test.YtclpkmplifcfjaaWatchSlicesPbz
import Derived.Test.YtclpkmplifcfjaaWatchSlicesPca
import Derived.Test.YtclpkmplifcfjaaWatchSlicesPcb
import Derived.Test.YtclpkmplifcfjaaWatchSlicesPbu
namespace Go.Proofs.Ytclpkmplifcfjaa
open Go.RowKit Go.Shelf
set_option linter.unusedVariables false

theorem add_none (b o i : Nat) : (⟨b, o, none⟩ : Addr).add i = ⟨b, o + i, none⟩ := by unfold Addr.add; split <;> simp_all
theorem clone_w {w : World} {n : Nat} {ad : Addr} {c : Nat} {zs : List Int} (hn : n ≤ 1000) (hr : Reads w .u8 (.slice (some ad) n c) zs) (hl : zs.length = n) :
    Calls Try.prog 13 #[.slice (some ad) n c] w (fun e w' => ∃ v', e = .returned v' ∧ w'.ownsRow w.heap.size 5 1 v' n (zs.map (Value.int .u8)) ∧ Below w.heap.size w w') := by
  refine (Go.Proofs.Try.bytes_Clone_at ad n c zs w hl (by omega) (fun i hi => ?_)).mono ?_
  · obtain ⟨a, cap, hv, _, hc⟩ := hr
    simp only [Value.slice.injEq] at hv
    obtain ⟨b, o, ha, hcell⟩ := hc (fun e => by rw [e] at hl; simp at hl; omega)
    rw [← hv.1] at ha
    cases ha
    rw [add_none]
    exact hcell i (by omega)
  · rintro e w' ⟨v', he, ho, _, hb⟩
    exact ⟨v', he, ho, hb⟩

theorem row_keep {w w' : World} {B e size n : Nat} {v : Value} {zs : List Value} (h : w.ownsRow B e size v n zs) (hb : Below w.heap.size w w') : w'.ownsRow B e size v n zs := ownsRow_same h (fun k hk => hb.block k (h.lt k hk).2)
theorem chkL_zero {xs : List (Wn × Option Addr)} (h : xs.length ≤ 100) (hn : ∀ x ∈ xs, x.1.n ≤ 2000) : chkL xs = 0 := by
  rcases chkL_ways xs with e | e
  · exact e
  · unfold chkL at e
    rw [if_neg (by omega)] at e
    split at e
    · next hb =>
      obtain ⟨x, hx, hlt⟩ := List.any_eq_true.1 hb
      have := hn x hx
      simp only [decide_eq_true_eq] at hlt
      omega
    · cases e
def gOf3 (g0 g1 g2 m : Nat) : Nat := if m = 0 then g0 else if m = 1 then g1 else g2
theorem labN_len (ps : List (Nat × Nat)) (k : Nat) (g : List Nat) : (labN ps k g).length = g.length := by
  induction k generalizing g with
  | zero => rfl
  | succ k ih => show (labR ps (labN ps k g)).length = _; rw [labR_len, ih]
where
  labR_len (ps : List (Nat × Nat)) (g : List Nat) : (labR ps g).length = g.length := by
    unfold labR
    induction ps generalizing g with
    | nil => rfl
    | cons p ps ih => rw [List.foldl_cons, ih, lab1_len]
theorem labR_len (ps : List (Nat × Nat)) (g : List Nat) : (labR ps g).length = g.length := labN_len.labR_len ps g
theorem getD_cast (g : List Nat) (j : Nat) : (g.map fun m : Nat => (m : Int)).getD j 0 = ((g.getD j 0 : Nat) : Int) := by
  rw [List.getD_eq_getElem?_getD, List.getD_eq_getElem?_getD, List.getElem?_map]
  cases g[j]? <;> rfl
def BoxS (bp A C : Nat) (W : World) : Prop := W.heap[bp]? = some (.cells #[.int .i64 (A : Int), .int .i64 (C : Int)] 57 (0, 0))
theorem bytesIn_of {w : World} {p : Option Addr} {n c : Nat} {zs : List Int} (h : Reads w .u8 (.slice p n c) zs) (hl : zs.length = n) : Lib.BytesIn w p n zs := by
  obtain ⟨a, cap, hv, _, hc⟩ := h
  simp only [Value.slice.injEq] at hv
  obtain ⟨rfl, _, _⟩ := hv
  intro hn
  obtain ⟨b, o, hp, hcell⟩ := hc (fun e => by rw [e] at hl; simp at hl; omega)
  exact ⟨b, o, hp, fun i hi => hcell i (by omega)⟩
theorem equal_w {w : World} {p1 p2 : Option Addr} {n c d : Nat} {zs : List Int} (h1 : Reads w .u8 (.slice p1 n c) zs) (hl : zs.length = n) (h2 : Reads w .u8 (.slice p2 n d) zs) :
    Calls Try.prog 18 #[.slice p1 n c, .slice p2 n d] w (fun e w' => e = .returned (.bool true) ∧ w' = w) := by
  refine (Go.Proofs.Try.bytes_Equal_all p1 p2 n c n d zs zs w hl hl (bytesIn_of h1 hl) (bytesIn_of h2 hl)).mono ?_
  rintro e w' ⟨rfl, rfl⟩
  exact ⟨by simp, rfl⟩
theorem reads_row {w : World} {B t n : Nat} {k : IntKind} {v : Value} {zs : List Int} (h : w.ownsRow B t 1 v n (zs.map (Value.int k))) (hl : zs.length = n) (hn : n ≤ 1000) : Reads w k v zs := by
  subst hl
  exact Reads.own h (by omega)
theorem beq_dec (a b : Int) : decide (a = b) = (a == b) := by by_cases h : a = b <;> simp [h]
theorem gOf3_inj {g0 g1 g2 : Nat} (ne : g0 ≠ g1 ∧ g0 ≠ g2 ∧ g1 ≠ g2) (a b : Nat) (ha : a ≤ 2) (hb : b ≤ 2) (h : gOf3 g0 g1 g2 a = gOf3 g0 g1 g2 b) : a = b := by
  obtain ⟨n1, n2, n3⟩ := ne
  unfold gOf3 at h
  split at h <;> split at h <;> (try split at h) <;> (try split at h) <;> omega
def glI (n i : Nat) : List Int := (List.range n).map fun j => if j < i then (j : Int) else 0
theorem glI_start (n : Nat) : repM 0 n 0 = glI n 0 := by
  apply List.ext_getElem?
  intro j
  simp [repM, glI, List.getElem?_replicate]
  by_cases h : j < n <;> simp [h]
theorem glI_len (n i : Nat) : (glI n i).length = n := by simp [glI]
theorem glI_set (n i : Nat) (h : i < n) : (glI n i).set i (i : Int) = glI n (i + 1) := by
  apply List.ext_getElem?
  intro j
  rw [List.getElem?_set]
  simp only [glI_len]
  by_cases e : i = j
  · subst e
    simp [h, glI]
  · rw [if_neg e]
    by_cases hj : j < n
    · have : (j < i) ↔ (j < i + 1) := by omega
      simp [glI, hj, this]
    · simp [glI, hj]
theorem glI_all (n : Nat) : glI n n = (List.range n).map fun j : Nat => (j : Int) := by
  apply List.ext_getElem?
  intro j
  by_cases hj : j < n <;> simp [glI, hj]

set_option maxHeartbeats 4000000 in
set_option maxRecDepth 100000 in
theorem watchSlices (v1 : Value) (L : List Ct) (v2 : Value) (zs : List Int) (w : World) (hcs : CutsIn w v1 L) (hz : RowIn w .u8 1 v2 zs) :
    Calls Try.prog 4 #[v1, v2] w (LawPost w) := by
  have hzl : zs.length ≤ 9223372036854775807 := by obtain ⟨_, _, _, h, _⟩ := hz.reads; exact h
  have CU := Lib.hid (cuts_any v1 v2 zs L w hcs hz.reads hzl)
  obtain ⟨i0, hi0, hz0, hz1, hz2⟩ := info_parts infoSlB
  obtain ⟨iI, hiI, hzI0, hzI1, hzI2⟩ := info_parts infoInt
  obtain ⟨iP, hiP, hzP0, hzP1, hzP2⟩ := info_parts infoPair
  clear hcs hz hzl
  go_enter Try.func4, Try.ntmps4
  go_wp2_with fail
  refine CU.out.mono ?_
  rintro e w1 ⟨b, g0, g1, g2, cs, ov, av, rfl, hcl, hbw, hCL⟩
  clear CU
  obtain ⟨xs, hxs⟩ : ∃ xs, cs.map (Cu.w2 g0 g1 g2) = xs := ⟨_, rfl⟩
  have hxl : xs.length = cs.length := by rw [← hxs, List.length_map]
  obtain ⟨M, hM3⟩ := hCL.me.m
  have B1 := Lib.hid hCL.me.be
  have LS := Lib.hid (show LsIn w1 ov xs by rw [← hxs]; exact hCL.lsIn hcl)
  have MM := Lib.hid hM3.memF
  have WO := Lib.hid (show ∀ x ∈ xs, WnOk (fun _ => 60) (D3 g0 g1 g2) x.1 x.2 by
    rw [← hxs]
    intro x hx
    obtain ⟨c, hc, rfl⟩ := List.mem_map.1 hx
    exact Cu.wnOk (hCL.bd c hc))
  have GE := Lib.hid hM3.ge
  have NE := Lib.hid hM3.ne
  have BD := Lib.hid hCL.bd
  have hOwn := hCL.o
  have hApt : ∀ a n c, ov = .slice (some a) n c → 0 < xs.length → ¬ D3 g0 g1 g2 a.block := fun a n c e _ hd => by
    obtain ⟨g, rfl⟩ : ∃ g, a = ⟨g, 0, none⟩ := by
      rcases hCL.o.2 with ⟨h1, h2⟩ | ⟨g, cap, cur, h1, _⟩
      · rw [e] at h1; cases h1
      · rw [e] at h1; cases h1; exact ⟨g, rfl⟩
    obtain ⟨cur, hc⟩ := row_block hCL.o (k := g) (by rw [e]; rfl)
    have hr : w1.heap[g]? = _ := hM3.memF g hd
    rw [hc] at hr
    simp only [Option.some.injEq, Obj.cells.injEq] at hr
    exact absurd hr.2.1 (by decide)
  have APT := Lib.hid hApt
  have HX := Lib.hid hxs
  have XG : Hid (∀ k c, cs[k]? = some c → xs.getD k W0 = c.w2 g0 g1 g2) := Lib.hid (fun k c hk => by
    rw [← hxs, List.getD_eq_getElem?_getD, List.getElem?_map, hk]; rfl)
  have hArow := hCL.a
  obtain ⟨aa, ac, rfl⟩ := wrow_sh hArow
  have AC : Hid (∀ k c, cs[k]? = some c → ∃ g, aa = some ⟨g, 0, none⟩ ∧ w1.cell? ⟨g, k * 3, none⟩ = some (.int .i64 (c.m : Int)) ∧ w1.cell? ⟨g, k * 3 + 1, none⟩ = some (.int .i64 (c.f : Int)) ∧ w1.cell? ⟨g, k * 3 + 2, none⟩ = some (.int .i64 (c.t : Int))) := Lib.hid (fun k c hk => by
    obtain ⟨q1, q2, q3⟩ := cuCells_get cs k c hk
    obtain ⟨g, e, h1, _⟩ := wrow_cell hArow q1
    obtain ⟨g', e', h2, _⟩ := wrow_cell hArow q2
    obtain ⟨g'', e'', h3, _⟩ := wrow_cell hArow q3
    rw [e] at e' e''
    cases e'
    cases e''
    exact ⟨g, e, h1, h2, h3⟩)
  obtain ⟨la, lc, rfl⟩ := wrow_sh hOwn
  have HC : Hid (∀ k c, cs[k]? = some c → ∃ g, la = some ⟨g, 0, none⟩ ∧ w1.cell? ⟨g, k, none⟩ = some (c.sl g0 g1 g2)) := Lib.hid (fun k c hk => by
    obtain ⟨g, e, hc, _⟩ := wrow_cell hOwn (j := k) (u := c.sl g0 g1 g2) (by rw [List.getElem?_map, hk]; rfl)
    exact ⟨g, e, hc⟩)
  have hSZ1 := B1.out.size
  have HXL := Lib.hid hxl
  clear hM3 hCL hOwn hArow hApt hxs hxl
  go_wp2_with fail
  go_loopw [7, 49] (fun bv i wr => ∃ k : Nat, k ≤ cs.length ∧ i = .int .i64 k ∧ BefAt wr w1.heap.size bv xs M k ∧ Below w1.heap.size w1 wr) (fun _ i _ => cs.length - (intOf i).toNat)
  case atStart => exact ⟨0, Nat.zero_le _, rfl, BefAt.start _ _ _ _, Below.refl _ _⟩
  case round =>
    obtain ⟨k, hk, rfl, hbef, hb⟩ := hrel
    have BF := Lib.hid hbef
    have BB := Lib.hid hb
    clear hbef
    by_cases hlt : k < cs.length
    ·
      as_aux_lemma =>
        --[[
        obtain ⟨c, hc⟩ : ∃ c, cs[k]? = some c := ⟨_, List.getElem?_eq_getElem hlt⟩
        obtain ⟨g, rfl, d⟩ := HC.out k c hc
        have d' := old_cell hb d
        have xg := XG.out k c hc
        have bd := BD.out c (List.mem_of_getElem? hc)
        have wo := WO.out _ (w0_in (k := k) (by rw [HXL.out]; exact hlt))
        rw [xg] at wo
        have rd := (MM.out.below hb).reads wo
        have n60 : c.t - c.f ≤ 60 := by omega
        have CLN := Lib.hid (clone_w (w := wr) (ad := c.ad g0 g1 g2) (n := c.t - c.f) (c := c.room - c.f) (zs := (c.w2 g0 g1 g2).1.row M) (by omega) rd (by simp [Wn.row]; rfl))
        unfold Cu.sl at d'
        have XK := Lib.hid xg
        obtain ⟨ad, had⟩ : ∃ ad, c.ad g0 g1 g2 = ad := ⟨_, rfl⟩
        obtain ⟨n, hn⟩ : ∃ n, c.t - c.f = n := ⟨_, rfl⟩
        obtain ⟨cp, hcp⟩ : ∃ cp, c.room - c.f = cp := ⟨_, rfl⟩
        rw [had, hn, hcp] at d' CLN
        have NN := Lib.hid hn
        clear had hn hcp rd wo xg bd hc d hb n60
        go_wp2_with fail
        refine CLN.out.mono ?_
        rintro e w2 ⟨v', rfl, ho, hb2⟩
        have hs2 := hb2.size
        obtain ⟨vs, hvl, hv2, hv3⟩ := BF.out.below hb2
        obtain ⟨va, vc, rfl⟩ := wrow_sh ho
        have HB2 := Lib.hid (BB.out.trans (hb2.mono BB.out.size))
        have H2 := Lib.hid hv2
        have H3 := Lib.hid hv3
        have HO := Lib.hid ho
        have HVL := Lib.hid hvl
        have hs1 := BB.out.size
        clear hv2 hv3 ho hvl hb2 CLN
        go_wp2_with (at_builtin; go_must (refine wpList_append_w rfl (.tmp 53) (.tmp 56) 31 rfl w1.heap.size 22 i0 (.slice none 0 0) 1 24 Try.underlying31 hi0 hz0 hz1 hz2 rfl (by decide) _ _ _ w2 _ [.slice va n vc] rfl (by exact H2.out) (by rfl) rfl (by intro u hu; simp at hu; subst hu; rfl) (by unfold maxLen; omega) (by omega) (by omega) ?_))
        intro v3 w3 hown3 hg3 hb3
        have FIN := Lib.hid (BefAt.app HVL.out H2.out H3.out (by rw [XK.out, show (Cu.w2 g0 g1 g2 c).1.n = n from NN.out]; exact ownsRow_low HO.out hs1) hown3 hg3)
        have FB := Lib.hid (HB2.out.trans hb3)
        clear hown3 hg3 hb3
        go_wp2_with fail
        go_round
        case rel => exact ⟨k + 1, by omega, by go_num, FIN.out, FB.out⟩
        case measure => simp [intOf]; omega
        --]]
    · obtain rfl : k = cs.length := by omega
      obtain ⟨ba, bcp, rfl⟩ : ∃ a c, u7 = .slice a cs.length c := by
        obtain ⟨vs, _, hv, _⟩ := BF.out
        exact wrow_sh hv
      clear hlt hk hb
      have HCK := Lib.hid (chkL_zero (xs := xs) (by rw [HXL.out]; omega) (fun x hx => by
        rw [← HX.out] at hx
        obtain ⟨c, hc, rfl⟩ := List.mem_map.1 hx
        have := BD.out c hc
        show c.t - c.f ≤ 2000
        omega))
      go_wp2_with fail
      refine (meetsX_any _ xs M (fun _ => 60) (D3 g0 g1 g2) wr (LS.out.below BB.out) (MM.out.below BB.out) WO.out).mono ?_
      rintro e w2 ⟨hb2, ⟨h4, _⟩ | ⟨_, pv, rfl, hpv⟩⟩
      · rw [HCK.out] at h4; cases h4
      have PV := Lib.hid hpv
      have BF2 := Lib.hid (BF.out.below hb2)
      have BB2 := Lib.hid (BB.out.trans (hb2.mono BB.out.size))
      clear BF BB hpv hb2
      go_wp2_with fail
      refine (groupsX_any _ xs M (fun _ => 60) (D3 g0 g1 g2) w2 (LS.out.below BB2.out) (MM.out.below BB2.out) WO.out).mono ?_
      rintro e w3 ⟨hb3, ⟨h4, _⟩ | ⟨_, gv, rfl, hgv⟩⟩
      · rw [HCK.out] at h4; cases h4
      rw [HXL.out] at hgv
      obtain ⟨ga, gc, rfl⟩ := wrow_sh hgv
      have GV := Lib.hid hgv
      have PV3 := Lib.hid (row_keep PV.out hb3)
      have BF3 := Lib.hid (BF2.out.below hb3)
      have BB3 := Lib.hid (BB2.out.trans (hb3.mono BB2.out.size))
      clear BF2 BB2 PV hgv hb3
      go_wp2_with fail
      refine (coverX_any _ xs M (fun _ => 60) (D3 g0 g1 g2) w3 (LS.out.below BB3.out) (MM.out.below BB3.out) WO.out APT.out).mono ?_
      rintro e w4 ⟨hb4, ⟨h4, _⟩ | ⟨_, rfl⟩⟩
      · rw [HCK.out] at h4; cases h4
      have GV4 := Lib.hid (row_keep GV.out hb4)
      have PV4 := Lib.hid (row_keep PV3.out hb4)
      have BF4 := Lib.hid (BF3.out.below hb4)
      have BB4 := Lib.hid (BB3.out.trans (hb4.mono BB3.out.size))
      clear BF3 BB3 PV3 GV hb4
      go_wp2_with fail
      refine (fencedX_any _ xs w4 (LS.out.below BB4.out) (fun x hx => ⟨(WO.out x hx).1, (WO.out x hx).2.1⟩)).mono ?_
      rintro e w5 ⟨hb5, ⟨h4, _⟩ | ⟨_, fv, rfl, hfv⟩⟩
      · rw [HCK.out] at h4; cases h4
      have FV5 := Lib.hid hfv
      have GV5 := Lib.hid (row_keep GV4.out hb5)
      have PV5 := Lib.hid (row_keep PV4.out hb5)
      have BF5 := Lib.hid (BF4.out.below hb5)
      have BB5 := Lib.hid (BB4.out.trans (hb5.mono BB4.out.size))
      have MK := run_makeInts w5 cs.length (by omega)
      have MM' : ∀ W : World, (Instr.makeMap 45 none).run Try.prog W = .ok (.map (some W.heap.size)) (W.alloc (.map #[] 0)) := fun W => by kernel_rfl
      clear BF4 BB4 PV4 GV4 hb5 hfv
      rw [glI_start] at MK
      go_upto_region 18 with fail
      have hws : WsAt w5 ((w5.alloc (.cells ((glI cs.length 0).map (Value.int .i64)).toArray 3)).alloc (.map #[] 0)) w5.heap.size xs (gOf3 g0 g1 g2) (glI cs.length 0) (.slice none 0 0) [] (.slice none 0 0) [] (zeroed xs M, 0) := by
        have e1 : (w5.alloc (.cells ((glI cs.length 0).map (Value.int .i64)).toArray 3)).heap.size = w5.heap.size + 1 := by simp
        refine ⟨⟨rfl, by simp⟩, ((Below.refl _ w5).alloc (Nat.le_refl _) _).alloc (by simp) _, World.ownsRow_nil _ _ _ _, World.ownsRow_nil _ _ _ _, ?_, ?_⟩
        · exact (heap_alloc_old _ _ (by simp)).trans (heap_alloc_new w5 _)
        · rw [← e1]
          exact CellsIn.start _ xs (gOf3 g0 g1 g2) M
      obtain ⟨H, hH⟩ : ∃ H, w5.heap.size = H := ⟨_, rfl⟩
      have hH1 : (w5.alloc (.cells ((glI cs.length 0).map (Value.int .i64)).toArray 3)).heap.size = H + 1 := by rw [← hH]; simp
      rw [hH] at hws
      rw [hH]
      generalize (w5.alloc (.cells ((glI cs.length 0).map (Value.int .i64)).toArray 3)).alloc (.map #[] 0) = W6 at *
      have HH := Lib.hid hH
      have WS6 := Lib.hid hws
      clear hws hH hH1 MK MM'
      go_wp2_with fail
      go_loopw [18, 19, 106] (fun wv tv i wr => ∃ k : Nat, k ≤ cs.length ∧ i = .int .i64 k ∧ WsAt w5 wr H xs (gOf3 g0 g1 g2) (glI cs.length k) wv (pairsL (meetB xs) xs.length k) tv (fenceL xs k) (covAll xs k (zeroed xs M, 0))) (fun _ _ i _ => cs.length - (intOf i).toNat)
      case atStart => exact ⟨0, Nat.zero_le _, rfl, WS6.out⟩
      case round =>
        obtain ⟨i, hi, rfl, hws⟩ := hrel
        clear WS6
        have WS := Lib.hid hws
        have hwz := hws.sz.2
        clear hws
        by_cases hlt : i < cs.length
        · obtain ⟨⟨m, f, t⟩, hc⟩ : ∃ c, cs[i]? = some c := ⟨_, List.getElem?_eq_getElem hlt⟩
          have BW : Below w1.heap.size w1 wr := BB5.out.trans (WS.out.be.mono (by rw [← HH.out]; exact BB5.out.size))
          obtain ⟨gc, rfl, d0, d1, d2⟩ := AC.out i _ hc
          obtain ⟨gx, rfl, dx⟩ := HC.out i _ hc
          have d0' := old_cell BW d0
          have d1' := old_cell BW d1
          have d2' := old_cell BW d2
          simp only at d0' d1' d2'
          have bd := BD.out _ (List.mem_of_getElem? hc)
          simp only at bd
          obtain ⟨bm, bf, bt⟩ := bd
          have XI := Lib.hid (XG.out i _ hc)
          have CI := Lib.hid hc
          have HDX := Lib.hid dx
          clear d0 d1 d2 dx hc BW
          go_upto_region 21 with fail
          have hbx := heap_alloc_new wr (.cells #[.int .i64 (m : Int), .int .i64 (f : Int), .int .i64 (t : Int)] 47)
          have WS1 := Lib.hid (WS.out.keep ((Below.refl _ wr).alloc (Nat.le_refl _) (.cells #[.int .i64 (m : Int), .int .i64 (f : Int), .int .i64 (t : Int)] 47)))
          obtain ⟨bc, hbc⟩ : ∃ bc, wr.heap.size = bc := ⟨_, rfl⟩
          rw [hbc] at hbx hwz ⊢
          generalize wr.alloc (.cells #[.int .i64 (m : Int), .int .i64 (f : Int), .int .i64 (t : Int)] 47) = W1 at *
          have HBX := Lib.hid hbx
          have fz : W1.frozen? ⟨H, i, none⟩ = false := free_of WS1.out.grp _
          obtain ⟨zg, hzg⟩ : ∃ zg, (glI cs.length i).getD i 0 = zg := ⟨_, rfl⟩
          have cz := WS1.out.grp.cell i (by rw [glI_len]; exact hlt)
          rw [hzg] at cz
          have WS2 := Lib.hid (WS1.out.setG i (i : Int))
          rw [glI_set _ _ hlt] at WS2
          have HBX2 := Lib.hid ((Below.heap_setCell W1 ⟨H, i, none⟩ (.int .i64 (i : Int)) bc (by show bc ≠ H; omega)).trans HBX.out)
          clear hbx d0' d1' d2' hbc WS WS1 HBX hzg
          go_upto_region 22 with fail
          generalize W1.setCell ⟨H, i, none⟩ (.int .i64 (i : Int)) = W2 at *
          have BW2 : Below w1.heap.size w1 W2 := BB5.out.trans (WS2.out.be.mono (by rw [← HH.out]; exact BB5.out.size))
          have dx := old_cell BW2 HDX.out
          unfold Cu.sl at dx
          obtain ⟨ad, had⟩ : ∃ ad, (Cu.mk m f t).ad g0 g1 g2 = ad := ⟨_, rfl⟩
          obtain ⟨n, hn⟩ : ∃ n, t - f = n := ⟨_, rfl⟩
          obtain ⟨cp, hcp⟩ : ∃ cp, (Cu.mk m f t).room - f = cp := ⟨_, rfl⟩
          simp only [had, hn, hcp] at dx
          have hrm := Cu.room_le (c := ⟨m, f, t⟩) ⟨bm, bf, bt⟩
          simp only at hrm
          have ncp : n ≤ cp ∧ cp ≤ 60 := by omega
          have XI2 : xs.getD i W0 = (⟨gOf3 g0 g1 g2 m, f, n, cp⟩, some ad) := by rw [XI.out, ← had, ← hn, ← hcp]; rfl
          have HF := Lib.hid (fenceL_succ xs i)
          rw [XI2] at HF
          simp only at HF
          have XI := Lib.hid XI2
          have NN := Lib.hid hn
          have HDX2 : Hid (w1.cell? ⟨gx, i, none⟩ = some (.slice (some ad) n cp)) := Lib.hid (by
            have h0 := HDX.out
            unfold Cu.sl at h0
            simpa only [had, hn, hcp] using h0)
          obtain ⟨n1, c60⟩ := ncp
          clear fz cz had hn hcp hrm XI2 BW2
          go_quiet (fail)
          go_upto_if 125 with fail
          go_cut [19] (fun tv' wx => WsAt w5 wx H xs (gOf3 g0 g1 g2) (glI cs.length (i + 1)) u18 (pairsL (meetB xs) xs.length i) tv' (fenceL xs (i + 1)) (covAll xs i (zeroed xs M, 0)) ∧ wx.heap[bc]? = some (.cells #[.int .i64 (m : Int), .int .i64 (f : Int), .int .i64 (t : Int)] 47 (0, 0)))
          case first =>
            as_aux_lemma =>
              --[[
              have WSd := Lib.hid (WS2.out.keep (bdrewN (Below.refl _ W2) nq))
              have HBd := Lib.hid (show (W2.drewN nq).heap[bc]? = _ from HBX2.out)
              have hfl := fenceL_len xs i
              have hsd := WSd.out.sz.2
              by_cases hcn : cp = n
              · have FE := HF.out
                rw [if_pos hcn] at FE
                have FE := Lib.hid FE
                obtain rfl := hcn
                generalize W2.drewN nq = Wd at *
                go_wp2_with (at_builtin; go_must (refine wpList_append_w rfl (.tmp 126) (.tmp 128) 35 rfl (H + 2) 3 iI (.int .i64 0) 1 8 Try.underlying35 hiI hzI0 hzI1 hzI2 rfl (by decide) _ _ _ Wd _ [.int .i64 i] rfl (by exact WSd.out.tight) (by rfl) rfl (by intro u hu; simp at hu; subst hu; rfl) (by unfold maxLen; omega) (by omega) hsd ?_))
                intro v' w4 hown' hg hb4
                obtain ⟨ws4, ty⟩ := WSd.out.tightApp hown' hg
                have FIN := Lib.hid ws4
                have FB := Lib.hid (ty _ _ _ HBd.out (by decide))
                clear ws4 ty hown' hg hb4
                go_wp2_with fail
                go_meet
                exact ⟨by rw [FE.out]; exact FIN.out, FB.out⟩
              · have FE := HF.out
                rw [if_neg hcn, List.append_nil] at FE
                have FE := Lib.hid FE
                have hcn' : ¬ (cp : Int) = (n : Int) := by omega
                go_wp2_with fail
                go_meet
                exact ⟨by rw [FE.out]; exact WSd.out, HBd.out⟩
              --]]
          case rest =>
            as_aux_lemma =>
              --[[
              obtain ⟨ws3, hb3⟩ := hcut
              have WS3 := Lib.hid ws3
              have HB3 := Lib.hid hb3
              have BW3 : Below w1.heap.size w1 wc := BB5.out.trans (ws3.be.mono (by rw [← HH.out]; exact BB5.out.size))
              have dx := old_cell BW3 HDX2.out
              have wz3 := ws3.sz.2
              have c1 : wc.cell? ⟨bc, 1, none⟩ = some (.int .i64 (f : Int)) := by rw [cell_of hb3]; rfl
              have SP : Hid (∀ m', Calls Try.prog 14 #[.slice (some ad) n cp] (wc.drewN m') (fun e w' => e = .returned (.int .i64 ((cp : Int) - n)) ∧ w' = wc.drewN m')) := Lib.hid (fun m' => (spareW_any (some ad) n cp (wc.drewN m') n1 (by unfold maxLen; omega)).mono (fun e w' h => ⟨h.1, h.2.symm⟩))
              clear ws3 hb3 BW3 WS2 HBX2 HDX HF hwz dx
              have dx := old_cell (BB5.out.trans (WS3.out.be.mono (by rw [← HH.out]; exact BB5.out.size))) HDX2.out
              go_wp2_with fail
              go_quiet ((go_at_call 14; exact Calls.quiet_of_same (SP.out _)))
              have WS3d := Lib.hid (WS3.out.keep (bdrewN (Below.refl _ wc) nq))
              have HB3d := Lib.hid (show (wc.drewN nq).heap[bc]? = _ from HB3.out)
              have c1d : (wc.drewN nq).cell? ⟨bc, 1, none⟩ = some (.int .i64 (f : Int)) := c1
              clear c1 dx SP WS3 HB3
              generalize wc.drewN nq = W4 at *
              go_wp2_with fail
              have HFT := Lib.hid (show t = f + n by have := NN.out; omega)
              have SB := Lib.hid (show (covAll xs i (zeroed xs M, 0)).2 ≤ 24000 by
                have := covAll_le xs (fun x hx => by
                  rw [← HX.out] at hx
                  obtain ⟨c, hc, rfl⟩ := List.mem_map.1 hx
                  have := BD.out c hc
                  show c.t - c.f ≤ 2000
                  omega) (zeroed xs M, 0) i (by rw [HXL.out]; omega)
                simp only at this
                omega)
              have CIL := Lib.hid (covIn_le ⟨gOf3 g0 g1 g2 m, f, n, cp⟩ (covAll xs i (zeroed xs M, 0)))
              have CIS := Lib.hid (fun j => covIn_put ⟨gOf3 g0 g1 g2 m, f, n, cp⟩ j (covAll xs i (zeroed xs M, 0)))
              have CAS : Hid (covAll xs (i + 1) (zeroed xs M, 0) = covIn ⟨gOf3 g0 g1 g2 m, f, n, cp⟩ n (covAll xs i (zeroed xs M, 0))) := Lib.hid (by
                show covIn (xs.getD i W0).1 (xs.getD i W0).1.n _ = _
                rw [XI.out])
              generalize covAll xs i (zeroed xs M, 0) = s0 at *
              obtain ⟨s1, hs1⟩ : ∃ z, covAll xs (i + 1) (zeroed xs M, 0) = z := ⟨_, rfl⟩
              rw [hs1] at CAS
              have HS1 := Lib.hid hs1
              clear hs1
              go_loopw [24] (fun kv wr => ∃ j : Nat, j ≤ n ∧ kv = .int .i64 ((f + j : Nat) : Int) ∧ WsAt w5 wr H xs (gOf3 g0 g1 g2) (glI cs.length (i + 1)) u18 (pairsL (meetB xs) xs.length i) u19 (fenceL xs (i + 1)) (covIn ⟨gOf3 g0 g1 g2 m, f, n, cp⟩ j s0) ∧ wr.heap[bc]? = some (.cells #[.int .i64 (m : Int), .int .i64 (f : Int), .int .i64 (t : Int)] 47 (0, 0))) (fun kv _ => t - (intOf kv).toNat)
              case atStart => exact ⟨0, Nat.zero_le _, rfl, WS3d.out, HB3d.out⟩
              case round =>
                obtain ⟨j, hj, rfl, hwj, hbj⟩ := hrel
                have WSJ := Lib.hid hwj
                have HBJ := Lib.hid hbj
                have zj := hwj.sz.2
                have b2 : wr.cell? ⟨bc, 2, none⟩ = some (.int .i64 (t : Int)) := by rw [cell_of hbj]; rfl
                clear hwj hbj WS3d HB3d c1d
                by_cases hjn : j < n
                ·
                  as_aux_lemma =>
                    have b0 : wr.cell? ⟨bc, 0, none⟩ = some (.int .i64 (m : Int)) := by rw [cell_of HBJ.out]; rfl
                    have hlt' : ((f + j : Nat) : Int) < (t : Int) := by have := HFT.out; omega
                    have sb := SB.out
                    have sl := CIL.out j
                    obtain ⟨W', hrun, hcl', hgr'⟩ := WSJ.out.cells.put (gOf3_inj NE.out) m (f + j) bm (by omega) (by omega) (List.any_eq_true.2 ⟨_, w0_in (k := i) (by rw [HXL.out]; exact hlt), by
                      rw [XI.out]
                      exact decide_eq_true (show Wn.has _ _ _ from ⟨rfl, by show f ≤ f + j; omega, by show f + j < f + n; omega⟩)⟩)
                    obtain ⟨ws', off'⟩ := WSJ.out.cellPut hcl' hgr'
                    have FIN := Lib.hid ws'
                    have FB := Lib.hid ((off' bc (lt_of HBJ.out) (fun e => by
                      obtain ⟨D, hD, _⟩ := WSJ.out.cells
                      obtain ⟨es, ck, he, _⟩ := hD
                      have := HBJ.out
                      rw [e, he] at this
                      cases this)).trans HBJ.out)
                    have RUN := hrun
                    unfold cellVal at RUN
                    clear hrun hcl' hgr' ws' off' sb sl
                    go_wp2_with (at_mapUpdate; go_must (refine wpList_update_run rfl _ _ _ _ rfl (by rfl) (by rfl) (by rfl) RUN ?_))
                    go_round
                    case rel => exact ⟨j + 1, by omega, by go_num, by rw [CIS.out]; exact FIN.out, FB.out⟩
                    case measure => simp [intOf]; omega
                · obtain rfl : j = n := by omega
                  have hlt' : ¬ ((f + j : Nat) : Int) < (t : Int) := by have := HFT.out; omega
                  have WSK := Lib.hid (show WsAt w5 wr H xs (gOf3 g0 g1 g2) (glI cs.length (i + 1)) u18 (pairsL (meetB xs) xs.length i) u19 (fenceL xs (i + 1)) s1 by rw [CAS.out]; exact WSJ.out)
                  clear WSJ hjn
                  go_wp2_with fail
                  go_loopw [18, 162] (fun wv q wr => ∃ k : Nat, k ≤ cs.length ∧ q = .int .i64 (k : Int) ∧ WsAt w5 wr H xs (gOf3 g0 g1 g2) (glI cs.length (i + 1)) wv (pairsL (meetB xs) xs.length i ++ pairsI (meetB xs) i k) u19 (fenceL xs (i + 1)) s1 ∧ wr.heap[bc]? = some (.cells #[.int .i64 (m : Int), .int .i64 (f : Int), .int .i64 (t : Int)] 47 (0, 0))) (fun _ q _ => cs.length - (intOf q).toNat)
                  case atStart => exact ⟨0, Nat.zero_le _, rfl, by rw [pairsI_zero, List.append_nil]; exact WSK.out, HBJ.out⟩
                  case round =>
                    obtain ⟨k, hk, rfl, hwk, hbk⟩ := hrel
                    have WSL := Lib.hid hwk
                    have HBL := Lib.hid hbk
                    have zk := hwk.sz.2
                    clear hwk hbk WSK HBJ b2 hlt'
                    by_cases hkn : k < cs.length
                    ·
                      as_aux_lemma =>
                        obtain ⟨⟨m2, f2, t2⟩, hc2⟩ : ∃ c, cs[k]? = some c := ⟨_, List.getElem?_eq_getElem hkn⟩
                        have BWL : Below w1.heap.size w1 wr := BB5.out.trans (WSL.out.be.mono (by rw [← HH.out]; exact BB5.out.size))
                        obtain ⟨g', e', d0, d1, d2⟩ := AC.out k _ hc2
                        obtain rfl : gc = g' := by simpa using e'
                        obtain ⟨g'', e'', dy⟩ := HC.out k _ hc2
                        obtain rfl : gx = g'' := by simpa using e''
                        have d0' := old_cell BWL d0
                        have d1' := old_cell BWL d1
                        have d2' := old_cell BWL d2
                        simp only at d0' d1' d2'
                        have bd2 := BD.out _ (List.mem_of_getElem? hc2)
                        simp only at bd2
                        obtain ⟨bm2, bf2, bt2⟩ := bd2
                        unfold Cu.sl at dy
                        obtain ⟨ad2, had2⟩ : ∃ ad, (Cu.mk m2 f2 t2).ad g0 g1 g2 = ad := ⟨_, rfl⟩
                        obtain ⟨n2, hn2⟩ : ∃ n, t2 - f2 = n := ⟨_, rfl⟩
                        obtain ⟨cp2, hcp2⟩ : ∃ cp, (Cu.mk m2 f2 t2).room - f2 = cp := ⟨_, rfl⟩
                        simp only [had2, hn2, hcp2] at dy
                        have XK : xs.getD k W0 = (⟨gOf3 g0 g1 g2 m2, f2, n2, cp2⟩, some ad2) := by rw [XG.out k _ hc2, ← had2, ← hn2, ← hcp2]; rfl
                        have OVS : ov ⟨gOf3 g0 g1 g2 m, f, j, cp⟩ ⟨gOf3 g0 g1 g2 m2, f2, n2, cp2⟩ = shP ⟨m, f, t⟩ ⟨m2, f2, t2⟩ := by
                          have h0 := ov_sh NE.out (x := ⟨m, f, t⟩) (y := ⟨m2, f2, t2⟩) ⟨bm, bf, bt⟩ ⟨bm2, bf2, bt2⟩
                          have e1 := XG.out i _ CI.out
                          rw [XI.out] at e1
                          have e2 := XG.out k _ hc2
                          rw [XK] at e2
                          have e1' := congrArg Prod.fst e1
                          have e2' := congrArg Prod.fst e2
                          simp only [Cu.w2] at e1' e2'
                          rw [e1', e2']
                          exact h0
                        have SMS : sameB ⟨gOf3 g0 g1 g2 m, f, j, cp⟩ ⟨gOf3 g0 g1 g2 m2, f2, n2, cp2⟩ = (decide ((t : Int) - f = (t2 : Int) - f2) && decide ((shP ⟨m, f, t⟩ ⟨m2, f2, t2⟩).2.2 = (t : Int) - f)) := by
                          have h0 := same_sh NE.out (x := ⟨m, f, t⟩) (y := ⟨m2, f2, t2⟩) ⟨bm, bf, bt⟩ ⟨bm2, bf2, bt2⟩
                          have e1 := XG.out i _ CI.out
                          rw [XI.out] at e1
                          have e2 := XG.out k _ hc2
                          rw [XK] at e2
                          have e1' := congrArg Prod.fst e1
                          have e2' := congrArg Prod.fst e2
                          simp only [Cu.w2] at e1' e2'
                          rw [e1', e2']
                          exact h0
                        have MTS : meetB xs i k = decide (0 < (shP ⟨m, f, t⟩ ⟨m2, f2, t2⟩).2.2) := by
                          unfold meetB
                          rw [XI.out, XK, OVS]
                        obtain ⟨⟨p, q, r⟩, hpq⟩ : ∃ z, shP ⟨m, f, t⟩ ⟨m2, f2, t2⟩ = z := ⟨_, rfl⟩
                        rw [hpq] at OVS SMS MTS
                        simp only at OVS SMS MTS
                        have WOI := WO.out _ (w0_in (k := i) (by rw [HXL.out]; exact hlt))
                        have WOK := WO.out _ (w0_in (k := k) (by rw [HXL.out]; exact hkn))
                        rw [XI.out] at WOI
                        rw [XK] at WOK
                        simp only at WOI WOK
                        have OVS := Lib.hid OVS
                        have SMS := Lib.hid SMS
                        have MTS := Lib.hid MTS
                        have HPQ := Lib.hid hpq
                        have WOI := Lib.hid WOI
                        have WOK := Lib.hid WOK
                        have HDY := Lib.hid dy
                        have HNN := Lib.hid (And.intro hn2 HFT.out)
                        have j60 : j ≤ 2000 := by omega
                        have n60 : n2 ≤ 2000 := by omega
                        clear e' e'' d0 d1 d2 dy hc2 BWL had2 hn2 hcp2 XK hpq
                        go_upto_region 33 with fail
                        have hbd := heap_alloc_new wr (.cells #[.int .i64 (m2 : Int), .int .i64 (f2 : Int), .int .i64 (t2 : Int)] 47)
                        have BA := (Below.refl wr.heap.size wr).alloc (Nat.le_refl _) (.cells #[.int .i64 (m2 : Int), .int .i64 (f2 : Int), .int .i64 (t2 : Int)] 47)
                        obtain ⟨bd, hbde⟩ : ∃ bd, wr.heap.size = bd := ⟨_, rfl⟩
                        have D5 := Lib.hid (show DL w5 H xs (gOf3 g0 g1 g2) (glI cs.length (i + 1)) u18 (pairsL (meetB xs) xs.length i ++ pairsI (meetB xs) i k) u19 (fenceL xs (i + 1)) s1 bc (.cells #[.int .i64 (m : Int), .int .i64 (f : Int), .int .i64 (t : Int)] 47 (0, 0)) bd (.cells #[.int .i64 (m2 : Int), .int .i64 (f2 : Int), .int .i64 (t2 : Int)] 47 (0, 0)) (wr.alloc (.cells #[.int .i64 (m2 : Int), .int .i64 (f2 : Int), .int .i64 (t2 : Int)] 47)) from
                          ⟨WSL.out.keep BA, (BA.block bc (lt_of HBL.out)).trans HBL.out, by rw [← hbde]; exact hbd⟩)
                        rw [hbde]
                        generalize wr.alloc (.cells #[.int .i64 (m2 : Int), .int .i64 (f2 : Int), .int .i64 (t2 : Int)] 47) = W5 at *
                        clear hbd BA WSL HBL d0' d1' d2' zk hbde
                        obtain ⟨wl, hwl⟩ : ∃ wl, pairsL (meetB xs) xs.length i ++ pairsI (meetB xs) i k = wl := ⟨_, rfl⟩
                        rw [hwl] at D5
                        have HWL := Lib.hid hwl
                        clear hwl
                        generalize hDD : DL w5 H xs (gOf3 g0 g1 g2) (glI cs.length (i + 1)) u18 wl u19 (fenceL xs (i + 1)) s1 bc (.cells #[.int .i64 (m : Int), .int .i64 (f : Int), .int .i64 (t : Int)] 47 (0, 0)) bd (.cells #[.int .i64 (m2 : Int), .int .i64 (f2 : Int), .int .i64 (t2 : Int)] 47 (0, 0)) = DD at *
                        have HDD := Lib.hid hDD
                        clear hDD
                        have KEEP : Hid (∀ (W W' : World), DD W → Below W.heap.size W W' → DD W') := Lib.hid (by rw [← HDD.out]; exact fun W W' h hb => h.keep hb)
                        have OLD : Hid (∀ W, DD W → Below w1.heap.size w1 W) := Lib.hid (by
                          rw [← HDD.out]
                          exact fun W h => BB5.out.trans (h.1.be.mono (by rw [← HH.out]; exact BB5.out.size)))
                        have CELLS : Hid (∀ W, DD W → (W.cell? ⟨bc, 0, none⟩ = some (.int .i64 (m : Int)) ∧ W.cell? ⟨bc, 1, none⟩ = some (.int .i64 (f : Int)) ∧ W.cell? ⟨bc, 2, none⟩ = some (.int .i64 (t : Int))) ∧ (W.cell? ⟨bd, 0, none⟩ = some (.int .i64 (m2 : Int)) ∧ W.cell? ⟨bd, 1, none⟩ = some (.int .i64 (f2 : Int)) ∧ W.cell? ⟨bd, 2, none⟩ = some (.int .i64 (t2 : Int)))) := Lib.hid (by
                          rw [← HDD.out]
                          exact fun W h => ⟨⟨(cell_of h.2.1 0).trans rfl, (cell_of h.2.1 1).trans rfl, (cell_of h.2.1 2).trans rfl⟩, ⟨(cell_of h.2.2 0).trans rfl, (cell_of h.2.2 1).trans rfl, (cell_of h.2.2 2).trans rfl⟩⟩)
                        have XY : Hid (∀ W, DD W → W.cell? ⟨gx, i, none⟩ = some (.slice (some ad) j cp) ∧ W.cell? ⟨gx, k, none⟩ = some (.slice (some ad2) n2 cp2)) := Lib.hid (fun W h => ⟨old_cell (OLD.out W h) HDX2.out, old_cell (OLD.out W h) HDY.out⟩)
                        obtain ⟨⟨x0, x1, x2⟩, ⟨y0, y1, y2⟩⟩ := CELLS.out _ D5.out
                        have SHC := Lib.hid (shared_any ⟨m, f, t⟩ ⟨m2, f2, t2⟩ W5 ⟨bm, by show f ≤ 60; omega, bt⟩ ⟨bm2, by show f2 ≤ 60; omega, bt2⟩)
                        unfold Cu.agg at SHC
                        go_wp2_with fail
                        refine SHC.out.mono ?_
                        rintro e w6 ⟨rfl, hb6⟩
                        rw [HPQ.out]
                        have D6 := Lib.hid (KEEP.out _ _ D5.out hb6)
                        clear hb6 SHC x0 x1 x2 y0 y1 y2 D5
                        obtain ⟨dx6, dy6⟩ := XY.out _ D6.out
                        obtain ⟨dx6, dy6⟩ := XY.out _ D6.out
                        have OVC : Hid (∀ n', Calls Try.prog 5 #[.slice (some ad) j cp, .slice (some ad2) n2 cp2] (w6.drewN n') (OvBigPost ⟨gOf3 g0 g1 g2 m, f, j, cp⟩ ⟨gOf3 g0 g1 g2 m2, f2, n2, cp2⟩ (w6.drewN n'))) := Lib.hid (fun n' => overlapX_any ⟨gOf3 g0 g1 g2 m, f, j, cp⟩ ⟨gOf3 g0 g1 g2 m2, f2, n2, cp2⟩ (some ad) (some ad2) M (fun _ => 60) (D3 g0 g1 g2) (w6.drewN n') (MM.out.below (OLD.out _ (KEEP.out _ _ D6.out (bdrewN (Below.refl _ w6) n')))) WOI.out WOK.out (by show j ≤ 100000; omega) (by show n2 ≤ 100000; omega))
                        go_upto_region 34 with fail
                        refine wp_region_mid 8 _ (by kernel_rfl) (by kernel_rfl) rfl ?_
                        simp only [List.take_succ_cons, List.take_zero, List.drop_succ_cons, List.drop_zero]
                        repeat (go_big_quiet_step (fail))
                        refine wpQuiet_nil ?_
                        intro _ hw'
                        obtain ⟨nq6, rfl⟩ := hw'
                        have D7 := Lib.hid (KEEP.out _ _ D6.out (bdrewN (Below.refl _ w6) nq6))
                        intro K hK
                        go_simp
                        refine (OVC.out _).mono ?_
                        rintro e w8 ⟨hb8, ⟨h4, _⟩ | ⟨_, rfl⟩⟩
                        · rw [errXY_zero j60 n60] at h4; cases h4
                        have D8 := Lib.hid (KEEP.out _ _ D7.out hb8)
                        rw [OVS.out]
                        clear hb8 OVC D6 D7 dx6 dy6
                        go_simp
                        refine hK _ _ ?_
                        clear hK K
                        repeat (go_big_quiet_step (fail))
                        refine wpQuiet_nil ?_
                        intro _ hw'
                        obtain ⟨nq8, rfl⟩ := hw'
                        have D9 := Lib.hid (KEEP.out _ _ D8.out (bdrewN (Below.refl _ w8) nq8))
                        clear D8
                        generalize hW9 : w8.drewN nq8 = w9 at *
                        clear hW9
                        obtain ⟨dx9, dy9⟩ := XY.out _ D9.out
                        have SMC : Hid (∀ n', Calls Try.prog 6 #[.slice (some ad) j cp, .slice (some ad2) n2 cp2] (w9.drewN n') (SameBigPost ⟨gOf3 g0 g1 g2 m, f, j, cp⟩ ⟨gOf3 g0 g1 g2 m2, f2, n2, cp2⟩ (w9.drewN n'))) := Lib.hid (fun n' => sameX_any ⟨gOf3 g0 g1 g2 m, f, j, cp⟩ ⟨gOf3 g0 g1 g2 m2, f2, n2, cp2⟩ (some ad) (some ad2) M (fun _ => 60) (D3 g0 g1 g2) (w9.drewN n') (MM.out.below (OLD.out _ (KEEP.out _ _ D9.out (bdrewN (Below.refl _ w9) n')))) WOI.out WOK.out (by show j ≤ 100000; omega) (by show n2 ≤ 100000; omega))
                        go_upto_region 37 with fail
                        refine wp_region_mid 8 _ (by kernel_rfl) (by kernel_rfl) rfl ?_
                        simp only [List.take_succ_cons, List.take_zero, List.drop_succ_cons, List.drop_zero]
                        repeat (go_big_quiet_step (fail))
                        refine wpQuiet_nil ?_
                        intro _ hw'
                        obtain ⟨nq9, rfl⟩ := hw'
                        have D10 := Lib.hid (KEEP.out _ _ D9.out (bdrewN (Below.refl _ w9) nq9))
                        intro K hK
                        go_simp
                        refine (SMC.out _).mono ?_
                        rintro e w11 ⟨hb11, ⟨h4, _⟩ | ⟨_, rfl⟩⟩
                        · rw [errXY_zero j60 n60] at h4; cases h4
                        have D11 := Lib.hid (KEEP.out _ _ D10.out hb11)
                        rw [SMS.out]
                        clear hb11 SMC D9 D10 dx9 dy9
                        go_simp
                        refine hK _ _ ?_
                        clear hK K
                        repeat (go_big_quiet_step (fail))
                        refine wpQuiet_nil ?_
                        intro _ hw'
                        obtain ⟨nq11, rfl⟩ := hw'
                        have D12 := Lib.hid (KEEP.out _ _ D11.out (bdrewN (Below.refl _ w11) nq11))
                        clear D11
                        generalize hW12 : w11.drewN nq11 = w12 at *
                        clear hW12
                        go_upto_region 38 with fail
                        obtain ⟨⟨x0, x1, x2⟩, ⟨y0, y1, y2⟩⟩ := CELLS.out _ D12.out
                        go_cut [242] (fun s242 wx => s242 = .bool false ∧ wx = w12)
                        case first =>
                          by_cases hA : (t : Int) - f = (t2 : Int) - f2
                          · by_cases hB : r = (t : Int) - f
                            · go_wp2_with fail
                              all_goals
                                go_meet
                                first
                                  | exact ⟨rfl, rfl⟩
                                  | exact ⟨by simp [beq_dec], rfl⟩
                            · go_wp2_with fail
                              all_goals
                                go_meet
                                first
                                  | exact ⟨rfl, rfl⟩
                                  | exact ⟨by simp [beq_dec], rfl⟩
                          · have hA' : ((t : Int) - f == (t2 : Int) - f2) = false := by simp [hA]
                            go_wp2_with fail
                            all_goals
                              go_meet
                              first
                                | exact ⟨rfl, rfl⟩
                                | exact ⟨by simp [beq_dec], rfl⟩
                                | exact ⟨by simp [beq_dec, hA'], rfl⟩
                        case rest =>
                        as_aux_lemma =>
                          obtain ⟨rfl, hwc⟩ := hcut
                          have hwc' := hwc.symm
                          clear hwc
                          subst hwc'
                          clear x0 x1 x2 y0 y1 y2
                          obtain ⟨dx12, dy12⟩ := XY.out _ D12.out
                          have DFC : Hid (∀ n', Calls Try.prog 7 #[.slice (some ad) j cp, .slice (some ad2) n2 cp2] (w12.drewN n') (DiffPost ⟨gOf3 g0 g1 g2 m, f, j, cp⟩ ⟨gOf3 g0 g1 g2 m2, f2, n2, cp2⟩ M (w12.drewN n'))) := Lib.hid (fun n' => diffX_any ⟨gOf3 g0 g1 g2 m, f, j, cp⟩ ⟨gOf3 g0 g1 g2 m2, f2, n2, cp2⟩ (some ad) (some ad2) M (fun _ => 60) (D3 g0 g1 g2) (w12.drewN n') (MM.out.below (OLD.out _ (KEEP.out _ _ D12.out (bdrewN (Below.refl _ w12) n')))) WOI.out WOK.out)
                          go_upto_region 40 with fail
                          refine wp_region_mid 8 _ (by kernel_rfl) (by kernel_rfl) rfl ?_
                          simp only [List.take_succ_cons, List.take_zero, List.drop_succ_cons, List.drop_zero]
                          repeat (go_big_quiet_step (fail))
                          refine wpQuiet_nil ?_
                          intro _ hw'
                          obtain ⟨nq12, rfl⟩ := hw'
                          have D13 := Lib.hid (KEEP.out _ _ D12.out (bdrewN (Below.refl _ w12) nq12))
                          intro K hK
                          go_simp
                          refine (DFC.out _).mono ?_
                          rintro e w14 ⟨hb14, ⟨h4, _⟩ | ⟨_, dv, rfl, hdv⟩⟩
                          · rw [errXY_zero j60 n60] at h4; cases h4
                          have D14 := Lib.hid (KEEP.out _ _ D13.out hb14)
                          have DV14 := Lib.hid hdv
                          clear hdv
                          clear hb14 DFC D12 D13 dx12 dy12
                          go_simp
                          refine hK _ _ ?_
                          clear hK K
                          repeat (go_big_quiet_step (fail))
                          refine wpQuiet_nil ?_
                          intro _ hw'
                          obtain ⟨nq14, rfl⟩ := hw'
                          have D15 := Lib.hid (KEEP.out _ _ D14.out (bdrewN (Below.refl _ w14) nq14))
                          have DV15 := Lib.hid (row_keep DV14.out (bdrewN (Below.refl _ w14) nq14))
                          clear DV14
                          clear D14
                          generalize hW15 : w14.drewN nq14 = w15 at *
                          clear hW15
                          have hdl := diffL_len (eqAt ⟨gOf3 g0 g1 g2 m, f, j, cp⟩ ⟨gOf3 g0 g1 g2 m2, f2, n2, cp2⟩ M) (max j n2)
                          have DLn : Hid ((diffL (eqAt ⟨gOf3 g0 g1 g2 m, f, j, cp⟩ ⟨gOf3 g0 g1 g2 m2, f2, n2, cp2⟩ M) (max j n2)).length ≤ 1000000) := Lib.hid (by omega)
                          clear hdl
                          go_upto_region 41 with fail
                          have D16 := Lib.hid (KEEP.out _ _ D15.out (Below.refl _ w15).drew)
                          have DV16 := Lib.hid (row_keep DV15.out (Below.refl _ w15).drew)
                          have s0' : ∀ y : WIn DD, y.w.cell? ⟨gx, i, none⟩ = some (.slice (some ad) j cp) := fun y => (XY.out y.w y.h).1
                          have s1' : ∀ y : WIn DD, y.w.cell? ⟨gx, k, none⟩ = some (.slice (some ad2) n2 cp2) := fun y => (XY.out y.w y.h).2
                          haveI ne : Nonempty (WIn DD) := ⟨⟨w15.drew, D16.out⟩⟩
                          have DOC := Lib.hid (diffOfX_any ⟨gOf3 g0 g1 g2 m, f, j, cp⟩ ⟨gOf3 g0 g1 g2 m2, f2, n2, cp2⟩ (some ad) (some ad2) M (fun _ => 60) (D3 g0 g1 g2) w15.drew (MM.out.below (OLD.out _ D16.out)) WOI.out WOK.out j60 n60)
                          unfold Wn.val at DOC
                          simp only at DOC
                          refine wp_normal ?_
                          refine wp_region_plan 13 DD rfl ?_
                          refine wpN_seg [0, 1, 2, 3, 4, 5, 6, 7, 8, 9, 10, 11] (by kernel_rfl) (by kernel_rfl) (by kernel_rfl) (by kernel_rfl) (by decide) (fun _ _ _ _ _ h => h) D16.out ?_
                          simp only [pick, List.map_cons, List.map_nil, List.getElem?_cons_succ, List.getElem?_cons_zero, Option.getD_some]
                          repeat (go_big_quiet_step (fail))
                          refine wpQuiet_nil ?_
                          clear s0' s1' ne D15 DV15
                          generalize w15.drew = w16 at *
                          refine wpN_one 12 _ (by kernel_rfl) rfl ?_
                          refine NextAt.held ?_
                          intro K hK
                          go_simp
                          refine DOC.out.mono ?_
                          rintro e w17 ⟨hb17, ov17, rfl, hov17⟩
                          have EQC := Lib.hid (equal_spans dv ov17 _ w17 DLn.out (prIn_row (row_keep DV16.out hb17)) (prIn_row hov17))
                          have D17 := Lib.hid (KEEP.out _ _ D16.out hb17)
                          clear hb17 hov17 DOC D16 DV16
                          go_simp
                          refine hK _ _ D17.out ?_
                          clear hK K
                          refine wpN_one 13 _ (by kernel_rfl) rfl ?_
                          refine NextAt.free (by kernel_rfl) ?_
                          intro K hK
                          go_simp
                          refine EQC.out.mono ?_
                          rintro e w18' ⟨rfl, nq17, rfl⟩
                          have D18 := Lib.hid (KEEP.out _ _ D17.out (bdrewN (Below.refl _ w17) nq17))
                          clear D17 EQC
                          go_simp
                          refine hK _ _ ?_
                          clear hK K
                          generalize w17.drewN nq17 = w18 at *
                          refine wpN_one 14 _ (by kernel_rfl) rfl ?_
                          refine NextAt.free (by kernel_rfl) ?_
                          intro K hK
                          go_simp
                          refine hK _ _ ?_
                          clear hK K
                          refine wpN_one 15 _ (by kernel_rfl) rfl ?_
                          refine NextAt.free (by kernel_rfl) ?_
                          intro K hK
                          go_simp
                          refine hK _ _ ?_
                          clear hK K
                          refine wpN_done (by kernel_rfl) ?_
                          have D18 : Hid (DL w5 H xs (gOf3 g0 g1 g2) (glI cs.length (i + 1)) u18 wl u19 (fenceL xs (i + 1)) s1 bc (.cells #[.int .i64 (m : Int), .int .i64 (f : Int), .int .i64 (t : Int)] 47 (0, 0)) bd (.cells #[.int .i64 (m2 : Int), .int .i64 (f2 : Int), .int .i64 (t2 : Int)] 47 (0, 0)) w18) := Lib.hid (by rw [HDD.out]; exact D18.out)
                          clear KEEP OLD CELLS XY HDD DLn
                          have PN := Lib.hid (pairsI_next (meetB xs) i k)
                          have WL : Hid (wl.length ≤ 1000) := Lib.hid (by
                            rw [← HWL.out, List.length_append]
                            have h1 := pairsL_len (meetB xs) xs.length i
                            have h2 := pairsI_len (meetB xs) i k
                            have h3 : i * xs.length ≤ 12 * 12 := Nat.mul_le_mul (by omega) (by rw [HXL.out]; exact hcl)
                            omega)
                          by_cases hik : i < k
                          · have hik' : (i : Int) < (k : Int) := by omega
                            by_cases hr0 : 0 < r
                            · have FE := PN.out
                              rw [if_pos ⟨hik, by rw [MTS.out]; exact decide_eq_true hr0⟩] at FE
                              have FE := Lib.hid FE
                              have wll := WL.out
                              have hsd := D18.out.1.sz.2
                              go_wp2_with (at_builtin; go_must (refine wpList_append_w rfl (.tmp 278) (.tmp 282) 32 rfl (H + 2) 57 iP (.agg #[.int .i64 0, .int .i64 0]) 2 16 Try.underlying32 hiP hzP0 hzP1 hzP2 rfl (by decide) _ _ _ w18 _ [.int .i64 (i : Int), .int .i64 (k : Int)] rfl (by exact D18.out.1.want) (by rfl) rfl (by intro u hu; simp at hu; rcases hu with rfl | rfl <;> rfl) (by unfold maxLen; omega) (by omega) hsd ?_))
                              intro v' w19 hown' hg hb19
                              obtain ⟨ws4, ty⟩ := D18.out.1.wantApp (p := (i, k)) hown' hg
                              have FIN := Lib.hid ws4
                              have FB := Lib.hid (ty _ _ _ D18.out.2.1 (by decide))
                              clear ws4 ty hown' hg hb19
                              go_wp2_with fail
                              go_round
                              case rel => exact ⟨k + 1, by omega, by go_num, by rw [FE.out, ← List.append_assoc, HWL.out]; exact FIN.out, FB.out⟩
                              case measure => simp [intOf]; omega
                            · have FE := PN.out
                              rw [if_neg (fun h => hr0 (by have := h.2; rw [MTS.out] at this; exact of_decide_eq_true this)), List.append_nil] at FE
                              have FE := Lib.hid FE
                              go_wp2_with fail
                              go_round
                              case rel => exact ⟨k + 1, by omega, by go_num, by rw [FE.out, HWL.out]; exact D18.out.1, D18.out.2.1⟩
                              case measure => simp [intOf]; omega
                          · have hik' : ¬ (i : Int) < (k : Int) := by omega
                            have FE := PN.out
                            rw [if_neg (fun h => hik h.1), List.append_nil] at FE
                            have FE := Lib.hid FE
                            go_wp2_with fail
                            go_round
                            case rel => exact ⟨k + 1, by omega, by go_num, by rw [FE.out, HWL.out]; exact D18.out.1, D18.out.2.1⟩
                            case measure => simp [intOf]; omega
                    · obtain rfl : k = cs.length := by omega
                      have PS := Lib.hid (pairsL_succ (meetB xs) xs.length i)
                      have FIN := Lib.hid (show WsAt w5 wr H xs (gOf3 g0 g1 g2) (glI cs.length (i + 1)) u18 (pairsL (meetB xs) xs.length (i + 1)) u19 (fenceL xs (i + 1)) s1 by rw [PS.out, HXL.out]; have h0 := WSL.out; rw [HXL.out] at h0; exact h0)
                      clear hkn zk
                      go_wp2_with fail
                      go_round
                      case rel => exact ⟨i + 1, by omega, by go_num, by rw [HS1.out]; exact FIN.out⟩
                      case measure => simp [intOf]; omega
              --]]
        · obtain rfl : i = cs.length := by omega
          as_aux_lemma =>
            obtain ⟨wa, wcap, rfl⟩ := wrow_sh WS.out.want
            obtain ⟨P, hP⟩ : ∃ P, pairsL (meetB xs) xs.length cs.length = P := ⟨_, rfl⟩
            have PB : Hid (∀ p ∈ P, p.1 < cs.length ∧ p.2 < cs.length ∧ p.1 < p.2) := Lib.hid (by
              intro p hp
              rw [← hP] at hp
              have := pairsL_mem hp
              rw [HXL.out] at this
              exact this)
            have PL : Hid (P.length ≤ 1000) := Lib.hid (by
              rw [← hP]
              have h1 := pairsL_len (meetB xs) xs.length cs.length
              have h3 : cs.length * xs.length ≤ 12 * 12 := Nat.mul_le_mul hcl (by rw [HXL.out]; exact hcl)
              omega)
            have WS := WS.out
            rw [hP] at WS ⊢
            have HPG : Hid (P = GrPairs xs) := Lib.hid (by rw [← hP]; unfold GrPairs; rw [HXL.out])
            rw [glI_all] at WS
            have WS := Lib.hid WS
            obtain ⟨fs, hfs⟩ : ∃ fs, fenceL xs cs.length = fs := ⟨_, rfl⟩
            rw [hfs] at WS
            have HFS := Lib.hid hfs
            obtain ⟨sF, hsF⟩ : ∃ z, covAll xs cs.length (zeroed xs M, 0) = z := ⟨_, rfl⟩
            rw [hsF] at WS
            have HSF : Hid (sF.2 = covN xs M) := Lib.hid (by rw [← hsF]; unfold covN; rw [HXL.out])
            clear hP hlt hi hfs hsF
            go_wp2_with fail
            go_loopw [288] (fun iv wr => ∃ r : Nat, r ≤ cs.length ∧ iv = .int .i64 (r : Int) ∧ WsAt w5 wr H xs (gOf3 g0 g1 g2) ((labN P r (List.range cs.length)).map fun m : Nat => (m : Int)) (.slice wa P.length wcap) P u19 fs sF) (fun iv _ => cs.length - (intOf iv).toNat)
            case atStart => exact ⟨0, Nat.zero_le _, rfl, WS.out⟩
            case round =>
              obtain ⟨r, hr, rfl, hwr⟩ := hrel
              have WSR := Lib.hid hwr
              have zr := hwr.sz.2
              clear hwr WS
              by_cases hrn : r < cs.length
              · have LN := Lib.hid (show labN P (r + 1) (List.range cs.length) = labR P (labN P r (List.range cs.length)) from rfl)
                have LL := Lib.hid (labN_len P r (List.range cs.length))
                obtain ⟨G, hG⟩ : ∃ G, labN P r (List.range cs.length) = G := ⟨_, rfl⟩
                rw [hG] at WSR LN LL
                clear hG
                go_wp2_with fail
                go_loopw [292] (fun iv wr => ∃ q : Nat, q ≤ P.length ∧ iv = .int .i64 (q : Int) ∧ WsAt w5 wr H xs (gOf3 g0 g1 g2) ((labR (P.take q) G).map fun m : Nat => (m : Int)) (.slice wa P.length wcap) P u19 fs sF) (fun iv _ => P.length - (intOf iv).toNat)
                case atStart => exact ⟨0, Nat.zero_le _, rfl, WSR.out⟩
                case round =>
                  obtain ⟨q, hq, rfl, hwq⟩ := hrel
                  have WSQ := Lib.hid hwq
                  have zq := hwq.sz.2
                  clear hwq WSR
                  by_cases hqn : q < P.length
                  · obtain ⟨⟨A, C⟩, hp⟩ : ∃ p, P[q]? = some p := ⟨_, List.getElem?_eq_getElem hqn⟩
                    have pb := PB.out _ (List.mem_of_getElem? hp)
                    simp only at pb
                    obtain ⟨pA, pC, pAC⟩ := pb
                    obtain ⟨q1, q2⟩ := spCells_get P q _ hp
                    obtain ⟨gw, rfl, e1, _⟩ := wrow_cell WSQ.out.want q1
                    obtain ⟨gw', e', e2, _⟩ := wrow_cell WSQ.out.want q2
                    obtain rfl : gw = gw' := by simpa using e'
                    simp only at e1 e2
                    have TK := Lib.hid (show labR (P.take (q + 1)) G = lab1 (labR (P.take q) G) (A, C) by
                      unfold labR
                      rw [List.take_add_one, hp, List.foldl_append]
                      rfl)
                    have LQ : Hid ((labR (P.take q) G).length = cs.length) := Lib.hid (by rw [labR_len, LL.out, List.length_range])
                    obtain ⟨Q, hQ⟩ : ∃ Q, labR (P.take q) G = Q := ⟨_, rfl⟩
                    rw [hQ] at WSQ TK LQ
                    clear hQ hp q1 q2 e'
                    go_upto_region 52 with fail
                    have hbx := heap_alloc_new wr (.cells #[.int .i64 (A : Int), .int .i64 (C : Int)] 57)
                    have WS1 := Lib.hid (WSQ.out.keep ((Below.refl _ wr).alloc (Nat.le_refl _) (.cells #[.int .i64 (A : Int), .int .i64 (C : Int)] 57)))
                    obtain ⟨bp, hbp⟩ : ∃ bp, wr.heap.size = bp := ⟨_, rfl⟩
                    rw [hbp] at hbx zq ⊢
                    generalize wr.alloc (.cells #[.int .i64 (A : Int), .int .i64 (C : Int)] 57) = W1 at *
                    have HBX := Lib.hid hbx
                    have x0 : W1.cell? ⟨bp, 0, none⟩ = some (.int .i64 (A : Int)) := by rw [cell_of hbx]; rfl
                    have x1 : W1.cell? ⟨bp, 1, none⟩ = some (.int .i64 (C : Int)) := by rw [cell_of hbx]; rfl
                    have cA := WS1.out.grp.cell A (by rw [List.length_map, LQ.out]; exact pA)
                    have cC := WS1.out.grp.cell C (by rw [List.length_map, LQ.out]; exact pC)
                    rw [getD_cast] at cA cC
                    obtain ⟨va, hva⟩ : ∃ va, Q.getD A 0 = va := ⟨_, rfl⟩
                    obtain ⟨vc, hvc⟩ : ∃ vc, Q.getD C 0 = vc := ⟨_, rfl⟩
                    rw [hva] at cA
                    rw [hvc] at cC
                    have HV := Lib.hid (And.intro hva hvc)
                    clear hbx hbp e1 e2 hva hvc WSQ
                    go_cut [38] (fun s38 wx => s38 = .int .i64 ((min va vc : Nat) : Int) ∧ ∃ z, wx = W1.drewN z)
                    case first =>
                      go_quiet (fail)
                      try go_wp2_with fail
                      all_goals
                        go_meet
                        exact ⟨congrArg _ (by omega), _, rfl⟩
                    case rest =>
                      obtain ⟨rfl, z, rfl⟩ := hcut
                      have WS2 := Lib.hid ((WS1.out.keep (bdrewN (Below.refl _ W1) z)).keep (Below.refl _ (W1.drewN z)).drew)
                      have S0 : BoxS bp A C (W1.drewN z).drew := HBX.out
                      clear x0 x1 cA cC WS1 HBX
                      go_upto_region 53 with fail
                      generalize W1.drewN z = W2 at *
                      have s0' : ∀ y : WIn (BoxS bp A C), y.w.cell? ⟨bp, 0, none⟩ = some (.int .i64 (A : Int)) := fun y => (cell_of y.h 0).trans rfl
                      have s1' : ∀ y : WIn (BoxS bp A C), y.w.cell? ⟨bp, 1, none⟩ = some (.int .i64 (C : Int)) := fun y => (cell_of y.h 1).trans rfl
                      haveI ne : Nonempty (WIn (BoxS bp A C)) := ⟨⟨W2.drew, S0⟩⟩
                      refine wp_normal ?_
                      refine wp_region_plan 11 (BoxS bp A C) rfl ?_
                      refine wpN_seg [0, 1, 2, 3, 4, 5, 6, 7, 8] (by kernel_rfl) (by kernel_rfl) (by kernel_rfl) (by kernel_rfl) (by decide) (fun _ _ _ _ _ h => h) S0 ?_
                      simp only [pick, List.map_cons, List.map_nil, List.getElem?_cons_succ, List.getElem?_cons_zero, Option.getD_some]
                      repeat (go_big_quiet_step (fail))
                      refine wpQuiet_nil ?_
                      clear s0' s1' ne
                      generalize W2.drew = W3 at *
                      have hbpH : bp ≠ H := by omega
                      have S1 : BoxS bp A C (W3.setCell ⟨H, A, none⟩ (.int .i64 ((min va vc : Nat) : Int))) := (Below.heap_setCell W3 ⟨H, A, none⟩ _ bp hbpH).trans S0
                      have cA := WS2.out.grp.cell A (by rw [List.length_map, LQ.out]; exact pA)
                      have fA : W3.frozen? ⟨H, A, none⟩ = false := free_of WS2.out.grp _
                      have WS3 := Lib.hid (WS2.out.setG A ((min va vc : Nat) : Int))
                      have cC := WS3.out.grp.cell C (by rw [List.length_set, List.length_map, LQ.out]; exact pC)
                      have fC : (W3.setCell ⟨H, A, none⟩ (.int .i64 ((min va vc : Nat) : Int))).frozen? ⟨H, C, none⟩ = false := free_of WS3.out.grp _
                      have WS4 : Hid (WsAt w5 ((W3.setCell ⟨H, A, none⟩ (.int .i64 ((min va vc : Nat) : Int))).setCell ⟨H, C, none⟩ (.int .i64 ((min va vc : Nat) : Int))) H xs (gOf3 g0 g1 g2) ((labR (P.take (q + 1)) G).map fun m : Nat => (m : Int)) (.slice (some ⟨gw, 0, none⟩) P.length wcap) P u19 fs sF) := Lib.hid (by
                        have h0 := WS3.out.setG C ((min va vc : Nat) : Int)
                        have e : (((Q.map fun m : Nat => (m : Int)).set A ((min va vc : Nat) : Int)).set C ((min va vc : Nat) : Int)) = (labR (P.take (q + 1)) G).map fun m : Nat => (m : Int) := by
                          rw [TK.out]
                          unfold lab1
                          simp only
                          rw [HV.out.1, HV.out.2, List.map_set, List.map_set]
                        rw [← e]
                        exact h0)
                      obtain ⟨zA, hzA⟩ : ∃ zA, (Q.map fun m : Nat => (m : Int)).getD A 0 = zA := ⟨_, rfl⟩
                      rw [hzA] at cA
                      obtain ⟨zC, hzC⟩ : ∃ zC, ((Q.map fun m : Nat => (m : Int)).set A ((min va vc : Nat) : Int)).getD C 0 = zC := ⟨_, rfl⟩
                      rw [hzC] at cC
                      obtain ⟨mn, hmn⟩ : ∃ mn, min va vc = mn := ⟨_, rfl⟩
                      rw [hmn] at S1 fC cC WS4 ⊢
                      clear hzA hzC hmn WS2 WS3 HV TK
                      refine wpN_one 9 _ (by kernel_rfl) rfl ?_
                      refine NextAt.held ?_
                      intro K hK
                      go_simp
                      refine hK _ _ S1 ?_
                      clear hK K cA fA
                      refine wpN_one 10 _ (by kernel_rfl) rfl ?_
                      refine NextAt.held ?_
                      intro K hK
                      go_simp
                      refine hK _ _ S1 ?_
                      clear hK K
                      refine wpN_one 11 _ (by kernel_rfl) rfl ?_
                      refine NextAt.free (by kernel_rfl) ?_
                      intro K hK
                      go_simp
                      refine hK _ _ ?_
                      clear hK K cC fC S1 S0
                      refine wpN_done (by kernel_rfl) ?_
                      have hpl := PL.out
                      go_wp2_with fail
                      go_round
                      case rel => exact ⟨q + 1, by omega, by go_num, WS4.out⟩
                      case measure => simp [intOf]; omega
                  · obtain rfl : q = P.length := by omega
                    have FIN := Lib.hid (show WsAt w5 wr H xs (gOf3 g0 g1 g2) ((labN P (r + 1) (List.range cs.length)).map fun m : Nat => (m : Int)) (.slice wa P.length wcap) P u19 fs sF by
                      rw [LN.out]
                      have h0 := WSQ.out
                      rw [List.take_length] at h0
                      exact h0)
                    clear hqn hq WSQ
                    go_wp2_with fail
                    go_round
                    case rel => exact ⟨r + 1, by omega, by go_num, FIN.out⟩
                    case measure => simp [intOf]; omega
              · obtain rfl : r = cs.length := by omega
                clear hrn hr
                have B5 : Below w5.heap.size w5 wr := by have h0 := WSR.out.be; rw [← HH.out] at h0; exact h0
                have BFR := Lib.hid (BF5.out.below B5)
                have BW := Lib.hid (BB5.out.trans (B5.mono BB5.out.size))
                have FVR := Lib.hid (row_keep FV5.out B5)
                have GVR := Lib.hid (row_keep GV5.out B5)
                have PVR := Lib.hid (row_keep PV5.out B5)
                clear B5 FV5 GV5 PV5 BF5
                go_wp2_with fail
                go_loopw [321] (fun iv wx => ∃ k : Nat, k ≤ cs.length ∧ iv = .int .i64 (k : Int) ∧ wx = wr) (fun iv _ => cs.length - (intOf iv).toNat)
                case atStart => exact ⟨0, Nat.zero_le _, rfl, rfl⟩
                case round =>
                  obtain ⟨k, hk, rfl, rfl⟩ := hrel
                  by_cases hkn : k < cs.length
                  · obtain ⟨c, hc⟩ : ∃ c, cs[k]? = some c := ⟨_, List.getElem?_eq_getElem hkn⟩
                    obtain ⟨gx, rfl, dx⟩ := HC.out k c hc
                    have dx' := old_cell BW.out dx
                    have bd := BD.out c (List.mem_of_getElem? hc)
                    have wo := WO.out _ (w0_in (k := k) (by rw [HXL.out]; exact hkn))
                    have xg := XG.out k c hc
                    rw [xg] at wo
                    have rd := (MM.out.below BW.out).reads wo
                    obtain ⟨a', c', x, e', g', rfl, hcell, hrd⟩ := BFR.out.get hkn (by rw [xg]; show c.t - c.f ≤ 1000; omega)
                    rw [xg] at hrd
                    simp only [Value.slice.injEq, true_and] at e'
                    obtain ⟨rfl, rfl⟩ := e'
                    obtain ⟨xa, xc, rfl, hxl, _⟩ := id hrd
                    have rl : ((c.w2 g0 g1 g2).1.row M).length = c.t - c.f := by simp [Wn.row]; rfl
                    unfold Cu.sl at dx'
                    unfold Wn.val at rd
                    have EQ := Lib.hid (equal_w (show Reads wr .u8 (.slice (some (c.ad g0 g1 g2)) (c.t - c.f) (c.room - c.f)) _ from rd) (by rw [rl]) (by rw [rl] at hrd; exact hrd))
                    rw [rl] at hcell
                    obtain ⟨ad, had⟩ : ∃ ad, c.ad g0 g1 g2 = ad := ⟨_, rfl⟩
                    obtain ⟨n, hn⟩ : ∃ n, c.t - c.f = n := ⟨_, rfl⟩
                    obtain ⟨cp, hcp⟩ : ∃ cp, c.room - c.f = cp := ⟨_, rfl⟩
                    simp only [had, hn, hcp] at dx' EQ hcell
                    clear dx wo xg rd hrd hxl rl had hn hcp bd hc
                    go_wp2_with fail
                    refine EQ.out.mono ?_
                    rintro e w9 ⟨rfl, rfl⟩
                    go_wp2_with fail
                    go_round
                    case rel => exact ⟨k + 1, by omega, by go_num, by first | rfl | trivial⟩
                    case measure => simp [intOf]; omega
                  · obtain rfl : k = cs.length := by omega
                    clear hkn hk
                    have PI1 : PrIn wr pv P := by
                      have h0 := prIn_row PVR.out
                      rw [HXL.out, ← HXL.out] at h0
                      exact HPG.out ▸ h0
                    have EP := Lib.hid (equal_pairs pv (.slice wa P.length wcap) P wr (by have := PL.out; omega) PI1 (prIn_row WSR.out.want))
                    have GL := grp_lab P cs.length (fun p hp => ⟨(PB.out p hp).1, (PB.out p hp).2.1⟩)
                    have RG1 : Reads wr .i64 (.slice ga cs.length gc) ((labN P cs.length (List.range cs.length)).map fun m : Nat => (m : Int)) := by
                      have h0 := GVR.out
                      rw [← HPG.out, GL] at h0
                      exact reads_row h0 (by rw [List.length_map, labN_len, List.length_range]) (by omega)
                    have RG2 : Reads wr .i64 (.slice (some ⟨H, 0, none⟩) cs.length cs.length) ((labN P cs.length (List.range cs.length)).map fun m : Nat => (m : Int)) := by
                      have hl : ((labN P cs.length (List.range cs.length)).map fun m : Nat => (m : Int)).length = cs.length := by rw [List.length_map, labN_len, List.length_range]
                      exact ⟨_, _, by rw [hl], by omega, fun _ => ⟨H, 0, rfl, fun j hj => by rw [Nat.zero_add]; exact WSR.out.grp.cell j hj⟩⟩
                    have NF : ∀ fs : List Nat, natCells fs = (fs.map fun m : Nat => (m : Int)).map (Value.int .i64) := fun fs => by simp [natCells]
                    have fl := fenceL_len xs cs.length
                    rw [HFS.out] at fl
                    have RF1 : Reads wr .i64 fv (fs.map fun m : Nat => (m : Int)) := by
                      have h0 := FVR.out
                      rw [HXL.out, HFS.out, NF] at h0
                      exact reads_row h0 (by simp) (by omega)
                    have RF2 : Reads wr .i64 u19 (fs.map fun m : Nat => (m : Int)) := by
                      have h0 := WSR.out.tight
                      rw [NF] at h0
                      exact reads_row h0 (by simp) (by omega)
                    have LEN : ∀ q, (Builtin.len_ #[45] 3 #[.map (some (H + 1))]).run Try.prog (wr.drewN q) = .ok (.int .i64 (covN xs M : Nat)) (wr.drewN q) := fun q => by
                      obtain ⟨D, h1, h2, _⟩ := WSR.out.cells.same (W' := wr.drewN q) rfl
                      rw [h1.len Try.underlying45 3, h2, HSF.out]
                    have R1 := Lib.hid RG1
                    have R2 := Lib.hid RG2
                    have R3 := Lib.hid RF1
                    have R4 := Lib.hid RF2
                    have HL := Lib.hid LEN
                    have BE := Lib.hid (B1.out.trans (BW.out.mono B1.out.size))
                    clear PI1 GL RG1 RG2 NF fl RF1 RF2 LEN
                    go_wp2_with fail
                    refine EP.out.mono ?_
                    rintro e w10 ⟨rfl, q1, rfl⟩
                    go_wp2_with fail
                    refine (equal_int _ _ _ _ _ (R1.out.drewN q1) (R2.out.drewN q1)).mono ?_
                    rintro e w11 ⟨rfl, q2, rfl⟩
                    rw [World.drewN_drewN]
                    have L1 := HL.out (q1 + q2)
                    simp only [decide_true]
                    go_wp2_with fail
                    refine (equal_int _ _ _ _ _ (R3.out.drewN _) (R4.out.drewN _)).mono ?_
                    rintro e w12 ⟨rfl, q3, rfl⟩
                    simp only [decide_true]
                    go_wp2_with fail
                    go_ret
                    exact ⟨rfl, bdrewN BE.out _⟩

end Go.Proofs.Ytclpkmplifcfjaa
