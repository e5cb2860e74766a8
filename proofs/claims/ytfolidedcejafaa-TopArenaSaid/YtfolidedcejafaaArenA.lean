/-
  apart: regions that lie apart, in their chunks, with what was written to them: it answers true. Conditions: these very facts.
-/
import Derived.Test.YtfolidedcejafaaArenF
namespace Go.Proofs.Ytfolidedcejafaa
open Go.RowKit
set_option linter.unusedVariables false

/-- The regions lie apart, in order, each with its own octet. -/
structure Pl (st : ArSt) : Prop where
  ord : ∀ j k, j < k → k < st.regs.length → (st.regs.getD j Reg.zero).ch < (st.regs.getD k Reg.zero).ch ∨ ((st.regs.getD j Reg.zero).ch = (st.regs.getD k Reg.zero).ch ∧ (st.regs.getD j Reg.zero).to ≤ (st.regs.getD k Reg.zero).fr)
  nos : ∀ j k, j < k → k < st.regs.length → (st.regs.getD j Reg.zero).no < (st.regs.getD k Reg.zero).no
  rng : ∀ x ∈ st.regs, 1 ≤ x.no ∧ x.no ≤ st.lr
  con : ∀ x ∈ st.regs, st.shows x = List.replicate x.len (x.no % 256)

theorem Pl.first {st : ArSt} (h : Pl st) (k : Nat) (hk : k < st.regs.length) : FirstAt st.regs (st.regs.getD k Reg.zero).no k := ⟨hk, rfl, fun j hj => by have := h.nos j k hj hk; omega⟩

theorem getD_map {α : Type} (f : α → Int) (z : α) (L : List α) (k : Nat) (h : k < L.length) : (L.map f).getD k 0 = f (L.getD k z) := by
  rw [List.getD_eq_getElem?_getD, List.getElem?_map, List.getD_eq_getElem?_getD, List.getElem?_eq_getElem h]; rfl
theorem flat_snoc {α : Type} (f : α → List Value) (z : α) : ∀ (L : List α) (k : Nat), k < L.length → (L.take (k + 1)).flatMap f = (L.take k).flatMap f ++ f (L.getD k z)
  | [], k, h => by simp at h
  | x :: l, 0, _ => by simp
  | x :: l, k + 1, h => by
    have := flat_snoc f z l k (by simpa using h)
    simp only [List.take_succ_cons, List.flatMap_cons, List.getD_cons_succ, this, List.append_assoc]
theorem own_keep {w w' : World} {B size n : Nat} {e : TypeId} {v : Value} {xs : List Value} (h : w.ownsRow B e size v n xs) (hb : Below w.heap.size w w') : w'.ownsRow B e size v n xs :=
  ownsRow_same h (fun k hk => hb.block k (h.lt k hk).2)

theorem infoSpot : (Try.prog.info? 92).map (fun i => (i.zero, i.size, i.bytes)) = some (some (.agg #[.int .i64 0, .int .i64 0, .int .i64 0]), 3, 24) := by kernel_rfl
def Reg.spot (x : Reg) : List Value := [.int .i64 x.ch, .int .i64 x.fr, .int .i64 x.to]
theorem spot_cells {w : World} {B e : Nat} {v : Value} {L : List Reg} (h : w.ownsRow B e 3 v L.length (L.flatMap Reg.spot)) (k : Nat) (hk : k < L.length) : ∃ b o cap, v = .slice (some ⟨b, o, none⟩) L.length cap ∧
    w.cell? ⟨b, o + k * 3, none⟩ = some (.int .i64 (L.getD k Reg.zero).ch) ∧ w.cell? ⟨b, o + k * 3 + 1, none⟩ = some (.int .i64 (L.getD k Reg.zero).fr) ∧ w.cell? ⟨b, o + k * 3 + 2, none⟩ = some (.int .i64 (L.getD k Reg.zero).to) := by
  obtain ⟨g, cap, rfl⟩ := row_shape h (by omega)
  refine ⟨g, 0, cap, rfl, ?_⟩
  have f : ∀ j u, j < 3 → (L.getD k Reg.zero).spot[j]? = some u → w.cell? ⟨g, 0 + (k * 3 + j), none⟩ = some u := fun j u hj hu => by
    have hx := flat_at Reg.spot 3 (fun _ => rfl) Reg.zero L k j hk hj
    rw [hu] at hx
    have := h.cells (g := g) rfl (k * 3 + j) _ hx
    rwa [add_spot] at this
  exact ⟨f 0 _ (by omega) rfl, f 1 _ (by omega) rfl, f 2 _ (by omega) rfl⟩

def YesPost (w : World) : Ending → World → Prop := fun e w' => e = .returned (.bool true) ∧ Below w.heap.size w w'

set_option maxHeartbeats 8000000 in
set_option maxRecDepth 100000 in
theorem apart_any (I : ArId) (F : Nat → Prop) (st : ArSt) (cv rv mv : Value) (mb N : Nat) (w : World) (h : ArMem w F I st cv rv mv) (hok : RegsOk st.regs) (hco : ChksOk st.chunks) (hfi : Fits st) (hpl : Pl st) (hc : Content w mb st.lr N) (hlr : st.lr ≤ 1000000000000000) :
    Calls Try.prog 18 #[.pointer (some ⟨I.r, 0, none⟩), .map (some mb)] w (YesPost w) := by
  obtain ⟨i0, hi0, hz0, hz1, hz2⟩ := info_parts infoSpot
  have W1 : Below w.heap.size w (w.alloc (.cells #[.map (some mb)] 36)) := (Below.refl _ _).alloc (Nat.le_refl _) _
  have CB : (w.alloc (.cells #[.map (some mb)] 36)).cell? ⟨w.heap.size, 0, none⟩ = some (.map (some mb)) := (cell_of (heap_alloc_new w _) 0).trans rfl
  have AM : Hid (∀ w', Below w.heap.size w w' → ArMem w' F I st cv rv mv) := Lib.hid (fun w' hb => h.below hb)
  have CO : Hid (∀ w', Below w.heap.size w w' → Content w' mb st.lr N) := Lib.hid (fun w' hb => hc.same (hb.block mb hc.lt))
  have OK := Lib.hid hok
  have CK := Lib.hid hco
  have FI := Lib.hid hfi
  have PL := Lib.hid hpl
  have HW1 := Lib.hid W1
  have HCB := Lib.hid CB
  have n2000 := hok.1
  have n200 := hco.1
  clear h hc hok hco hfi hpl W1 CB
  go_enter Try.func18, Try.ntmps18
  go_wp2_with fail
  refine (arChunks_any I F st cv rv mv _ (AM.out _ HW1.out) CK.out).mono ?_
  rintro e w2 ⟨va, rfl, hro, hb2⟩
  have B2 := Lib.hid (HW1.out.trans (hb2.mono (by simp)))
  have RO := Lib.hid (Reads.own hro (by simp; omega))
  have CB2 := Lib.hid (old_cell hb2 HCB.out)
  obtain ⟨aa, ac, rfl, _, _⟩ := ownsRow_sh hro
  have hs2 := B2.out.size
  clear hro hb2
  go_wp2_with fail
  refine (arRegions_any I F st cv rv mv w2 (AM.out _ B2.out) OK.out).mono ?_
  rintro e w3 ⟨vr, rfl, hrr, hb3⟩
  have B3 := Lib.hid (B2.out.trans (hb3.mono hs2))
  have RO3 := Lib.hid (RO.out.below hb3 rfl)
  have CB3 := Lib.hid (old_cell hb3 CB2.out)
  have RR := Lib.hid (Reads.own hrr (by simp; omega))
  obtain ⟨ra, rc, rfl, _, _⟩ := ownsRow_sh hrr
  have hs3 := B3.out.size
  clear hrr hb3 RO CB2 hs2
  simp only [List.length_map] at *
  go_wp2_with fail
  go_loopw [6, 19] (fun v i wr => ∃ k : Nat, k ≤ st.regs.length ∧ i = .int .i64 k ∧ wr.ownsRow w3.heap.size 92 3 v (st.regs.take k).length ((st.regs.take k).flatMap Reg.spot) ∧ Below w3.heap.size w3 wr) (fun _ i _ => st.regs.length - (intOf i).toNat)
  case atStart => exact ⟨0, Nat.zero_le _, rfl, World.ownsRow_nil _ _ _ _, Below.refl _ _⟩
  case round =>
    obtain ⟨k, hk, rfl, how, hb⟩ := hrel
    have OW := Lib.hid how
    have BR := Lib.hid hb
    have BW := Lib.hid (B3.out.trans (hb.mono hs3))
    have hsr := hb.size
    clear how hb
    by_cases hlt : k < st.regs.length
    · have hx := getD_in Reg.zero hlt
      have hfst := PL.out.first k hlt
      obtain ⟨q1, q2⟩ := OK.out.2 _ hx
      obtain ⟨q3, q4⟩ := FI.out _ hx
      obtain ⟨q5, q6⟩ := PL.out.rng _ hx
      have q7 := PL.out.con _ hx
      have ORD := Lib.hid (fun j (hj : j < k) => PL.out.ord j k hj hlt)
      obtain ⟨a1, c1, e1, _, hcell⟩ := RR.out.open
      obtain ⟨rb, ro, hra, hno⟩ := hcell k (by simpa using hlt)
      obtain ⟨rfl, rfl⟩ : ra = a1 ∧ rc = c1 := by simp at e1; exact e1
      subst hra
      have eno : (st.regs.map Reg.no).getD k 0 = (st.regs.getD k Reg.zero).no := getD_map Reg.no Reg.zero _ _ hlt
      rw [eno] at hno
      have hno' := old_cell BR.out hno
      obtain ⟨a2, c2, e2, _, hcell2⟩ := RO3.out.open
      obtain ⟨ob, oo, hoa, hro⟩ := hcell2 (st.regs.getD k Reg.zero).ch (by simpa using q3)
      obtain ⟨rfl, rfl⟩ : aa = a2 ∧ ac = c2 := by simp at e2; exact e2
      subst hoa
      have ero : (st.chunks.map (fun c => ((c.len : Nat) : Int))).getD (st.regs.getD k Reg.zero).ch 0 = (((st.chunks.getD (st.regs.getD k Reg.zero).ch Chk.zero).len : Nat) : Int) := getD_map _ Chk.zero _ _ q3
      rw [ero] at hro
      have hro' := old_cell BR.out hro
      have CBR := Lib.hid (old_cell BR.out CB3.out)
      clear hcell hcell2 e1 e2 eno ero hno hro
      -- the block of the number
      have BN := Lib.hid (BW.out.alloc (Nat.le_trans hs3 hsr) (.cells #[.int .i64 (st.regs.getD k Reg.zero).no] 3))
      have WH := Lib.hid (arWhere_ok I F st cv rv mv _ k _ (AM.out _ BN.out) OK.out hfst)
      have SM := Lib.hid (sumN_take Reg.len Reg.zero st.regs k hlt)
      have XN : Hid (∀ w', Below (wr.alloc (.cells #[.int .i64 (st.regs.getD k Reg.zero).no] 3)).heap.size (wr.alloc (.cells #[.int .i64 (st.regs.getD k Reg.zero).no] 3)) w' → w'.cell? ⟨wr.heap.size, 0, none⟩ = some (.int .i64 (st.regs.getD k Reg.zero).no) ∧ Below wr.heap.size wr w') := Lib.hid (fun w' hb => by
        have hn : (wr.alloc (.cells #[.int .i64 (st.regs.getD k Reg.zero).no] 3)).heap[wr.heap.size]? = some (.cells #[.int .i64 (st.regs.getD k Reg.zero).no] 3 (0, 0)) := heap_alloc_new wr _
        refine ⟨?_, ((Below.refl wr.heap.size wr).alloc (Nat.le_refl _) _).trans (hb.mono (by simp))⟩
        rw [cell_of ((hb.block _ (by simp)).trans hn)]; rfl)
      have HF := Lib.hid hfst
      have q8 : (st.chunks.getD (st.regs.getD k Reg.zero).ch Chk.zero).len = (st.chunks.getD (st.regs.getD k Reg.zero).ch Chk.zero).os.length := rfl
      have SH := Lib.hid q7
      have SNOC : Hid ((st.regs.take (k + 1)).flatMap Reg.spot = (st.regs.take k).flatMap Reg.spot ++ (st.regs.getD k Reg.zero).spot) := Lib.hid (flat_snoc Reg.spot Reg.zero _ _ hlt)
      have hk2 : (st.regs.take k).length = k := by rw [List.length_take]; omega
      have hk3 : (st.regs.take (k + 1)).length = k + 1 := by rw [List.length_take]; omega
      rw [hk2] at OW
      clear hfst hx q7
      generalize hxx : st.regs.getD k Reg.zero = x at *
      go_wp2_with fail
      refine WH.out.mono ?_
      rintro e w5 ⟨rfl, hb5⟩
      obtain ⟨xn5, br5⟩ := XN.out w5 hb5
      have BR5 := Lib.hid br5
      have B5 := Lib.hid (BW.out.trans (br5.mono (Nat.le_trans hs3 hsr)))
      have hs5 := br5.size
      have ob5 := old_cell br5 hro'
      have OW5 := Lib.hid (own_keep OW.out br5)
      have hNlt := World.block_lt_of_cell? w5 _ xn5
      have D1 : Hid (decide ((x.ch : Int) < 0) = false) := Lib.hid (decide_eq_false (by omega))
      have D2 : Hid (decide (st.chunks.length ≤ x.ch) = false) := Lib.hid (decide_eq_false (by omega))
      have D3 : Hid (decide ((x.fr : Int) < 0) = false) := Lib.hid (decide_eq_false (by omega))
      have D4 : Hid (decide (x.to < x.fr) = false) := Lib.hid (decide_eq_false (by omega))
      have D5' : Hid (decide ((st.chunks[x.ch]'q3).len < x.to) = false) := Lib.hid (decide_eq_false (by
        have e : st.chunks.getD x.ch Chk.zero = st.chunks[x.ch]'q3 := by rw [List.getD_eq_getElem?_getD, List.getElem?_eq_getElem q3]; rfl
        rw [← e]; omega))
      clear hb5 br5
      go_upto_region 7 with fail
      have W6 : Below w5.heap.size w5 (w5.alloc (.cells #[.int .i64 x.ch, .int .i64 x.fr, .int .i64 x.to] 92)) := (Below.refl _ _).alloc (Nat.le_refl _) _
      have X6 : (w5.alloc (.cells #[.int .i64 x.ch, .int .i64 x.fr, .int .i64 x.to] 92)).heap[w5.heap.size]? = some (.cells #[.int .i64 x.ch, .int .i64 x.fr, .int .i64 x.to] 92 (0, 0)) := heap_alloc_new w5 _
      have s6 : w5.heap.size < (w5.alloc (.cells #[.int .i64 x.ch, .int .i64 x.fr, .int .i64 x.to] 92)).heap.size := by simp
      have ob6 := old_cell W6 ob5
      have xn6 := old_cell W6 xn5
      have OW6 := Lib.hid (own_keep OW5.out W6)
      have BR6 := Lib.hid (BR5.out.trans (W6.mono hs5))
      have HX6 := Lib.hid X6
      clear W6 X6 ob5 xn5
      generalize w5.alloc (.cells #[.int .i64 x.ch, .int .i64 x.fr, .int .i64 x.to] 92) = w6 at *
      generalize hP : w5.heap.size = P at *
      have p0 : w6.cell? ⟨P, 0, none⟩ = some (.int .i64 x.ch) := by rw [cell_of HX6.out]; rfl
      have p1 : w6.cell? ⟨P, 1, none⟩ = some (.int .i64 x.fr) := by rw [cell_of HX6.out]; rfl
      have p2 : w6.cell? ⟨P, 2, none⟩ = some (.int .i64 x.to) := by rw [cell_of HX6.out]; rfl
      go_quiet (fail)
      simp only [D1.out, D2.out, D3.out, D4.out, D5'.out, Bool.or_false]
      go_upto_region 9 with fail
      have hu := ownsRow_sh OW6.out
      obtain ⟨sa, sc, hu6, hsc, _⟩ := hu
      subst hu6
      have SP := Lib.hid (fun (W : World) (hW : Below w6.heap.size w6 W) (j : Nat) (hj : j < k) => by
        have h0 := own_keep OW6.out hW
        have h1 : W.ownsRow w3.heap.size 92 3 (.slice sa k sc) (st.regs.take k).length ((st.regs.take k).flatMap Reg.spot) := by rw [hk2]; exact h0
        have h2 := spot_cells h1 j (by rw [hk2]; exact hj)
        have h3 : (st.regs.take k).getD j Reg.zero = st.regs.getD j Reg.zero := by rw [List.getD_eq_getElem?_getD, List.getD_eq_getElem?_getD, List.getElem?_take, if_pos hj]
        rw [h3] at h2
        exact h2)
      have hNb : wr.heap.size < w5.heap.size ∨ True := Or.inr trivial
      have B6 := Lib.hid (BW.out.trans (BR6.out.mono (Nat.le_trans hs3 hsr)))
      generalize hNN : wr.heap.size = Nb at *
      clear hNb
      go_wp2_with fail
      go_loopw [67] (fun i wr => ∃ j : Nat, j ≤ k ∧ i = .int .i64 j ∧ Below w6.heap.size w6 wr) (fun i _ => k - (intOf i).toNat)
      case atStart => exact ⟨0, Nat.zero_le _, rfl, bdrewN (Below.refl _ _) _⟩
      case round =>
        obtain ⟨j, hj, rfl, hbj⟩ := hrel
        have BJ := Lib.hid hbj
        have hsj := hbj.size
        by_cases hjk : j < k
        · obtain ⟨sb, so, scap, hsa, y0, y1, y2⟩ := SP.out _ hbj j hjk
          obtain ⟨rfl, rfl⟩ : sa = some ⟨sb, so, none⟩ ∧ sc = scap := by simp at hsa; exact ⟨hsa.1, hsa.2.2⟩
          have z0 := old_cell hbj p0
          have z1 := old_cell hbj p1
          have z2 := old_cell hbj p2
          have hord := ORD.out j hjk
          have BJ2 := Lib.hid (BJ.out.alloc hsj (.cells #[.int .i64 (st.regs.getD j Reg.zero).ch, .int .i64 (st.regs.getD j Reg.zero).fr, .int .i64 (st.regs.getD j Reg.zero).to] 92))
          have hPlt := World.block_lt_of_cell? _ _ z0
          clear hsa hbj
          generalize st.regs.getD j Reg.zero = y at *
          rcases hord with hlt2 | ⟨heq, hle⟩
          · have hne : ¬ (y.ch = x.ch) := by omega
            have hne2 : ¬ ((y.ch : Int) = x.ch) := by omega
            go_wp2_with fail
            go_round
            case rel => exact ⟨j + 1, by omega, by go_num, BJ2.out⟩
            case measure => simp [intOf]; omega
          · rw [heq] at y0 BJ2
            go_wp2_with fail
            all_goals first
              | (exfalso; omega)
              | (go_round
                 case rel => exact ⟨j + 1, by omega, by go_num, by rw [heq] at *; exact BJ2.out⟩
                 case measure => simp [intOf]; omega)
        · obtain rfl : k = j := by omega
          clear hjk hj
          have z0 := old_cell hbj p0
          have z1 := old_cell hbj p1
          have z2 := old_cell hbj p2
          have zn := old_cell hbj xn6
          have OWJ := Lib.hid (own_keep OW6.out hbj)
          have hPlt := World.block_lt_of_cell? _ _ z0
          have hNlt2 := World.block_lt_of_cell? _ _ zn
          have hs36 : w3.heap.size ≤ wr.heap.size := by have h1 := BR6.out.size; omega
          have BJW := Lib.hid (B6.out.trans (hbj.mono B6.out.size))
          have BJ3 := Lib.hid ((BR.out.trans (BR6.out.mono hsr)).trans (hbj.mono (by have h1 := BR6.out.size; omega)))
          have cbj := old_cell BJ3.out CB3.out
          have ONE : ∀ u ∈ [Value.int .i64 x.ch, .int .i64 x.fr, .int .i64 x.to], u.oneCell' = true := by
            intro u hu
            simp only [List.mem_cons, List.not_mem_nil, or_false] at hu
            rcases hu with rfl | rfl | rfl <;> rfl
          have HONE := Lib.hid ONE
          clear hbj p0 p1 p2 xn6 ob6 ONE
          go_wp2_with (at_builtin; go_must (refine wpList_append_place rfl (.tmp 90) (.tmp 92) 102 rfl w3.heap.size 92 i0 (.agg #[.int .i64 0, .int .i64 0, .int .i64 0]) 3 24 Try.underlying102 hi0 hz0 hz1 hz2 rfl (by decide) _ _ _ wr _ [.int .i64 x.ch, .int .i64 x.fr, .int .i64 x.to] rfl (by exact OWJ.out) rfl rfl HONE.out (by unfold maxLen; omega) (by omega) hs36 ?_))
          intro g cap w' hrow hgr hplc hszz
          have hbel : Below w3.heap.size wr w' := (Below.refl _ _).grown hgr hs36 (fun q hq => (OWJ.out.lt q hq).1)
          have rk : ∀ q, (Value.slice sa k sc).ownBlock = some q → q < Nb ∧ q < P := fun q hq => by
            have h1 := (OW.out.lt q hq).2
            have h2 := (OW5.out.lt q hq).2
            omega
          have kp : ∀ b, b < wr.heap.size → (Nb ≤ b ∨ P ≤ b) → w'.heap[b]? = wr.heap[b]? := fun b hb hn => hgr.block b hb (fun e => by have := rk b e.symm; omega)
          have zP : w'.heap[P]? = some (.cells #[.int .i64 x.ch, .int .i64 x.fr, .int .i64 x.to] 92 (0, 0)) := (kp P hPlt (Or.inr (Nat.le_refl _))).trans ((BJ.out.block P (lt_of HX6.out)).trans HX6.out)
          have zN : w'.cell? ⟨Nb, 0, none⟩ = some (.int .i64 x.no) := by
            have e : w'.cell? ⟨Nb, 0, none⟩ = wr.cell? ⟨Nb, 0, none⟩ := by unfold World.cell?; rw [kp Nb hNlt2 (Or.inl (Nat.le_refl _))]
            rw [e]; exact zn
          have cbk : w'.cell? ⟨w.heap.size, 0, none⟩ = some (.map (some mb)) := (hbel.cell (p := ⟨w.heap.size, 0, none⟩) (show w.heap.size < w3.heap.size from World.block_lt_of_cell? w3 _ CB3.out)).trans cbj
          have BW' : Hid (Below w.heap.size w w') := Lib.hid (BJW.out.trans (hbel.mono hs3))
          have B3' : Hid (Below w3.heap.size w3 w') := Lib.hid (BJ3.out.trans hbel)
          have ROW' : Hid (w'.ownsRow w3.heap.size 92 3 (.slice (some ⟨g, 0, none⟩) (k + 1) cap) (st.regs.take (k + 1)).length ((st.regs.take (k + 1)).flatMap Reg.spot)) := Lib.hid (by rw [hk3, SNOC.out]; exact hrow)
          have CP := Lib.hid (arCopy_ok I F st cv rv mv x.no k w' (AM.out _ BW'.out) OK.out CK.out FI.out HF.out)
          have HZP := Lib.hid zP
          have HCB' := Lib.hid cbk
          have HZN := Lib.hid zN
          clear hrow hgr hplc hbel rk kp zP cbk z0 z1 z2 zn cbj
          rw [hxx, SH.out] at CP
          go_upto_region 16 with fail
          go_wp2_with fail
          refine CP.out.mono ?_
          rintro e w8 ⟨v8, rfl, ho8, hb8⟩
          rw [List.length_replicate] at ho8
          have rd8 := Lib.hid (Reads.own (zs := List.replicate x.len (x.no % 256)) (by rw [List.length_replicate]; exact ho8) (by rw [List.length_replicate]; unfold Reg.len; omega))
          obtain ⟨a8, c8, rfl, _, _⟩ := ownsRow_sh ho8
          have P8 := (hb8.block P (lt_of HZP.out)).trans HZP.out
          have lenE : (x.to : Int) - (x.fr : Int) = (x.len : Int) := by unfold Reg.len; omega
          have v1 : w8.cell? ⟨P, 1, none⟩ = some (.int .i64 x.fr) := by rw [cell_of P8]; rfl
          have v2 : w8.cell? ⟨P, 2, none⟩ = some (.int .i64 x.to) := by rw [cell_of P8]; rfl
          have n8 := old_cell hb8 HZN.out
          have b8 := old_cell hb8 HCB'.out
          have HN8 := Lib.hid (hasNo_any _ x.len mb w.heap.size Nb N st.lr x.no w8 rd8.out (CO.out _ (BW'.out.trans (hb8.mono BW'.out.size))) q5 q6 (by omega) b8 n8)
          have RW8 := Lib.hid (own_keep ROW'.out hb8)
          have B38 := Lib.hid (B3'.out.trans (hb8.mono B3'.out.size))
          have lb : x.len ≤ 100000 := by unfold Reg.len; omega
          have fb : x.fr ≤ 100000 := by omega
          have tb : (x.to : Int) ≤ 100000 := by omega
          have hmf : ∀ (fn : Fn) (first cap : Array Value) (W : World), (Instr.makeFunc fn first cap).run Try.prog W = .ok (.func fn first cap) W := fun _ _ _ _ => rfl
          clear ho8 hb8 P8 D1 D2 D3 D4 D5' q1 q2 q4 q8 hNN hP hk2 hk3 hNlt ORD WH SM XN SNOC SH
          generalize x.len = xl at *
          generalize x.fr = xf at *
          generalize (x.to : Int) = tt at *
          go_upto_region 17 with fail
          go_wp2_with fail
          refine HN8.out.mono ?_
          rintro e w9 ⟨rfl, rfl⟩
          go_wp2_with fail
          go_round
          case rel => exact ⟨k + 1, by omega, by go_num, RW8.out, B38.out⟩
          case measure => simp [intOf]; omega
    · obtain rfl : k = st.regs.length := by omega
      clear hlt hk
      go_wp2_with fail
      go_ret
      exact ⟨rfl, BW.out⟩

end Go.Proofs.Ytfolidedcejafaa
