/-
  grow: one slab more. No conditions but bounds.
-/
import Derived.Test.YtiaedonhbafpjaaTopSlabPaz
import Derived.Test.YtiaedonhbafpjaaTopSlabPap
namespace Go.Proofs.Ytiaedonhbafpjaa
open Go.RowKit Go.Shelf
set_option linter.unusedVariables false

def GrowPost (w : World) (c bp : Nat) (S : CaSt) (vc vs : Value) (F G : Nat → Prop) (M n cls : Nat) : Ending → World → Prop := fun e w' =>
  (∃ er : Int, er ≠ 0 ∧ e = .returned (.int .i64 er) ∧ ∃ G' b', CB w' c bp S vc vs F G' M n b' ∧ (∀ k, G' k → G k ∨ w.heap.size ≤ k) ∧ Touch G w w') ∨
  (e = .returned (.int .i64 0) ∧ ∃ p g q vs' F' G' b', CB w' c bp (S.add cls p g q) vc vs' F' G' M (n + S.room cls) b' ∧ w.heap.size ≤ p ∧ w.heap.size ≤ g ∧ w.heap.size ≤ q ∧ (∀ k, F' k → F k ∨ w.heap.size ≤ k) ∧ (∀ k, G' k → G k ∨ w.heap.size ≤ k) ∧ Touch (fun k => F k ∨ G k) w w')

/-- After the book was asked. -/
theorem CB.asked {w w' : World} {c bp : Nat} {S : CaSt} {vc vs : Value} {F G G' : Nat → Prop} {M n n' : Nat} {b b' : BookSt} (h : CB w c bp S vc vs F G M n b) (hb : BkIn w' G' bp M n' b') (hg : ∀ k, G' k → G k ∨ w.heap.size ≤ k) (ht : Touch G w w') : CB w' c bp S vc vs F G' M n' b' :=
  ⟨h.cm.same (fun k hk hl => ht.block k hl (fun e => h.dis k hk e)), hb, fun k hk hg' => by
    rcases hg k hg' with e | e
    · exact h.dis k hk e
    · have := h.fl k hk; omega, fun k hk => Nat.lt_of_lt_of_le (h.fl k hk) ht.size⟩

/-- A slab more, with the book. -/
theorem CB.add {w w' : World} {c bp : Nat} {S : CaSt} {vc vs vs' : Value} {F G : Nat → Prop} {M n : Nat} {b : BookSt} (h : CB w c bp S vc vs F G M n b) {cls p g q : Nat} (hcls : cls < S.classes.length) (hself : w'.heap[c]? = some (.cells #[.pointer (some ⟨bp, 0, none⟩), .int .i64 1, vc, .int .i64 (S.slots : Int), .bool S.closed, .int .i64 ((S.last + 1 : Nat) : Int), vs'] 65 (0, 0)))
    (hrow : w'.ownsRow 0 76 1 vs' (S.sl.length + 1) ((S.sl.map fun x => .pointer (some ⟨x.p, 0, none⟩)) ++ [.pointer (some ⟨p, 0, none⟩)])) (hvo : ∀ k, vs'.ownBlock = some k → F k ∨ w.heap.size ≤ k)
    (h1 : w'.heap[p]? = some (.cells #[.int .i64 ((S.last + 1 : Nat) : Int), .int .i64 (cls : Int), .slice (some ⟨g, 0, none⟩) (S.room cls) (S.room cls), .slice (some ⟨q, 0, none⟩) S.slots S.slots] 82 (0, 0))) (h2 : byteRow w' g (zeros (S.room cls))) (h3 : celRow w' q (List.replicate S.slots ⟨1, 0, false⟩))
    (hp : w.heap.size ≤ p) (hg : w.heap.size ≤ g) (hq : w.heap.size ≤ q) (keep : ∀ k, k < w.heap.size → k ≠ c → vs.ownBlock ≠ some k → w'.heap[k]? = w.heap[k]?) (hsz : w.heap.size ≤ w'.heap.size) (hfew : S.sl.length < 500) (hlast : S.last < 1000000000) :
    CB w' c bp (S.add cls p g q) vc vs' (fun k => F k ∨ (w.heap.size ≤ k ∧ k < w'.heap.size)) G M n b :=
  ⟨h.cm.add hcls hself hrow hvo h1 h2 h3 hp hg hq keep hsz hfew hlast, h.bk.same (fun k hk => keep k (h.bk.gl k hk) (fun e => h.dis k (e ▸ h.cm.fc) hk) (fun e => h.dis k (h.cm.row.2 k e) hk)) hsz, fun k hk hk' => by
    rcases hk with e | e
    · exact h.dis k e hk'
    · have := h.bk.gl k hk'; omega, fun k hk => by
    rcases hk with e | e
    · have := h.fl k e; omega
    · exact e.2⟩

def GrS (c k last : Nat) (v : Value) (W : World) : Prop := W.cell? ⟨c, 3, none⟩ = some (.int .i64 (k : Int)) ∧ W.cell? ⟨c, 5, none⟩ = some (.int .i64 ((last : Int) + 1)) ∧ W.cell? ⟨c, 6, none⟩ = some v
theorem GrS.below {c k last : Nat} {v : Value} {w w' : World} (h : GrS c k last v w) (hb : Below w.heap.size w w') : GrS c k last v w' := ⟨old_cell hb h.1, old_cell hb h.2.1, old_cell hb h.2.2⟩
set_option maxHeartbeats 4000000 in
set_option maxRecDepth 100000 in
theorem grow_any1 {w : World} {c bp : Nat} {S : CaSt} {vc vs : Value} {F G : Nat → Prop} {M n : Nat} {b : BookSt} (h : CB w c bp S vc vs F G M n b) (cls : Nat) (hcls : cls < S.classes.length) (hlast : S.last < 1000000000) :
    Calls Try.prog 30 #[.pointer (some ⟨c, 0, none⟩), .int .i64 (cls : Int), .int .i64 1] w (GrowPost w c bp S vc vs F G M n cls) := by
  have HB := Lib.hid h
  obtain ⟨c0, c1, c2, c3, c4, c5, c6⟩ := h.cm.cells
  obtain ⟨vb, vcap, hvc, hcl⟩ := h.cm.classes
  obtain ⟨sa, scap, hvs, hsc1, hsc2, _⟩ := h.cm.slice
  have d0 := hcl cls hcls
  have hcn : (S.classes.getD cls 0) = (clsN S.classes cls : Int) := by
    have := (clsErr_all h.cm.cok).2.2.1 cls hcls
    unfold clsN; omega
  rw [hcn] at d0
  obtain ⟨hr1, hr2⟩ := room_le h.cm hcls
  have hmul : (S.slots : Int) * (clsN S.classes cls : Int) = ((S.room cls : Nat) : Int) := by unfold CaSt.room; rw [Int.natCast_mul]
  have hsl64 := h.cm.sz
  have hfew := h.cm.few.1
  have HV := Lib.hid (And.intro hvc hvs)
  rw [hvc] at c2
  rw [hvs] at c6
  generalize hR : S.room cls = R at *
  have HR := Lib.hid hR
  generalize hsz : clsN S.classes cls = sz at *
  generalize hL : S.sl.length = L at *
  have HL := Lib.hid hL
  have TK := Lib.hid (fun W (hW : Below w.heap.size w W) => take1_any (HB.out.bk.below hW) R (by omega))
  have hcl2 := Lib.hid hcls
  clear h hcl hcls hcn hvc hvs hR hsz hL hsc1 hsc2 c1 c4
  have hcl20 : (cls : Int) < (S.classes.length : Int) := by have := hcl2.out; omega
  generalize hCL : S.classes.length = CL at *
  have HCL := Lib.hid hCL
  clear hCL
  go_enter Try.func30, Try.ntmps30
  go_upto_if 23 with (go_quiet (fail))
  by_cases hfull : L = 500
  · subst hfull
    have FIN : Hid (GrowPost w c bp S vc vs F G M n cls (.returned (.int .i64 4)) (w.drewN nq)) := Lib.hid (Or.inl ⟨4, by decide, rfl, G, b, HB.out.below (bdrewN (Below.refl _ w) nq), fun k hk => Or.inl hk, Touch.of_below (bdrewN (Below.refl _ w) nq)⟩)
    go_wp2_with fail
    go_ret
    exact FIN.out
  have hno : ¬ (500 < (L : Int) + 1) := by omega
  go_upto_region 6 with fail
  have TK1 := Lib.hid (fun W (hW : Below (w.drewN nq).heap.size (w.drewN nq) W) => TK.out W ((bdrewN (Below.refl _ w) nq).trans hW))
  have B1 := Lib.hid (bdrewN (Below.refl w.heap.size w) nq)
  have c0 : (w.drewN nq).cell? ⟨c, 0, none⟩ = some (.pointer (some ⟨bp, 0, none⟩)) := c0
  have c1 : (w.drewN nq).cell? ⟨c, 1, none⟩ = some (.int .i64 1) := HB.out.cm.cells.2.1
  clear TK c2 c3 c5 c6 d0
  go_cut [8, 23] (fun s8 s23 wx => s8 = .int .i64 (tk1E M n R) ∧ s23 = .bool false ∧ ∃ G' b', BkIn wx G' bp M (tk1N M n R) b' ∧ (∀ k, G' k → G k ∨ w.heap.size ≤ k) ∧ Touch G w wx)
  case first =>
    generalize w.drewN nq = W at *
    have S0 : BelW W W := Below.refl _ W
    have r0 : ∀ y : WIn (BelW W), y.w.cell? ⟨c, 0, none⟩ = some (.pointer (some ⟨bp, 0, none⟩)) := fun y => old_cell y.h c0
    have r1 : ∀ y : WIn (BelW W), y.w.cell? ⟨c, 1, none⟩ = some (.int .i64 1) := fun y => old_cell y.h c1
    have S1 : BelW W W.drew := (Below.refl _ W).drew
    haveI ne : Nonempty (WIn (BelW W)) := ⟨⟨W.drew, S1⟩⟩
    refine wp_normal ?_
    refine wp_region_plan 11 (BelW W) rfl ?_
    refine wpN_seg [0, 1, 2, 3, 4, 5, 6, 7, 8, 9, 10] (by kernel_rfl) (by kernel_rfl) (by kernel_rfl) (by kernel_rfl) (by decide) (fun _ _ _ _ _ h => h) S1 ?_
    simp only [pick, List.map_cons, List.map_nil, List.getElem?_cons_succ, List.getElem?_cons_zero, Option.getD_some]
    repeat (go_big_quiet_step (fail))
    refine wpQuiet_nil ?_
    clear r0 r1 ne
    have TK2 := Lib.hid (TK1.out W.drew S1)
    refine wpN_one 11 _ (by kernel_rfl) rfl ?_
    refine NextAt.free (by kernel_rfl) ?_
    intro K hK
    go_simp
    refine TK2.out.mono ?_
    rintro e w2 ⟨rfl, G', b', hbk, hg, ht⟩
    have hs1 := B1.out.size
    have FIN : Hid (∃ G' b', BkIn w2 G' bp M (tk1N M n R) b' ∧ (∀ k, G' k → G k ∨ w.heap.size ≤ k) ∧ Touch G w w2) := Lib.hid ⟨G', b', hbk, fun k hk => by
      rcases hg k hk with e | e
      · exact Or.inl e
      · exact Or.inr (Nat.le_trans hs1 e), ((Touch.of_below B1.out).then ((Touch.refl G W).drew)).then ht⟩
    clear hbk ht hg
    go_simp
    refine hK _ _ ?_
    clear hK K
    refine wpN_pure [12] (by kernel_rfl) (by kernel_rfl) (by kernel_rfl) (fun _ _ _ _ _ h => h) (fun h => by cases h) ?_
    simp only [pick, List.map_cons, List.map_nil, List.getElem?_cons_succ, List.getElem?_cons_zero, Option.getD_some]
    repeat (go_big_quiet_step (fail))
    refine wpQuiet_nil ?_
    refine wpN_done (by kernel_rfl) ?_
    go_wp2_with fail
    go_meet
    exact ⟨rfl, rfl, FIN.out⟩
  case rest =>
  obtain ⟨rfl, rfl, G', b', hbk, hg, ht⟩ := hcut
  rename_i wc _
  generalize wc = w2 at *
  by_cases hf : M < n + R
  · have e1 : tk1E M n R = 12 := by unfold tk1E; rw [if_pos hf]
    have e2 : tk1N M n R = n := by unfold tk1N; rw [if_pos hf]
    rw [e2] at hbk
    rw [e1]
    have FIN : Hid (GrowPost w c bp S vc vs F G M n cls (.returned (.int .i64 12)) w2) := Lib.hid (Or.inl ⟨12, by decide, rfl, G', b', HB.out.asked hbk hg ht, hg, ht⟩)
    clear hbk hg ht
    go_wp2_with fail
    go_ret
    exact FIN.out
  have e1 : tk1E M n R = 0 := by unfold tk1E; rw [if_neg hf]
  have e2 : tk1N M n R = n + R := by unfold tk1N; rw [if_neg hf]
  rw [e2] at hbk
  rw [e1]
  have C2 := Lib.hid (HB.out.asked hbk hg ht)
  have G2 := Lib.hid (And.intro hg ht)
  have hs2 := ht.size
  clear hbk hg ht e1 e2 TK1 B1 HB c0 c1
  have m2 := C2.out.cm
  obtain ⟨c0, c1, c2, c3, c4, c5, c6⟩ := m2.cells
  clear c0 c1 c2 c4
  go_wp2_with fail
  go_loopw [51] (fun i wr => (i = .int .i64 0 ∧ wr = w2) ∨ (i = .int .i64 1 ∧ GrowPost w c bp S vc vs F G M n cls (.returned (.int .i64 0)) wr)) (fun i _ => 1 - (intOf i).toNat)
  case atStart => exact Or.inl ⟨rfl, rfl⟩
  case round =>
    rcases hrel with ⟨rfl, hwr⟩ | ⟨rfl, hp⟩
    · obtain rfl := hwr.symm
      clear hwr
      go_upto_region 11 with fail
      have MD := Lib.hid (madeS_any R ⟨hr1, by omega⟩ w2)
      go_wp2_with fail
      refine MD.out.mono ?_
      rintro e w3 ⟨hb3, a9, n9, er, rfl, hmd⟩
      have HB3 := Lib.hid hb3
      have HMD := Lib.hid hmd
      clear hb3 hmd MD
      go_upto_if 62 with fail
      go_cut [9, 62] from 63 to 64 (fun s9 s62 wx => ∃ g, s9 = .slice (some ⟨g, 0, none⟩) R R ∧ byteRow wx g (zeros R) ∧ w2.heap.size ≤ g ∧ Below w2.heap.size w2 wx)
      case first =>
        rcases HMD.out with ⟨rfl, g, rfl, hg, hrow⟩ | ⟨rfl, hlt, rfl⟩
        · have FIN := Lib.hid hrow
          have hnn : ¬ ((n9 : Int) < (n9 : Int)) := by omega
          clear hrow
          go_wp2_with fail
          go_meet
          exact ⟨g, rfl, FIN.out, hg, HB3.out⟩
        · have MK := fun w => run_makeBytes w R R (by omega) (by omega) (by omega)
          have hlt2 : (((0 : Nat) : Int) < (R : Int)) := by omega
          go_wp2_with fail
          go_meet
          refine ⟨_, rfl, ?_, HB3.out.size, HB3.out.trans ((Below.refl _ _).alloc HB3.out.size _)⟩
          have := heap_alloc_new w3 (.cells ((zeros R).map (Value.int .u8)).toArray 5)
          exact this
      case rest =>
      obtain ⟨g, rfl, hrow, hg, hb4⟩ := hcut
      rename_i wc _
      generalize wc = w4 at *
      clear HMD HB3
      have M4 := m2.below hb4
      have e5 := M4.cells.2.2.2.2.2.1
      have z5 : w4.frozen? ⟨c, 5, none⟩ = false := free_of M4.self _
      have ROW4 : Hid (w4.ownsRow 0 76 1 (.slice sa L scap) L (S.sl.map fun x => .pointer (some ⟨x.p, 0, none⟩))) := Lib.hid (by have := M4.row.1; rw [HV.out.2, HL.out] at this; exact this)
      have OB : Hid (∀ k, (Value.slice sa L scap).ownBlock = some k → F k ∧ k ≠ c ∧ k < w2.heap.size) := Lib.hid (fun k hk => by
        refine ⟨m2.row.2 k (by rw [HV.out.2]; exact hk), fun e => ?_, ?_⟩
        · obtain ⟨cur, hc⟩ := row_block ROW4.out hk
          rw [e, M4.self] at hc
          simp only [Option.some.injEq, Obj.cells.injEq] at hc
          exact absurd hc.2.1 (by decide)
        · have := C2.out.fl k (m2.row.2 k (by rw [HV.out.2]; exact hk)); exact this)
      have S4 := M4.self
      rw [HV.out.2] at S4
      have cl2 := C2.out.fl c m2.fc
      have M2 := Lib.hid m2
      have HROW := Lib.hid hrow
      have HB4 := Lib.hid hb4
      have hs4 := hb4.size
      clear m2 M4 hrow hb4 c3 c5 c6
      have hw5 : IntKind.i64.wrap ((S.last : Int) + 1) = ((S.last + 1 : Nat) : Int) := by rw [← Int.natCast_succ]; exact IntWalk.i64_in _ (by omega)
      go_upto_region 15 with fail
      have S5 : Hid ((w4.setCell ⟨c, 5, none⟩ (.int .i64 ((S.last : Int) + 1))).heap[c]? = some (.cells #[.pointer (some ⟨bp, 0, none⟩), .int .i64 1, vc, .int .i64 (S.slots : Int), .bool S.closed, .int .i64 ((S.last : Int) + 1), .slice sa L scap] 65 (0, 0))) := Lib.hid (by rw [block_setCell S4]; rfl)
      have K5 : Hid (∀ k, k ≠ c → (w4.setCell ⟨c, 5, none⟩ (.int .i64 ((S.last : Int) + 1))).heap[k]? = w4.heap[k]?) := Lib.hid (fun k hk => Below.heap_setCell _ _ _ _ hk)
      have Z5 : Hid ((w4.setCell ⟨c, 5, none⟩ (.int .i64 ((S.last : Int) + 1))).heap.size = w4.heap.size) := Lib.hid (by simp [World.setCell])
      have T5 : Hid (Touch (fun k => F k ∨ G k) w (w4.setCell ⟨c, 5, none⟩ (.int .i64 ((S.last : Int) + 1)))) := Lib.hid (((G2.out.2.mono (fun k hk => Or.inr hk)).then (Touch.of_below HB4.out)).setCell (p := ⟨c, 5, none⟩) (Or.inl (Or.inl M2.out.fc)) _)
      clear S4 e5 z5
      generalize w4.setCell ⟨c, 5, none⟩ (.int .i64 ((S.last : Int) + 1)) = W5 at *
      obtain ⟨i0, hi0, hz0, hz1, hz2⟩ := info_parts (show (Try.prog.info? 76).map (fun i => (i.zero, i.size, i.bytes)) = some (some (.pointer none), 1, 8) by kernel_rfl)
      have S0 : GrS c S.slots S.last (.slice sa L scap) W5 := by
        refine ⟨?_, ?_, ?_⟩ <;> (rw [cell_of S5.out]; rfl)
      have S0 : GrS c S.slots S.last (.slice sa L scap) W5.drew := S0
      have g3 : ∀ y : WIn (GrS c S.slots S.last (.slice sa L scap)), y.w.cell? ⟨c, 3, none⟩ = some (.int .i64 (S.slots : Int)) := fun y => y.h.1
      have g5 : ∀ y : WIn (GrS c S.slots S.last (.slice sa L scap)), y.w.cell? ⟨c, 5, none⟩ = some (.int .i64 ((S.last : Int) + 1)) := fun y => y.h.2.1
      have g6 : ∀ y : WIn (GrS c S.slots S.last (.slice sa L scap)), y.w.cell? ⟨c, 6, none⟩ = some (.slice sa L scap) := fun y => y.h.2.2
      haveI ne : Nonempty (WIn (GrS c S.slots S.last (.slice sa L scap))) := ⟨⟨W5.drew, S0⟩⟩
      refine wp_normal ?_
      refine wp_region_plan 24 (GrS c S.slots S.last (.slice sa L scap)) rfl ?_
      refine wpN_seg [0, 1, 2, 3, 4, 5, 6, 7, 8, 9, 10, 13, 14, 15, 16] (by kernel_rfl) (by kernel_rfl) (by kernel_rfl) (by kernel_rfl) (by decide) (fun _ _ _ _ _ h => h) S0 ?_
      simp only [pick, List.map_cons, List.map_nil, List.getElem?_cons_succ, List.getElem?_cons_zero, Option.getD_some]
      repeat (go_big_quiet_step (fail))
      refine wpQuiet_nil ?_
      clear g3 g5 g6 ne
      refine wpN_one 11 _ (by kernel_rfl) rfl ?_
      refine NextAt.held ?_
      intro K hK
      go_simp
      refine hK _ _ S0 ?_
      clear hK K
      refine wpN_one 12 _ (by kernel_rfl) rfl ?_
      refine NextAt.held ?_
      intro K hK
      go_simp
      have N6 : ((W5.alloc (.cells #[.int .i64 1, .int .i64 0, .bool false] 71)).drew).heap[W5.heap.size]? = some (.cells #[.int .i64 1, .int .i64 0, .bool false] 71 (0, 0)) := heap_alloc_new W5 _
      have HB6 : Hid (Below W5.heap.size W5 ((W5.alloc (.cells #[.int .i64 1, .int .i64 0, .bool false] 71)).drew)) := Lib.hid (((Below.refl _ W5).alloc (Nat.le_refl _) _).drew)
      have S6 := GrS.below (w := W5) S0 HB6.out
      refine hK _ _ S6 ?_
      clear hK K S0
      generalize ((W5.alloc (.cells #[.int .i64 1, .int .i64 0, .bool false] 71)).drew) = W6 at *
      have RC := Lib.hid (repeatC_any W5.heap.size ⟨1, 0, false⟩ S.slots W6 (fun j u hj => by rw [cell_of N6]; simpa [celCells, Cel.vals] using hj) (by omega) (by omega))
      clear N6
      refine wpN_one 17 _ (by kernel_rfl) rfl ?_
      refine NextAt.held ?_
      intro K hK
      go_simp
      refine RC.out.mono ?_
      rintro e W7 ⟨q, rfl, hq, hql, hb7⟩
      have S7 := GrS.below (w := W6) S6 hb7
      have HQ := Lib.hid hq
      have HB7 := Lib.hid (HB6.out.trans (hb7.mono HB6.out.size))
      have hq5 : W5.heap.size ≤ q := Nat.le_trans HB6.out.size hql
      clear hq hb7 HB6 RC S6
      go_simp
      refine hK _ _ S7 ?_
      clear hK K
      refine wpN_one 18 _ (by kernel_rfl) rfl ?_
      refine NextAt.held ?_
      intro K hK
      go_simp
      refine hK _ _ S7 ?_
      clear hK K
      refine wpN_one 19 _ (by kernel_rfl) rfl ?_
      refine NextAt.held ?_
      intro K hK
      go_simp
      have N8 := heap_alloc_new W7 (.cells #[.int .i64 ((S.last : Int) + 1), .int .i64 (cls : Int), .slice (some ⟨g, 0, none⟩) R R, .slice (some ⟨q, 0, none⟩) S.slots S.slots] 82)
      have A8 : Below W7.heap.size W7 (W7.alloc (.cells #[.int .i64 ((S.last : Int) + 1), .int .i64 (cls : Int), .slice (some ⟨g, 0, none⟩) R R, .slice (some ⟨q, 0, none⟩) S.slots S.slots] 82)) := (Below.refl _ _).alloc (Nat.le_refl _) _
      have S8 := GrS.below (w := W7) S7 A8
      refine hK _ _ S8 ?_
      clear hK K
      have Q8 := Lib.hid ((A8.block q (lt_of HQ.out)).trans HQ.out)
      have HB8 := Lib.hid (HB7.out.trans (A8.mono HB7.out.size))
      obtain ⟨p, hp⟩ : ∃ p, W7.heap.size = p := ⟨_, rfl⟩
      have hp5 : W5.heap.size ≤ p := by rw [← hp]; exact HB7.out.size
      rw [hp] at N8 A8
      have HN8 := Lib.hid N8
      clear N8 A8 S7 HB7 HQ hql
      simp only [hp]
      generalize W7.alloc (.cells #[.int .i64 ((S.last : Int) + 1), .int .i64 (cls : Int), .slice (some ⟨g, 0, none⟩) R R, .slice (some ⟨q, 0, none⟩) S.slots S.slots] 82) = W8 at *
      clear hp
      refine wpN_one 20 _ (by kernel_rfl) rfl ?_
      refine NextAt.held ?_
      intro K hK
      go_simp
      have A9 : Below W8.heap.size W8 (W8.alloc (.cells #[.pointer (some ⟨p, 0, none⟩)] 76)) := (Below.refl _ _).alloc (Nat.le_refl _) _
      refine hK _ _ (GrS.below (w := W8) S8 A9) ?_
      clear hK K A9
      have ROW8 := Lib.hid (ownsRow_same ROW4.out (fun k hk => (HB8.out.block k (by have := ROW4.out.lt k hk; rw [Z5.out]; exact this.2)).trans (K5.out k (OB.out k hk).2.1)))
      refine wpN_one 21 _ (by kernel_rfl) rfl ?_
      refine NextAt.held ?_
      intro K hK
      refine step_append_new rfl (.tmp 76) (.tmp 92) 63 rfl 0 76 i0 (.pointer none) 1 8 Try.underlying63 hi0 hz0 hz1 hz2 rfl (by decide) (.slice sa L scap) L (S.sl.map fun x => .pointer (some ⟨x.p, 0, none⟩)) W8 _ [.pointer (some ⟨p, 0, none⟩)] (by simp [Act.eval]) ROW8.out (by simp [Act.eval]) rfl (by intro u hu; simp at hu; subst hu; rfl) (by unfold maxLen; omega) (by omega) (by omega) ?_
      intro g2 cap2 w9 hrow9 hgr hpl hsz9
      have hcb : some c ≠ (Value.slice sa L scap).ownBlock := fun e => (OB.out c e.symm).2.1 rfl
      have lc8 : c < W8.heap.size := Nat.lt_of_lt_of_le (lt_of S5.out) HB8.out.size
      have old9 : ∀ k, k < W8.heap.size → some k ≠ (Value.slice sa L scap).ownBlock → w9.heap[k]? = W8.heap[k]? := fun k h1 h2 => hgr.block k h1 h2
      have cs9 : w9.heap[c]? = some (.cells #[.pointer (some ⟨bp, 0, none⟩), .int .i64 1, vc, .int .i64 (S.slots : Int), .bool S.closed, .int .i64 ((S.last : Int) + 1), .slice sa L scap] 65 (0, 0)) := ((old9 c lc8 hcb).trans (HB8.out.block c (lt_of S5.out))).trans S5.out
      have S9 : GrS c S.slots S.last (.slice sa L scap) w9 := by
        refine ⟨?_, ?_, ?_⟩ <;> (rw [cell_of cs9]; rfl)
      have z9 : w9.frozen? ⟨c, 6, none⟩ = false := free_of cs9 _
      have fresh : ∀ k, w2.heap.size ≤ k → some k ≠ (Value.slice sa L scap).ownBlock := fun k hk e => by
        have := (OB.out k e.symm).2.2
        omega
      have s58 := HB8.out.size
      have s89 := hgr.size
      have z5 := Z5.out
      have FIN : Hid (GrowPost w c bp S vc vs F G M n cls (.returned (.int .i64 0)) (w9.setCell ⟨c, 6, none⟩ (.slice (some ⟨g2, 0, none⟩) (L + 1) cap2))) := Lib.hid (by
        have far : ∀ k, k ≠ c → (w9.setCell ⟨c, 6, none⟩ (.slice (some ⟨g2, 0, none⟩) (L + 1) cap2)).heap[k]? = w9.heap[k]? := fun k hk => Below.heap_setCell _ _ _ _ hk
        have szF : (w9.setCell ⟨c, 6, none⟩ (.slice (some ⟨g2, 0, none⟩) (L + 1) cap2)).heap.size = w9.heap.size := by simp [World.setCell]
        have gne : ∀ k, w2.heap.size ≤ k → k ≠ c := fun k hk e => by omega
        have g2c : g2 ≠ c := fun e => by
          rcases hpl with h | h
          · exact (OB.out g2 h).2.1 e
          · omega
        have pW : W5.heap.size ≤ p := hp5
        refine Or.inr ⟨rfl, p, g, q, .slice (some ⟨g2, 0, none⟩) (L + 1) cap2, (fun k => F k ∨ (w2.heap.size ≤ k ∧ k < (w9.setCell ⟨c, 6, none⟩ (.slice (some ⟨g2, 0, none⟩) (L + 1) cap2)).heap.size)), G', b', ?_, by omega, by omega, by omega, ?_, G2.out.1, ?_⟩
        · have AD := CB.add (w' := w9.setCell ⟨c, 6, none⟩ (.slice (some ⟨g2, 0, none⟩) (L + 1) cap2)) (vs' := .slice (some ⟨g2, 0, none⟩) (L + 1) cap2) (cls := cls) (p := p) (g := g) (q := q) C2.out (by rw [HCL.out]; exact hcl2.out) (by rw [block_setCell cs9]; rfl) (by
            rw [HL.out]
            exact ownsRow_same hrow9 (fun k hk => far k (fun e => by
              simp [Value.ownBlock] at hk
              exact g2c (hk.trans e)))) (fun k hk => by
            simp [Value.ownBlock] at hk
            subst hk
            rcases hpl with h | h
            · exact Or.inl (OB.out g2 h).1
            · exact Or.inr (by omega)) (by
            rw [far p (gne p (by omega)), old9 p (lt_of HN8.out) (fresh p (by omega)), HR.out]
            exact HN8.out) (by
            rw [HR.out]
            unfold byteRow
            rw [far g (gne g hg), old9 g (by have := lt_of HROW.out; omega) (fresh g hg), HB8.out.block g (by have := lt_of HROW.out; omega), K5.out g (gne g hg)]
            exact HROW.out) (by
            unfold celRow
            rw [far q (gne q (by omega)), old9 q (lt_of Q8.out) (fresh q (by omega))]
            exact Q8.out) (by omega) (by omega) (by omega) (fun k h1 h2 h3 => by
            rw [far k h2, old9 k (by omega) (fun e => h3 (by rw [HV.out.2]; exact e.symm)), HB8.out.block k (by omega), K5.out k h2]
            exact HB4.out.block k h1) (by rw [szF]; omega) (by rw [HL.out]; omega) (by omega)
          rw [HR.out]
          exact AD
        · rintro k (hk | hk)
          · exact Or.inl hk
          · exact Or.inr (by omega)
        · exact ((T5.out.then (Touch.of_below HB8.out)).grown hgr (fun k hk => Or.inl (Or.inl (OB.out k hk).1))).setCell (p := ⟨c, 6, none⟩) (Or.inl (Or.inl M2.out.fc)) _)
      clear hrow9 hgr hpl old9 cs9 fresh
      go_simp
      refine hK _ _ S9 ?_
      clear hK K
      refine wpN_pure [22, 23] (by kernel_rfl) (by kernel_rfl) (by kernel_rfl) (fun _ _ _ _ _ h => h) (fun _ => S9) ?_
      simp only [pick, List.map_cons, List.map_nil, List.getElem?_cons_succ, List.getElem?_cons_zero, Option.getD_some]
      repeat (go_big_quiet_step (fail))
      refine wpQuiet_nil ?_
      have y6 := S9.2.2
      refine wpN_one 24 _ (by kernel_rfl) rfl ?_
      refine NextAt.free (by kernel_rfl) ?_
      intro K hK
      go_simp
      refine hK _ _ ?_
      clear hK K
      refine wpN_done (by kernel_rfl) ?_
      go_wp2_with fail
      go_round
      case rel => exact Or.inr ⟨rfl, FIN.out⟩
      case measure => simp [intOf]
    · have HP := Lib.hid hp
      clear hp
      go_wp2_with fail
      go_ret
      exact HP.out

end Go.Proofs.Ytiaedonhbafpjaa
