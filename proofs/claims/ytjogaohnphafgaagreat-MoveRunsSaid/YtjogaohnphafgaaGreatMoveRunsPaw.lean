/-
  A block with another length: Resize. No conditions but bounds.
-/
import Derived.Test.YtjogaohnphafgaaGreatMoveRunsPau
import Derived.Test.YtjogaohnphafgaaGreatMoveRunsPav
import Derived.Test.YtjogaohnphafgaaGreatMoveRunsPan
import Derived.Deep.CutBlock
namespace Go.Proofs.YtjogaohnphafgaaGreat
open Go.RowKit
set_option linter.unusedVariables false

theorem step_copy_known {P : Program} {ops : Array Oper} {o : Oper} {a : Act} {w w' : World} {K : Act → World → Prop} {Q : Exit → Act → World → Prop} {E : Prop} (hg : o.guard = none) (s x : Operand) (t : TypeId)
    (hop : o.op = Op.call { callee := Callee.builtin Builtin.copy, args := #[s, x], argTypes := #[t, t] }) (v1 v2 v : Value) (hs : a.eval s = v1) (hx : a.eval x = v2) (hr : (Builtin.copy_ #[t, t] o.type #[v1, v2]).run P w = .ok v w') (h : K (a.put o.dst v) w') :
    if Region.wanted o (yielded ops a.tmps) = true then Oper.wp P o a w K Q else E := by
  have hw : Region.wanted o (yielded ops a.tmps) = true := by simp [Region.wanted, hg]
  rw [if_pos hw]
  unfold Oper.wp execOp
  simp only [hop, resolve, invoke, builtin, Sem.run_bind, Sem.run_pure, Result.andThen_ok, List.map_toArray, List.map_cons, List.map_nil, hs, hx, hr]
  exact h
theorem step_clear_known {P : Program} {ops : Array Oper} {o : Oper} {a : Act} {w w' : World} {K : Act → World → Prop} {Q : Exit → Act → World → Prop} {E : Prop} (hg : o.guard = none) (s : Operand) (t : TypeId)
    (hop : o.op = Op.call { callee := Callee.builtin Builtin.clear, args := #[s], argTypes := #[t] }) (v1 v : Value) (hs : a.eval s = v1) (hr : (Builtin.clear_ #[t] o.type #[v1]).run P w = .ok v w') (h : K (a.put o.dst v) w') :
    if Region.wanted o (yielded ops a.tmps) = true then Oper.wp P o a w K Q else E := by
  have hw : Region.wanted o (yielded ops a.tmps) = true := by simp [Region.wanted, hg]
  rw [if_pos hw]
  unfold Oper.wp execOp
  simp only [hop, resolve, invoke, builtin, Sem.run_bind, Sem.run_pure, Result.andThen_ok, List.map_toArray, List.map_cons, List.map_nil, hs, hr]
  exact h

theorem HpMem.full {w : World} {F : Nat → Prop} {hp bp : Nat} {S : HpSt} {vm vb vh : Value} {vhs : List Value} (m : HpMem w F hp bp S vm vb vh vhs) {g n cap : Nat} (h0 : 0 < S.mem.length) (h : vm = .slice (some ⟨g, 0, none⟩) n cap) : vm = .slice (some ⟨g, 0, none⟩) S.mem.length S.mem.length := by
  obtain ⟨g', hg', _⟩ := m.bytes h0
  rw [hg'] at h ⊢
  simp only [Value.slice.injEq, Option.some.injEq, Addr.mk.injEq, and_true] at h
  rw [h.1]

def rzE (S : HpSt) (q n : Int) : Int := if fndE S q ≠ 0 then fndE S q else if ¬ (0 ≤ n ∧ n ≤ 100000) then 2 else 0
/-- How a block has another length. -/
def RzOk (S : HpSt) (M : Nat) (x : Blk) (n : Nat) (y : Blk) (mem2 : List Int) : Prop :=
  (n ≤ x.len ∧ y = ⟨x.h, if n = 0 then 0 else x.at', n⟩ ∧ mem2 = S.mem) ∨
  (x.len < n ∧ 0 < x.len ∧ (∃ L, SortedL (lieL S.bl) L ∧ (gapsOf S.mem.length L).any (stB x n) = true) ∧ y = ⟨x.h, x.at', n⟩ ∧ mem2 = fill 0 S.mem (x.at' + x.len) (n - x.len)) ∨
  (x.len < n ∧ (∃ L, SortedL (lieL S.bl) L ∧ (decide (0 < x.len) && (gapsOf S.mem.length L).any (stB x n)) = false) ∧ ∃ (at' : Nat) (mem1 : List Int), PlOk S M n 1 at' mem1 ∧ at' + n ≤ mem1.length ∧ S.mem.length ≤ mem1.length ∧ y = ⟨x.h, at', n⟩ ∧ mem2 = fill 0 (splice mem1 at' (octB mem1 x)) (at' + x.len) (n - x.len))
def RzRes (w : World) (hp bp : Nat) (S : HpSt) (vm vb vh : Value) (vhs : List Value) (F G : Nat → Prop) (M i : Nat) (x : Blk) (n : Nat) (y : Blk) (w' : World) : Prop := ∃ (mem2 : List Int) (vm2 : Value) (F' G' : Nat → Prop) (b' : BookSt),
  RzOk S M x n y mem2 ∧ HB w' hp bp { S with mem := mem2, bl := S.bl.set i y } vm2 vb vh vhs F' G' M b' ∧ MemTo w.heap.size S.mem.length mem2.length vm vm2 ∧ (∀ k, F' k → Lost F vm vm2 k ∨ w.heap.size ≤ k) ∧ (∀ k, G' k → G k ∨ w.heap.size ≤ k) ∧ Touch (fun k => Lost F vm vm2 k ∨ G k) w w'
def RzPost (w : World) (hp bp : Nat) (S : HpSt) (vm vb vh : Value) (vhs : List Value) (F G : Nat → Prop) (M : Nat) (q n : Int) : Ending → World → Prop := fun e w' =>
  (rzE S q n ≠ 0 ∧ e = .returned (.tuple #[.bool false, .int .i64 (rzE S q n)]) ∧ Below w.heap.size w w') ∨
  (rzE S q n = 0 ∧ ∃ i x, findB S.bl q = some (i, x) ∧
    ((∃ er, er ≠ 0 ∧ (x.len : Int) < n ∧ (∃ L, SortedL (lieL S.bl) L ∧ (decide (0 < x.len) && (gapsOf S.mem.length L).any (stB x n.toNat)) = false) ∧ PlNo S M n.toNat 1 er ∧ e = .returned (.tuple #[.bool false, .int .i64 er]) ∧ ∃ G' b', HB w' hp bp S vm vb vh vhs F G' M b' ∧ (∀ k, G' k → G k ∨ w.heap.size ≤ k) ∧ Touch G w w') ∨
     (∃ y, e = .returned (.tuple #[.bool (decide (¬ y.at' = x.at')), .int .i64 0]) ∧ RzRes w hp bp S vm vb vh vhs F G M i x n.toNat y w')))

/-- What holds once the block is set. -/
def RzCut (w : World) (hp bp : Nat) (S : HpSt) (vm vb vh : Value) (vhs : List Value) (F G : Nat → Prop) (M i : Nat) (x : Blk) (n : Nat) (wr : World) : Prop :=
  wr.heap[w.heap.size]? = some (.cells #[.int .i64 (x.h : Int), .int .i64 (x.at' : Int), .int .i64 (x.len : Int)] 78 (0, 0)) ∧ ∃ y, RzRes w hp bp S vm vb vh vhs F G M i x n y wr

set_option maxHeartbeats 8000000 in
set_option maxRecDepth 100000 in
theorem resizeM_any {w : World} {hp bp : Nat} {S : HpSt} {vm vb vh : Value} {vhs : List Value} {F G : Nat → Prop} {M : Nat} {b : BookSt} (h : HB w hp bp S vm vb vh vhs F G M b) (hpol : polErr S.k S.s S.m = 0) (q n : Int) :
    Calls Tryz.prog 12 #[.pointer (some ⟨hp, 0, none⟩), .int .i64 q, .int .i64 n] w (RzPost w hp bp S vm vb vh vhs F G M q n) := by
  have FD := Lib.hid (findM_any h.hm q)
  have H := Lib.hid h
  have HPO := Lib.hid hpol
  have BB := Lib.hid (Below.refl w.heap.size w)
  clear h hpol
  go_enter Tryz.func12, Tryz.ntmps12
  go_wp2_with fail
  refine FD.out.mono ?_
  rintro e w1 ⟨hw1, hpost⟩
  obtain rfl := hw1.symm
  clear hw1
  rcases hpost with ⟨he, rfl⟩ | ⟨he, i, x, g, cap, hf, hv, rfl⟩
  · have he' : (fndE S q != 0) = true := by simpa using he
    have FIN : Hid (RzPost w hp bp S vm vb vh vhs F G M q n (.returned (.tuple #[.bool false, .int .i64 (fndE S q)])) w) := Lib.hid (by
      have e : rzE S q n = fndE S q := by unfold rzE; rw [if_pos he]
      exact Or.inl ⟨by rw [e]; exact he, by rw [e], BB.out⟩)
    clear he FD
    generalize fndE S q = er at *
    go_wp2_with fail
    go_ret2
    exact FIN.out
  · obtain ⟨hx, hxh⟩ := findB_at hf
    obtain ⟨g2, cap2, hv2, d0, d1, d2, dz⟩ := blk_cells H.out.hm.row.1 hx
    have HV := Lib.hid hv
    rw [hv] at hv2
    simp only [Value.slice.injEq, Option.some.injEq, Addr.mk.injEq, and_true] at hv2
    obtain ⟨rfl, _, rfl⟩ := hv2
    have hl := (H.out.hm.hb x (List.mem_of_getElem? hx)).2.2
    have hbig := H.out.hm.big.1
    by_cases hn : 0 ≤ n ∧ n ≤ 100000
    case neg =>
      have W1 := Lib.hid (within_move_no n 0 100000 w hn)
      have FIN : Hid (RzPost w hp bp S vm vb vh vhs F G M q n (.returned (.tuple #[.bool false, .int .i64 2])) w) := Lib.hid (by
        have e : rzE S q n = 2 := by unfold rzE; rw [if_neg (by simp [he]), if_pos hn]
        exact Or.inl ⟨by rw [e]; decide, by rw [e], BB.out⟩)
      clear he hf hv hx hxh hl FD hn dz d0 d1 d2
      go_wp2_with fail
      refine W1.out.mono ?_
      rintro e w2 ⟨rfl, hw2⟩
      obtain rfl := hw2
      go_wp2_with fail
      go_ret2
      exact FIN.out
    case pos =>
      have W1 := Lib.hid (within_move_yes n 0 100000 w hn.1 hn.2)
      obtain ⟨N, rfl⟩ : ∃ N : Nat, n = (N : Int) := ⟨n.toNat, by omega⟩
      have eE : rzE S q N = 0 := by unfold rzE; rw [if_neg (by simp [he]), if_neg (by simpa using hn)]
      have KEY : Hid (∀ e w', ((∃ er, er ≠ 0 ∧ x.len < N ∧ (∃ L, SortedL (lieL S.bl) L ∧ (decide (0 < x.len) && (gapsOf S.mem.length L).any (stB x N)) = false) ∧ PlNo S M N 1 er ∧ e = .returned (.tuple #[.bool false, .int .i64 er]) ∧ ∃ G' b', HB w' hp bp S vm vb vh vhs F G' M b' ∧ (∀ k, G' k → G k ∨ w.heap.size ≤ k) ∧ Touch G w w') ∨
          (∃ y, e = .returned (.tuple #[.bool (decide (¬ y.at' = x.at')), .int .i64 0]) ∧ RzRes w hp bp S vm vb vh vhs F G M i x N y w')) → RzPost w hp bp S vm vb vh vhs F G M q N e w') := Lib.hid (fun e w' hk => by
        refine Or.inr ⟨eE, i, x, hf, ?_⟩
        rw [Int.toNat_natCast]
        exact hk.imp (fun ⟨er, h1, h2, h3⟩ => ⟨er, h1, by omega, h3⟩) id)
      have hN5 : N ≤ 100000 := by omega
      have B0 : Below w.heap.size w (w.alloc (.cells #[.int .i64 (x.h : Int), .int .i64 (x.at' : Int), .int .i64 (x.len : Int)] 78)) := (Below.refl _ w).alloc (Nat.le_refl _) _
      have N0 := heap_alloc_new w (.cells #[.int .i64 (x.h : Int), .int .i64 (x.at' : Int), .int .i64 (x.len : Int)] 78)
      have HX := Lib.hid hx
      have HL := Lib.hid hl
      have FNO : Hid (¬ F w.heap.size) := Lib.hid (fun e => by have := H.out.fl _ e; omega)
      clear he hf hxh FD hn dz eE hx hv hl
      go_wp2_with fail
      refine W1.out.mono ?_
      rintro e w2 ⟨rfl, hw2⟩
      obtain rfl := hw2
      clear W1
      go_upto_block 1 with fail
      generalize w.alloc (.cells #[.int .i64 (x.h : Int), .int .i64 (x.at' : Int), .int .i64 (x.len : Int)] 78) = W1 at *
      have HN0 := Lib.hid N0
      have HB0 := Lib.hid B0
      have H1 := Lib.hid (H.out.below B0)
      obtain ⟨g3, cap3, hv3, d0, d1, d2, dz⟩ := blk_cells H1.out.hm.row.1 HX.out
      rw [HV.out] at hv3
      simp only [Value.slice.injEq, Option.some.injEq, Addr.mk.injEq, and_true] at hv3
      obtain ⟨rfl, _, rfl⟩ := hv3
      have o1 : W1.cell? ⟨w.heap.size, 1, none⟩ = some (.int .i64 (x.at' : Int)) := (cell_of N0 1).trans rfl
      have o2 : W1.cell? ⟨w.heap.size, 2, none⟩ = some (.int .i64 (x.len : Int)) := (cell_of N0 2).trans rfl
      clear N0 B0
      go_cut [11, 12] (fun v11 v12 wr => RzCut w hp bp S vm vb vh vhs F G M i x N wr)
      case first =>
        by_cases hc : N ≤ x.len
        · obtain ⟨h2, t2⟩ := H1.out.set1 (y := ⟨x.h, x.at', N⟩) HX.out (show 2 < 3 by decide) rfl rfl (by show x.at' + N ≤ _; have := HL.out; omega) HV.out
          by_cases h0 : N = 0
          · have hx2 : ({ S with bl := S.bl.set i ⟨x.h, x.at', N⟩ } : HpSt).bl[i]? = some ⟨x.h, x.at', N⟩ := by
              show (S.bl.set i _)[i]? = _
              rw [List.getElem?_set_self (List.getElem?_eq_some_iff.1 HX.out).1]
            obtain ⟨h3, t3⟩ := h2.set1 (y := ⟨x.h, 0, N⟩) (r := 1) (v := .int .i64 0) hx2 (by decide) rfl rfl (by show 0 + N ≤ _; omega) HV.out
            have FIN : Hid (RzCut w hp bp S vm vb vh vhs F G M i x N ((W1.setCell ⟨g, i * 3 + 2, none⟩ (.int .i64 (N : Int))).setCell ⟨g, i * 3 + 1, none⟩ (.int .i64 0))) := Lib.hid (by
              refine ⟨((t2.then t3).block _ (lt_of HN0.out) FNO.out).trans HN0.out, ⟨x.h, 0, N⟩, S.mem, vm, F, G, b, Or.inl ⟨hc, by rw [if_pos h0], rfl⟩, ?_, MemTo.self _ _ _, fun k hk => Or.inl (Lost.self hk), fun k hk => Or.inl hk, (Touch.of_below HB0.out).then ((t2.then t3).mono (fun k hk => Or.inl (Lost.self hk)))⟩
              have e : (S.bl.set i ⟨x.h, x.at', N⟩).set i ⟨x.h, 0, N⟩ = S.bl.set i ⟨x.h, 0, N⟩ := List.set_set _
              simp only [e] at h3
              exact h3)
            clear h2 t2 h3 t3 hx2
            subst h0
            go_wp2_with fail
            go_meet
            exact FIN.out
          · have FIN : Hid (RzCut w hp bp S vm vb vh vhs F G M i x N (W1.setCell ⟨g, i * 3 + 2, none⟩ (.int .i64 (N : Int)))) := Lib.hid ⟨(t2.block _ (lt_of HN0.out) FNO.out).trans HN0.out, ⟨x.h, x.at', N⟩, S.mem, vm, F, G, b, Or.inl ⟨hc, by rw [if_neg h0], rfl⟩, h2, MemTo.self _ _ _, fun k hk => Or.inl (Lost.self hk), fun k hk => Or.inl hk, (Touch.of_below HB0.out).then (t2.mono (fun k hk => Or.inl (Lost.self hk)))⟩
            have h0' : ((N : Int) == 0) = false := by simp; exact h0
            clear h2 t2
            go_wp2_with fail
            go_meet
            exact FIN.out
        · have SA := Lib.hid (staysM_any H1.out.hm x N (by have := HL.out; omega) (by omega))
          have q0 : W1.cell? ⟨w.heap.size, 0, none⟩ = some (.int .i64 (x.h : Int)) := (cell_of HN0.out 0).trans rfl
          go_wp2_with fail
          refine SA.out.mono ?_
          rintro e w2 ⟨L, hs, rfl, hb2⟩
          have N2 := Lib.hid ((hb2.block _ (lt_of HN0.out)).trans HN0.out)
          have H2 := Lib.hid (H1.out.below hb2)
          have HB2 := Lib.hid (HB0.out.trans (hb2.mono HB0.out.size))
          have hxl : x.len < N := by omega
          clear SA q0 o1 o2 d0 d1 d2 hb2 dz
          obtain ⟨g3, cap3, hv3, d0, d1, d2, dz⟩ := blk_cells H2.out.hm.row.1 HX.out
          rw [HV.out] at hv3
          simp only [Value.slice.injEq, Option.some.injEq, Addr.mk.injEq, and_true] at hv3
          obtain ⟨rfl, _, rfl⟩ := hv3
          cases hbv : (decide (0 < x.len) && (gapsOf S.mem.length L).any (stB x N)) with
          | true =>
            rw [Bool.and_eq_true, decide_eq_true_eq] at hbv
            obtain ⟨hx0, hany⟩ := hbv
            have hin : x.at' + N ≤ S.mem.length := by
              obtain ⟨gp, hgp, hst⟩ := List.any_eq_true.1 hany
              have h3 := gapsOf_in (fun z hz => by have := (H.out.hm.hb z (hs.mem hz).1).2.2; omega) gp hgp
              unfold stB at hst
              simp at hst
              omega
            obtain ⟨h3, t3⟩ := H2.out.set1 (y := ⟨x.h, x.at', N⟩) HX.out (show 2 < 3 by decide) rfl rfl hin HV.out
            have HST := Lib.hid (And.intro hs hany)
            have H3 := Lib.hid h3
            have T3 := Lib.hid t3
            have hx3 : (S.bl.set i ⟨x.h, x.at', N⟩)[i]? = some ⟨x.h, x.at', N⟩ := by rw [List.getElem?_set_self (List.getElem?_eq_some_iff.1 HX.out).1]
            have d1' : (w2.setCell ⟨g, i * 3 + 2, none⟩ (.int .i64 (N : Int))).heap[w.heap.size]? = _ := (t3.block _ (lt_of N2.out) FNO.out).trans N2.out
            clear hs hany h3 t3
            go_upto_region 18 with fail
            clear d0 d1 d2 dz
            generalize w2.setCell ⟨g, i * 3 + 2, none⟩ (.int .i64 (N : Int)) = W3 at *
            obtain ⟨g3, cap3, hv3, d0, d1, d2, dz⟩ := blk_cells H3.out.hm.row.1 hx3
            rw [HV.out] at hv3
            simp only [Value.slice.injEq, Option.some.injEq, Addr.mk.injEq, and_true] at hv3
            obtain ⟨rfl, _, rfl⟩ := hv3
            have p2 : W3.cell? ⟨w.heap.size, 2, none⟩ = some (.int .i64 (x.len : Int)) := (cell_of d1' 2).trans rfl
            have S0 : BelM W3 W3.drew := (Below.refl _ W3).drew
            have e0 : ∀ z : WIn (BelM W3), z.w.cell? ⟨g, i * 3, none⟩ = some (.int .i64 (x.h : Int)) := fun z => old_cell z.h d0
            have e1 : ∀ z : WIn (BelM W3), z.w.cell? ⟨g, i * 3 + 1, none⟩ = some (.int .i64 (x.at' : Int)) := fun z => old_cell z.h d1
            have e2 : ∀ z : WIn (BelM W3), z.w.cell? ⟨g, i * 3 + 2, none⟩ = some (.int .i64 (N : Int)) := fun z => old_cell z.h d2
            have e3 : ∀ z : WIn (BelM W3), z.w.cell? ⟨w.heap.size, 2, none⟩ = some (.int .i64 (x.len : Int)) := fun z => old_cell z.h p2
            haveI ne : Nonempty (WIn (BelM W3)) := ⟨⟨W3.drew, S0⟩⟩
            have OLD := Lib.hid d1'
            have HIN := Lib.hid hin
            clear d0 d1 d2 dz p2 d1' hx3 hin
            refine wp_normal ?_
            refine wp_region_plan 8 (BelM W3) rfl ?_
            refine wpN_seg [0, 1, 2, 3, 5, 6] (by kernel_rfl) (by kernel_rfl) (by kernel_rfl) (by kernel_rfl) (by decide) (fun _ _ _ _ _ h => h) S0 ?_
            simp only [pick, List.map_cons, List.map_nil, List.getElem?_cons_succ, List.getElem?_cons_zero, Option.getD_some]
            repeat (go_big_quiet_step (fail))
            refine wpQuiet_nil ?_
            clear e0 e1 e2 e3 ne
            refine wpN_one 4 _ (by kernel_rfl) rfl ?_
            refine NextAt.held ?_
            intro K hK
            go_simp
            refine (octetsM_any (H3.out.hm.below S0) (x.h : Int) x.at' N HIN.out).mono ?_
            rintro e w4 ⟨a, rfl, ha, hb4⟩
            have S4 : BelM W3 w4 := Below.trans (a := W3) S0 (hb4.mono (Below.size S0))
            go_simp
            refine hK _ _ S4 ?_
            clear hK K
            obtain ⟨gm, cm, hvm, rfl⟩ := ha (by omega)
            obtain ⟨w5, CLR, h5, t5⟩ := (H3.out.below S4).clr (x.at' + x.len) (N - x.len) (N - x.len) (some ⟨gm, x.at' + x.len, none⟩) (by show x.at' + x.len + (N - x.len) ≤ S.mem.length; have := HIN.out; omega) (fun _ => ⟨gm, (H3.out.below S4).hm.full (by show 0 < S.mem.length; have := HIN.out; omega) hvm, rfl⟩)
            have FV := (H3.out.below S4).hm.mem.2
            have FIN : Hid (RzCut w hp bp S vm vb vh vhs F G M i x N w5) := Lib.hid (by
              have TT : Touch F W3 w5 := (Touch.of_below S4).then (t5.mono (fun k hk => FV k hk))
              exact ⟨(TT.block _ (lt_of OLD.out) FNO.out).trans OLD.out, ⟨x.h, x.at', N⟩, _, vm, F, G, b, Or.inr (Or.inl ⟨hxl, hx0, ⟨L, HST.out.1, HST.out.2⟩, rfl, rfl⟩), h5, Or.inl ⟨rfl, fill_len _ _ _ _⟩, fun k hk => Or.inl (Lost.self hk), fun k hk => Or.inl hk, ((Touch.of_below HB2.out).then (T3.out.mono (fun k hk => Or.inl (Lost.self hk)))).then (TT.mono (fun k hk => Or.inl (Lost.self hk)))⟩)
            clear ha hvm h5 t5 FV hb4 S0
            refine wpN_pure [7] (by kernel_rfl) (by kernel_rfl) (by kernel_rfl) (fun _ _ _ _ _ h => h) (fun _ => S4) ?_
            simp only [pick, List.map_cons, List.map_nil, List.getElem?_cons_succ, List.getElem?_cons_zero, Option.getD_some]
            repeat (go_big_quiet_step (fail))
            refine wpQuiet_nil ?_
            refine wpN_one 8 _ (by kernel_rfl) rfl ?_
            refine NextAt.free (by kernel_rfl) ?_
            intro K hK
            refine step_clear_known rfl (.tmp 92) 38 rfl _ _ (by rfl) (CLR _) ?_
            go_simp
            refine hK _ _ ?_
            clear hK K
            refine wpN_done (by kernel_rfl) ?_
            go_wp2_with fail
            go_meet
            exact FIN.out
          | false =>
            have HST : Hid (∃ L, SortedL (lieL S.bl) L ∧ (decide (0 < x.len) && (gapsOf S.mem.length L).any (stB x N)) = false) := Lib.hid ⟨L, hs, hbv⟩
            have PL := Lib.hid (placed_any H2.out HPO.out N hN5 1)
            clear hs hbv d0 d1 d2 dz
            go_wp2_with fail
            refine PL.out.mono ?_
            rintro e w3 hpl
            rcases hpl with ⟨v, er, he, hno, rfl, G', b', hHB, hG, ht⟩ | ⟨at', mem1, vm2, F', G', b', hok, rfl, hHB, hle, hle2, hF1, hF2, hG, ht⟩
            · have he' : (er != 0) = true := by simp [he]
              have hz := HB2.out.size
              have FIN : Hid (RzPost w hp bp S vm vb vh vhs F G M q (N : Int) (.returned (.tuple #[.bool false, .int .i64 er])) w3) := Lib.hid (KEY.out _ w3 (Or.inl ⟨er, he, hxl, HST.out, hno, rfl, G', b', hHB, fun k hk => (hG k hk).imp id (fun e => by omega), (Touch.of_below HB2.out).then ht⟩))
              clear hno hHB hG ht PL KEY he
              go_wp2_with fail
              go_ret2
              exact FIN.out
            · have hz := HB2.out.size
              have hF2' : ∀ k, F' k → Lost F vm vm2 k ∨ w.heap.size ≤ k := fun k hk => (hF2 k hk).imp id (fun e => by omega)
              have hG' : ∀ k, G' k → G k ∨ w.heap.size ≤ k := fun k hk => (hG k hk).imp id (fun e => by omega)
              have l2 := lt_of N2.out
              have FN2 : ¬ F' w.heap.size := fun e => (hF2 _ e).elim (fun h => FNO.out h.1) (fun e => by omega)
              have N3 := (ht.block _ l2 (fun e => e.elim (fun h => FNO.out h.1) (fun e => by have := H.out.bk.gl _ e; omega))).trans N2.out
              have TT : Touch (fun k => Lost F vm vm2 k ∨ G k) w w3 := (Touch.of_below HB2.out).then ht
              have HMT := Lib.hid (hF1.mono hz)
              have hx1 : ({ S with mem := mem1 } : HpSt).bl[i]? = some x := HX.out
              obtain ⟨h4, t4⟩ := hHB.set1 (y := ⟨x.h, at', x.len⟩) (r := 1) (v := .int .i64 (at' : Int)) hx1 (by decide) rfl rfl (by show at' + x.len ≤ mem1.length; omega) HV.out
              have hx2 : ({ S with mem := mem1, bl := S.bl.set i ⟨x.h, at', x.len⟩ } : HpSt).bl[i]? = some ⟨x.h, at', x.len⟩ := by
                show (S.bl.set i _)[i]? = _
                rw [List.getElem?_set_self (List.getElem?_eq_some_iff.1 HX.out).1]
              obtain ⟨h5, t5⟩ := h4.set1 (y := ⟨x.h, at', N⟩) (r := 2) (v := .int .i64 (N : Int)) hx2 (by decide) rfl rfl (by show at' + N ≤ mem1.length; omega) HV.out
              have e5 : (S.bl.set i ⟨x.h, at', x.len⟩).set i ⟨x.h, at', N⟩ = S.bl.set i ⟨x.h, at', N⟩ := List.set_set _
              simp only [e5] at h5
              have hx5 : (S.bl.set i ⟨x.h, at', N⟩)[i]? = some ⟨x.h, at', N⟩ := by rw [List.getElem?_set_self (List.getElem?_eq_some_iff.1 HX.out).1]
              obtain ⟨g3, cap3, hv3, d0, d1, d2, dz⟩ := blk_cells hHB.hm.row.1 hx1
              rw [HV.out] at hv3
              simp only [Value.slice.injEq, Option.some.injEq, Addr.mk.injEq, and_true] at hv3
              obtain ⟨rfl, _, rfl⟩ := hv3
              have H5 := Lib.hid h5
              have T5 := Lib.hid (t4.then t5)
              have N5 : ((w3.setCell ⟨g, i * 3 + 1, none⟩ (.int .i64 (at' : Int))).setCell ⟨g, i * 3 + 2, none⟩ (.int .i64 (N : Int))).heap[w.heap.size]? = _ := ((t4.then t5).block _ (lt_of N3) FN2).trans N3
              have HOK := Lib.hid (And.intro hok (And.intro hle hle2))
              have HTT := Lib.hid TT
              have HGF := Lib.hid (And.intro hF2' hG')
              have HF2 := Lib.hid hF2
              have hb1 : mem1.length ≤ 100000 := hHB.hm.big.1
              clear h4 t4 h5 t5 hx1 hx2 N3 TT hok hle hle2 hF1 hF2 hG ht hHB hF2' hG' PL e5 l2 hz KEY
              go_upto_region 11 with fail
              clear d0 d1 d2 dz
              generalize (w3.setCell ⟨g, i * 3 + 1, none⟩ (.int .i64 (at' : Int))).setCell ⟨g, i * 3 + 2, none⟩ (.int .i64 (N : Int)) = W3 at *
              obtain ⟨g3, cap3, hv3, d0, d1, d2, dz⟩ := blk_cells H5.out.hm.row.1 hx5
              rw [HV.out] at hv3
              simp only [Value.slice.injEq, Option.some.injEq, Addr.mk.injEq, and_true] at hv3
              obtain ⟨rfl, _, rfl⟩ := hv3
              have p0 : W3.cell? ⟨w.heap.size, 0, none⟩ = some (.int .i64 (x.h : Int)) := (cell_of N5 0).trans rfl
              have p1 : W3.cell? ⟨w.heap.size, 1, none⟩ = some (.int .i64 (x.at' : Int)) := (cell_of N5 1).trans rfl
              have p2 : W3.cell? ⟨w.heap.size, 2, none⟩ = some (.int .i64 (x.len : Int)) := (cell_of N5 2).trans rfl
              have S0 : BelM W3 W3.drew := (Below.refl _ W3).drew
              have e0 : ∀ z : WIn (BelM W3), z.w.cell? ⟨g, i * 3, none⟩ = some (.int .i64 (x.h : Int)) := fun z => old_cell z.h d0
              have e1 : ∀ z : WIn (BelM W3), z.w.cell? ⟨g, i * 3 + 1, none⟩ = some (.int .i64 (at' : Int)) := fun z => old_cell z.h d1
              have e2 : ∀ z : WIn (BelM W3), z.w.cell? ⟨g, i * 3 + 2, none⟩ = some (.int .i64 (N : Int)) := fun z => old_cell z.h d2
              have e3 : ∀ z : WIn (BelM W3), z.w.cell? ⟨w.heap.size, 0, none⟩ = some (.int .i64 (x.h : Int)) := fun z => old_cell z.h p0
              have e4 : ∀ z : WIn (BelM W3), z.w.cell? ⟨w.heap.size, 1, none⟩ = some (.int .i64 (x.at' : Int)) := fun z => old_cell z.h p1
              have e5 : ∀ z : WIn (BelM W3), z.w.cell? ⟨w.heap.size, 2, none⟩ = some (.int .i64 (x.len : Int)) := fun z => old_cell z.h p2
              haveI ne : Nonempty (WIn (BelM W3)) := ⟨⟨W3.drew, S0⟩⟩
              have OLD := Lib.hid N5
              clear d0 d1 d2 dz p0 p1 p2 N5 hx5
              refine wp_normal ?_
              refine wp_region_plan 13 (BelM W3) rfl ?_
              refine wpN_seg [0, 1, 2, 3, 5, 6, 7, 8, 10, 11] (by kernel_rfl) (by kernel_rfl) (by kernel_rfl) (by kernel_rfl) (by decide) (fun _ _ _ _ _ h => h) S0 ?_
              simp only [pick, List.map_cons, List.map_nil, List.getElem?_cons_succ, List.getElem?_cons_zero, Option.getD_some]
              repeat (go_big_quiet_step (fail))
              refine wpQuiet_nil ?_
              clear e0 e1 e2 e3 e4 e5 ne
              refine wpN_one 4 _ (by kernel_rfl) rfl ?_
              refine NextAt.held ?_
              intro K hK
              go_simp
              refine (octetsM_any (H5.out.hm.below S0) (x.h : Int) at' N HOK.out.2.1).mono ?_
              rintro e w4 ⟨a1, rfl, ha1, hb4⟩
              have S4 : BelM W3 w4 := Below.trans (a := W3) S0 (hb4.mono (Below.size S0))
              go_simp
              refine hK _ _ S4 ?_
              clear hK K hb4
              refine wpN_one 9 _ (by kernel_rfl) rfl ?_
              refine NextAt.held ?_
              intro K hK
              go_simp
              refine (octetsM_any (H5.out.hm.below S4) (x.h : Int) at' N HOK.out.2.1).mono ?_
              rintro e w5 ⟨a2, rfl, ha2, hb5⟩
              have S5 : BelM W3 w5 := Below.trans (a := W3) S4 (hb5.mono (Below.size S4))
              go_simp
              refine hK _ _ S5 ?_
              clear hK K hb5
              refine wpN_one 12 _ (by kernel_rfl) rfl ?_
              refine NextAt.held ?_
              intro K hK
              go_simp
              refine (octetsM_any (H5.out.hm.below S5) (x.h : Int) x.at' x.len (by show _ ≤ mem1.length; have := HL.out; have := HOK.out.2.2; omega)).mono ?_
              rintro e w6 ⟨a3, rfl, ha3, hb6⟩
              have S6 : BelM W3 w6 := Below.trans (a := W3) S5 (hb6.mono (Below.size S5))
              go_simp
              refine hK _ _ S6 ?_
              clear hK K hb6
              obtain ⟨w7, CPY, h7, t7⟩ := (H5.out.below S6).cpy at' N x.at' x.len x.len a2 a3 HOK.out.2.1 (by omega) (by show _ ≤ mem1.length; have := HL.out; have := HOK.out.2.2; omega) ha2 ha3
              obtain ⟨gm, cm, hvm, rfl⟩ := ha1 (by omega)
              have hml : (splice mem1 at' ((mem1.drop x.at').take x.len)).length = mem1.length := by
                have := HOK.out
                have := HL.out
                unfold splice
                simp
                omega
              obtain ⟨w8, CLR, h8, t8⟩ := h7.clr (at' + x.len) (N - x.len) (N - x.len) (some ⟨gm, at' + x.len, none⟩) (by show _ ≤ (splice mem1 at' ((mem1.drop x.at').take x.len)).length; rw [hml]; have := HOK.out; omega) (fun _ => ⟨gm, h7.hm.full (by show 0 < (splice mem1 at' ((mem1.drop x.at').take x.len)).length; rw [hml]; have := HOK.out; omega) hvm, rfl⟩)
              have FV := H5.out.hm.mem.2
              have FIN : Hid (RzCut w hp bp S vm vb vh vhs F G M i x N w8) := Lib.hid (by
                have TT : Touch F' W3 w8 := ((Touch.of_below S6).then (t7.mono (fun k hk => FV k hk))).then (t8.mono (fun k hk => FV k hk))
                exact ⟨(TT.block _ (lt_of OLD.out) FN2).trans OLD.out, ⟨x.h, at', N⟩, _, vm2, F', G', b', Or.inr (Or.inr ⟨hxl, HST.out, at', mem1, HOK.out.1, HOK.out.2.1, HOK.out.2.2, rfl, rfl⟩), h8, by rw [fill_len, show (splice mem1 at' (octB mem1 x)).length = mem1.length from hml]; exact HMT.out, HGF.out.1, HGF.out.2, HTT.out.trans (T5.out.then TT) (fun k hk => (HGF.out.1 k hk).imp Or.inl id)⟩)
              clear ha1 ha2 ha3 hvm h7 t7 h8 t8 FV S4 S5 S6 S0 hml
              refine wpN_one 13 _ (by kernel_rfl) rfl ?_
              refine NextAt.free (by kernel_rfl) ?_
              intro K hK
              refine step_copy_known rfl (.tmp 56) (.tmp 59) 38 rfl _ _ _ (by rfl) (by rfl) CPY ?_
              go_simp
              refine hK _ _ ?_
              clear hK K CPY
              refine wpN_pure [14] (by kernel_rfl) (by kernel_rfl) (by kernel_rfl) (fun _ _ _ _ _ h => h) (fun h => by cases h) ?_
              simp only [pick, List.map_cons, List.map_nil, List.getElem?_cons_succ, List.getElem?_cons_zero, Option.getD_some]
              repeat (go_big_quiet_step (fail))
              refine wpQuiet_nil ?_
              refine wpN_one 15 _ (by kernel_rfl) rfl ?_
              refine NextAt.free (by kernel_rfl) ?_
              intro K hK
              refine step_clear_known rfl (.tmp 61) 38 rfl _ _ (by rfl) (CLR _) ?_
              go_simp
              refine hK _ _ ?_
              clear hK K
              refine wpN_done (by kernel_rfl) ?_
              go_wp2_with fail
              go_meet
              exact FIN.out
      case rest =>
        obtain ⟨hold, y, mem2, vm2, F', G', b', hok, hHB, hMT, hF, hG, ht⟩ := hcut
        rename_i wc _
        have FIN2 : Hid (∀ q0, RzPost w hp bp S vm vb vh vhs F G M q (N : Int) (.returned (.tuple #[.bool (!decide (y.at' = x.at')), .int .i64 0])) (wc.drewN q0)) := Lib.hid (fun q0 => by
          rw [← decide_not]
          exact KEY.out _ _ (Or.inr ⟨y, rfl, mem2, vm2, F', G', b', hok, hHB.below (bdrewN (Below.refl _ wc) q0), hMT, hF, hG, ht.then (Touch.of_below (bdrewN (Below.refl _ wc) q0))⟩))
        obtain ⟨g3, cap3, hv3, d0, d1, d2, dz⟩ := blk_cells hHB.hm.row.1 (i := i) (x := y) (by show (S.bl.set i y)[i]? = _; rw [List.getElem?_set_self (List.getElem?_eq_some_iff.1 HX.out).1])
        rw [HV.out] at hv3
        simp only [Value.slice.injEq, Option.some.injEq, Addr.mk.injEq, and_true] at hv3
        obtain ⟨rfl, _, rfl⟩ := hv3
        have p1 : wc.cell? ⟨w.heap.size, 1, none⟩ = some (.int .i64 (x.at' : Int)) := (cell_of hold 1).trans rfl
        have hne : ((y.at' : Int) != (x.at' : Int)) = decide (¬ y.at' = x.at') := by
          by_cases e : y.at' = x.at'
          · rw [e]; simp
          · have : (y.at' : Int) ≠ (x.at' : Int) := by omega
            simp [e, this]
        clear hold hok hHB hMT hF hG ht d0 d2 dz KEY o1 o2
        go_upto_region 19 with fail
        go_quiet (fail)
        go_wp2_with fail
        go_ret2
        exact FIN2.out _

end Go.Proofs.YtjogaohnphafgaaGreat
