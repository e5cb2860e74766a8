/-
  grow of an arena: what it gives, with its book. Conditions: numbers in their bounds; the arena's blocks are not the book's.
-/
import Derived.Test.YtfolidedcejafaaArenG
import Derived.Test.YtfolidedcejafaaMid
namespace Go.Proofs.Ytfolidedcejafaa
open Go.RowKit
set_option linter.unusedVariables false

theorem infoChunk : (Try.prog.info? 46).map (fun i => (i.zero, i.size, i.bytes)) = some (some (.slice none 0 0), 1, 24) := by kernel_rfl

/-- An arena of account 1, its book, and what it owns there. -/
structure AB (w : World) (I : ArId) (st : ArSt) (bst : BookSt) (F G : Nat → Prop) : Prop where
  ar : ArAt w F I st
  bk : BookAt w G I.bp bst 1
  dis : ∀ k, F k → ¬ G k
  fl : ∀ k, F k → k < w.heap.size
  gl : ∀ k, G k → k < w.heap.size
  own : I.o = 1
  pol : polErr I.k I.s I.m = 0
  sz : 1 ≤ I.sz ∧ I.sz ≤ 100000
  acc : bst.acc 1 = some (10000000, ((sumN Chk.len st.chunks : Nat) : Int), 0)
  bud : bst.budget = 10000000
  tot : bst.total = ((sumN Chk.len st.chunks : Nat) : Int)
  ent : bst.entries.length ≤ 10000
  rok : RegsOk st.regs
  cok : ChksOk st.chunks
  fit : Fits st
  room : sumN Chk.len st.chunks ≤ 100000

/-- What a call leaves: the sets may have grown by new blocks. -/
def Later (w w' : World) (F F' : Nat → Prop) : Prop := ∀ k, F' k → F k ∨ w.heap.size ≤ k

def ABPost (w w' : World) (I : ArId) (st : ArSt) (F G : Nat → Prop) : Prop := ∃ bst F' G', AB w' I st bst F' G' ∧ Later w w' F F' ∧ Later w w' G G' ∧ Touch (fun k => F k ∨ G k) w w'
def GrowPost (I : ArId) (st : ArSt) (F G : Nat → Prop) (n : Nat) (w : World) : Ending → World → Prop := fun e w' =>
  (∃ err : Int, err ≠ 0 ∧ e = .returned (.int .i64 err) ∧ ABPost w w' I st F G) ∨
  (e = .returned (.int .i64 0) ∧ ∃ g V : Nat, n ≤ V ∧ w.heap.size ≤ g ∧ ABPost w w' I { st with chunks := st.chunks ++ [⟨g, zeros V⟩] } F G)

theorem AB.below {w w' : World} {I : ArId} {st : ArSt} {bst : BookSt} {F G : Nat → Prop} (h : AB w I st bst F G) (hb : Below w.heap.size w w') : AB w' I st bst F G := by
  obtain ⟨cv, rv, mv, hm⟩ := h.ar
  have hs := hb.size
  exact ⟨⟨cv, rv, mv, hm.below hb⟩, h.bk.same (Below.same_on hb), h.dis, fun k hk => by have := h.fl k hk; omega, fun k hk => by have := h.gl k hk; omega, h.own, h.pol, h.sz, h.acc, h.bud, h.tot, h.ent, h.rok, h.cok, h.fit, h.room⟩
theorem ABPost.of_below {w w' : World} {I : ArId} {st : ArSt} {bst : BookSt} {F G : Nat → Prop} (h : AB w I st bst F G) (hb : Below w.heap.size w w') : ABPost w w' I st F G :=
  ⟨bst, F, G, h.below hb, fun k hk => Or.inl hk, fun k hk => Or.inl hk, Touch.of_below hb⟩

theorem chunk_mem {w w2 w' : World} {F : Nat → Prop} {I : ArId} {st : ArSt} {cv rv mv : Value} (h : ArMem w F I st cv rv mv) (g0 V g cap : Nat) (hT : Touch (fun k => ¬ F k) w w2) (hg0 : w.heap.size ≤ g0)
    (hbr : byteRow w2 g0 (zeros V))
    (hrow : w'.ownsRow 0 46 1 (.slice (some ⟨g, 0, none⟩) (st.chunks.length + 1) cap) (st.chunks.length + 1) (st.chunks.map Chk.val ++ [Value.slice (some ⟨g0, 0, none⟩) V V]))
    (hgr : w2.grownBy w' cv.ownBlock) (hpl : cv.ownBlock = some g ∨ w2.heap.size ≤ g) :
    ArMem (w'.setCell ⟨I.r, 7, none⟩ (.slice (some ⟨g, 0, none⟩) (st.chunks.length + 1) cap)) (fun k => F k ∨ k = g ∨ k = g0) I { st with chunks := st.chunks ++ [⟨g0, zeros V⟩] } (.slice (some ⟨g, 0, none⟩) (st.chunks.length + 1) cap) rv mv ∧
      Touch F w2 (w'.setCell ⟨I.r, 7, none⟩ (.slice (some ⟨g, 0, none⟩) (st.chunks.length + 1) cap)) := by
  have h2 : ArMem w2 F I st cv rv mv := h.same (hT.same (fun k hk _ x => x hk))
  have hg0l := lt_of hbr
  have hcr : cv.ownBlock ≠ some I.r := row_ne h2.crow h2.self (by decide)
  have hgr0 : g ≠ I.r := by
    have := lt_of h2.self
    rcases hpl with e | e
    · exact fun x => hcr (x ▸ e)
    · omega
  have hr0 := lt_of h.self
  have keep : ∀ k, k < w2.heap.size → k ≠ I.r → cv.ownBlock ≠ some k → (w'.setCell ⟨I.r, 7, none⟩ (.slice (some ⟨g, 0, none⟩) (st.chunks.length + 1) cap)).heap[k]? = w2.heap[k]? := fun k hk h1 h2 =>
    (Below.heap_setCell _ _ _ k h1).trans (hgr.block k hk (fun e => h2 e.symm))
  have hself' := (hgr.block I.r (lt_of h2.self) (fun e => hcr e.symm)).trans h2.self
  have hg0c : cv.ownBlock ≠ some g0 := fun e => by have := (h.crow.lt _ e).2; omega
  refine ⟨⟨?_, Or.inl h.fr, ?_, ?_, ?_, fun k hk => Or.inl (h.frg k hk), ?_, fun k hk => Or.inl (h.fm k hk), ?_, ?_⟩, ?_⟩
  · rw [block_setCell hself']; rfl
  · have := ownsRow_setCell_other hrow (a := ⟨I.r, 7, none⟩) (by simp [Value.ownBlock]; exact hgr0) (.slice (some ⟨g, 0, none⟩) (st.chunks.length + 1) cap)
    simpa [Chk.val, zeros] using this
  · intro k hk
    simp only [Value.ownBlock, Option.some.injEq] at hk
    exact Or.inr (Or.inl hk.symm)
  · exact ownsRow_same h2.rrow (fun k hk => keep k (h2.rrow.lt k hk).2 (fun e => row_ne h2.rrow h2.self (by decide) (e ▸ hk)) (rows_ne h2.rrow h2.crow (by decide) k hk))
  · exact ownsRow_same h2.mrow (fun k hk => keep k (h2.mrow.lt k hk).2 (fun e => row_ne h2.mrow h2.self (by decide) (e ▸ hk)) (rows_ne h2.mrow h2.crow (by decide) k hk))
  · intro c hc
    rcases List.mem_append.1 hc with hc | hc
    · obtain ⟨h1, h3⟩ := h2.mem c hc
      refine ⟨(keep _ (lt_of h1) ?_ (row_ne h2.crow h1 (by decide))).trans h1, Or.inl h3⟩
      intro e
      have := h2.self
      rw [← e, h1] at this
      simp at this
    · obtain rfl : c = ⟨g0, zeros V⟩ := by simpa using hc
      exact ⟨(keep g0 hg0l (by omega) hg0c).trans hbr, Or.inr (Or.inr rfl)⟩
  · rw [List.map_append, List.nodup_append]
    refine ⟨h.inj, by simp, fun a ha b hb => ?_⟩
    obtain ⟨c, hc, rfl⟩ := List.mem_map.1 ha
    have := lt_of (h.mem c hc).1
    simp at hb
    omega
  · refine Touch.setCell ?_ (Or.inl h.fr) _
    exact (Touch.refl F w2).grown hgr (fun k hk => Or.inl (h.fc k hk))


theorem take_free {bst : BookSt} {S V : Nat} (hb : bst.budget = 10000000) (ht : bst.total = (S : Int)) (h : S + V ≤ 100000) : takeE bst 10000000 S 0 V = 0 := by
  unfold takeE
  rw [if_neg (by rw [hb, ht]; omega)]

set_option maxHeartbeats 4000000 in
set_option maxRecDepth 100000 in
theorem arGrow_any (I : ArId) (st : ArSt) (bst : BookSt) (F G : Nat → Prop) (n : Nat) (w : World) (h : AB w I st bst F G) (hn : n ≤ 100000) :
    Calls Try.prog 42 #[.pointer (some ⟨I.r, 0, none⟩), .int .i64 n] w (GrowPost I st F G n w) := by
  obtain ⟨i0, hi0, hz0, hz1, hz2⟩ := info_parts infoChunk
  obtain ⟨cv, rv, mv, hm⟩ := h.ar
  have AB0 := Lib.hid h
  have HM := Lib.hid hm
  obtain ⟨ca, cc, hcv, g1, g2, hc⟩ := hm.chks
  subst hcv
  have S0 := hm.self
  have rlt := lt_of S0
  have c63 := h.cok.1
  obtain ⟨s1, s2⟩ := h.sz
  have c7 : w.cell? ⟨I.r, 7, none⟩ = some (.slice ca st.chunks.length cc) := by rw [cell_of S0]; rfl
  have c2 : w.cell? ⟨I.r, 2, none⟩ = some (.int .i64 I.k) := by rw [cell_of S0]; rfl
  have c3 : w.cell? ⟨I.r, 3, none⟩ = some (.int .i64 I.s) := by rw [cell_of S0]; rfl
  have c4 : w.cell? ⟨I.r, 4, none⟩ = some (.int .i64 I.m) := by rw [cell_of S0]; rfl
  have c5 : w.cell? ⟨I.r, 5, none⟩ = some (.int .i64 I.sz) := by rw [cell_of S0]; rfl
  clear hc hm S0
  obtain ⟨r, bp, o, k, s, m, sz⟩ := I
  obtain rfl : o = 1 := h.own
  have hpol : polErr k s m = 0 := h.pol
  have HP := Lib.hid hpol
  have hroom := h.room
  dsimp only at *
  generalize hN : st.chunks.length = N at *
  by_cases h200 : N = 200
  · subst h200
    clear h hpol
    go_enter Try.func42, Try.ntmps42
    go_wp2_with fail
    go_ret
    exact Or.inl ⟨4, by simp, rfl, ABPost.of_below AB0.out (Below.refl _ _)⟩
  · have hN2 : ¬ ((N : Int) = 200) := by omega
    clear h hpol
    obtain ⟨need, hneed⟩ : ∃ need : Nat, (need = n ∧ sz < need) ∨ (sz = (need : Int) ∧ need = n) ∨ (sz = (need : Int) ∧ (n : Int) < need) := by
      by_cases hs : sz < n
      · exact ⟨n, Or.inl ⟨rfl, hs⟩⟩
      · by_cases hs2 : sz = n
        · exact ⟨n, Or.inr (Or.inl ⟨hs2, rfl⟩)⟩
        · exact ⟨sz.toNat, Or.inr (Or.inr ⟨by omega, by omega⟩)⟩
    have hnd : n ≤ need ∧ need ≤ 100000 := by rcases hneed with ⟨rfl, _⟩ | ⟨rfl, rfl⟩ | ⟨rfl, _⟩ <;> omega
    have HND := Lib.hid hnd
    have GV : Hid (growE k s m 0 need = 0 → (need : Int) ≤ growV k s m 0 need ∧ 0 ≤ growV k s m 0 need ∧ growV k s m 0 need ≤ 100000) := Lib.hid (fun he => growV_new k s m 0 need HP.out (by omega) hnd.2 he)
    have RM := Lib.hid (fun (w' : World) (hb : Below w.heap.size w w') => arRoom_any _ F st _ rv mv w' (HM.out.below hb) AB0.out.cok)
    clear hnd
    rcases hneed with ⟨rfl, hsn⟩ | ⟨rfl, rfl⟩ | ⟨rfl, hsn⟩
    all_goals
      go_enter Try.func42, Try.ntmps42
      go_wp2_with fail
      refine wp_region_mid 10 _ (by kernel_rfl) (by kernel_rfl) rfl ?_
      simp only [List.take_succ_cons, List.take_zero, List.drop_succ_cons, List.drop_zero]
      repeat (go_big_quiet_step (fail))
      refine wpQuiet_nil ?_
      intro _ hw'
      obtain ⟨nq1, rfl⟩ := hw'
      intro K hK
      go_simp
      refine (grow_any _ _ _ _ _ _).mono ?_
      rintro e w2 ⟨rfl, hb2⟩
      have B2 : Hid (∀ q, Below w.heap.size w (w2.drewN q)) := Lib.hid (fun q => bdrewN ((bdrewN (Below.refl w.heap.size w) nq1).trans hb2) q)
      clear hb2
      go_simp
      refine hK _ _ ?_
      clear hK K
      repeat (go_big_quiet_step (fail))
      refine wpQuiet_nil ?_
      intro _ hw'
      obtain ⟨nq3, rfl⟩ := hw'
      have BB := Lib.hid (B2.out nq3)
      clear B2
      generalize w2.drewN nq3 = w2 at *
      generalize hV : growV k s m 0 need = V at *
      generalize hE : growE k s m 0 need = E at *
      by_cases e0 : E = 0
      case neg =>
        have HE0 := Lib.hid e0
        have e0' : (E == 0) = false := by simpa using e0
        clear e0
        go_wp2_with fail
        go_ret
        exact Or.inl ⟨E, HE0.out, rfl, ABPost.of_below AB0.out BB.out⟩
      case pos =>
        subst e0
        obtain ⟨v1, v2, v3⟩ := GV.out rfl
        obtain ⟨Vn, rfl⟩ : ∃ Vn : Nat, V = (Vn : Int) := ⟨V.toNat, by omega⟩
        have RM2 := Lib.hid (RM.out w2 BB.out)
        have hS0 : sumN Chk.len st.chunks ≤ 100000 := hroom
        generalize hS : sumN Chk.len st.chunks = S at *
        by_cases hbig : (100000 : Int) < (S : Int) + Vn
        · go_wp2_with fail
          refine RM2.out.mono ?_
          rintro e w4 ⟨rfl, rfl⟩
          go_wp2_with fail
          go_ret
          exact Or.inl ⟨4, by simp, rfl, ABPost.of_below AB0.out BB.out⟩
        · have AB2 := Lib.hid (AB0.out.below BB.out)
          obtain ⟨r2lt⟩ : Nonempty (r < w2.heap.size) := ⟨Nat.lt_of_lt_of_le rlt BB.out.size⟩
          have S2 := (HM.out.below BB.out).self
          have k0 : w2.cell? ⟨r, 0, none⟩ = some (.pointer (some ⟨bp, 0, none⟩)) := by rw [cell_of S2]; rfl
          have k1 : w2.cell? ⟨r, 1, none⟩ = some (.int .i64 1) := by rw [cell_of S2]; rfl
          have TK := Lib.hid (fun q => take_any bp 1 Vn 10000000 S 0 (w2.drewN q) G bst 1 (AB2.out.bk.same (Below.same_on (bdrewN (Below.refl _ _) q))) (by have := AB2.out.acc; rw [hS] at this; exact this) (by omega) (by omega) (by omega) (by omega) (by omega) (by rw [AB2.out.bud]; omega) (by rw [AB2.out.tot, hS]; omega) AB2.out.ent)
          have TE := Lib.hid (take_free (V := Vn) AB2.out.bud (by rw [AB2.out.tot, hS]) (show S + Vn ≤ 100000 by omega))
          clear S2
          go_wp2_with fail
          refine RM2.out.mono ?_
          rintro e w4 ⟨rfl, rfl⟩
          go_upto_region 8 with fail
          refine wp_region_mid 9 _ (by kernel_rfl) (by kernel_rfl) rfl ?_
          simp only [List.take_succ_cons, List.take_zero, List.drop_succ_cons, List.drop_zero]
          repeat (go_big_quiet_step (fail))
          refine wpQuiet_nil ?_
          intro _ hw'
          obtain ⟨nq4, rfl⟩ := hw'
          intro K hK
          go_simp
          refine (TK.out _).mono ?_
          rintro e w3 ⟨rfl, hb3, ht3⟩
          rw [TE.out]
          have P3 : Hid (∀ q, BookAt (w3.drewN q) (fun k => G k ∨ w2.heap.size ≤ k) bp (takeSt bst 1 10000000 S 0 Vn) 1 ∧ Touch G w2 (w3.drewN q)) := Lib.hid (fun q => ⟨hb3.same (Below.same_on (bdrewN (Below.refl _ _) q)), (((Touch.refl G w2).drewN nq4).then ht3).drewN q⟩)
          clear hb3 ht3
          go_simp
          refine hK _ _ ?_
          clear hK K
          repeat (go_big_quiet_step (fail))
          refine wpQuiet_nil ?_
          intro _ hw'
          obtain ⟨nq5, rfl⟩ := hw'
          have PP := Lib.hid (P3.out nq5)
          clear P3
          generalize w3.drewN nq5 = w3 at *
          go_wp2_with fail
          refine (made_any Vn Vn w3).mono ?_
          intro e w5 hp
          rcases hp with ⟨_, rfl, rfl⟩ | ⟨h2, _⟩
          case inr =>
            unfold madeE at h2
            rw [if_pos ⟨by omega, by omega⟩] at h2
            omega
          have e0 : ((Vn : Int)).toNat = Vn := Int.toNat_natCast Vn
          rw [e0]
          have G5 : byteRow (w3.alloc (.cells ((zeros Vn).map (Value.int .u8)).toArray 5)) w3.heap.size (zeros Vn) := heap_alloc_new w3 _
          have T5 : Touch G w2 (w3.alloc (.cells ((zeros Vn).map (Value.int .u8)).toArray 5)) := PP.out.2.alloc _
          have B5 : BookAt (w3.alloc (.cells ((zeros Vn).map (Value.int .u8)).toArray 5)) (fun k => (G k ∨ w2.heap.size ≤ k) ∧ k < w3.heap.size) bp (takeSt bst 1 10000000 S 0 Vn) 1 := PP.out.1.narrow.same (fun k hk _ => heap_alloc_old _ _ hk.2)
          have hs32 : w2.heap.size ≤ w3.heap.size := PP.out.2.size
          have hs5 : w3.heap.size < (w3.alloc (.cells ((zeros Vn).map (Value.int .u8)).toArray 5)).heap.size := by simp
          have T0 : Touch (fun k => ¬ F k) w (w3.alloc (.cells ((zeros Vn).map (Value.int .u8)).toArray 5)) := ((Touch.of_below (F := fun k => ¬ F k) BB.out).then (T5.mono (fun k hk x => AB0.out.dis k x hk)))
          have hs2 := BB.out.size
          have HG5 := Lib.hid G5
          have HT5 := Lib.hid T5
          have HB5 := Lib.hid B5
          have HT0 := Lib.hid T0
          clear G5 T5 B5 T0 PP
          generalize w3.alloc (.cells ((zeros Vn).map (Value.int .u8)).toArray 5) = w5 at *
          generalize w3.heap.size = g0 at *
          have M5 := HM.out.same (HT0.out.same (fun k hk _ x => x hk))
          have k7 : w5.cell? ⟨r, 7, none⟩ = some (.slice ca N cc) := by rw [cell_of M5.self]; rfl
          have r5lt := lt_of M5.self
          have C5 := M5.crow

          rw [hN] at C5
          have hcr : (Value.slice ca N cc).ownBlock ≠ some r := row_ne M5.crow M5.self (by decide)
          have HC5 := Lib.hid C5
          have HM5 := Lib.hid M5
          clear C5 M5 k0 k1
          go_wp2_with (at_builtin; go_must (refine wpList_append_place rfl (.tmp 61) (.tmp 63) 81 rfl 0 46 i0 (.slice none 0 0) 1 24 Try.underlying81 hi0 hz0 hz1 hz2 rfl (by decide) _ _ _ w5 _ [.slice (some ⟨g0, 0, none⟩) Vn Vn] rfl (by exact HC5.out) rfl rfl (by intro u hu; simp at hu; subst hu; rfl) (by unfold maxLen; omega) (by omega) (by omega) ?_))
          intro g cap w' hrow hgr hpl hsz
          have hr' := (hgr.block r r5lt (fun e => hcr e.symm)).trans HM5.out.self
          have d7 : w'.cell? ⟨r, 7, none⟩ = some (.slice ca N cc) := by rw [cell_of hr']; rfl
          have f7 : w'.frozen? ⟨r, 7, none⟩ = false := free_of hr' 7
          have HROW := Lib.hid hrow
          have HGR := Lib.hid hgr
          have HPL := Lib.hid hpl
          clear hrow hgr hpl hr'
          go_wp2_with fail
          go_ret
          rw [← hN] at HROW
          obtain ⟨h1, h2⟩ := chunk_mem HM.out g0 Vn g cap HT0.out (by omega) HG5.out HROW.out HGR.out HPL.out
          rw [hN] at h1 h2
          have hs' : w5.heap.size ≤ (w'.setCell ⟨r, 7, none⟩ (.slice (some ⟨g, 0, none⟩) (N + 1) cap)).heap.size := h2.size
          refine Or.inr ⟨rfl, g0, Vn, by omega, by omega, ?_⟩
          have hgw : g < (w'.setCell ⟨r, 7, none⟩ (.slice (some ⟨g, 0, none⟩) (N + 1) cap)).heap.size := (h1.crow.lt g rfl).2
          have hgo : F g ∨ w5.heap.size ≤ g := HPL.out.imp (HM.out.fc g) id
          have GST : takeSt bst 1 10000000 S 0 Vn = { heldSt bst 1 10000000 S 0 Vn with entries := trimE (bst.entries ++ [holdEnt 1 Vn]) } := by unfold takeSt; rw [if_pos TE.out]
          have hdis : ∀ k, (F k ∨ k = g ∨ k = g0) → ¬ ((G k ∨ w2.heap.size ≤ k) ∧ k < g0) := by
            rintro k hk ⟨h3, h4⟩
            rcases hk with hk | rfl | rfl
            · rcases h3 with h3 | h3
              · exact AB0.out.dis k hk h3
              · have := AB0.out.fl k hk; omega
            · rcases hgo with hk | hk
              · rcases h3 with h3 | h3
                · exact AB0.out.dis _ hk h3
                · have := AB0.out.fl _ hk; omega
              · omega
            · omega
          have hbk : BookAt (w'.setCell ⟨r, 7, none⟩ (.slice (some ⟨g, 0, none⟩) (N + 1) cap)) (fun k => (G k ∨ w2.heap.size ≤ k) ∧ k < g0) bp (takeSt bst 1 10000000 S 0 Vn) 1 :=
            HB5.out.same (h2.same (fun k hk _ x => hdis k (Or.inl x) hk))
          rw [GST] at hbk
          have hsum : sumN Chk.len (st.chunks ++ [⟨g0, zeros Vn⟩]) = S + Vn := by rw [sumN_app, hS]; simp [sumN, Chk.len, zeros]
          refine ⟨_, _, _, ⟨⟨_, _, _, h1⟩, hbk, hdis, ?_, ?_, rfl, HP.out, ⟨s1, s2⟩, ?_, AB0.out.bud, ?_, ?_, AB0.out.rok, ?_, ?_, ?_⟩, ?_, ?_, ?_⟩
          · rintro k (hk | rfl | rfl)
            · have := AB0.out.fl k hk; omega
            · exact hgw
            · omega
          · rintro k ⟨_, hk⟩; omega
          · rw [hsum]; simp [heldSt]
          · rw [hsum]; simp [heldSt, AB0.out.tot, hS]
          · exact trimE_len _ (by have := AB0.out.ent; simp; omega)
          · refine ⟨by rw [List.length_append, hN]; simp; omega, fun c hc => ?_⟩
            rcases List.mem_append.1 hc with hc | hc
            · exact AB0.out.cok.2 c hc
            · obtain rfl : c = ⟨g0, zeros Vn⟩ := by simpa using hc
              simp [zeros]; omega
          · intro x hx
            obtain ⟨q1, q2⟩ := AB0.out.fit x hx
            refine ⟨by rw [List.length_append]; omega, ?_⟩
            rw [List.getD_eq_getElem?_getD, List.getElem?_append_left q1, ← List.getD_eq_getElem?_getD]
            exact q2
          · rw [hsum]; omega
          · rintro k (hk | rfl | rfl)
            · exact Or.inl hk
            · exact hgo.imp id (fun x => by omega)
            · exact Or.inr (by omega)
          · rintro k ⟨hk, _⟩
            exact hk.imp id (fun x => by omega)
          · exact (((Touch.of_below BB.out).then (HT5.out.mono (fun k hk => Or.inr hk))).then (h2.mono (fun k hk => Or.inl hk)))

end Go.Proofs.Ytfolidedcejafaa
