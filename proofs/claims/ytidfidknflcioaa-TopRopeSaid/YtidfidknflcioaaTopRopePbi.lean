/-
  remove of a rope: what it gives. Conditions: numbers in their bounds.
-/
import Derived.Test.YtidfidknflcioaaTopRopePad
import Derived.Test.YtidfidknflcioaaTopRopePbh
namespace Go.Proofs.Ytidfidknflcioaa
open Go.RowKit
set_option linter.unusedVariables false

theorem delX_no {f t st : Nat} {x : Lc} (h : ¬ f - st < min (t - st) x.1.length) : delX f t st x = x := by unfold delX; rw [if_neg h]
theorem delX_yes {f t st : Nat} {x : Lc} (h : f - st < min (t - st) x.1.length) : delX f t st x = (x.1.take (f - st) ++ x.1.drop (min (t - st) x.1.length), x.2) := by unfold delX; rw [if_pos h]
theorem lc_len {x : Lm} (h : x.ok) : x.lc.1.length = x.n := by
  unfold Lm.lc
  simp only [List.length_take]
  have := h.1
  omega

theorem map_szC {L : List Lm} (h : ∀ x ∈ L, x.ok) : (L.map Lm.lc).map szC = L.map Lm.sz := by
  rw [List.map_map]
  exact List.map_congr_left (fun x hx => Lm.sz_lc (h x hx))
theorem delA_start (f t : Nat) {L : List Lm} (h : ∀ x ∈ L, x.ok) (hs : SzOk (L.map Lm.sz)) (k : Nat) (hk : k ≤ L.length) : (delA f t ((L.map Lm.lc).take k)).2.1 = (totS ((L.map Lm.sz).take k)).1 ∧ -1 ≤ (delA f t ((L.map Lm.lc).take k)).2.2 ∧ (delA f t ((L.map Lm.lc).take k)).2.2 ≤ k := by
  have h1 := delA_sz f t ((L.map Lm.lc).take k)
  have h2 := rmA_ok f t (L.map Lm.sz) hs k (by rw [List.length_map]; exact hk)
  rw [List.map_take, map_szC h] at h1
  have h3 := congrArg Prod.snd h1
  simp only at h3
  rw [h3]
  refine ⟨h2.start, h2.a.1, ?_⟩
  have := h2.a.2
  rw [List.length_take, List.length_map] at this
  omega

def RemPost (I : RopI) (L : List Lm) (F : Nat → Prop) (f t : Nat) (w : World) : Ending → World → Prop := fun e w' =>
  e = .returned (.tuple #[]) ∧ ∃ F' lv' L', RopeMem w' F' I L' lv' ∧ L'.map Lm.lc = delC I.p (L.map Lm.lc) f t ∧ (∀ k, F' k → F k ∨ w.heap.size ≤ k) ∧ (∀ k, F' k → k < w'.heap.size) ∧ Touch F w w' ∧ ∀ x ∈ L', 1 ≤ x.n ∧ x.n ≤ I.p.leaf
/-- The rope with the leaves that are kept. -/
theorem DelAt.done {w wr : World} {F : Nat → Prop} {I : RopI} {L : List Lm} {lv : Value} {b4 b5 f t : Nat} {kv : Value} {K : List Lm} (h : DelAt w wr F I L lv b4 b5 f t L.length kv K) (hm : RopeMem w F I L lv) :
    RopeMem (wr.setCell ⟨I.r, 7, none⟩ kv) (fun k => F k ∨ kv.ownBlock = some k) I K kv ∧ Touch F w (wr.setCell ⟨I.r, 7, none⟩ kv) ∧ wr.heap[I.r]? = some (.cells #[.pointer (some ⟨I.bp, 0, none⟩), .int .i64 I.o, .int .i64 I.p.k, .int .i64 I.p.s, .int .i64 I.p.m, .int .i64 (I.p.leaf : Int), .bool false, lv, .slice none 0 0] 69 (0, 0)) := by
  have hs := h.self.trans hm.self
  have off : ∀ k, k ≠ I.r → (wr.setCell ⟨I.r, 7, none⟩ kv).heap[k]? = wr.heap[k]? := fun k hk => Below.heap_setCell _ _ _ _ hk
  refine ⟨⟨?_, ownsRow_same (row_low h.row (Nat.zero_le _)) (fun k hk => off k (fun e => ?_)), fun y hy => ?_, ?_, Or.inl hm.fr, fun k hk => Or.inr hk⟩, h.tou.setCell (p := ⟨I.r, 7, none⟩) (Or.inl hm.fr) _, hs⟩
  · rw [block_setCell hs]; rfl
  · have h1 := (h.row.lt k hk).1
    have h2 := lt_of hm.self
    omega
  · obtain ⟨h1, h2, h3, _⟩ := h.mem y hy
    refine ⟨(off _ (fun e => ?_)).trans h1, h2, Or.inl h3⟩
    have h1' : wr.heap[y.g]? = _ := h1
    rw [e, hs] at h1'
    simp at h1'
  · have := h.sub
    rw [List.take_length] at this
    exact this.nodup hm.inj

theorem cell_sameB {w W : World} {b : Nat} (h : W.heap[b]? = w.heap[b]?) (o : Nat) : W.cell? ⟨b, o, none⟩ = w.cell? ⟨b, o, none⟩ := by
  unfold World.cell?
  simp only [h]
def TwoS (a b : Nat) (w W : World) : Prop := W.heap[a]? = w.heap[a]? ∧ W.heap[b]? = w.heap[b]?
theorem Lm.reads {w : World} {x : Lm} (h : byteRow w x.g x.cs) (ok : x.ok) : Reads w .u8 (.slice (some ⟨x.g, 0, none⟩) x.n x.cs.length) (x.cs.take x.n) := by
  have h1 := ok.1
  have h2 := ok.2.1
  have hl : (x.cs.take x.n).length = x.n := by rw [List.length_take]; omega
  refine ⟨_, _, by rw [hl], by omega, fun _ => ⟨x.g, 0, rfl, fun j hj => ?_⟩⟩
  rw [hl] at hj
  rw [Nat.zero_add, h.cell j (by omega)]
  simp [List.getD_eq_getElem?_getD, hj]
/-- A leaf becomes another one. -/
theorem RopeMem.setLeaf {w w5 : World} {F : Nat → Prop} {I : RopI} {K : List Lm} {gk n c A : Nat} {x z : Lm} (hm : RopeMem w F I K (.slice (some ⟨gk, 0, none⟩) n c)) (hx : K[A]? = some x) (ht : Touch (fun k => k = x.g) w w5) (hz : byteRow w5 z.g z.cs) (hok : z.ok) (hg : z.g = x.g ∨ w.heap.size ≤ z.g) :
    RopeMem (w5.setCell ⟨gk, A, none⟩ z.val) (fun k => F k ∨ k = z.g) I (K.set A z) (.slice (some ⟨gk, 0, none⟩) n c) ∧ Touch F w (w5.setCell ⟨gk, A, none⟩ z.val) ∧ w5.heap[I.r]? = w.heap[I.r]? ∧ w5.ownsRow 0 32 1 (.slice (some ⟨gk, 0, none⟩) n c) K.length (K.map Lm.val) := by
  have hA := (List.getElem?_eq_some_iff.1 hx).1
  have mx := hm.mem x (List.mem_of_getElem? hx)
  have xr : w.heap[x.g]? = _ := mx.1
  have hn : n = K.length := by
    obtain ⟨a, c', e⟩ := wrow_sh hm.row
    simp only [Value.slice.injEq] at e
    exact e.2.1
  subst hn
  have ty : ∀ (i : Nat) cs tt, w.heap[i]? = some (.cells cs tt (0, 0)) → tt ≠ 5 → w5.heap[i]? = some (.cells cs tt (0, 0)) := fun i cs tt hi hne =>
    (ht.block i (lt_of hi) (fun e => by
      rw [e, xr] at hi
      simp only [Option.some.injEq, Obj.cells.injEq] at hi
      exact hne hi.2.1.symm)).trans hi
  have hself := ty _ _ _ hm.self (by decide)
  obtain ⟨cur, hcur⟩ := row_block hm.row (k := gk) rfl
  have hrow5 : w5.ownsRow 0 32 1 (.slice (some ⟨gk, 0, none⟩) K.length c) K.length (K.map Lm.val) := ownsRow_same hm.row (fun k hk => by
    obtain ⟨cu, hc⟩ := row_block hm.row hk
    rw [ty _ _ _ hc (by decide), hc])
  have gkr : I.r ≠ gk := fun e => by
    have h1 := hm.self
    rw [e, hcur] at h1
    simp at h1
  have byt : ∀ (g : Nat) cs, byteRow w5 g cs → byteRow (w5.setCell ⟨gk, A, none⟩ z.val) g cs := fun g cs hr => by
    refine (Below.heap_setCell _ _ _ _ (fun e => ?_)).trans hr
    have e : g = gk := e
    have h5 := ty _ _ _ hcur (by decide)
    have hr' : w5.heap[g]? = _ := hr
    rw [e, h5] at hr'
    simp at hr'
  have inj := hm.inj
  have split : K.map Lm.g = (K.take A).map Lm.g ++ x.g :: (K.drop (A + 1)).map Lm.g := by
    conv => lhs; rw [← List.take_append_drop A K]
    rw [List.map_append, List.drop_eq_getElem_cons hA]
    have := (List.getElem?_eq_some_iff.1 hx).2
    rw [this, List.map_cons]
  have setsp : K.set A z = K.take A ++ z :: K.drop (A + 1) := by rw [List.set_eq_take_append_cons_drop, if_pos hA]
  refine ⟨⟨?_, ?_, ?_, ?_, Or.inl hm.fr, fun k hk => Or.inl (hm.frow k hk)⟩, ?_, hself.trans hm.self.symm, hrow5⟩
  · exact (Below.heap_setCell _ _ _ _ gkr).trans hself
  · rw [List.length_set, List.map_set]
    exact wrow_set hrow5 A z.val
  · intro y hy
    rw [setsp] at hy
    rw [split, List.nodup_append] at inj
    obtain ⟨n1, n2, n3⟩ := inj
    have old : ∀ y, y ∈ K → y.g ≠ x.g → byteRow (w5.setCell ⟨gk, A, none⟩ z.val) y.g y.cs ∧ y.ok ∧ (F y.g ∨ y.g = z.g) := fun y hy hne => by
      obtain ⟨h1, h2, h3⟩ := hm.mem y hy
      exact ⟨byt _ _ ((ht.block _ (lt_of h1) hne).trans h1), h2, Or.inl h3⟩
    rcases List.mem_append.1 hy with hy | hy
    · exact old y (List.mem_of_mem_take hy) (n3 _ (List.mem_map_of_mem hy) _ (by simp))
    · rcases List.mem_cons.1 hy with rfl | hy
      · exact ⟨byt _ _ hz, hok, Or.inr rfl⟩
      · exact old y (List.mem_of_mem_drop hy) (fun e => (List.nodup_cons.1 n2).1 (e ▸ List.mem_map_of_mem hy))
  · rw [setsp, List.map_append, List.map_cons]
    rcases hg with e | e
    · rw [e, ← split]; exact inj
    · rw [split, List.nodup_append] at inj
      obtain ⟨n1, n2, n3⟩ := inj
      have fresh : ∀ y ∈ K, y.g ≠ z.g := fun y hy e2 => by
        have := lt_of (hm.mem y hy).1
        omega
      rw [List.nodup_append]
      refine ⟨n1, List.nodup_cons.2 ⟨fun hin => ?_, (List.nodup_cons.1 n2).2⟩, fun a ha b hb => ?_⟩
      · obtain ⟨y, hy, e2⟩ := List.mem_map.1 hin
        exact fresh y (List.mem_of_mem_drop hy) e2
      · obtain ⟨y, hy, rfl⟩ := List.mem_map.1 ha
        rcases List.mem_cons.1 hb with rfl | hb
        · exact fresh y (List.mem_of_mem_take hy)
        · exact n3 _ (List.mem_map_of_mem hy) _ (List.mem_cons_of_mem _ hb)
  · exact (ht.trans (Touch.refl (fun k => False) _) (fun i hi => hi.elim)).mono (fun i hi => hi ▸ mx.2.2) |>.setCell (p := ⟨gk, A, none⟩) (Or.inl (hm.frow gk rfl)) _
/-- A leaf is struck. -/
theorem RopeMem.strike {w w' : World} {F : Nat → Prop} {I : RopI} {K : List Lm} {gk n c i m : Nat} (hm : RopeMem w F I K (.slice (some ⟨gk, 0, none⟩) n c)) (ht : Touch (fun k => k = gk) w w') (hm' : m = (K.eraseIdx i).length)
    (hr : w'.ownsRow 0 32 1 (.slice (some ⟨gk, 0, none⟩) m c) m ((K.eraseIdx i).map Lm.val)) :
    RopeMem (w'.setCell ⟨I.r, 7, none⟩ (.slice (some ⟨gk, 0, none⟩) m c)) F I (K.eraseIdx i) (.slice (some ⟨gk, 0, none⟩) m c) ∧ Touch F w (w'.setCell ⟨I.r, 7, none⟩ (.slice (some ⟨gk, 0, none⟩) m c)) ∧ w'.heap[I.r]? = w.heap[I.r]? := by
  subst hm'
  obtain ⟨cur, hcur⟩ := row_block hm.row (k := gk) rfl
  have gkr : I.r ≠ gk := fun e => by
    have h1 := hm.self
    rw [e, hcur] at h1
    simp at h1
  have hself := (ht.block I.r (lt_of hm.self) gkr).trans hm.self
  refine ⟨⟨?_, ?_, ?_, ?_, hm.fr, fun k hk => hm.frow k hk⟩, ?_, ht.block I.r (lt_of hm.self) gkr⟩
  · rw [block_setCell hself]; rfl
  · refine ownsRow_same hr (fun k hk => Below.heap_setCell _ _ _ _ (fun e => ?_))
    have e : k = I.r := e
    have hk' : gk = k := Option.some.inj hk
    exact gkr (e ▸ hk'.symm)
  · intro y hy
    obtain ⟨h1, h2, h3⟩ := hm.mem y (List.mem_of_mem_eraseIdx hy)
    have h1' : w.heap[y.g]? = _ := h1
    refine ⟨(Below.heap_setCell _ _ _ _ (fun e => ?_)).trans ((ht.block _ (lt_of h1) (fun e => ?_)).trans h1), h2, h3⟩
    · have e : y.g = I.r := e
      rw [e, hm.self] at h1'
      simp at h1'
    · rw [e, hcur] at h1'
      simp at h1'
  · rw [map_erase]
    exact hm.inj.sublist (List.eraseIdx_sublist _ _)
  · exact (ht.mono (fun k hk => hk ▸ hm.frow gk rfl)).setCell (p := ⟨I.r, 7, none⟩) (Or.inl hm.fr) _

set_option maxHeartbeats 4000000 in
set_option maxRecDepth 100000 in
theorem removeR_any (I : RopI) (L : List Lm) (lv : Value) (F : Nat → Prop) (f t : Nat) (w : World) (h : RopeOk w F I L lv) (hft : f ≤ t) (htt : t ≤ (totS (L.map Lm.sz)).1) :
    Calls Try.prog 38 #[.pointer (some ⟨I.r, 0, none⟩), .int .i64 (f : Int), .int .i64 (t : Int)] w (RemPost I L F f t w) := by
  obtain ⟨i0, hi0, hz0, hz1, hz2⟩ := info_parts info_row
  have H := Lib.hid h
  have hoct := h.oct
  have hlen := h.len
  obtain ⟨la, lc, rfl⟩ := wrow_sh h.rm.row
  have B2 : Below w.heap.size w ((w.alloc (.cells #[.int .i64 (f : Int)] 3)).alloc (.cells #[.int .i64 (t : Int)] 3)) := ((Below.refl _ w).alloc (Nat.le_refl _) _).alloc (by simp) _
  have k4 : ((w.alloc (.cells #[.int .i64 (f : Int)] 3)).alloc (.cells #[.int .i64 (t : Int)] 3)).heap[w.heap.size]? = some (.cells #[.int .i64 (f : Int)] 3 (0, 0)) := (heap_alloc_old _ _ (by simp)).trans (heap_alloc_new w _)
  have k5 : ((w.alloc (.cells #[.int .i64 (f : Int)] 3)).alloc (.cells #[.int .i64 (t : Int)] 3)).heap[w.heap.size + 1]? = some (.cells #[.int .i64 (t : Int)] 3 (0, 0)) := by
    have e : (w.alloc (.cells #[.int .i64 (f : Int)] 3)).heap.size = w.heap.size + 1 := by simp
    rw [← e]; exact heap_alloc_new _ _
  have c8 := (h.rm.below B2).cells.2.2.2.2.2.2.2.2
  have c7 := (h.rm.below B2).cells.2.2.2.2.2.2.2.1
  have SH := Lib.hid (fun fv => shift_none I.r fv _ c8)
  have D0 : Hid (DelAt w ((w.alloc (.cells #[.int .i64 (f : Int)] 3)).alloc (.cells #[.int .i64 (t : Int)] 3)) F I L (.slice la L.length lc) w.heap.size (w.heap.size + 1) f t 0 (.slice none 0 0) []) := Lib.hid
    ⟨World.ownsRow_nil _ _ _ _, fun y hy => by simp at hy, fun x hx => ((h.rm.below B2).mem x (by simpa using hx)).1, by simp, B2.block _ (lt_of h.rm.self), (h.rm.below B2).row, Touch.of_below B2, k4, k5, Nat.le_refl _⟩
  have e4 : ((w.alloc (.cells #[.int .i64 (f : Int)] 3)).alloc (.cells #[.int .i64 (t : Int)] 3)).cell? ⟨w.heap.size, 0, none⟩ = some (.int .i64 (f : Int)) := by rw [cell_of k4]; rfl
  have e5 : ((w.alloc (.cells #[.int .i64 (f : Int)] 3)).alloc (.cells #[.int .i64 (t : Int)] 3)).cell? ⟨w.heap.size + 1, 0, none⟩ = some (.int .i64 (t : Int)) := by rw [cell_of k5]; rfl
  have RS := Lib.hid (delA_snoc f t (L.map Lm.lc))
  have TL := Lib.hid (totS_take_le (L.map Lm.sz))
  have TN := Lib.hid (totS_take (L.map Lm.sz))
  have hz : w.heap.size + 1 = w.heap.size + 1 := rfl
  have DS := Lib.hid (fun k hk => delA_start f t (fun x hx => (h.rm.mem x hx).2.1) h.szok k hk)
  obtain ⟨b4, hb4⟩ : ∃ b4, w.heap.size = b4 := ⟨_, rfl⟩
  have HB4 := Lib.hid hb4
  have frs := lt_of h.rm.self
  have HRS : Hid (∃ cs, w.heap[I.r]? = some (.cells cs 69 (0, 0))) := Lib.hid ⟨_, h.rm.self⟩
  have HLV : Hid (∀ i, (Value.slice la L.length lc).ownBlock = some i → i < w.heap.size) := Lib.hid (fun i hi => (h.rm.row.lt i hi).2)
  have HB2 := Lib.hid B2
  clear h B2 k4 k5 c8
  go_enter Try.func38, Try.ntmps38
  by_cases h0 : f = t
  · have h0' : (f : Int) = (t : Int) := by omega
    have FIN : Hid (RemPost I L F f t w (.returned (.tuple #[])) ((w.alloc (.cells #[.int .i64 (f : Int)] 3)).alloc (.cells #[.int .i64 (t : Int)] 3))) := Lib.hid ⟨rfl, F, _, L, H.out.rm.below HB2.out, by unfold delC; rw [if_pos h0], fun k hk => Or.inl hk, fun k hk => Nat.lt_of_lt_of_le (H.out.fl k hk) HB2.out.size, Touch.of_below HB2.out, H.out.each⟩
    clear h0
    go_wp2_with fail
    refine bodyPost_ret (results_none rfl _ _ _) rfl ?_
    have h9 := FIN.out
    rw [h0'] at h9
    exact h9
  · have h0' : ((f : Int) == (t : Int)) = false := by simp; omega
    go_wp2_with fail
    refine (SH.out _).mono ?_
    rintro e w1 ⟨rfl, hw1⟩
    obtain rfl := hw1.symm
    clear hw1
    go_upto_region 5 with fail
    rw [hb4] at D0 e4 e5
    generalize (w.alloc (.cells #[.int .i64 (f : Int)] 3)).alloc (.cells #[.int .i64 (t : Int)] 3) = W2 at *
    clear hb4 e4 e5 SH
    go_wp2_with fail
    clear c7
    go_loopw [6, 7, 8, 24] (fun kv s7 s8 i wr => ∃ (k : Nat) (K : List Lm), k ≤ L.length ∧ i = .int .i64 (k : Int) ∧ s7 = .int .i64 ((delA f t ((L.map Lm.lc).take k)).2.1 : Nat) ∧ s8 = .int .i64 (delA f t ((L.map Lm.lc).take k)).2.2 ∧ K.map Lm.lc = (delA f t ((L.map Lm.lc).take k)).1 ∧ DelAt w wr F I L (.slice la L.length lc) b4 (b4 + 1) f t k kv K) (fun _ _ _ i _ => L.length - (intOf i).toNat)
    case atStart => exact ⟨0, [], Nat.zero_le _, rfl, rfl, rfl, rfl, D0.out⟩
    case round =>
      obtain ⟨k, K, hk, rfl, rfl, rfl, hKc, hd⟩ := hrel
      have HD := Lib.hid hd
      have HKC := Lib.hid hKc
      clear hd hKc D0
      by_cases hlt : k < L.length
      · as_aux_lemma =>
          obtain ⟨x, hx⟩ : ∃ x, L[k]? = some x := ⟨_, List.getElem?_eq_getElem hlt⟩
          have HX := Lib.hid hx
          obtain ⟨gl, rfl, dx, _⟩ := wrow_cell HD.out.lrow (j := k) (u := x.val) (by rw [List.getElem?_map, hx]; rfl)
          have hmem := H.out.rm.mem x (List.mem_of_getElem? hx)
          have each := H.out.each x (List.mem_of_getElem? hx)
          have xr : byteRow wr x.g x.cs := HD.out.rest x (by
            rw [List.drop_eq_getElem_cons hlt]
            have := (List.getElem?_eq_some_iff.1 hx).2
            rw [this]; exact List.mem_cons_self)
          have XR := Lib.hid xr
          have XM := Lib.hid hmem
          have ds := DS.out k hk
          have tl := TL.out k
          have rs := RS.out k x.lc (by rw [List.getElem?_map, hx]; rfl)
          have xlen := lc_len hmem.2.1
          have e4 : wr.cell? ⟨b4, 0, none⟩ = some (.int .i64 (f : Int)) := by rw [cell_of HD.out.x4]; rfl
          have e5 : wr.cell? ⟨b4 + 1, 0, none⟩ = some (.int .i64 (t : Int)) := by rw [cell_of HD.out.x5]; rfl
          obtain ⟨⟨out, st, a⟩, hS⟩ : ∃ S, delA f t ((L.map Lm.lc).take k) = S := ⟨_, rfl⟩
          rw [hS] at ds rs HKC ⊢
          simp only at ds HKC ⊢
          have hst : st ≤ 50000 := by omega
          have hkl := HD.out.lk
          have xok := hmem.2.1
          obtain ⟨xn1, xn2⟩ := each
          have xc1 := xok.1
          have xc2 := xok.2.1
          have RN := Lib.hid rs
          unfold delF at RN
          simp only at RN
          rw [xlen] at RN
          have XLEN := Lib.hid xlen
          obtain ⟨ka, kc, rfl⟩ := wrow_sh HD.out.row
          obtain ⟨dsa, da1, da2⟩ := ds
          clear dsa
          have hleaf := H.out.pok.leaf
          obtain ⟨cp, hcp⟩ : ∃ cp, x.cs.length = cp := ⟨_, rfl⟩
          obtain ⟨xn, hxn⟩ : ∃ xn, x.n = xn := ⟨_, rfl⟩
          unfold Lm.val at dx
          have XN := Lib.hid (And.intro hxn hcp)
          rw [hxn, hcp] at dx
          rw [hxn] at xn1 xn2 xc1 RN
          rw [hcp] at xc1 xc2
          clear hx hmem xr rs tl xlen hS hxn hcp xok
          go_upto_region 8 with fail
          go_cut [11, 12] (fun s11 s12 wx => s11 = .int .i64 ((f - st : Nat) : Int) ∧ (∃ hi : Int, s12 = .int .i64 hi ∧ hi = min ((t : Int) - st) xn) ∧ ∃ q, wx = wr.drewN q)
          case first =>
            go_quiet (fail)
            try go_wp2_with fail
            all_goals
              go_meet
              exact ⟨congrArg _ (by omega), ⟨_, rfl, by omega⟩, _, rfl⟩
          case rest =>
          obtain ⟨rfl, ⟨hi, rfl, hhi⟩, q, rfl⟩ := hcut
          have HHI := Lib.hid hhi
          have hib : -100000 ≤ hi ∧ hi ≤ 100000 := by omega
          have HD1 := Lib.hid (HD.out.below (bdrewN (Below.refl _ wr) q) (by have := HD.out.tou.size; omega))
          have XR1 : Hid (byteRow (wr.drewN q) x.g x.cs) := Lib.hid XR.out
          have e4' : (wr.drewN q).cell? ⟨b4, 0, none⟩ = some (.int .i64 (f : Int)) := e4
          clear HD XR e4 e5 hhi dx
          generalize wr.drewN q = W3 at *
          have hsl := hkl
          go_upto_if 40 with fail
          go_cut [8] (fun s8 wx => s8 = .int .i64 (if st < f then (out.length : Int) else a) ∧ wx = W3)
          case first =>
            have KL : Hid (K.length = out.length) := Lib.hid (by have := congrArg List.length HKC.out; rw [List.length_map] at this; exact this)
            by_cases hsf : st < f
            · have hsf' : (st : Int) < (f : Int) := by omega
              go_wp2_with fail
              go_meet
              exact ⟨by rw [if_pos hsf, KL.out], rfl⟩
            · have hsf' : ¬ (st : Int) < (f : Int) := by omega
              go_wp2_with fail
              go_meet
              exact ⟨by rw [if_neg hsf], rfl⟩
          case rest =>
          obtain ⟨rfl, hwc⟩ := hcut
          obtain rfl := hwc.symm
          clear hwc e4'
          obtain ⟨a', ha'⟩ : ∃ a', (if st < f then (out.length : Int) else a) = a' := ⟨_, rfl⟩
          rw [ha'] at RN ⊢
          have DA := Lib.hid ha'
          clear ha'
          go_upto_if 49 with fail
          go_cut [10] (fun s10 wx => ∃ y : Lm, s10 = y.val ∧ y.g = x.g ∧ y.ok ∧ y.lc = delX f t st x.lc ∧ y.n ≤ xn ∧ DelAt w wx F I L (.slice (some ⟨gl, 0, none⟩) L.length lc) b4 (b4 + 1) f t (k + 1) (.slice ka K.length kc) K ∧ byteRow wx y.g y.cs)
          case first =>
            have tch := Lib.hid (fun (W' : World) (hT : Touch (fun k => k = x.g) W3 W') => HD1.out.touch HX.out H.out.rm.inj XM.out.2.2 HRS.out hT XR1.out)
            by_cases hlh : ((f - st : Nat) : Int) < hi
            · obtain ⟨hn, rfl⟩ := Int.eq_ofNat_of_zero_le (show 0 ≤ hi by omega)
              have hh := HHI.out
              have hlh' : f - st < hn := by omega
              have hhx : hn ≤ xn := by omega
              have hhe : Hid (hn = min (t - st) xn) := Lib.hid (by omega)
              have xcl : x.cs.length = cp := XN.out.2
              have RM := Lib.hid (removeB_any x.g x.cs xn cp (f - st) hn W3 XR1.out xcl xc2 xc1 (by omega) hhx XM.out.2.1.2.2)
              clear hh xcl
              go_wp2_with fail
              refine RM.out.mono ?_
              rintro e W4 ⟨ds, rfl, hrow, hdl, hdb, hdt, hT⟩
              have FIN : Hid (∃ y : Lm, (.slice (some ⟨x.g, 0, none⟩) (xn - (hn - (f - st))) cp : Value) = y.val ∧ y.g = x.g ∧ y.ok ∧ y.lc = delX f t st x.lc ∧ y.n ≤ xn ∧ DelAt w W4 F I L (.slice (some ⟨gl, 0, none⟩) L.length lc) b4 (b4 + 1) f t (k + 1) (.slice ka K.length kc) K ∧ byteRow W4 y.g y.cs) := Lib.hid
                ⟨⟨x.g, ds, xn - (hn - (f - st))⟩, by unfold Lm.val; simp only [hdl], rfl, ⟨by show xn - (hn - (f - st)) ≤ ds.length; omega, by show ds.length ≤ _; omega, hdb⟩, by
                  rw [delX_yes (by rw [XLEN.out, XN.out.1, ← hhe.out]; exact hlh')]
                  unfold Lm.lc
                  simp only
                  rw [hdt, hdl, XN.out.1, XN.out.2, List.length_take, XN.out.2, List.take_take]
                  have e1 : min (t - st) (min xn cp) = hn := by have := hhe.out; omega
                  have e2 : min (f - st) xn = f - st := by omega
                  rw [e1, e2], by show xn - (hn - (f - st)) ≤ xn; omega, tch.out W4 hT, hrow⟩
              clear hrow hdl hdb hdt hT RM
              go_wp2_with fail
              go_meet
              exact FIN.out
            · have hlh' : ¬ f - st < min (t - st) xn := by have := HHI.out; omega
              have FIN : Hid (∃ y : Lm, (.slice (some ⟨x.g, 0, none⟩) xn cp : Value) = y.val ∧ y.g = x.g ∧ y.ok ∧ y.lc = delX f t st x.lc ∧ y.n ≤ xn ∧ DelAt w W3 F I L (.slice (some ⟨gl, 0, none⟩) L.length lc) b4 (b4 + 1) f t (k + 1) (.slice ka K.length kc) K ∧ byteRow W3 y.g y.cs) := Lib.hid
                ⟨x, by unfold Lm.val; rw [XN.out.1, XN.out.2], rfl, XM.out.2.1, by rw [delX_no (by rw [XLEN.out, XN.out.1]; exact hlh')], by rw [XN.out.1]; exact Nat.le_refl _, tch.out W3 (Touch.refl _ _), XR1.out⟩
              go_wp2_with fail
              go_meet
              exact FIN.out
          case rest =>
          obtain ⟨y, rfl, hyg, hyok, hylc, hyn, hD4, hyr⟩ := hcut
          have YL : Hid ((delX f t st x.lc).1.length = y.n) := Lib.hid (by rw [← hylc]; exact lc_len hyok)
          have SUB := Lib.hid HD1.out.sub
          have LKK := Lib.hid HD1.out.lk
          have HD4 := Lib.hid hD4
          have YR := Lib.hid hyr
          have YI := Lib.hid (And.intro hyg (And.intro hyok hylc))
          obtain ⟨yn, hyn'⟩ : ∃ yn, y.n = yn := ⟨_, rfl⟩
          obtain ⟨yc, hyc'⟩ : ∃ yc, y.cs.length = yc := ⟨_, rfl⟩
          have YN := Lib.hid (And.intro hyn' hyc')
          have yc1 : yc ≤ 100000 := by have := hyok.2.1; omega
          have yc2 : yn ≤ yc := by have := hyok.1; omega
          have EV : y.val = .slice (some ⟨y.g, 0, none⟩) yn yc := by unfold Lm.val; rw [hyn', hyc']
          rw [EV]
          have EV' := Lib.hid EV
          clear hyg hyok hylc hD4 hyr hyn' hyc' EV HD1 XR1
          rw [YN.out.1] at hyn
          by_cases hy0 : 0 < yn
          · have hy0' : (0 : Int) < (yn : Int) := by omega
            have hsz4 : w.heap.size ≤ wc.heap.size := HD4.out.tou.size
            go_wp2_with (at_builtin; go_must (refine wpList_append_w rfl (.tmp 60) (.tmp 62) 66 rfl w.heap.size 32 i0 (.slice none 0 0) 1 24 Try.underlying66 hi0 hz0 hz1 hz2 rfl (by decide) _ _ _ wc _ [.slice (some ⟨y.g, 0, none⟩) yn yc] rfl (by exact HD4.out.row) (by rfl) rfl (by intro u hu; simp at hu; subst hu; rfl) (by unfold maxLen; omega) (by omega) hsz4 ?_))
            intro v' W5 hown' hg5 hb5
            rw [← EV'.out] at hown'
            have NEW := Lib.hid (HD4.out.app HX.out YR.out YI.out.1 YI.out.2.1 ⟨by rw [YN.out.1]; exact hy0, by rw [YN.out.1]; exact Nat.le_trans hyn xn2⟩ XM.out.2.2 SUB.out LKK.out HRS.out HLV.out hown' hg5)
            have KC : Hid ((K ++ [y]).map Lm.lc = (delA f t ((L.map Lm.lc).take (k + 1))).1) := Lib.hid (by
              rw [RN.out, List.map_append, List.map_singleton, YI.out.2.2, HKC.out]
              simp only
              rw [if_pos (by rw [YL.out, YN.out.1]; exact hy0)])
            clear hown' hg5 hb5
            go_wp2_with fail
            go_round
            case rel => exact ⟨k + 1, _, by omega, by go_num, by rw [RN.out]; go_num, by rw [RN.out], KC.out, NEW.out⟩
            case measure => simp [intOf]; omega
          · have hy0' : ¬ (0 : Int) < (yn : Int) := by omega
            have KC : Hid (K.map Lm.lc = (delA f t ((L.map Lm.lc).take (k + 1))).1) := Lib.hid (by
              rw [RN.out, HKC.out]
              simp only
              rw [if_neg (by rw [YL.out, YN.out.1]; exact hy0)])
            go_wp2_with fail
            go_round
            case rel => exact ⟨k + 1, _, by omega, by go_num, by rw [RN.out]; go_num, by rw [RN.out], KC.out, HD4.out⟩
            case measure => simp [intOf]; omega
      · obtain rfl : k = L.length := by omega
        as_aux_lemma =>
          have hkc := HKC.out
          have ds := DS.out L.length (Nat.le_refl _)
          rw [List.take_of_length_le (by simp)] at hkc
          rw [List.take_of_length_le (by simp)] at ds
          rw [List.take_of_length_le (by simp)]
          obtain ⟨⟨out, st, a⟩, hS⟩ : ∃ S, delA f t (L.map Lm.lc) = S := ⟨_, rfl⟩
          have DC := Lib.hid (show delC I.p (L.map Lm.lc) f t = joinC I.p out a f by unfold delC; rw [if_neg h0, hS])
          rw [hS] at hkc ds ⊢
          simp only at hkc ds ⊢
          obtain ⟨ds1, ds2, ds3⟩ := ds
          clear ds1
          obtain ⟨hrm, hto, hself⟩ := HD.out.done H.out.rm
          have c7 : wr.cell? ⟨I.r, 7, none⟩ = some (.slice la L.length lc) := by rw [cell_of hself]; rfl
          have f7 : wr.frozen? ⟨I.r, 7, none⟩ = false := free_of hself _
          have HKC2 := Lib.hid hkc
          obtain ⟨ka, kc, rfl⟩ := wrow_sh HD.out.row
          have RM := Lib.hid hrm
          have TO := Lib.hid hto
          have hkl := HD.out.lk
          have KM := Lib.hid HD.out.mem
          have X4 := Lib.hid (show (wr.setCell ⟨I.r, 7, none⟩ (.slice ka K.length kc)).heap[b4]? = _ from (Below.heap_setCell _ _ _ _ (by show b4 ≠ I.r; have := HB4.out; omega)).trans HD.out.x4)
          have KB : Hid (∀ k, (Value.slice ka K.length kc).ownBlock = some k → w.heap.size ≤ k) := Lib.hid (fun k hk => (HD.out.row.lt k hk).1)
          clear hkc hS hrm hto hself hlt hk HD HKC RS TL TN DS
          go_upto_region 18 with fail
          clear c7 f7
          generalize wr.setCell ⟨I.r, 7, none⟩ (.slice ka K.length kc) = W3 at *
          have hleaf := H.out.pok.leaf
          have KOK : ∀ y ∈ K, y.ok := fun y hy => (RM.out.mem y hy).2.1
          have SOK : SzOk (K.map Lm.sz) := ⟨by rw [List.length_map]; omega, fun q hq => by
            obtain ⟨y, hy, rfl⟩ := List.mem_map.1 hq
            have ok := KOK y hy
            exact ⟨by have := ok.1; have := ok.2.1; show y.n ≤ 100000; omega, ok.2.1⟩⟩
          have SC : out.map szC = K.map Lm.sz := by rw [← HKC2.out]; exact map_szC KOK
          have SOK := Lib.hid SOK
          have SC := Lib.hid SC
          have S0 : BelS W3 W3.drew := (Below.refl _ W3).drew
          have x4c : W3.cell? ⟨b4, 0, none⟩ = some (.int .i64 (f : Int)) := by rw [cell_of X4.out]; rfl
          have s4 : ∀ y : WIn (BelS W3), y.w.cell? ⟨b4, 0, none⟩ = some (.int .i64 (f : Int)) := fun y => old_cell y.h x4c
          haveI ne : Nonempty (WIn (BelS W3)) := ⟨⟨W3.drew, S0⟩⟩
          have SZ := Lib.hid (sizes_any I K _ _ W3.drew (RM.out.below S0) (by omega))
          refine wp_normal ?_
          refine wp_region_plan 5 (BelS W3) rfl ?_
          refine wpN_seg [0, 1, 3, 4] (by kernel_rfl) (by kernel_rfl) (by kernel_rfl) (by kernel_rfl) (by decide) (fun _ _ _ _ _ h => h) S0 ?_
          simp only [pick, List.map_cons, List.map_nil, List.getElem?_cons_succ, List.getElem?_cons_zero, Option.getD_some]
          repeat (go_big_quiet_step (fail))
          refine wpQuiet_nil ?_
          clear s4 ne x4c KOK
          refine wpN_one 2 _ (by kernel_rfl) rfl ?_
          refine NextAt.held ?_
          intro K' hK'
          go_simp
          refine SZ.out.mono ?_
          rintro e w3 ⟨v3, rfl, hrow3, hb3⟩
          have B3 : Below W3.heap.size W3 w3 := S0.trans (hb3.mono (by simp))
          have HB3 := Lib.hid B3
          have JO := Lib.hid (joins_any I.r I.p v3 (K.map Lm.sz) a f w3 (RM.out.below B3).par H.out.pok (SzIn.row hrow3) SOK.out (by omega) (by omega))
          clear hb3 hrow3 SZ
          go_simp
          refine hK' _ _ B3 ?_
          clear hK' K' B3
          refine wpN_one 5 _ (by kernel_rfl) rfl ?_
          refine NextAt.free (by kernel_rfl) ?_
          intro K' hK'
          go_simp
          refine JO.out.mono ?_
          rintro e w4 ⟨rfl, hb4'⟩
          have B4 : Below W3.heap.size W3 w4 := HB3.out.trans (hb4'.mono HB3.out.size)
          have RM4 := Lib.hid (RM.out.below B4)
          have TO4 := Lib.hid (TO.out.then (Touch.of_below B4))
          have X44 := Lib.hid ((B4.block b4 (lt_of X4.out)).trans X4.out)
          clear hb4' B4 JO
          go_simp
          refine hK' _ _ ?_
          clear hK' K'
          refine wpN_done (by kernel_rfl) ?_
          have F1L : Hid (∀ k, (F k ∨ (Value.slice ka K.length kc).ownBlock = some k) → k < w4.heap.size) := Lib.hid (fun k hk => by
            rcases hk with hk | hk
            · exact Nat.lt_of_lt_of_le (H.out.fl k hk) TO4.out.size
            · exact (RM4.out.row.lt k hk).2)
          have F1W : Hid (∀ k, (F k ∨ (Value.slice ka K.length kc).ownBlock = some k) → F k ∨ w.heap.size ≤ k) := Lib.hid (fun k hk => hk.imp id (KB.out k))
          clear RM TO X4 HB3 S0
          by_cases hj : joinsS I.p (K.map Lm.sz) a f = true
          · as_aux_lemma =>
              obtain ⟨A, rfl, hA⟩ : ∃ A : Nat, a = (A : Int) ∧ A + 1 < K.length := by
                unfold joinsS at hj
                simp only [Bool.and_eq_true, decide_eq_true_eq, List.length_map] at hj
                exact ⟨a.toNat, by omega, by omega⟩
              obtain ⟨x, hx⟩ : ∃ z, K[A]? = some z := ⟨_, List.getElem?_eq_getElem (by omega)⟩
              obtain ⟨y, hy⟩ : ∃ z, K[A + 1]? = some z := ⟨_, List.getElem?_eq_getElem (by omega)⟩
              have hxs : (K.map Lm.sz)[A]? = some x.sz := by rw [List.getElem?_map, hx]; rfl
              have hys : (K.map Lm.sz)[A + 1]? = some y.sz := by rw [List.getElem?_map, hy]; rfl
              have hsum : x.n + y.n ≤ I.p.leaf / 2 := by
                rw [joinsS_of hxs hys] at hj
                simp only [Bool.and_eq_true, decide_eq_true_eq] at hj
                exact hj.2
              obtain ⟨xr, xok, xF⟩ := RM4.out.mem x (List.mem_of_getElem? hx)
              obtain ⟨yr, yok, yF⟩ := RM4.out.mem y (List.mem_of_getElem? hy)
              obtain ⟨gk, rfl, dx, dxf⟩ := wrow_cell RM4.out.row (j := A) (u := x.val) (by rw [List.getElem?_map, hx]; rfl)
              obtain ⟨_, e', dy, _⟩ := wrow_cell RM4.out.row (j := A + 1) (u := y.val) (by rw [List.getElem?_map, hy]; rfl)
              cases e'
              have gr := H.out.pok.gr (room := x.cs.length) (need := x.n + y.n) xok.2.1 (by omega)
              have AB := Lib.hid (addB_any I.p.k I.p.s I.p.m x.g x.cs x.n x.cs.length (.slice (some ⟨y.g, 0, none⟩) y.n y.cs.length) (y.cs.take y.n) w4.drew H.out.pok.pol xr rfl xok.2.1 xok.1 (Lm.reads (w := w4.drew) yr yok) (fun z hz => yok.2.2 z (List.mem_of_mem_take hz)) xok.2.2 (by
                rw [List.length_take]; omega) (by
                have e : (y.cs.take y.n).length = y.n := by rw [List.length_take]; have := yok.1; omega
                rw [e]; exact gr.1))
              have e9 : (y.cs.take y.n).length = y.n := by rw [List.length_take]; have := yok.1; omega
              rw [e9] at AB
              have S0 : TwoS I.r gk w4 w4.drew := ⟨rfl, rfl⟩
              obtain ⟨c0, c1, c2, c3, c4, c5, c6, c7, c8⟩ := RM4.out.cells
              have s2 : ∀ y : WIn (TwoS I.r gk w4), y.w.cell? ⟨I.r, 2, none⟩ = some (.int .i64 I.p.k) := fun y => (cell_sameB y.h.1 _).trans c2
              have s3 : ∀ y : WIn (TwoS I.r gk w4), y.w.cell? ⟨I.r, 3, none⟩ = some (.int .i64 I.p.s) := fun y => (cell_sameB y.h.1 _).trans c3
              have s4 : ∀ y : WIn (TwoS I.r gk w4), y.w.cell? ⟨I.r, 4, none⟩ = some (.int .i64 I.p.m) := fun y => (cell_sameB y.h.1 _).trans c4
              have s7 : ∀ y : WIn (TwoS I.r gk w4), y.w.cell? ⟨I.r, 7, none⟩ = some (.slice (some ⟨gk, 0, none⟩) K.length kc) := fun y => (cell_sameB y.h.1 _).trans c7
              have sx : ∀ y' : WIn (TwoS I.r gk w4), y'.w.cell? ⟨gk, A, none⟩ = some (.slice (some ⟨x.g, 0, none⟩) x.n x.cs.length) := fun y' => (cell_sameB y'.h.2 _).trans dx
              have sy : ∀ y' : WIn (TwoS I.r gk w4), y'.w.cell? ⟨gk, A + 1, none⟩ = some (.slice (some ⟨y.g, 0, none⟩) y.n y.cs.length) := fun y' => (cell_sameB y'.h.2 _).trans dy
              haveI ne : Nonempty (WIn (TwoS I.r gk w4)) := ⟨⟨w4.drew, S0⟩⟩
              obtain ⟨G, hG⟩ : ∃ G, I.p.gr x.cs.length (x.n + y.n) = G := ⟨_, rfl⟩
              have hG' : (growV I.p.k I.p.s I.p.m (x.cs.length : Int) ((x.n + y.n : Nat) : Int)).toNat = G := hG
              have GG := Lib.hid (And.intro hG (And.intro hG' (And.intro gr.2.2.1 gr.2.2.2.2)))
              rw [hG] at GG
              have HGr := Lib.hid hG
              have HX := Lib.hid (And.intro hx hy)
              have XO := Lib.hid (And.intro xok (And.intro yok (And.intro xr xF)))
              have HJ := Lib.hid hj
              have HSM := Lib.hid (And.intro hsum (And.intro hxs hys))
              have hA2 : A < K.length := by omega
              rw [hj]
              have SC8 := Lib.hid dx
              have SF8 := Lib.hid dxf
              clear dxf
              clear c0 c1 c2 c3 c4 c5 c6 c7 c8 dx dy gr hG hG' e9 hx hy xok yok xr yr xF yF hj hsum hxs hys
              go_upto_region 19 with fail
              refine wp_normal ?_
              refine wp_region_plan 30 (TwoS I.r gk w4) rfl ?_
              refine wpN_segX (List.range 24 ++ [24, 25, 26, 29, 30]) (List.range 24) (by kernel_rfl) (by kernel_rfl) (by kernel_rfl) (by kernel_rfl) (by decide) (fun _ _ _ _ _ h => h) S0 ?_
              rw [show List.range 24 = [0, 1, 2, 3, 4, 5, 6, 7, 8, 9, 10, 11, 12, 13, 14, 15, 16, 17, 18, 19, 20, 21, 22, 23] from rfl]
              simp only [pick, List.map_cons, List.map_nil, List.getElem?_cons_succ, List.getElem?_cons_zero, Option.getD_some]
              repeat (go_big_quiet_step (fail))
              refine wpQuiet_nil ?_
              clear s2 s3 s4 s7 sx sy ne S0
              refine wpN_one 24 _ (by kernel_rfl) rfl ?_
              refine NextAt.held ?_
              intro K' hK'
              go_simp
              refine AB.out.mono ?_
              rintro e w5 ⟨g', ds, rfl, hrow5, hlen5, hby5, htk5, hg5, ht5⟩
              have hlen5 := hlen5.trans GG.out.2.1
              rw [GG.out.2.1] at *
              have tgr : I.r ≠ x.g ∧ gk ≠ x.g := by
                have h1 : w4.heap[x.g]? = _ := XO.out.2.2.1
                obtain ⟨cur, hcur⟩ := row_block RM4.out.row (k := gk) rfl
                refine ⟨fun e => ?_, fun e => ?_⟩
                · rw [← e, RM4.out.self] at h1
                  simp at h1
                · rw [← e, hcur] at h1
                  simp at h1
              have tS : TwoS I.r gk w4 w5 := ⟨ht5.block I.r (lt_of RM4.out.self) tgr.1, ht5.block gk ((RM4.out.row.lt gk rfl).2) tgr.2⟩
              have htk6 : ds.take (x.n + y.n) = x.cs.take x.n ++ y.cs.take y.n := by
                rw [htk5, List.drop_eq_nil_of_le (by rw [List.length_take]; omega), List.append_nil]
              have ZR : Hid ((({ g := g', cs := ds, n := x.n + y.n } : Lm)).ok ∧ ((({ g := g', cs := ds, n := x.n + y.n } : Lm)).lc = (x.cs.take x.n ++ y.cs.take y.n, G)) ∧ (({ g := g', cs := ds, n := x.n + y.n } : Lm)).val = .slice (some ⟨g', 0, none⟩) (x.n + y.n) G) := Lib.hid (by
                have h1 := GG.out.2.2.1
                have h2 := GG.out.2.2.2
                refine ⟨⟨by show x.n + y.n ≤ ds.length; omega, by show ds.length ≤ 100000; omega, hby5⟩, ?_, ?_⟩
                · show (ds.take (x.n + y.n), ds.length) = _
                  rw [htk6, hlen5]
                · show Value.slice _ _ ds.length = _
                  rw [hlen5])
              have ht5' : Touch (fun k => k = x.g) w4 w5 := ⟨ht5.os, ht5.tape, ht5.output, ht5.size, ht5.block⟩
              have SL := Lib.hid (RM4.out.setLeaf (w5 := w5) (z := { g := g', cs := ds, n := x.n + y.n }) HX.out.1 ht5' hrow5 ZR.out.1 hg5)
              generalize hz : ({ g := g', cs := ds, n := x.n + y.n } : Lm) = z at *
              have zg : z.g = g' := by rw [← hz]
              have zn : z.n = x.n + y.n := by rw [← hz]
              clear AB hrow5 hlen5 hby5 htk5 ht5 ht5' htk6 hz
              go_simp
              refine hK' _ _ tS ?_
              clear hK' K'
              refine wpN_pure [25, 26, 27, 28, 29] (by kernel_rfl) (by kernel_rfl) (by kernel_rfl) (fun _ _ _ _ _ h => h) (fun _ => tS) ?_
              simp only [pick, List.map_cons, List.map_nil, List.getElem?_cons_succ, List.getElem?_cons_zero, Option.getD_some]
              repeat (go_big_quiet_step (fail))
              refine wpQuiet_nil ?_
              refine wpN_one 30 _ (by kernel_rfl) rfl ?_
              refine NextAt.free (by kernel_rfl) ?_
              intro K' hK'
              have c8 : (w5.cell? ⟨gk, A, none⟩).isSome = true := by
                rw [cell_sameB tS.2, SC8.out]; rfl
              have c9 : w5.frozen? ⟨gk, A, none⟩ = false := by
                unfold World.frozen?
                simp only [tS.2]
                exact SF8.out
              obtain ⟨u8, c8⟩ := Option.isSome_iff_exists.1 c8
              have ZV := ZR.out.2.2
              go_simp
              rw [← ZV]
              refine hK' _ _ ?_
              clear hK' K' c8 c9 ZV tS u8 SC8 SF8
              refine wpN_done (by kernel_rfl) ?_
              obtain ⟨sm, st6, sr6, sw6⟩ := SL.out
              clear SL
              generalize w5.setCell ⟨gk, A, none⟩ z.val = W6 at *
              have c7 := sm.cells.2.2.2.2.2.2.2.1
              have hon : ∀ u ∈ (K.set A z).map Lm.val, u.oneCell' = true := by
                intro u hu
                obtain ⟨y', _, rfl⟩ := List.mem_map.1 hu
                rfl
              have sl : (K.set A z).length = K.length := List.length_set
              have sw7 := sm.row
              rw [sl] at sw7
              have DR := Lib.hid (delete_row gk kc K.length (A + 1) (A + 2) ((K.set A z).map Lm.val) W6 sw7 hon (by omega) rfl (by omega))
              have SM := Lib.hid sm
              have ST6 := Lib.hid st6
              have SR6 := Lib.hid sr6
              clear hon sw7 sw6 sm st6 sr6
              clear c8
              have nA1 : ((A + 1 : Nat) : Int) = (A : Int) + 1 := by omega
              have nA2 : ((A + 2 : Nat) : Int) = (A : Int) + 2 := by omega
              rw [nA1, nA2] at DR
              clear nA1 nA2
              go_wp2_with fail
              refine DR.out.mono ?_
              rintro e w7 ⟨rfl, hd1, hd2, hd3⟩
              have hel : K.length - 1 = ((K.set A z).eraseIdx (A + 1)).length := by rw [List.length_eraseIdx_of_lt (by rw [sl]; omega), sl]
              have hrow7 : w7.ownsRow 0 32 1 (.slice (some ⟨gk, 0, none⟩) (K.length - 1) kc) (K.length - 1) (((K.set A z).eraseIdx (A + 1)).map Lm.val) := by
                rw [map_erase, List.eraseIdx_eq_take_drop_succ]
                rwa [Nat.mul_one, Nat.mul_one] at hd1
              have FS := Lib.hid (SM.out.strike hd2 hel hrow7)
              have c7 : w7.cell? ⟨I.r, 7, none⟩ = some (.slice (some ⟨gk, 0, none⟩) K.length kc) := by rw [cell_sameB FS.out.2.2]; exact SM.out.cells.2.2.2.2.2.2.2.1
              have f7 : w7.frozen? ⟨I.r, 7, none⟩ = false := free_of (FS.out.2.2.trans SM.out.self) _
              have T7 := Lib.hid (TO4.out.trans (ST6.out) (fun i hi => (F1W.out i hi).imp id id))
              clear hd1 hd2 hd3 hrow7 DR
              go_wp2_with fail
              go_end0
              rw [← hel]
              have FB : ∀ k, ((F k ∨ (Value.slice (some ⟨gk, 0, none⟩) K.length kc).ownBlock = some k) ∨ k = z.g) → F k ∨ w.heap.size ≤ k := by
                intro k hk
                rcases hk with hk | rfl
                · exact F1W.out k hk
                · rw [zg]
                  rcases hg5 with e | e
                  · rw [e]; exact F1W.out _ XO.out.2.2.2
                  · exact Or.inr (Nat.le_trans TO4.out.size e)
              have hz6 := SM.out.mem z (List.mem_set hA2 z)
              have hs7 := FS.out.2.1.size
              refine ⟨rfl, _, _, (K.set A z).eraseIdx (A + 1), FS.out.1, ?_, FB, ?_, T7.out.trans FS.out.2.1 FB, ?_⟩
              · rw [DC.out]
                unfold joinC
                rw [SC.out, if_pos HJ.out, ← HKC2.out, map_erase, List.map_set, Int.toNat_natCast, ZR.out.2.1]
                have g1 : (K.map Lm.lc).getD A ([], 0) = x.lc := by rw [List.getD_eq_getElem?_getD, List.getElem?_map, HX.out.1]; rfl
                have g2 : (K.map Lm.lc).getD (A + 1) ([], 0) = y.lc := by rw [List.getD_eq_getElem?_getD, List.getElem?_map, HX.out.2]; rfl
                rw [g1, g2, lc_len XO.out.1, lc_len XO.out.2.1]
                show _ = ((K.map Lm.lc).set A (x.cs.take x.n ++ y.cs.take y.n, I.p.gr x.cs.length (x.n + y.n))).eraseIdx (A + 1)
                rw [HGr.out]
              · intro k hk
                rcases hk with hk | rfl
                · exact Nat.lt_of_lt_of_le (F1L.out k hk) (Nat.le_trans ST6.out.size hs7)
                · exact Nat.lt_of_lt_of_le (lt_of hz6.1) hs7
              · intro q hq
                rcases List.mem_or_eq_of_mem_set (List.mem_of_mem_eraseIdx hq) with hq | rfl
                · exact (KM.out q hq).2.2.2
                · have h1 := (KM.out x (List.mem_of_getElem? HX.out.1)).2.2.2
                  have h2 := HSM.out.1
                  rw [zn]
                  omega
          · have hj' : joinsS I.p (K.map Lm.sz) a f = false := by simpa using hj
            have FIN : Hid (RemPost I L F f t w (.returned (.tuple #[])) w4) := Lib.hid ⟨rfl, _, _, K, RM4.out, by rw [DC.out]; unfold joinC; rw [SC.out, if_neg hj, HKC2.out], F1W.out, F1L.out, TO4.out, fun y hy => (KM.out y hy).2.2.2⟩
            rw [hj']
            clear hj hj'
            go_wp2_with fail
            go_end0
            exact FIN.out

end Go.Proofs.Ytidfidknflcioaa
