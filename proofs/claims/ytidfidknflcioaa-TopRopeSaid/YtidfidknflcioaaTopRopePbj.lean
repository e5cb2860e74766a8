/-
  insert of a rope: what it gives. Conditions: numbers in their bounds.
-/
import Derived.Test.YtidfidknflcioaaTopRopePbi
namespace Go.Proofs.Ytidfidknflcioaa
open Go.RowKit
set_option linter.unusedVariables false

set_option maxHeartbeats 1000000 in
set_option maxRecDepth 100000 in
theorem insB_any (k s m : Int) (g : Nat) (cs : List Int) (n cap q : Nat) (v : Value) (zs : List Int) (w : World) (hp : polErr k s m = 0) (hr : byteRow w g cs) (hcl : cs.length = cap) (hc : cap ≤ 100000) (hn : n ≤ cap) (hq : q ≤ n)
    (hv : Reads w .u8 v zs) (hbz : bytes zs) (hbc : bytes cs) (hN : n + zs.length ≤ 100000) (he : growE k s m cap (n + zs.length : Nat) = 0) :
    Calls Try.prog 73 #[.agg #[.int .i64 k, .int .i64 s, .int .i64 m], .slice (some ⟨g, 0, none⟩) n cap, .int .i64 (q : Int), v] w (ReplPost k s m g cs n cap q q zs (n + zs.length) w) := by
  have B1 : Below w.heap.size w (w.alloc (.cells #[.int .i64 k, .int .i64 s, .int .i64 m] 23)) := (Below.refl _ _).alloc (Nat.le_refl _) _
  have hb3 := heap_alloc_new w (.cells #[.int .i64 k, .int .i64 s, .int .i64 m] 23)
  have RP := Lib.hid (replace_any k s m g cs n cap q q v zs (n + zs.length) _ hp ((B1.block g (lt_of hr)).trans hr) hcl hc hn (Nat.le_refl _) hq (hv.below B1 rfl) (by omega) hbz hbc (by omega) hN he)
  have HB := Lib.hid B1
  have x0 : (w.alloc (.cells #[.int .i64 k, .int .i64 s, .int .i64 m] 23)).cell? ⟨w.heap.size, 0, none⟩ = some (.int .i64 k) := by rw [cell_of hb3]; rfl
  have x1 : (w.alloc (.cells #[.int .i64 k, .int .i64 s, .int .i64 m] 23)).cell? ⟨w.heap.size, 1, none⟩ = some (.int .i64 s) := by rw [cell_of hb3]; rfl
  have x2 : (w.alloc (.cells #[.int .i64 k, .int .i64 s, .int .i64 m] 23)).cell? ⟨w.heap.size, 2, none⟩ = some (.int .i64 m) := by rw [cell_of hb3]; rfl
  clear hb3 B1 hp hr hbz hbc he
  go_enter Try.func73, Try.ntmps73
  go_wp2_with fail
  refine RP.out.mono ?_
  rintro e w2 ⟨g', ds, rfl, h1, h2, h3, h4, h5, h6⟩
  have FIN := Lib.hid (And.intro h1 (And.intro h2 (And.intro h3 (And.intro h4 (And.intro h5 ((Touch.of_below (F := fun k => k = g) HB.out).then h6))))))
  have HS := HB.out.size
  clear h1 h2 h3 h4 h5 h6 x0 x1 x2
  go_wp2_with fail
  go_ret3
  obtain ⟨f1, f2, f3, f4, f5, f6⟩ := FIN.out
  exact ⟨g', ds, rfl, f1, f2, f3, f4, f5.imp id (fun h => Nat.le_trans HS h), f6⟩

/-- New leaves become the rope's own. -/
theorem MadeAt.rope {w2 : World} {F : Nat → Prop} {I : RopI} {B : Nat} {L' : List Lm} {lv lv' : Value} (h : MadeAt B w2 lv' L') (hF : F I.r) (hr : I.r < B)
    (hs : w2.heap[I.r]? = some (.cells #[.pointer (some ⟨I.bp, 0, none⟩), .int .i64 I.o, .int .i64 I.p.k, .int .i64 I.p.s, .int .i64 I.p.m, .int .i64 (I.p.leaf : Int), .bool false, lv, .slice none 0 0] 69 (0, 0))) :
    RopeMem (w2.setCell ⟨I.r, 7, none⟩ lv') (fun k => F k ∨ (B ≤ k ∧ k < w2.heap.size)) I L' lv' := by
  have off : ∀ k, B ≤ k → (w2.setCell ⟨I.r, 7, none⟩ lv').heap[k]? = w2.heap[k]? := fun k hk => Below.heap_setCell _ _ _ _ (by show k ≠ I.r; omega)
  refine ⟨by rw [block_setCell hs]; rfl, ownsRow_same (row_low h.row (Nat.zero_le _)) (fun k hk => off k (h.row.lt k hk).1), fun x hx => ?_, h.inj, Or.inl hF, fun k hk => Or.inr (h.row.lt k hk)⟩
  obtain ⟨h1, h2, h3⟩ := h.mem x hx
  exact ⟨(off _ h3).trans h1, h2, Or.inr ⟨h3, lt_of h1⟩⟩

def ThreeS (a b c : Nat) (w W : World) : Prop := W.heap[a]? = w.heap[a]? ∧ W.heap[b]? = w.heap[b]? ∧ W.heap[c]? = w.heap[c]?
theorem lt_of_cell {w : World} {b o : Nat} {v : Value} (h : w.cell? ⟨b, o, none⟩ = some v) : b < w.heap.size := by
  unfold World.cell? at h
  rcases Nat.lt_or_ge b w.heap.size with h1 | h1
  · exact h1
  · simp [Array.getElem?_eq_none h1] at h
def InsPost (I : RopI) (L : List Lm) (F : Nat → Prop) (q : Nat) (os : List Int) (w : World) : Ending → World → Prop := fun e w' =>
  e = .returned (.tuple #[]) ∧ ∃ F' lv' L', RopeMem w' F' I L' lv' ∧ L'.map Lm.lc = insC I.p (L.map Lm.lc) q os ∧ (∀ k, F' k → F k ∨ w.heap.size ≤ k) ∧ (∀ k, F' k → k < w'.heap.size) ∧ Touch F w w' ∧ ∀ x ∈ L', 1 ≤ x.n ∧ x.n ≤ I.p.leaf

theorem Seg.take1 {w : World} {a : Option Addr} {n c : Nat} {xs : List Value} (h : Seg w 1 (.slice a n c) n xs) (k : Nat) (hk : k ≤ n) : Seg w 1 (.slice a k c) k (xs.take k) := by
  obtain ⟨h1, h2, a', c', h3, h4, h5, h6⟩ := h
  simp only [Value.slice.injEq] at h3
  obtain ⟨rfl, _, rfl⟩ := h3
  refine ⟨by rw [List.length_take]; omega, fun u hu => h2 u (List.mem_of_mem_take hu), a, c, rfl, by omega, h5, fun j u hu => ?_⟩
  rw [List.getElem?_take] at hu
  split at hu
  · exact h6 j u hu
  · cases hu
theorem Seg.drop1 {w : World} {b o n c : Nat} {xs : List Value} (h : Seg w 1 (.slice (some ⟨b, o, none⟩) n c) n xs) (k : Nat) (hk : k ≤ n) {U : Option Addr} (hU : k < c → U = some ⟨b, o + k, none⟩) : Seg w 1 (.slice U (n - k) (c - k)) (n - k) (xs.drop k) := by
  obtain ⟨h1, h2, a', c', h3, h4, h5, h6⟩ := h
  simp only [Value.slice.injEq] at h3
  obtain ⟨rfl, _, rfl⟩ := h3
  refine ⟨by rw [List.length_drop]; omega, fun u hu => h2 u (List.mem_of_mem_drop hu), U, c - k, rfl, by omega, by omega, fun j u hu => ?_⟩
  rw [List.getElem?_drop] at hu
  have hj := (List.getElem?_eq_some_iff.1 hu).1
  obtain ⟨b', o', e, hc⟩ := h6 (k + j) u hu
  cases e
  exact ⟨b, o + k, hU (by omega), by rw [Nat.add_assoc]; exact hc⟩

theorem concatB3 {wB : World} {S1 S2 S3 : Value} {l1 l2 l3 : List Int} (r1 : Reads wB .u8 S1 l1) (r2 : Reads wB .u8 S2 l2) (r3 : Reads wB .u8 S3 l3) (hl : (l1 ++ l2 ++ l3).length ≤ 100000000) :
    Calls Try.prog 12 #[.slice (some ⟨wB.heap.size, 0, none⟩) 3 3] (wB.alloc (.cells #[S1, S2, S3] 32)) (OwnBytes (l1 ++ l2 ++ l3) (wB.alloc (.cells #[S1, S2, S3] 32))) := by
  have W1 : Below wB.heap.size wB (wB.alloc (.cells #[S1, S2, S3] 32)) := (Below.refl wB.heap.size wB).alloc (Nat.le_refl _) _
  have q1 := r1.below W1 rfl
  have q2 := r2.below W1 rfl
  have q3 := r3.below W1 rfl
  have hn : (wB.alloc (.cells #[S1, S2, S3] 32)).heap[wB.heap.size]? = some (.cells #[S1, S2, S3] 32 (0, 0)) := heap_alloc_new wB _
  have e : ([(S1, l1), (S2, l2), (S3, l3)].map Prod.snd).flatten = l1 ++ l2 ++ l3 := by simp
  have h := concat_any wB.heap.size [(S1, l1), (S2, l2), (S3, l3)] (wB.alloc (.cells #[S1, S2, S3] 32)) (fun k hk => by
    match k, hk with
    | 0, _ => exact ⟨by rw [cell_of hn]; rfl, q1⟩
    | 1, _ => exact ⟨by rw [cell_of hn]; rfl, q2⟩
    | 2, _ => exact ⟨by rw [cell_of hn]; rfl, q3⟩) (by rw [e]; exact hl) (by simp)
  rw [e] at h
  exact h
theorem concatR3 {wB : World} {S1 S2 S3 : Value} {n1 n2 n3 : Nat} {l1 l2 l3 : List Value} (r1 : Seg wB 1 S1 n1 l1) (r2 : Seg wB 1 S2 n2 l2) (r3 : Seg wB 1 S3 n3 l3) (hl : n1 + n2 + n3 ≤ 100000000) :
    Calls Try.prog 51 #[.slice (some ⟨wB.heap.size, 0, none⟩) 3 3] (wB.alloc (.cells #[S1, S2, S3] 66)) (Own_row (n1 + n2 + n3) (l1 ++ l2 ++ l3) (wB.alloc (.cells #[S1, S2, S3] 66))) := by
  have W1 : Below wB.heap.size wB (wB.alloc (.cells #[S1, S2, S3] 66)) := (Below.refl wB.heap.size wB).alloc (Nat.le_refl _) _
  have q1 := r1.below W1
  have q2 := r2.below W1
  have q3 := r3.below W1
  have hn : (wB.alloc (.cells #[S1, S2, S3] 66)).heap[wB.heap.size]? = some (.cells #[S1, S2, S3] 66 (0, 0)) := heap_alloc_new wB _
  have e3 : num_row [(S1, n1, l1), (S2, n2, l2), (S3, n3, l3)] 3 = n1 + n2 + n3 := by simp [num_row]; omega
  have e4 : cat_row [(S1, n1, l1), (S2, n2, l2), (S3, n3, l3)] 3 = l1 ++ l2 ++ l3 := by simp [cat_row]
  have h := concat_row wB.heap.size [(S1, n1, l1), (S2, n2, l2), (S3, n3, l3)] (wB.alloc (.cells #[S1, S2, S3] 66)) (fun k y hy => by
    match k, hy with
    | 0, hy => simp at hy; subst hy; exact ⟨by rw [cell_of hn]; rfl, q1⟩
    | 1, hy => simp at hy; subst hy; exact ⟨by rw [cell_of hn]; rfl, q2⟩
    | 2, hy => simp at hy; subst hy; exact ⟨by rw [cell_of hn]; rfl, q3⟩
    | k + 3, hy => simp at hy) (by rw [show [(S1, n1, l1), (S2, n2, l2), (S3, n3, l3)].length = 3 from rfl, e3]; exact hl) (by simp)
  change Calls _ _ _ _ (Own_row (num_row _ 3) (cat_row _ 3) _) at h
  rw [e3, e4] at h
  exact h
/-- A leaf gives way to several new ones. -/
theorem RopeMem.spread {w w10 : World} {F : Nat → Prop} {I : RopI} {L L' : List Lm} {lv lv' v10 : Value} {B B2 A n : Nat} (hm : RopeMem w F I L lv) (hfl : ∀ k, F k → k < w.heap.size) (hb : Below w.heap.size w w10) (hB : w.heap.size ≤ B) (hmd : MadeAt B w10 lv' L') (hB2 : w.heap.size ≤ B2)
    (hrow : w10.ownsRow B2 32 1 v10 n ((L.take A).map Lm.val ++ L'.map Lm.val ++ (L.drop (A + 1)).map Lm.val)) (hn : n = (L.take A ++ L' ++ L.drop (A + 1)).length) :
    RopeMem (w10.setCell ⟨I.r, 7, none⟩ v10) (fun k => F k ∨ (w.heap.size ≤ k ∧ k < w10.heap.size)) I (L.take A ++ L' ++ L.drop (A + 1)) v10 := by
  subst hn
  have frs := lt_of hm.self
  have hs := (hb.block I.r frs).trans hm.self
  have off : ∀ k, k ≠ I.r → (w10.setCell ⟨I.r, 7, none⟩ v10).heap[k]? = w10.heap[k]? := fun k hk => Below.heap_setCell _ _ _ _ hk
  have old : ∀ y ∈ L, byteRow (w10.setCell ⟨I.r, 7, none⟩ v10) y.g y.cs ∧ y.ok ∧ (F y.g ∨ (w.heap.size ≤ y.g ∧ y.g < w10.heap.size)) := fun y hy => by
    obtain ⟨h1, h2, h3⟩ := hm.mem y hy
    refine ⟨(off _ (fun e => ?_)).trans ((hb.block _ (lt_of h1)).trans h1), h2, Or.inl h3⟩
    have h1' : w.heap[y.g]? = _ := h1
    rw [e, hm.self] at h1'
    simp at h1'
  refine ⟨by rw [block_setCell hs]; rfl, ?_, fun y hy => ?_, ?_, Or.inl hm.fr, fun k hk => Or.inr ?_⟩
  · rw [List.map_append, List.map_append]
    exact ownsRow_same (row_low hrow (Nat.zero_le _)) (fun k hk => off k (by have := (hrow.lt k hk).1; omega))
  · rcases List.mem_append.1 hy with hy | hy
    · rcases List.mem_append.1 hy with hy | hy
      · exact old y (List.mem_of_mem_take hy)
      · obtain ⟨h1, h2, h3⟩ := hmd.mem y hy
        exact ⟨(off _ (by omega)).trans h1, h2, Or.inr ⟨by omega, lt_of h1⟩⟩
    · exact old y (List.mem_of_mem_drop hy)
  · have hL : ((L.take A ++ L.drop (A + 1)).map Lm.g).Nodup := by
      refine hm.inj.sublist (List.Sublist.map _ ?_)
      rw [← List.eraseIdx_eq_take_drop_succ]
      exact List.eraseIdx_sublist _ _
    rw [List.map_append, List.nodup_append] at hL
    obtain ⟨n1, n2, n3⟩ := hL
    have low : ∀ y ∈ L, ∀ z ∈ L', y.g ≠ z.g := fun y hy z hz e => by
      have h1 := hfl _ (hm.mem y hy).2.2
      have h2 := (hmd.mem z hz).2.2
      omega
    rw [List.map_append, List.map_append, List.nodup_append, List.nodup_append]
    refine ⟨⟨n1, hmd.inj, fun a ha b hb' => ?_⟩, n2, fun a ha b hb' => ?_⟩
    · obtain ⟨y, hy, rfl⟩ := List.mem_map.1 ha
      obtain ⟨z, hz, rfl⟩ := List.mem_map.1 hb'
      exact low y (List.mem_of_mem_take hy) z hz
    · rcases List.mem_append.1 ha with ha | ha
      · exact n3 a ha b hb'
      · obtain ⟨z, hz, rfl⟩ := List.mem_map.1 ha
        obtain ⟨y, hy, rfl⟩ := List.mem_map.1 hb'
        exact fun e => low y (List.mem_of_mem_drop hy) z hz e.symm
  · have := hrow.lt k hk
    omega

set_option maxHeartbeats 4000000 in
set_option maxRecDepth 100000 in
theorem insertR_any (I : RopI) (L : List Lm) (lv : Value) (F : Nat → Prop) (q : Nat) (a : Option Addr) (n c : Nat) (os : List Int) (w : World) (h : RopeOk w F I L lv) (hq : q ≤ (totS (L.map Lm.sz)).1) (hr : Reads w .u8 (.slice a n c) os) (hn : os.length = n) (hN : n ≤ 50000) (hc : n ≤ c ∧ c ≤ 9223372036854775807) (hbz : bytes os) :
    Calls Try.prog 39 #[.pointer (some ⟨I.r, 0, none⟩), .int .i64 (q : Int), .slice a n c] w (InsPost I L F q os w) := by
  obtain ⟨i0, hi0, hz0, hz1, hz2⟩ := info_parts info_row
  have H := Lib.hid h
  have hoct := h.oct
  have hlen := h.len
  obtain ⟨la, lc, rfl⟩ := wrow_sh h.rm.row
  have B2 : Below w.heap.size w ((w.alloc (.cells #[.int .i64 (q : Int)] 3)).alloc (.cells #[.slice a n c] 32)) := ((Below.refl _ w).alloc (Nat.le_refl _) _).alloc (by simp) _
  have k4 : ((w.alloc (.cells #[.int .i64 (q : Int)] 3)).alloc (.cells #[.slice a n c] 32)).heap[w.heap.size]? = some (.cells #[.int .i64 (q : Int)] 3 (0, 0)) := (heap_alloc_old _ _ (by simp)).trans (heap_alloc_new w _)
  have k5 : ((w.alloc (.cells #[.int .i64 (q : Int)] 3)).alloc (.cells #[.slice a n c] 32)).heap[w.heap.size + 1]? = some (.cells #[.slice a n c] 32 (0, 0)) := by
    have e : (w.alloc (.cells #[.int .i64 (q : Int)] 3)).heap.size = w.heap.size + 1 := by simp
    rw [← e]; exact heap_alloc_new _ _
  have c8 := (h.rm.below B2).cells.2.2.2.2.2.2.2.2
  have c7 := (h.rm.below B2).cells.2.2.2.2.2.2.2.1
  have SH := Lib.hid (fun fv => shift_none I.r fv _ c8)
  have e4 : ((w.alloc (.cells #[.int .i64 (q : Int)] 3)).alloc (.cells #[.slice a n c] 32)).cell? ⟨w.heap.size, 0, none⟩ = some (.int .i64 (q : Int)) := by rw [cell_of k4]; rfl
  have e5 : ((w.alloc (.cells #[.int .i64 (q : Int)] 3)).alloc (.cells #[.slice a n c] 32)).cell? ⟨w.heap.size + 1, 0, none⟩ = some (.slice a n c) := by rw [cell_of k5]; rfl
  have hz : w.heap.size + 1 = w.heap.size + 1 := rfl
  obtain ⟨b4, hb4⟩ : ∃ b4, w.heap.size = b4 := ⟨_, rfl⟩
  have HB4 := Lib.hid hb4
  have frs := lt_of h.rm.self
  have HB2 := Lib.hid B2
  have HR := Lib.hid hr
  have HBZ := Lib.hid hbz
  have HN := Lib.hid hn
  obtain ⟨hc1, hc2⟩ := hc
  clear h B2 k4 k5 c8 hr hbz hn
  go_enter Try.func39, Try.ntmps39
  by_cases h0 : n = 0
  · subst h0
    have FIN : Hid (InsPost I L F q os w (.returned (.tuple #[])) ((w.alloc (.cells #[.int .i64 (q : Int)] 3)).alloc (.cells #[.slice a 0 c] 32))) := Lib.hid ⟨rfl, F, _, L, H.out.rm.below HB2.out, by unfold insC; rw [if_pos (List.eq_nil_of_length_eq_zero HN.out)], fun k hk => Or.inl hk, fun k hk => Nat.lt_of_lt_of_le (H.out.fl k hk) HB2.out.size, Touch.of_below HB2.out, H.out.each⟩
    go_wp2_with fail
    refine bodyPost_ret (results_none rfl _ _ _) rfl ?_
    exact FIN.out
  · have h0' : ((n : Int) == 0) = false := by simp; omega
    go_wp2_with fail
    refine (SH.out _).mono ?_
    rintro e w1 ⟨rfl, hw1⟩
    obtain rfl := hw1.symm
    clear hw1
    go_upto_region 3 with fail
    rw [hb4] at e4 e5
    generalize (w.alloc (.cells #[.int .i64 (q : Int)] 3)).alloc (.cells #[.slice a n c] 32) = W2 at *
    have RM2 := Lib.hid (H.out.rm.below HB2.out)
    have HR2 := Lib.hid (HR.out.below HB2.out rfl)
    have hon : os ≠ [] := fun e => h0 (by rw [← HN.out, e]; rfl)
    clear hb4 SH
    by_cases hL : L = []
    · as_aux_lemma =>
        subst hL
        have MD := Lib.hid (made_any I.r I.p a n c os W2 RM2.out.par H.out.pok HR2.out HN.out (by omega) ⟨hc1, hc2⟩ HBZ.out)
        simp only [List.length_nil] at c7
        go_wp2_with fail
        refine MD.out.mono ?_
        rintro e w3 ⟨lv', L', rfl, hma, hlc, heach, hb3⟩
        obtain ⟨va, vc, rfl⟩ := wrow_sh hma.row
        have B3 := Lib.hid (HB2.out.trans (hb3.mono HB2.out.size))
        have self3 := (hb3.block I.r (lt_of RM2.out.self)).trans RM2.out.self
        have RO := Lib.hid (hma.rope H.out.rm.fr (lt_of RM2.out.self) self3)
        have HE := Lib.hid heach
        have HL := Lib.hid hlc
        have c7' : w3.cell? ⟨I.r, 7, none⟩ = some (.slice la 0 lc) := by rw [cell_of self3]; rfl
        have f7' : w3.frozen? ⟨I.r, 7, none⟩ = false := free_of self3 _
        have hs3 := hb3.size
        clear hma hlc heach hb3 MD self3
        have FIN : Hid (InsPost I [] F q os w (.returned (.tuple #[])) (w3.setCell ⟨I.r, 7, none⟩ (.slice va L'.length vc))) := Lib.hid ⟨rfl, _, _, L', RO.out, by rw [HL.out]; unfold insC; rw [if_neg hon, List.map_nil, if_pos rfl], fun k hk => hk.imp id (fun h => Nat.le_trans HB2.out.size h.1), fun k hk => by
          have := B3.out.size
          have hsz : (w3.setCell ⟨I.r, 7, none⟩ (.slice va L'.length vc)).heap.size = w3.heap.size := by simp [World.setCell]
          rw [hsz]
          rcases hk with hk | hk
          · exact Nat.lt_of_lt_of_le (H.out.fl k hk) this
          · exact hk.2, (Touch.of_below B3.out).setCell (p := ⟨I.r, 7, none⟩) (Or.inl H.out.rm.fr) _, HE.out⟩
        go_wp2_with fail
        refine bodyPost_ret (results_none rfl _ _ _) rfl ?_
        exact FIN.out
    · have hL' : ((L.length : Int) == 0) = false := by
        simp
        exact hL
      have EI := endsS_in (L.map Lm.sz) q hq (by simpa using hL)
      obtain ⟨⟨A, B⟩, hAB⟩ : ∃ X, endsS (L.map Lm.sz) q = X := ⟨_, rfl⟩
      rw [hAB, List.length_map] at EI
      obtain ⟨hA, hB⟩ := EI
      simp only at hA hB
      obtain ⟨x, hx⟩ : ∃ z, L[A]? = some z := ⟨_, List.getElem?_eq_getElem hA⟩
      have hxs : (L.map Lm.sz).getD A (0, 0) = x.sz := by rw [List.getD_eq_getElem?_getD, List.getElem?_map, hx]; rfl
      rw [hxs] at hB
      have hB : B ≤ x.n := hB
      have SZ := Lib.hid (sizes_any I L _ _ W2.drew (RM2.out.below (Below.refl _ W2).drew) (by omega))
      have EN := Lib.hid (fun v w3 (hv : SzIn w3 v (L.map Lm.sz)) => ends_any v (L.map Lm.sz) q w3 hv H.out.szok (by omega))
      rw [hAB] at EN
      have HX := Lib.hid hx
      have HAB := Lib.hid hAB
      have E5 := Lib.hid e5
      have hnN : n ≤ 50000 := hN
      clear hx hxs hAB hN
      go_upto_region 5 with fail
      have S0 : BelS W2 W2.drew := (Below.refl _ W2).drew
      have s4 : ∀ y : WIn (BelS W2), y.w.cell? ⟨b4, 0, none⟩ = some (.int .i64 (q : Int)) := fun y => old_cell y.h e4
      haveI ne : Nonempty (WIn (BelS W2)) := ⟨⟨W2.drew, S0⟩⟩
      refine wp_normal ?_
      refine wp_region_plan 3 (BelS W2) rfl ?_
      refine wpN_seg [0, 2] (by kernel_rfl) (by kernel_rfl) (by kernel_rfl) (by kernel_rfl) (by decide) (fun _ _ _ _ _ h => h) S0 ?_
      simp only [pick, List.map_cons, List.map_nil, List.getElem?_cons_succ, List.getElem?_cons_zero, Option.getD_some]
      repeat (go_big_quiet_step (fail))
      refine wpQuiet_nil ?_
      clear s4 ne
      refine wpN_one 1 _ (by kernel_rfl) rfl ?_
      refine NextAt.held ?_
      intro K' hK'
      go_simp
      refine SZ.out.mono ?_
      rintro e w3 ⟨v3, rfl, hrow3, hb3⟩
      have B3 : Below W2.heap.size W2 w3 := S0.trans (hb3.mono (by simp))
      have HB3 := Lib.hid B3
      have EN3 := Lib.hid (EN.out _ w3 (SzIn.row hrow3))
      clear hb3 hrow3 SZ EN
      go_simp
      refine hK' _ _ B3 ?_
      clear hK' K' B3
      refine wpN_one 3 _ (by kernel_rfl) rfl ?_
      refine NextAt.held ?_
      intro K' hK'
      go_simp
      refine EN3.out.mono ?_
      rintro e w4 ⟨rfl, hw4⟩
      obtain rfl := hw4.symm
      clear hw4 EN3
      go_simp
      refine hK' _ _ HB3.out ?_
      clear hK' K'
      refine wpN_pure [4, 5, 6, 7, 8] (by kernel_rfl) (by kernel_rfl) (by kernel_rfl) (fun _ _ _ _ _ h => h) (fun _ => HB3.out) ?_
      simp only [pick, List.map_cons, List.map_nil, List.getElem?_cons_succ, List.getElem?_cons_zero, Option.getD_some]
      repeat (go_big_quiet_step (fail))
      refine wpQuiet_nil ?_
      refine wpN_done (by kernel_rfl) ?_
      clear e4 e5 c7
      have B23 := Lib.hid (HB2.out.trans (HB3.out.mono HB2.out.size))
      have RM3 := Lib.hid (RM2.out.below HB3.out)
      have HR3 := Lib.hid (HR2.out.below HB3.out rfl)
      have E5 : Hid (w3.cell? ⟨b4 + 1, 0, none⟩ = some (.slice a n c)) := Lib.hid (old_cell HB3.out E5.out)
      obtain ⟨c0, c1, c2, c3, c4, c5, c6, c7, c8⟩ := RM3.out.cells
      have e5 := E5.out
      obtain ⟨gl, rfl, dx, dxf⟩ := wrow_cell RM3.out.row (j := A) (u := x.val) (by rw [List.getElem?_map, HX.out]; rfl)
      obtain ⟨xr, xok, xF⟩ := RM3.out.mem x (List.mem_of_getElem? HX.out)
      have xe := H.out.each x (List.mem_of_getElem? HX.out)
      obtain ⟨cp, hcp⟩ : ∃ cp, x.cs.length = cp := ⟨_, rfl⟩
      obtain ⟨xn, hxn⟩ : ∃ xn, x.n = xn := ⟨_, rfl⟩
      have xok1 := xok.1
      have xok2 := xok.2.1
      have hleaf := H.out.pok.leaf
      unfold Lm.val at dx
      rw [hxn, hcp] at dx
      rw [hxn] at xok1 xe hB
      rw [hcp] at xok1 xok2
      have XN := Lib.hid (And.intro hxn hcp)
      have XR := Lib.hid xr
      have XO := Lib.hid xok
      have XF := Lib.hid xF
      have C7 := Lib.hid c7
      have C2 := Lib.hid (And.intro c2 (And.intro c3 c4))
      have DX := Lib.hid (And.intro dx dxf)
      have hqN := hnN
      clear c0 c1 c2 c3 c4 c6 c8 xr xok xF hxn hcp dxf
      by_cases hfit : xn + n ≤ I.p.leaf
      · as_aux_lemma =>
          have hfit' : decide ((xn : Int) + (n : Int) ≤ (I.p.leaf : Int)) = true := by simp; omega
          go_upto_region 7 with fail
          go_quiet (fail)
          go_upto_region 8 with fail
          clear dx c7 e5
          have B34 : Below w3.heap.size w3 (w3.drewN nq) := bdrewN (Below.refl _ w3) nq
          have RM4 := Lib.hid (RM3.out.below B34)
          have HR4 := Lib.hid (HR3.out.below B34 rfl)
          have B24 := Lib.hid (B23.out.trans (B34.mono B23.out.size))
          have e5 := old_cell B34 E5.out
          clear B34
          generalize w3.drewN nq = W4 at *
          obtain ⟨c0, c1, c2, c3, c4, c5, c6, c7, c8⟩ := RM4.out.cells
          obtain ⟨_, e', dx, dxf⟩ := wrow_cell RM4.out.row (j := A) (u := x.val) (by rw [List.getElem?_map, HX.out]; rfl)
          cases e'
          unfold Lm.val at dx
          rw [XN.out.1, XN.out.2] at dx
          obtain ⟨xr, xok, xF⟩ := RM4.out.mem x (List.mem_of_getElem? HX.out)
          have gr := H.out.pok.gr (room := cp) (need := xn + n) xok2 (by omega)
          have AB := Lib.hid (insB_any I.p.k I.p.s I.p.m x.g x.cs xn cp B (.slice a n c) os W4.drew H.out.pok.pol xr XN.out.2 xok2 xok1 hB (HR4.out.below (Below.refl _ W4).drew rfl) HBZ.out xok.2.2 (by rw [HN.out]; omega) (by rw [HN.out]; exact gr.1))
          rw [HN.out] at AB
          have S0 : ThreeS I.r gl (b4 + 1) W4 W4.drew := ⟨rfl, rfl, rfl⟩
          have s2 : ∀ y : WIn (ThreeS I.r gl (b4 + 1) W4), y.w.cell? ⟨I.r, 2, none⟩ = some (.int .i64 I.p.k) := fun y => (cell_sameB y.h.1 _).trans c2
          have s3 : ∀ y : WIn (ThreeS I.r gl (b4 + 1) W4), y.w.cell? ⟨I.r, 3, none⟩ = some (.int .i64 I.p.s) := fun y => (cell_sameB y.h.1 _).trans c3
          have s4 : ∀ y : WIn (ThreeS I.r gl (b4 + 1) W4), y.w.cell? ⟨I.r, 4, none⟩ = some (.int .i64 I.p.m) := fun y => (cell_sameB y.h.1 _).trans c4
          have s7 : ∀ y : WIn (ThreeS I.r gl (b4 + 1) W4), y.w.cell? ⟨I.r, 7, none⟩ = some (.slice (some ⟨gl, 0, none⟩) L.length lc) := fun y => (cell_sameB y.h.1 _).trans c7
          have s5 : ∀ y' : WIn (ThreeS I.r gl (b4 + 1) W4), y'.w.cell? ⟨b4 + 1, 0, none⟩ = some (.slice a n c) := fun y' => (cell_sameB y'.h.2.2 _).trans e5
          haveI ne : Nonempty (WIn (ThreeS I.r gl (b4 + 1) W4)) := ⟨⟨W4.drew, S0⟩⟩
          obtain ⟨G, hG⟩ : ∃ G, I.p.gr cp (xn + n) = G := ⟨_, rfl⟩
          have hG' : (growV I.p.k I.p.s I.p.m (cp : Int) ((xn + n : Nat) : Int)).toNat = G := hG
          have GG := Lib.hid (And.intro hG' (And.intro gr.2.2.1 gr.2.2.2.2))
          rw [hG] at GG
          have HGr := Lib.hid hG
          have XR4 := Lib.hid (And.intro xr xF)
          have hlt : b4 + 1 < W4.heap.size := lt_of_cell e5
          have HLT := Lib.hid hlt
          have SC8 := Lib.hid dx
          have SF8 := Lib.hid dxf
          clear hlt dxf c0 c1 c2 c3 c4 c5 c6 c7 c8 dx gr hG hG' xr xok xF e5
          refine wp_normal ?_
          refine wp_region_plan 18 (ThreeS I.r gl (b4 + 1) W4) rfl ?_
          refine wpN_segX (List.range 12 ++ [12, 13, 14, 17, 18]) (List.range 12) (by kernel_rfl) (by kernel_rfl) (by kernel_rfl) (by kernel_rfl) (by decide) (fun _ _ _ _ _ h => h) S0 ?_
          rw [show List.range 12 = [0, 1, 2, 3, 4, 5, 6, 7, 8, 9, 10, 11] from rfl]
          simp only [pick, List.map_cons, List.map_nil, List.getElem?_cons_succ, List.getElem?_cons_zero, Option.getD_some]
          repeat (go_big_quiet_step (fail))
          refine wpQuiet_nil ?_
          clear s2 s3 s4 s7 s5 ne S0
          refine wpN_one 12 _ (by kernel_rfl) rfl ?_
          refine NextAt.held ?_
          intro K' hK'
          go_simp
          refine AB.out.mono ?_
          rintro e w5 ⟨g', ds, rfl, hrow5, hlen5, hby5, htk5, hg5, ht5⟩
          have hlen5 := hlen5.trans GG.out.1
          rw [GG.out.1] at *
          have ht5' : Touch (fun k => k = x.g) W4 w5 := ⟨ht5.os, ht5.tape, ht5.output, ht5.size, ht5.block⟩
          have tgr : I.r ≠ x.g ∧ gl ≠ x.g ∧ b4 + 1 ≠ x.g := by
            have h1 : W4.heap[x.g]? = _ := XR4.out.1
            obtain ⟨cur, hcur⟩ := row_block RM4.out.row (k := gl) rfl
            refine ⟨fun e => ?_, fun e => ?_, fun e => ?_⟩
            · rw [← e, RM4.out.self] at h1
              simp at h1
            · rw [← e, hcur] at h1
              simp at h1
            · have h2 := H.out.fl _ XR4.out.2
              have h3 := HB4.out
              omega
          have tS : ThreeS I.r gl (b4 + 1) W4 w5 := ⟨ht5.block I.r (lt_of RM4.out.self) tgr.1, ht5.block gl ((RM4.out.row.lt gl rfl).2) tgr.2.1, ht5.block (b4 + 1) HLT.out tgr.2.2⟩
          have ZR : Hid ((({ g := g', cs := ds, n := xn + n } : Lm)).ok ∧ ((({ g := g', cs := ds, n := xn + n } : Lm)).lc = (x.cs.take B ++ os ++ (x.cs.take xn).drop B, G)) ∧ (({ g := g', cs := ds, n := xn + n } : Lm)).val = .slice (some ⟨g', 0, none⟩) (xn + n) G) := Lib.hid (by
            have h1 := GG.out.2.1
            have h2 := GG.out.2.2
            refine ⟨⟨by show xn + n ≤ ds.length; omega, by show ds.length ≤ 100000; omega, hby5⟩, ?_, ?_⟩
            · show (ds.take (xn + n), ds.length) = _
              rw [htk5, hlen5]
            · show Value.slice _ _ ds.length = _
              rw [hlen5])
          have SL := Lib.hid (RM4.out.setLeaf (w5 := w5) (z := { g := g', cs := ds, n := xn + n }) HX.out ht5' hrow5 ZR.out.1 hg5)
          generalize hz' : ({ g := g', cs := ds, n := xn + n } : Lm) = z at *
          have zg : z.g = g' := by rw [← hz']
          have zn : z.n = xn + n := by rw [← hz']
          clear AB hrow5 hlen5 hby5 htk5 ht5 ht5' hz'
          go_simp
          refine hK' _ _ tS ?_
          clear hK' K'
          refine wpN_pure [13, 14, 15, 16, 17] (by kernel_rfl) (by kernel_rfl) (by kernel_rfl) (fun _ _ _ _ _ h => h) (fun _ => tS) ?_
          simp only [pick, List.map_cons, List.map_nil, List.getElem?_cons_succ, List.getElem?_cons_zero, Option.getD_some]
          repeat (go_big_quiet_step (fail))
          refine wpQuiet_nil ?_
          refine wpN_one 18 _ (by kernel_rfl) rfl ?_
          refine NextAt.free (by kernel_rfl) ?_
          intro K' hK'
          have c8 : w5.cell? ⟨gl, A, none⟩ = some (.slice (some ⟨x.g, 0, none⟩) xn cp) := (cell_sameB tS.2.1 _).trans SC8.out
          have c9 : w5.frozen? ⟨gl, A, none⟩ = false := by
            unfold World.frozen?
            simp only [tS.2.1]
            exact SF8.out
          have ZV := ZR.out.2.2
          go_simp
          rw [← ZV]
          refine hK' _ _ ?_
          clear hK' K' c8 c9 ZV tS SC8 SF8
          refine wpN_done (by kernel_rfl) ?_
          have T6 := Lib.hid (Touch.then (Touch.of_below (F := F) B24.out) SL.out.2.1)
          have hz6 := SL.out.1.mem z (List.mem_set hA z)
          have FB : ∀ k, (F k ∨ k = z.g) → F k ∨ w.heap.size ≤ k := by
            intro k hk
            rcases hk with hk | rfl
            · exact Or.inl hk
            · rw [zg]
              rcases hg5 with e | e
              · rw [e]; exact Or.inl XR4.out.2
              · exact Or.inr (Nat.le_trans B24.out.size e)
          have FIN : Hid (InsPost I L F q os w (.returned (.tuple #[])) (w5.setCell ⟨gl, A, none⟩ z.val)) := Lib.hid ⟨rfl, _, _, L.set A z, by
              have h9 := SL.out.1
              exact h9, by
              have g1 : (L.map Lm.lc).getD A ([], 0) = x.lc := by rw [List.getD_eq_getElem?_getD, List.getElem?_map, HX.out]; rfl
              have g2 : x.lc.1.length = xn := (lc_len XO.out).trans XN.out.1
              have g3 : x.lc = (x.cs.take xn, cp) := by unfold Lm.lc; rw [XN.out.1, XN.out.2]
              have hLm : ¬ L.map Lm.lc = [] := by simpa using hL
              unfold insC
              rw [if_neg hon, if_neg hLm, map_szC (fun y hy => (RM4.out.mem y hy).2.1), HAB.out]
              simp only
              rw [g1, g2, HN.out, if_pos hfit, List.map_set, ZR.out.2.1, g3, List.take_take, Nat.min_eq_left hB, HGr.out], FB, fun k hk => by
              rcases hk with hk | rfl
              · exact Nat.lt_of_lt_of_le (H.out.fl k hk) T6.out.size
              · exact lt_of hz6.1, T6.out, fun y hy => by
              rcases List.mem_or_eq_of_mem_set hy with hy | rfl
              · exact H.out.each y hy
              · rw [zn]; omega⟩
          clear T6 hz6 FB SL
          go_wp2_with fail
          refine bodyPost_ret (results_none rfl _ _ _) rfl ?_
          exact FIN.out
      · have hfit' : decide ((xn : Int) + (n : Int) ≤ (I.p.leaf : Int)) = false := by simp; omega
        go_upto_region 7 with fail
        go_quiet (fail)
        as_aux_lemma =>
        go_upto_region 9 with fail
        clear dx c7 e5
        have B34 : Below w3.heap.size w3 (w3.drewN nq) := bdrewN (Below.refl _ w3) nq
        have RM4 := Lib.hid (RM3.out.below B34)
        have HR4 := Lib.hid (HR3.out.below B34 rfl)
        have B24 := Lib.hid (B23.out.trans (B34.mono B23.out.size))
        have e5 := old_cell B34 E5.out
        clear B34
        generalize w3.drewN nq = W4 at *
        obtain ⟨c0, c1, c2, c3, c4, c5, c6, c7, c8⟩ := RM4.out.cells
        obtain ⟨xr, xok, xF⟩ := RM4.out.mem x (List.mem_of_getElem? HX.out)
        have S0 : BelS W4 W4.drew := (Below.refl _ W4).drew
        have s7 : ∀ y : WIn (BelS W4), y.w.cell? ⟨I.r, 7, none⟩ = some (.slice (some ⟨gl, 0, none⟩) L.length lc) := fun y => old_cell y.h c7
        have s5 : ∀ y' : WIn (BelS W4), y'.w.cell? ⟨b4 + 1, 0, none⟩ = some (.slice a n c) := fun y' => old_cell y'.h e5
        haveI ne : Nonempty (WIn (BelS W4)) := ⟨⟨W4.drew, S0⟩⟩
        obtain ⟨UB, hUB⟩ : ∃ U, (if cp = B then (some ⟨x.g, 0, none⟩ : Option Addr) else some ⟨x.g, B, none⟩) = U := ⟨_, rfl⟩
        obtain ⟨UL, hUL⟩ : ∃ U, (if lc = A + 1 then (some ⟨gl, 0, none⟩ : Option Addr) else some ⟨gl, A + 1, none⟩) = U := ⟨_, rfl⟩
        have XRD := Lib.hid (show Reads W4 .u8 (.slice (some ⟨x.g, 0, none⟩) xn cp) (x.cs.take xn) by have h9 := Lm.reads xr xok; rw [XN.out.1, XN.out.2] at h9; exact h9)
        have HUB := Lib.hid (show B < xn → UB = some ⟨x.g, 0 + B, none⟩ from fun h => by rw [← hUB, if_neg (by omega), Nat.zero_add])
        have HUL := Lib.hid (show A + 1 < lc → UL = some ⟨gl, 0 + (A + 1), none⟩ from fun h => by rw [← hUL, if_neg (by omega), Nat.zero_add])
        have hrl := RM4.out.row.2
        have hlc : L.length ≤ lc := by
          have h8 := (Seg.of_row RM4.out.row (fun u hu => by obtain ⟨y', _, rfl⟩ := List.mem_map.1 hu; rfl)).2.2
          obtain ⟨a8, c8', e8, h8, _⟩ := h8
          simp only [Value.slice.injEq] at e8
          omega
        clear hrl c0 c1 c2 c3 c4 c5 c6 c7 c8 e5
        refine wp_normal ?_
        refine wp_region_plan 26 (BelS W4) rfl ?_
        refine wpN_pure [0] (by kernel_rfl) (by kernel_rfl) (by kernel_rfl) (fun _ _ _ _ _ h => h) (fun _ => S0) ?_
        simp only [pick, List.map_cons, List.map_nil, List.getElem?_cons_zero, Option.getD_some]
        repeat (go_big_quiet_step (fail))
        refine wpQuiet_nil ?_
        refine wpN_segX (List.range' 1 26) (List.range' 1 14 ++ List.range' 18 7) (by kernel_rfl) (by kernel_rfl) (by kernel_rfl) (by kernel_rfl) (by decide) (fun _ _ _ _ _ h => h) S0 ?_
        rw [show List.range' 1 14 ++ List.range' 18 7 = [1, 2, 3, 4, 5, 6, 7, 8, 9, 10, 11, 12, 13, 14, 18, 19, 20, 21, 22, 23, 24] from rfl]
        simp only [pick, List.map_cons, List.map_nil, List.getElem?_cons_succ, List.getElem?_cons_zero, Option.getD_some]
        repeat (go_big_quiet_step (fail))
        refine wpQuiet_nil ?_
        generalize W4.drew = W5 at *
        clear s7 s5 ne hUB hUL
        have S5 := Lib.hid (show Below W4.heap.size W4 W5 from S0)
        have hxl : (x.cs.take xn).length = xn := by rw [List.length_take]; have := XN.out.2; omega
        have R1 := XRD.out.take B (by rw [hxl]; exact hB)
        rw [List.take_take, Nat.min_eq_left hB] at R1
        have R3 := XRD.out.dropZ B (by rw [hxl]; exact hB) UB (fun h => HUB.out (by rw [hxl] at h; exact h)) (cp - B)
        obtain ⟨zs, hzs⟩ : ∃ zs, x.cs.take B ++ os ++ (x.cs.take xn).drop B = zs := ⟨_, rfl⟩
        have zlen : zs.length = xn + n := by
          rw [← hzs]
          simp only [List.length_append, List.length_drop, hxl, HN.out]
          rw [List.length_take]
          have := XN.out.2
          omega
        have CB := Lib.hid (concatB3 (wB := W5) (R1.below S0 rfl) (HR4.out.below S0 rfl) (R3.below S0 rfl) (by rw [hzs, zlen]; omega))
        rw [hzs] at CB
        have bzs : bytes zs := by
          rw [← hzs]
          intro z hz
          rcases List.mem_append.1 hz with hz | hz
          · rcases List.mem_append.1 hz with hz | hz
            · exact xok.2.2 z (List.mem_of_mem_take hz)
            · exact HBZ.out z hz
          · exact xok.2.2 z (List.mem_of_mem_take (List.mem_of_mem_drop hz))
        have HZS := Lib.hid hzs
        have HZB := Lib.hid bzs
        have HZL := Lib.hid zlen
        clear R1 R3 hzs bzs zlen hxl
        refine wpN_one 15 _ (by kernel_rfl) rfl ?_
        refine NextAt.held ?_
        intro K' hK'
        go_simp
        have S6 : BelS W4 (W5.alloc (.cells #[.slice (some ⟨x.g, 0, none⟩) B cp, .slice a n c, .slice UB (xn - B) (cp - B)] 32)) := S5.out.alloc S5.out.size _
        have HS6 := Lib.hid S6
        refine hK' _ _ S6 ?_
        clear hK' K' S6
        refine wpN_one 16 _ (by kernel_rfl) rfl ?_
        refine NextAt.held ?_
        intro K' hK'
        go_simp
        refine CB.out.mono ?_
        rintro e w7 ⟨v7, rfl, hown7, hb7⟩
        have S7 : BelS W4 w7 := HS6.out.trans (hb7.mono HS6.out.size)
        have HS7 := Lib.hid S7
        have R7 := Lib.hid (Reads.own hown7 (by have := HZL.out; omega))
        have hle7 : zs.length ≤ 100000 := by have := HZL.out; omega
        obtain ⟨za, zc, rfl⟩ := wrow_sh hown7
        have hzc := (Seg.of_row hown7 (fun u hu => by obtain ⟨y', _, rfl⟩ := List.mem_map.1 hu; rfl)).2.2
        obtain ⟨a8, c8', e8, hz1, hz2, _⟩ := hzc
        simp only [Value.slice.injEq] at e8
        obtain ⟨rfl, _, rfl⟩ := e8
        have MD := Lib.hid (made_any I.r I.p za zs.length zc zs w7 (RM4.out.below S7).par H.out.pok R7.out rfl hle7 ⟨hz1, hz2⟩ HZB.out)
        clear CB hown7 hb7 HS6
        go_simp
        refine hK' _ _ S7 ?_
        clear hK' K' S7
        refine wpN_one 17 _ (by kernel_rfl) rfl ?_
        refine NextAt.held ?_
        intro K' hK'
        go_simp
        refine MD.out.mono ?_
        rintro e w8 ⟨lv', L', rfl, hma, hmc, heach, hb8⟩
        have S8 : BelS W4 w8 := HS7.out.trans (hb8.mono HS7.out.size)
        have HS8 := Lib.hid S8
        obtain ⟨va, vc, rfl⟩ := wrow_sh hma.row
        have MA := Lib.hid hma
        have MC := Lib.hid hmc
        have ME := Lib.hid heach
        clear hma hmc heach hb8 MD
        go_simp
        refine hK' _ _ S8 ?_
        clear hK' K' S8
        have hLl : L'.length ≤ zs.length := by
          have h1 := congrArg List.length MC.out
          have h2 := congrArg List.length (madeC_sz I.p zs hleaf.1)
          have h3 := pieces_len I.p zs.length hleaf.1
          rw [List.length_map] at h1 h2
          omega
        have RW8 := Seg.of_row (RM4.out.below HS8.out).row (fun u hu => by obtain ⟨y', _, rfl⟩ := List.mem_map.1 hu; rfl)
        have CR := Lib.hid (concatR3 (wB := w8) (RW8.take1 A (by omega)) (Seg.of_row MA.out.row (fun u hu => by obtain ⟨y', _, rfl⟩ := List.mem_map.1 hu; rfl)) (RW8.drop1 (A + 1) (by omega) HUL.out) (by omega))
        clear RW8
        refine wpN_one 25 _ (by kernel_rfl) rfl ?_
        refine NextAt.held ?_
        intro K' hK'
        go_simp
        have S9 : BelS W4 (w8.alloc (.cells #[.slice (some ⟨gl, 0, none⟩) A lc, .slice va L'.length vc, .slice UL (L.length - (A + 1)) (lc - (A + 1))] 66)) := HS8.out.alloc HS8.out.size _
        have HS9 := Lib.hid S9
        have MA9 := Lib.hid (MA.out.below ((Below.refl _ w8).alloc (Nat.le_refl _) (.cells #[.slice (some ⟨gl, 0, none⟩) A lc, .slice va L'.length vc, .slice UL (L.length - (A + 1)) (lc - (A + 1))] 66)))
        refine hK' _ _ S9 ?_
        clear hK' K' S9
        refine wpN_one 26 _ (by kernel_rfl) rfl ?_
        refine NextAt.held ?_
        intro K' hK'
        go_simp
        refine CR.out.mono ?_
        rintro e w10 ⟨v10, rfl, hown10, hb10⟩
        have S10 : BelS W4 w10 := HS9.out.trans (hb10.mono HS9.out.size)
        have HS10 := Lib.hid (show Below W4.heap.size W4 w10 from S10)
        have MA10 := MA9.out.below hb10
        obtain ⟨v10a, v10c, rfl⟩ := wrow_sh hown10
        rw [← List.map_take, ← List.map_drop] at hown10
        have hnl : A + L'.length + (L.length - (A + 1)) = (L.take A ++ L' ++ L.drop (A + 1)).length := by
          rw [List.length_append, List.length_append, List.length_take, List.length_drop]
          omega
        have HNL := Lib.hid hnl
        clear hnl
        have SP := Lib.hid (RopeMem.spread RM4.out (fun k hk => Nat.lt_of_lt_of_le (H.out.fl k hk) B24.out.size) HS10.out HS7.out.size MA10 HS9.out.size hown10 HNL.out)
        have self10 := (HS10.out.block I.r (lt_of RM4.out.self)).trans RM4.out.self
        have c7 : w10.cell? ⟨I.r, 7, none⟩ = some (.slice (some ⟨gl, 0, none⟩) L.length lc) := by rw [cell_of self10]; rfl
        have f7 : w10.frozen? ⟨I.r, 7, none⟩ = false := free_of self10 _
        have B10 := Lib.hid (B24.out.trans (HS10.out.mono B24.out.size))
        have hs10 := (Nat.le_trans B24.out.size HS10.out.size)
        clear hown10 hb10 MA10 MA9 CR self10 HS9
        go_simp
        refine hK' _ _ S10 ?_
        clear hK' K'
        refine wpN_pure [27, 28] (by kernel_rfl) (by kernel_rfl) (by kernel_rfl) (fun _ _ _ _ _ h => h) (fun _ => S10) ?_
        simp only [pick, List.map_cons, List.map_nil, List.getElem?_cons_succ, List.getElem?_cons_zero, Option.getD_some]
        repeat (go_big_quiet_step (fail))
        refine wpQuiet_nil ?_
        refine wpN_one 29 _ (by kernel_rfl) rfl ?_
        refine NextAt.free (by kernel_rfl) ?_
        intro K' hK'
        go_simp
        refine hK' _ _ ?_
        clear hK' K' S10 c7 f7
        refine wpN_done (by kernel_rfl) ?_
        go_end0
        refine ⟨rfl, _, _, L.take A ++ L' ++ L.drop (A + 1), SP.out, ?_, fun k hk => hk.imp id (fun h => Nat.le_trans B24.out.size h.1), ?_, (Touch.of_below B10.out).setCell (p := ⟨I.r, 7, none⟩) (Or.inl H.out.rm.fr) _, ?_⟩
        · have g1 : (L.map Lm.lc).getD A ([], 0) = x.lc := by rw [List.getD_eq_getElem?_getD, List.getElem?_map, HX.out]; rfl
          have g2 : x.lc.1.length = xn := (lc_len XO.out).trans XN.out.1
          have g3 : x.lc = (x.cs.take xn, cp) := by unfold Lm.lc; rw [XN.out.1, XN.out.2]
          have hLm : ¬ L.map Lm.lc = [] := by simpa using hL
          unfold insC
          rw [if_neg hon, if_neg hLm, map_szC (fun y hy => (RM4.out.mem y hy).2.1), HAB.out]
          simp only
          rw [g1, g2, HN.out, if_neg hfit, g3, List.take_take, Nat.min_eq_left hB, HZS.out, List.map_append, List.map_append, List.map_take, List.map_drop, MC.out]
        · intro k hk
          have hsz : ∀ u, (w10.setCell ⟨I.r, 7, none⟩ u).heap.size = w10.heap.size := fun u => by simp [World.setCell]
          rw [hsz]
          rcases hk with hk | hk
          · exact Nat.lt_of_lt_of_le (H.out.fl k hk) hs10
          · exact hk.2
        · intro y hy
          rcases List.mem_append.1 hy with hy | hy
          · rcases List.mem_append.1 hy with hy | hy
            · exact H.out.each y (List.mem_of_mem_take hy)
            · exact ME.out y hy
          · exact H.out.each y (List.mem_of_mem_drop hy)

end Go.Proofs.Ytidfidknflcioaa
