/-
  The reference's Pull, chunk by chunk: the plain part, and what its end writes. Conditions: numbers in their bounds.
-/
import Derived.Test.YtfnmjlnpfoclbaaGreatQueueRunsPbc
import Derived.Test.YtfnmjlnpfoclbaaGreatQueueRunsPbd
namespace Go.Proofs.YtfnmjlnpfoclbaaGreat
open Go.RowKit
set_option linter.unusedVariables false

theorem dropQ_snoc (n : Nat) : ∀ (A : List QCh) (j : Nat) (c : QCh), dropQ n j (A ++ [c]) = dropQ n j A ++ (if goneQ n (j + A.length) c then [] else [c])
  | [], j, c => by simp [dropQ]
  | x :: l, j, c => by
    have := dropQ_snoc n l (j + 1) c
    simp only [List.cons_append, dropQ, this, List.length_cons, show j + 1 + l.length = j + (l.length + 1) by omega]
    split <;> simp
theorem pullL_map : ∀ (m : Nat) (L : List QCh), (pullL m L).map QCh.b = L.map QCh.b
  | _, [] => rfl
  | m, c :: l => by rw [pullL, List.map_cons, List.map_cons, pullL_map]; rfl
theorem pullL_mem : ∀ (m : Nat) (L : List QCh) (c : QCh), c ∈ pullL m L → ∃ d ∈ L, c.b = d.b ∧ c.os = d.os
  | _, [], c, h => by simp [pullL] at h
  | m, x :: l, c, h => by
    rw [pullL] at h
    rcases List.mem_cons.1 h with rfl | h
    · exact ⟨x, List.mem_cons_self, rfl, rfl⟩
    · obtain ⟨d, h1, h2⟩ := pullL_mem _ l c h
      exact ⟨d, List.mem_cons_of_mem _ h1, h2⟩
/-- The chunks that are kept of the first k; and the row when k of them have been read. -/
def keptQ (n k : Nat) (L : List QCh) : List QCh := dropQ L.length 0 (pullL n (L.take k))
def leftQ (n k : Nat) (L : List QCh) : List QCh := keptQ n k L ++ L.drop k
def newQ (n k : Nat) (L : List QCh) : QCh := (L.getD k QCh.zero).adv (min (n - (pullO n (L.take k)).length) (L.getD k QCh.zero).len)
theorem keptQ_zero (n : Nat) (L : List QCh) : keptQ n 0 L = [] := by simp [keptQ, pullL, dropQ]
theorem leftQ_zero (n : Nat) (L : List QCh) : leftQ n 0 L = L := by simp [leftQ, keptQ_zero]
theorem keptQ_all (n : Nat) (L : List QCh) : keptQ n L.length L = dropQ L.length 0 (pullL n L) := by simp [keptQ]
theorem leftQ_all (n : Nat) (L : List QCh) : leftQ n L.length L = dropQ L.length 0 (pullL n L) := by simp [leftQ, keptQ_all]
theorem leftQ_len (n k : Nat) (L : List QCh) : (leftQ n k L).length = (keptQ n k L).length + (L.length - k) := by simp [leftQ]
theorem keptQ_le (n k : Nat) (L : List QCh) (hk : k ≤ L.length) : (keptQ n k L).length ≤ k := by
  have := (dropQ_sub L.length (pullL n (L.take k)) 0).length_le
  rw [pullL_length, List.length_take] at this
  unfold keptQ; omega
theorem drop_at {L : List QCh} {k : Nat} (hk : k < L.length) : L.drop k = L.getD k QCh.zero :: L.drop (k + 1) := by
  rw [List.drop_eq_getElem_cons hk, List.getD_eq_getElem?_getD, List.getElem?_eq_getElem hk]; rfl
theorem leftQ_get (n k : Nat) (L : List QCh) (hk : k < L.length) : (leftQ n k L).getD (keptQ n k L).length QCh.zero = L.getD k QCh.zero := by
  unfold leftQ
  rw [drop_at hk, List.getD_eq_getElem?_getD, List.getElem?_append_right (Nat.le_refl _), Nat.sub_self]; rfl
theorem leftQ_set (n k : Nat) (L : List QCh) (hk : k < L.length) (c : QCh) : (leftQ n k L).set (keptQ n k L).length c = keptQ n k L ++ c :: L.drop (k + 1) := by
  unfold leftQ
  rw [drop_at hk, List.set_append_right _ _ (Nat.le_refl _), Nat.sub_self, List.set_cons_zero]
theorem keptQ_step (n k : Nat) (L : List QCh) (hL : ∀ c ∈ L, ChOk c) (hk : k < L.length) : keptQ n (k + 1) L = keptQ n k L ++ (if goneQ L.length k (newQ n k L) then [] else [newQ n k L]) := by
  unfold keptQ
  rw [pullL_step L n k hL hk, dropQ_snoc, pullL_length, List.length_take, Nat.zero_add, show min k L.length = k by omega]
  rfl
theorem leftQ_keep (n k : Nat) (L : List QCh) (hL : ∀ c ∈ L, ChOk c) (hk : k < L.length) (hg : ¬ goneQ L.length k (newQ n k L)) :
    leftQ n (k + 1) L = (leftQ n k L).set (keptQ n k L).length (newQ n k L) ∧ (keptQ n (k + 1) L).length = (keptQ n k L).length + 1 ∧ qsum QCh.room (keptQ n (k + 1) L) = qsum QCh.room (keptQ n k L) + (L.getD k QCh.zero).os.length := by
  have e := keptQ_step n k L hL hk
  rw [if_neg hg] at e
  refine ⟨?_, by rw [e]; simp, by rw [e, qsum_app]; simp [qsum, QCh.room, newQ, QCh.adv]⟩
  rw [leftQ_set n k L hk]
  unfold leftQ
  rw [e, List.append_assoc]; rfl
theorem qflat_drop : ∀ (L : List QCh) (k : Nat), (L.flatMap QCh.cells).drop (k * 3) = (L.drop k).flatMap QCh.cells
  | [], k => by simp
  | e :: r, 0 => by simp
  | e :: r, k + 1 => by
    have := qflat_drop r k
    have hl : (QCh.cells e).length = 3 := rfl
    rw [List.flatMap_cons, List.drop_succ_cons, ← this, show (k + 1) * 3 = (QCh.cells e).length + k * 3 by rw [hl]; omega, List.drop_append, List.drop_of_length_le (Nat.le_add_right _ _), Nat.add_sub_cancel_left, List.nil_append]
theorem leftQ_gone (n k : Nat) (L : List QCh) (hL : ∀ c ∈ L, ChOk c) (hk : k < L.length) (hg : goneQ L.length k (newQ n k L)) :
    keptQ n (k + 1) L = keptQ n k L ∧ (leftQ n (k + 1) L).length = (leftQ n k L).length - 1 ∧
    (((leftQ n k L).set (keptQ n k L).length (newQ n k L)).flatMap QCh.cells).take ((keptQ n k L).length * 3) ++ (((leftQ n k L).set (keptQ n k L).length (newQ n k L)).flatMap QCh.cells).drop (((keptQ n k L).length + 1) * 3) = (leftQ n (k + 1) L).flatMap QCh.cells := by
  have e := keptQ_step n k L hL hk
  rw [if_pos hg, List.append_nil] at e
  refine ⟨e, by rw [leftQ_len, leftQ_len, e]; omega, ?_⟩
  rw [qflat_take, qflat_drop, leftQ_set n k L hk, ← List.flatMap_append]
  congr 1
  unfold leftQ
  rw [e, List.take_left, show keptQ n k L ++ newQ n k L :: L.drop (k + 1) = (keptQ n k L ++ [newQ n k L]) ++ L.drop (k + 1) by simp, List.drop_left' (by simp)]

theorem chrow_at {w : World} {B e : Nat} {L : List QCh} {cv : Value} {k : Nat} (h : w.ownsRow B e 3 cv L.length (L.flatMap QCh.cells)) (hk : k < L.length) :
    ∃ g cap, cv = .slice (some ⟨g, 0, none⟩) L.length cap ∧ L.length ≤ cap ∧ w.cell? ⟨g, k * 3, none⟩ = some (.slice (some ⟨(L.getD k QCh.zero).b, 0, none⟩) (L.getD k QCh.zero).os.length (L.getD k QCh.zero).os.length) ∧
      w.cell? ⟨g, k * 3 + 1, none⟩ = some (.int .i64 (L.getD k QCh.zero).fr) ∧ w.cell? ⟨g, k * 3 + 2, none⟩ = some (.int .i64 (L.getD k QCh.zero).to) ∧ ∃ cur, w.heap[g]? = some (.cells cur e (0, 0)) := by
  obtain ⟨ca', cc', he, h1, h2, hcc⟩ := QChsIn.own h
  obtain ⟨b, o', ha', d0, d1, d2⟩ := hcc k hk
  obtain ⟨g, cap, hsh⟩ : ∃ g cap, cv = .slice (some ⟨g, 0, none⟩) L.length cap := by
    rcases h.2 with ⟨h1, h2⟩ | ⟨g, cap', cur, h1, _⟩
    · omega
    · exact ⟨g, cap', h1⟩
  rw [hsh] at he
  simp only [Value.slice.injEq, true_and] at he
  obtain ⟨rfl, rfl⟩ := he
  simp only [Option.some.injEq, Addr.mk.injEq, and_true] at ha'
  obtain ⟨rfl, rfl⟩ := ha'
  rw [Nat.zero_add] at d0 d1 d2
  subst hsh
  obtain ⟨cur, hcur⟩ := row_block h rfl
  exact ⟨g, cap, rfl, h1, d0, d1, d2, _, hcur⟩
theorem row_raise {w : World} {B e size n : Nat} {v : Value} {xs : List Value} (h : w.ownsRow 0 e size v n xs) (hB : ∀ k, v.ownBlock = some k → B ≤ k) : w.ownsRow B e size v n xs := by
  refine ⟨h.1, h.2.imp id ?_⟩
  rintro ⟨g, cap, cur, h1, _, h3⟩
  exact ⟨g, cap, cur, h1, hB g (by rw [h1]; rfl), h3⟩

/-- The row of chunks is another, of blocks that were there. -/
theorem rq_mem {w w2 : World} {F : Nat → Prop} {I : QuId} {L K : List QCh} {cv kv : Value} (h : RqMem w F I L cv) (hb : Below w.heap.size w w2)
    (hrow : w2.ownsRow w.heap.size 101 3 kv K.length (K.flatMap QCh.cells)) (hm : ∀ c ∈ K, ∃ d ∈ L, c.b = d.b ∧ c.os = d.os) (hs : (K.map QCh.b).Sublist (L.map QCh.b)) :
    RqMem (w2.setCell ⟨I.r, 6, none⟩ kv) (fun k => F k ∨ kv.ownBlock = some k) I K kv ∧ Touch (fun k => k = I.r) w (w2.setCell ⟨I.r, 6, none⟩ kv) := by
  have hr := lt_of h.self
  have h2 := h.below hb
  have hk2 : ∀ k, k ≠ I.r → (w2.setCell ⟨I.r, 6, none⟩ kv).heap[k]? = w2.heap[k]? := fun k hk => Below.heap_setCell _ _ _ k hk
  refine ⟨⟨?_, Or.inl h.fr, ?_, fun k hk => Or.inr hk, ?_, h.inj.sublist hs⟩, Touch.setCell (Touch.of_below hb) (Or.inl (show (⟨I.r, 6, none⟩ : Addr).block = I.r from rfl)) _⟩
  · rw [block_setCell h2.self]; rfl
  · have hne : kv.ownBlock ≠ some I.r := fun e => by have := (hrow.lt _ e).1; omega
    exact ownsRow_setCell_other (ownsRow_base hrow) hne kv
  · intro c hc
    obtain ⟨d, hd, e1, e2⟩ := hm c hc
    obtain ⟨h3, h4⟩ := h2.mem d hd
    rw [e1, e2]
    refine ⟨(hk2 _ ?_).trans h3, Or.inl h4⟩
    intro e
    have := h2.self
    rw [← e, h3] at this
    simp at this
theorem rr_fin {w w3 w4 : World} {I : QuId} {L K : List QCh} {bst bst' : BookSt} {F G G' : Nat → Prop} {kv : Value} (h : RR w I L bst F G) 
    (h1 : RqMem w3 (fun k => F k ∨ kv.ownBlock = some k) I K kv) (T1 : Touch (fun k => k = I.r) w w3) (hnew : ∀ k, kv.ownBlock = some k → w.heap.size ≤ k) (T2 : Touch G w3 w4)
    (hb : RB w4 G' I.bp bst' false) (hG : ∀ k, G' k → G k ∨ w3.heap.size ≤ k) (hgood : Good bst') (hok : QChsOk K) : RRPost w w4 I K bst' F G ∧ OctStay w w4 L := by
  have s1 := T1.size
  have s2 := T2.size
  have hFk : ∀ k, (F k ∨ kv.ownBlock = some k) → k < w3.heap.size := fun k hk => hk.elim (fun x => by have := h.fl k x; omega) (fun x => (h1.crow.lt k x).2)
  have hdis : ∀ k, (F k ∨ kv.ownBlock = some k) → ¬ G k := fun k hk x => hk.elim (fun y => h.dis k y x) (fun y => by have := hnew k y; have := h.gl k x; omega)
  refine ⟨⟨_, _, ⟨⟨kv, h1.same (T2.same (fun k hk _ x => hdis k hk x))⟩, RefAt.narrow' hb, ?_, ?_, fun k hk => hk.2, h.pol, h.sz, hgood, hok⟩, ?_, ?_, ?_⟩, ?_⟩
  · rintro k hk ⟨hk2, _⟩
    rcases hG k hk2 with x | x
    · exact hdis k hk x
    · have := hFk k hk; omega
  · intro k hk; have := hFk k hk; omega
  · exact fun k hk => hk.imp id (hnew k)
  · exact fun k hk => (hG k hk.1).imp id (fun x => by omega)
  · exact (T1.mono (fun k e => Or.inl (e ▸ (h.qu.elim fun _ hm => hm.fr)))).then (T2.mono (fun k hk => Or.inr hk))
  · obtain ⟨cv, hm⟩ := h.qu
    intro c hc
    have hx := hm.mem c hc
    have hl := lt_of hx.1
    refine (T2.block c.b (by omega) (fun x => h.dis _ hx.2 x)).trans (T1.block c.b hl (fun e => ?_))
    have := hm.self
    rw [← e, hx.1] at this
    simp at this

end Go.Proofs.YtfnmjlnpfoclbaaGreat
