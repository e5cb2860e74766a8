/-
  Which chunks stand beside each other behind a call. (Plain.)
  What a call leaves of one side's state. No conditions. (Printed by quo.py.)
-/
import Derived.Test.YtfnmjlnpfoclbaaGreatQueueRunsPbo

namespace Go.Proofs.YtfnmjlnpfoclbaaGreat
section
open Go.RowKit
set_option linter.unusedVariables false

theorem zip_idx {l l' : List QCh} {x y : QCh} : (x, y) ∈ l.zip l' ↔ ∃ i, i < l.length ∧ i < l'.length ∧ x = l.getD i QCh.zero ∧ y = l'.getD i QCh.zero := by
  constructor
  · intro h
    obtain ⟨i, hi, e⟩ := List.mem_iff_getElem.1 h
    rw [List.length_zip] at hi
    rw [List.getElem_zip] at e
    simp only [Prod.mk.injEq] at e
    exact ⟨i, by omega, by omega, by rw [List.getD_eq_getElem?_getD, List.getElem?_eq_getElem (by omega)]; exact e.1.symm, by rw [List.getD_eq_getElem?_getD, List.getElem?_eq_getElem (by omega)]; exact e.2.symm⟩
  · rintro ⟨i, h1, h2, rfl, rfl⟩
    refine List.mem_iff_getElem.2 ⟨i, by rw [List.length_zip]; omega, ?_⟩
    rw [List.getElem_zip, List.getD_eq_getElem?_getD, List.getD_eq_getElem?_getD, List.getElem?_eq_getElem h1, List.getElem?_eq_getElem h2]; rfl
/-- The same blocks, as long. -/
def LikeQ (L2 L : List QCh) : Prop := L2.length = L.length ∧ ∀ i, i < L.length → (L2.getD i QCh.zero).b = (L.getD i QCh.zero).b ∧ (L2.getD i QCh.zero).os.length = (L.getD i QCh.zero).os.length
theorem LikeQ.refl (L : List QCh) : LikeQ L L := ⟨rfl, fun _ _ => ⟨rfl, rfl⟩⟩
theorem LikeQ.step {L2 L L2' L' : List QCh} (h : LikeQ L2 L) (h' : LikeQ L2' L') {x y : QCh} (hxy : (x, y) ∈ L2.zip L2') : ∃ x0 y0, (x0, y0) ∈ L.zip L' ∧ x.b = x0.b ∧ y.b = y0.b ∧ x.os.length = x0.os.length := by
  obtain ⟨i, h1, h2, rfl, rfl⟩ := zip_idx.1 hxy
  have a1 : i < L.length := by rw [← h.1]; exact h1
  have a2 : i < L'.length := by rw [← h'.1]; exact h2
  exact ⟨_, _, zip_idx.2 ⟨i, a1, a2, rfl, rfl⟩, (h.2 i a1).1, (h'.2 i a2).1, (h.2 i a1).2⟩
theorem LikeQ.stay {L2 L L2' L' : List QCh} (h : LikeQ L2 L) (h' : LikeQ L2' L') {x y : QCh} (hxy : (x, y) ∈ L.zip L') : ∃ x2 y2, (x2, y2) ∈ L2.zip L2' ∧ x2.b = x.b ∧ y2.b = y.b ∧ x2.os.length = x.os.length := by
  obtain ⟨i, h1, h2, rfl, rfl⟩ := zip_idx.1 hxy
  exact ⟨_, _, zip_idx.2 ⟨i, by rw [h.1]; exact h1, by rw [h'.1]; exact h2, rfl, rfl⟩, (h.2 i h1).1, (h'.2 i h2).1, (h.2 i h1).2⟩
theorem moreL_like (L : List QCh) (ys : List Int) (hf : L ≠ [] → (lastQ L).to + ys.length ≤ (lastQ L).os.length) : LikeQ (moreL L ys) L := by
  refine ⟨moreL_len L ys, fun i hi => ?_⟩
  have hne : L ≠ [] := fun e => by subst e; simp at hi
  unfold moreL
  rw [List.getD_eq_getElem?_getD, List.getElem?_set]
  by_cases he : L.length - 1 = i
  · rw [if_pos he, if_pos (by omega)]
    subst he
    exact ⟨rfl, splice_len _ _ _ (hf hne)⟩
  · rw [if_neg he, ← List.getD_eq_getElem?_getD]
    exact ⟨rfl, rfl⟩
theorem pullL_like : ∀ (m : Nat) (L : List QCh), LikeQ (pullL m L) L
  | _, [] => ⟨rfl, fun i hi => by simp at hi⟩
  | m, c :: l => by
    obtain ⟨h1, h2⟩ := pullL_like (m - min m c.len) l
    refine ⟨by rw [pullL_length], fun i hi => ?_⟩
    cases i with
    | zero => exact ⟨rfl, rfl⟩
    | succ i => rw [pullL, List.getD_cons_succ, List.getD_cons_succ]; exact h2 i (by simpa using hi)
theorem dropQ_zip (n : Nat) : ∀ (A A' : List QCh) (j : Nat) (x y : QCh), SameQ A A' → (x, y) ∈ (dropQ n j A).zip (dropQ n j A') → (x, y) ∈ A.zip A'
  | [], _, j, x, y, _, h => by simp [dropQ] at h
  | a :: l, [], j, x, y, hs, _ => by have := hs.len; simp at this
  | a :: l, a' :: l', j, x, y, hs, h => by
    unfold SameQ at hs
    simp only [List.map_cons, List.cons.injEq] at hs
    have hg : goneQ n j a ↔ goneQ n j a' := by rw [← bare_gone n j a, hs.1, bare_gone]
    rw [List.zip_cons_cons]
    unfold dropQ at h
    by_cases hg1 : goneQ n j a
    · rw [if_pos hg1, if_pos (hg.1 hg1)] at h
      exact List.mem_cons_of_mem _ (dropQ_zip n l l' (j + 1) x y hs.2 h)
    · rw [if_neg hg1, if_neg (fun e => hg1 (hg.2 e)), List.zip_cons_cons] at h
      rcases List.mem_cons.1 h with h | h
      · rw [h]; exact List.mem_cons_self
      · exact List.mem_cons_of_mem _ (dropQ_zip n l l' (j + 1) x y hs.2 h)
theorem newChs_b (gn : Nat) (zs : List Int) : ∀ (bs xs : List Nat) (x : QCh), x ∈ newChs gn zs bs xs → x.b ∈ bs ∧ ∃ j, x.os = splice (zeros gn) 0 (partZ zs gn j)
  | [], _, x, h => by simp [newChs] at h
  | b :: bs, [], x, h => by simp [newChs] at h
  | b :: bs, a :: xs, x, h => by
    unfold newChs at h
    rw [List.zipWith_cons_cons] at h
    rcases List.mem_cons.1 h with rfl | h
    · exact ⟨List.mem_cons_self, a, rfl⟩
    · obtain ⟨h1, h2⟩ := newChs_b gn zs bs xs x h
      exact ⟨List.mem_cons_of_mem _ h1, h2⟩
theorem spare_fits (L : List QCh) (zs : List Int) (hL : ∀ c ∈ L, ChOk c) (hne : L ≠ []) : (lastQ L).to + (zs.take (spareN L zs.length)).length ≤ (lastQ L).os.length := by
  have h1 := hL (lastQ L) (by
    unfold lastQ
    exact qgetD_in (by have : L.length ≠ 0 := fun e => hne (List.eq_nil_of_length_eq_zero e); omega))
  have h2 := h1.2.1
  rw [List.length_take]
  unfold spareN
  rw [if_neg (fun e => hne (List.eq_nil_of_length_eq_zero e))]
  omega
theorem SameI.room {I I' : QuId} (h : SameI I I') : roomQ I' = roomQ I := by
  obtain ⟨h1, h2, h3, h4, h5⟩ := h
  unfold roomQ
  rw [h2, h3, h4, h5]
theorem SameI.many {I I' : QuId} (h : SameI I I') (L : List QCh) (N : Nat) : manyQ I' L N = manyQ I L N := by
  unfold manyQ
  rw [h.room]
theorem SameI.pushL {I I' : QuId} (h : SameI I I') (L : List QCh) (zs : List Int) (bs : List Nat) : Go.Proofs.YtfnmjlnpfoclbaaGreat.pushL I' L zs bs = Go.Proofs.YtfnmjlnpfoclbaaGreat.pushL I L zs bs := by
  unfold Go.Proofs.YtfnmjlnpfoclbaaGreat.pushL
  rw [h.room, h.many]
theorem SameI.pushE {I I' : QuId} (h : SameI I I') (L : List QCh) (b : BookSt) (N : Nat) : Go.Proofs.YtfnmjlnpfoclbaaGreat.pushE I' L b N = Go.Proofs.YtfnmjlnpfoclbaaGreat.pushE I L b N := by
  unfold Go.Proofs.YtfnmjlnpfoclbaaGreat.pushE
  rw [h.room, h.many, h.1]
theorem SameI.pushSt {I I' : QuId} (h : SameI I I') (L : List QCh) (b : BookSt) (N : Nat) : Go.Proofs.YtfnmjlnpfoclbaaGreat.pushSt I' L b N = Go.Proofs.YtfnmjlnpfoclbaaGreat.pushSt I L b N := by
  unfold Go.Proofs.YtfnmjlnpfoclbaaGreat.pushSt
  rw [h.room, h.many, h.1]
/-- Push: pairs of old chunks, and new ones. -/
theorem push_step {I : QuId} {L L' : List QCh} {zs : List Int} {bs bs' : List Nat} {n n' : Nat} (hs : SameQ L L') (hL : ∀ c ∈ L, ChOk c) (hb : ∀ x ∈ bs, n ≤ x) (hb' : ∀ x ∈ bs', n' ≤ x) {x y : QCh} (h : (x, y) ∈ (pushL I L zs bs).zip (pushL I L' zs bs')) :
    (∃ x0 y0, (x0, y0) ∈ L.zip L' ∧ x.b = x0.b ∧ y.b = y0.b ∧ x.os.length = x0.os.length) ∨ (n ≤ x.b ∧ n' ≤ y.b) := by
  have hL' : ∀ c ∈ L', ChOk c := fun c hc => by
    obtain ⟨x, hx⟩ := zip_right L L' c hs.len hc
    have e := zip_bare _ _ _ _ hs hx
    have h1 := hL x (List.of_mem_zip hx).1
    have e1 : x.os = c.os := by have := congrArg QCh.os e; exact this
    have e2 : x.fr = c.fr := by have := congrArg QCh.fr e; exact this
    have e3 : x.to = c.to := by have := congrArg QCh.to e; exact this
    unfold ChOk at h1 ⊢
    rw [← e1, ← e2, ← e3]; exact h1
  unfold pushL at h
  rw [List.zip_append (by rw [moreL_len, moreL_len, hs.len]), List.mem_append] at h
  rcases h with h | h
  · exact Or.inl ((moreL_like L _ (spare_fits L zs hL)).step (moreL_like L' _ (spare_fits L' zs hL')) h)
  · exact Or.inr ⟨hb _ (newChs_b _ _ _ _ _ (List.of_mem_zip h).1).1, hb' _ (newChs_b _ _ _ _ _ (List.of_mem_zip h).2).1⟩
theorem push_stay {I : QuId} {L L' : List QCh} {zs : List Int} {bs bs' : List Nat} (hs : SameQ L L') (hL : ∀ c ∈ L, ChOk c) (hL' : ∀ c ∈ L', ChOk c) {x y : QCh} (h : (x, y) ∈ L.zip L') :
    ∃ x2 y2, (x2, y2) ∈ (pushL I L zs bs).zip (pushL I L' zs bs') ∧ x2.b = x.b ∧ y2.b = y.b ∧ x2.os.length = x.os.length := by
  obtain ⟨x2, y2, h1, h2⟩ := (moreL_like L _ (spare_fits L zs hL)).stay (moreL_like L' _ (spare_fits L' zs hL')) h
  refine ⟨x2, y2, ?_, h2⟩
  unfold pushL
  rw [List.zip_append (by rw [moreL_len, moreL_len, hs.len]), List.mem_append]
  exact Or.inl h1
theorem SameQ.chok {L L' : List QCh} (hs : SameQ L L') (hL : ∀ c ∈ L, ChOk c) : ∀ c ∈ L', ChOk c := fun c hc => by
  obtain ⟨x, hx⟩ := zip_right L L' c hs.len hc
  have e := zip_bare _ _ _ _ hs hx
  have h1 := hL x (List.of_mem_zip hx).1
  have e1 : x.os = c.os := by have := congrArg QCh.os e; exact this
  have e2 : x.fr = c.fr := by have := congrArg QCh.fr e; exact this
  have e3 : x.to = c.to := by have := congrArg QCh.to e; exact this
  unfold ChOk at h1 ⊢
  rw [← e1, ← e2, ← e3]; exact h1
theorem bytes_spliceQ {cs zs : List Int} {F : Nat} (h : bytes cs) (hz : bytes zs) : bytes (splice cs F zs) := by
  intro u hu
  unfold splice at hu
  simp only [List.mem_append] at hu
  rcases hu with hu | hu | hu
  · exact h u (List.mem_of_mem_take hu)
  · exact hz u hu
  · exact h u (List.mem_of_mem_drop hu)
theorem push_bytes {I : QuId} {L : List QCh} {zs : List Int} {bs : List Nat} (hL : ∀ x ∈ L, bytes x.os) (hz : bytes zs) : ∀ x ∈ pushL I L zs bs, bytes x.os := fun x hx => by
  unfold pushL at hx
  rcases List.mem_append.1 hx with hx | hx
  · unfold moreL at hx
    by_cases h0 : L = []
    · subst h0; simp at hx
    · rcases List.mem_or_eq_of_mem_set hx with hx | rfl
      · exact hL x hx
      · refine bytes_spliceQ (hL _ ?_) (fun z hz' => hz z (List.mem_of_mem_take hz'))
        unfold lastQ
        exact qgetD_in (by have : L.length ≠ 0 := fun e => h0 (List.eq_nil_of_length_eq_zero e); omega)
  · obtain ⟨_, j, e⟩ := newChs_b _ _ _ _ _ hx
    rw [e]
    refine bytes_spliceQ (fun z hz' => ?_) (fun z hz' => hz z (List.mem_of_mem_drop (List.mem_of_mem_drop (List.mem_of_mem_take hz'))))
    have := List.eq_of_mem_replicate hz'
    subst this
    omega
theorem pull_bytes {L : List QCh} {n m j : Nat} (hL : ∀ x ∈ L, bytes x.os) : ∀ x ∈ dropQ n j (pullL m L), bytes x.os := fun x hx => by
  obtain ⟨d, h1, _, h2⟩ := pullL_mem m L x ((dropQ_sub _ _ _).subset hx)
  rw [h2]; exact hL d h1

end
end Go.Proofs.YtfnmjlnpfoclbaaGreat

namespace Go.Proofs.YtfnmjlnpfoclbaaGreat
section
open Go.RowKit
set_option linter.unusedVariables false

theorem RqMem.onlyR {w : World} {F : Nat → Prop} {I : QuId} {L : List QCh} {cv : Value} (h : RqMem w F I L cv) : RqMem w (onlyQ I L cv) I L cv where
  self := h.self
  fr := Or.inl rfl
  crow := h.crow
  fc := fun k hk => Or.inr (Or.inl hk)
  mem := fun c hc => ⟨(h.mem c hc).1, Or.inr (Or.inr ⟨c, hc, rfl⟩)⟩
  inj := h.inj
theorem RqMem.ofOnlyR {w : World} {F : Nat → Prop} {I : QuId} {L : List QCh} {cv : Value} (h : RqMem w F I L cv) {k : Nat} (hk : onlyQ I L cv k) : F k := by
  rcases hk with rfl | hk | ⟨c, hc, rfl⟩
  · exact h.fr
  · exact h.fc k hk
  · exact (h.mem c hc).2
theorem ProgAt.opn {w : World} {I J : QuId} {d : Bool} {L M : List QCh} {b : BookSt} {N : Nat} {A G : Nat → Prop} (h : ProgAt w I J false d L M b N A G) :
    ∃ F E, QR w I L b N F G ∧ QSt w F I L false ∧ QSt w E J M d ∧ (∀ k, F k → ¬ E k) ∧ ∀ k, A k ↔ F k ∨ E k := by
  obtain ⟨F, E, q, o, fe, hA⟩ := h.qo
  rcases id q with ⟨_, h2, cv, h3, h4⟩ | ⟨h1, _⟩
  · exact ⟨F, E, ⟨⟨cv, h3⟩, h.bk, fun k hk => h.ag k ((hA k).2 (Or.inl hk)), fun k hk => q.lt hk, h.gl, h.pi.1, h.pi.2, h.good, h2⟩, q, o, fe, hA⟩
  · cases h1
theorem ProgAt.next {w w1 : World} {I J : QuId} {c d : Bool} {L M L2 : List QCh} {b b2 : BookSt} {N : Nat} {A G F E F2 G2 : Nat → Prop} (h : ProgAt w I J c d L M b N A G) (hF : ∀ k, F k → k < w.heap.size) (o : QSt w E J M d) (fe : ∀ k, F k → ¬ E k) (hA : ∀ k, A k ↔ F k ∨ E k)
    (q2 : QR w1 I L2 b2 N F2 G2) (l1 : QLater w w1 F F2) (l2 : QLater w w1 G G2) (t : Touch (fun k => F k ∨ G k) w w1) :
    ∃ A2, ProgAt w1 I J false d L2 M b2 N A2 G2 ∧ (∀ k, A2 k → A k ∨ w.heap.size ≤ k) ∧ Touch (fun k => A k ∨ G k) w w1 := by
  obtain ⟨cv2, m2⟩ := q2.qu
  have eg : ∀ k, E k → ¬ (F k ∨ G k) := fun k hk x => x.elim (fun x => fe k x hk) (h.ag k ((hA k).2 (Or.inr hk)))
  refine ⟨fun k => onlyQ I L2 cv2 k ∨ E k, ⟨⟨_, E, Or.inl ⟨rfl, q2.ok, cv2, m2.only, fun k hk => hk⟩, o.touch t eg, fun k hk he => ?_, fun k => Iff.rfl⟩, q2.bk, q2.gl, fun k hk hg => ?_, q2.good, h.pi, h.pj, h.bp⟩, fun k hk => ?_, t.mono (fun k hk => hk.imp (fun x => (hA k).2 (Or.inl x)) id)⟩
  · have hl := o.lt he
    rcases l1 k (m2.ofOnly hk) with x | x
    · exact fe k x he
    · omega
  · rcases hk with hk | hk
    · exact q2.dis k (m2.ofOnly hk) hg
    · have hl := o.lt hk
      rcases l2 k hg with x | x
      · exact h.ag k ((hA k).2 (Or.inr hk)) x
      · omega
  · rcases hk with hk | hk
    · exact (l1 k (m2.ofOnly hk)).imp (fun x => (hA k).2 (Or.inl x)) id
    · exact Or.inl ((hA k).2 (Or.inr hk))
theorem ProgAt.closed {w w1 : World} {I J : QuId} {d : Bool} {L M : List QCh} {b b2 : BookSt} {N : Nat} {A G F E G2 : Nat → Prop} (h : ProgAt w I J false d L M b N A G) (hF : ∀ k, F k → k < w.heap.size) (hfr : F I.r) (o : QSt w E J M d) (fe : ∀ k, F k → ¬ E k) (hA : ∀ k, A k ↔ F k ∨ E k)
    (q2 : ShutQ w1 I) (hb : BookAt w1 G2 I.bp b2 N) (gg : Good b2) (gl : ∀ k, G2 k → k < w1.heap.size) (l2 : QLater w w1 G G2) (t : Touch (fun k => k = I.r ∨ G k) w w1) :
    ∃ A2, ProgAt w1 I J true d [] M b2 N A2 G2 ∧ (∀ k, A2 k → A k ∨ w.heap.size ≤ k) ∧ Touch (fun k => A k ∨ G k) w w1 := by
  have eg : ∀ k, E k → ¬ (k = I.r ∨ G k) := fun k hk x => x.elim (fun x => fe _ hfr (x ▸ hk)) (h.ag k ((hA k).2 (Or.inr hk)))
  refine ⟨fun k => k = I.r ∨ E k, ⟨⟨fun k => k = I.r, E, Or.inr ⟨rfl, rfl, q2, fun k => Iff.rfl⟩, o.touch t eg, fun k hk he => fe _ hfr (hk ▸ he), fun k => Iff.rfl⟩, hb, gl, fun k hk hg => ?_, gg, h.pi, h.pj, h.bp⟩, fun k hk => ?_, t.mono (fun k hk => by
    rcases hk with rfl | hk
    · exact Or.inl ((hA _).2 (Or.inl hfr))
    · exact Or.inr hk)⟩
  · rcases hk with rfl | hk
    · have hl := hF _ hfr
      rcases l2 _ hg with x | x
      · exact h.ag _ ((hA _).2 (Or.inl hfr)) x
      · omega
    · have hl := o.lt hk
      rcases l2 k hg with x | x
      · exact h.ag k ((hA k).2 (Or.inr hk)) x
      · omega
  · rcases hk with rfl | hk
    · exact Or.inl ((hA _).2 (Or.inl hfr))
    · exact Or.inl ((hA k).2 (Or.inr hk))
theorem ProgAt.joined {w w1 : World} {I J : QuId} {L M : List QCh} {b b2 : BookSt} {N : Nat} {A G F E G2 : Nat → Prop} {kv : Value} (h : ProgAt w I J false false L M b N A G) (hF : ∀ k, F k → k < w.heap.size) (hE : ∀ k, E k → k < w.heap.size) (hA : ∀ k, A k ↔ F k ∨ E k) (hlen : L.length + M.length ≤ 500)
    (q2 : QuMem w1 (fun k => F k ∨ E k ∨ kv.ownBlock = some k) I (L ++ M) kv) (o2 : QuMem w1 E J [] (.slice none 0 0)) (hne : I.r ≠ J.r) (hnew : ∀ k, kv.ownBlock = some k → w.heap.size ≤ k) (okL : QChsOk L) (okM : QChsOk M)
    (hb : BookAt w1 G2 I.bp b2 N) (gg : Good b2) (gl : ∀ k, G2 k → k < w1.heap.size) (l2 : QLater w w1 G G2) (dis : ∀ k, kv.ownBlock = some k → ¬ G2 k) (t : Touch (fun k => k = I.r ∨ k = J.r ∨ G k) w w1) (fI : F I.r) (fJ : E J.r) (notc : ∀ c ∈ L ++ M, c.b ≠ J.r) (notk : kv.ownBlock ≠ some J.r) :
    ∃ A2, ProgAt w1 I J false false (L ++ M) [] b2 N A2 G2 ∧ (∀ k, A2 k → A k ∨ w.heap.size ≤ k) ∧ Touch (fun k => A k ∨ G k) w w1 := by
  refine ⟨fun k => onlyQ I (L ++ M) kv k ∨ k = J.r, ⟨⟨_, fun k => k = J.r, Or.inl ⟨rfl, ⟨by rw [List.length_append]; exact hlen, fun c hc => (List.mem_append.1 hc).elim (okL.2 c) (okM.2 c)⟩, kv, q2.only, fun k hk => hk⟩, Or.inl ⟨rfl, ⟨by simp, by simp⟩, _, ⟨o2.self, rfl, o2.crow, fun k hk => by simp [Value.ownBlock] at hk, by simp, by simp⟩, fun k hk => Or.inl hk⟩, fun k hk he => ?_, fun k => Iff.rfl⟩, hb, gl, fun k hk hg => ?_, gg, h.pi, h.pj, h.bp⟩, fun k hk => ?_, t.mono (fun k hk => ?_)⟩
  · subst he
    rcases hk with e | e | ⟨c, hc, e⟩
    · exact hne e.symm
    · exact notk e
    · exact notc c hc e.symm
  · have old : ∀ k, A k → k < w.heap.size → ¬ G2 k := fun k ha hl hg => (l2 k hg).elim (h.ag k ha) (fun e => by omega)
    rcases hk with hk | rfl
    · rcases q2.ofOnly hk with x | x | x
      · exact old k ((hA k).2 (Or.inl x)) (hF k x) hg
      · exact old k ((hA k).2 (Or.inr x)) (hE k x) hg
      · exact dis k x hg
    · exact old _ ((hA _).2 (Or.inr fJ)) (hE _ fJ) hg
  · rcases hk with hk | rfl
    · rcases q2.ofOnly hk with x | x | x
      · exact Or.inl ((hA k).2 (Or.inl x))
      · exact Or.inl ((hA k).2 (Or.inr x))
      · exact Or.inr (hnew k x)
    · exact Or.inl ((hA _).2 (Or.inr fJ))
  · rcases hk with rfl | rfl | hk
    · exact Or.inl ((hA _).2 (Or.inl fI))
    · exact Or.inl ((hA _).2 (Or.inr fJ))
    · exact Or.inr hk

theorem RfdAt.opn {w : World} {I J : QuId} {d : Bool} {L M : List QCh} {b : BookSt} {A G : Nat → Prop} (h : RfdAt w I J false d L M b A G) :
    ∃ F E, RR w I L b F G ∧ RSt w F I L false ∧ RSt w E J M d ∧ (∀ k, F k → ¬ E k) ∧ ∀ k, A k ↔ F k ∨ E k := by
  obtain ⟨F, E, q, o, fe, hA⟩ := h.qo
  rcases id q with ⟨_, h2, cv, h3, h4⟩ | ⟨h1, _⟩
  · exact ⟨F, E, ⟨⟨cv, h3⟩, h.bk, fun k hk => h.ag k ((hA k).2 (Or.inl hk)), fun k hk => q.lt hk, h.gl, h.pi.1, h.pi.2, h.good, h2⟩, q, o, fe, hA⟩
  · cases h1
theorem RfdAt.next {w w1 : World} {I J : QuId} {c d : Bool} {L M L2 : List QCh} {b b2 : BookSt} {A G F E F2 G2 : Nat → Prop} (h : RfdAt w I J c d L M b A G) (hF : ∀ k, F k → k < w.heap.size) (o : RSt w E J M d) (fe : ∀ k, F k → ¬ E k) (hA : ∀ k, A k ↔ F k ∨ E k)
    (q2 : RR w1 I L2 b2 F2 G2) (l1 : QLater w w1 F F2) (l2 : QLater w w1 G G2) (t : Touch (fun k => F k ∨ G k) w w1) :
    ∃ A2, RfdAt w1 I J false d L2 M b2 A2 G2 ∧ (∀ k, A2 k → A k ∨ w.heap.size ≤ k) ∧ Touch (fun k => A k ∨ G k) w w1 := by
  obtain ⟨cv2, m2⟩ := q2.qu
  have eg : ∀ k, E k → ¬ (F k ∨ G k) := fun k hk x => x.elim (fun x => fe k x hk) (h.ag k ((hA k).2 (Or.inr hk)))
  refine ⟨fun k => onlyQ I L2 cv2 k ∨ E k, ⟨⟨_, E, Or.inl ⟨rfl, q2.ok, cv2, m2.onlyR, fun k hk => hk⟩, o.touch t eg, fun k hk he => ?_, fun k => Iff.rfl⟩, q2.bk, q2.gl, fun k hk hg => ?_, q2.good, h.pi, h.pj, h.bp⟩, fun k hk => ?_, t.mono (fun k hk => hk.imp (fun x => (hA k).2 (Or.inl x)) id)⟩
  · have hl := o.lt he
    rcases l1 k (m2.ofOnlyR hk) with x | x
    · exact fe k x he
    · omega
  · rcases hk with hk | hk
    · exact q2.dis k (m2.ofOnlyR hk) hg
    · have hl := o.lt hk
      rcases l2 k hg with x | x
      · exact h.ag k ((hA k).2 (Or.inr hk)) x
      · omega
  · rcases hk with hk | hk
    · exact (l1 k (m2.ofOnlyR hk)).imp (fun x => (hA k).2 (Or.inl x)) id
    · exact Or.inl ((hA k).2 (Or.inr hk))
theorem RfdAt.closed {w w1 : World} {I J : QuId} {d : Bool} {L M : List QCh} {b b2 : BookSt} {A G F E G2 : Nat → Prop} (h : RfdAt w I J false d L M b A G) (hF : ∀ k, F k → k < w.heap.size) (hfr : F I.r) (o : RSt w E J M d) (fe : ∀ k, F k → ¬ E k) (hA : ∀ k, A k ↔ F k ∨ E k)
    (q2 : ShutR w1 I) (hb : RB w1 G2 I.bp b2 false) (gg : Good b2) (gl : ∀ k, G2 k → k < w1.heap.size) (l2 : QLater w w1 G G2) (t : Touch (fun k => k = I.r ∨ G k) w w1) :
    ∃ A2, RfdAt w1 I J true d [] M b2 A2 G2 ∧ (∀ k, A2 k → A k ∨ w.heap.size ≤ k) ∧ Touch (fun k => A k ∨ G k) w w1 := by
  have eg : ∀ k, E k → ¬ (k = I.r ∨ G k) := fun k hk x => x.elim (fun x => fe _ hfr (x ▸ hk)) (h.ag k ((hA k).2 (Or.inr hk)))
  refine ⟨fun k => k = I.r ∨ E k, ⟨⟨fun k => k = I.r, E, Or.inr ⟨rfl, rfl, q2, fun k => Iff.rfl⟩, o.touch t eg, fun k hk he => fe _ hfr (hk ▸ he), fun k => Iff.rfl⟩, hb, gl, fun k hk hg => ?_, gg, h.pi, h.pj, h.bp⟩, fun k hk => ?_, t.mono (fun k hk => by
    rcases hk with rfl | hk
    · exact Or.inl ((hA _).2 (Or.inl hfr))
    · exact Or.inr hk)⟩
  · rcases hk with rfl | hk
    · have hl := hF _ hfr
      rcases l2 _ hg with x | x
      · exact h.ag _ ((hA _).2 (Or.inl hfr)) x
      · omega
    · have hl := o.lt hk
      rcases l2 k hg with x | x
      · exact h.ag k ((hA k).2 (Or.inr hk)) x
      · omega
  · rcases hk with rfl | hk
    · exact Or.inl ((hA _).2 (Or.inl hfr))
    · exact Or.inl ((hA k).2 (Or.inr hk))
theorem RfdAt.joined {w w1 : World} {I J : QuId} {L M : List QCh} {b b2 : BookSt} {A G F E G2 : Nat → Prop} {kv : Value} (h : RfdAt w I J false false L M b A G) (hF : ∀ k, F k → k < w.heap.size) (hE : ∀ k, E k → k < w.heap.size) (hA : ∀ k, A k ↔ F k ∨ E k) (hlen : L.length + M.length ≤ 500)
    (q2 : RqMem w1 (fun k => F k ∨ E k ∨ kv.ownBlock = some k) I (L ++ M) kv) (o2 : RqMem w1 E J [] (.slice none 0 0)) (hne : I.r ≠ J.r) (hnew : ∀ k, kv.ownBlock = some k → w.heap.size ≤ k) (okL : QChsOk L) (okM : QChsOk M)
    (hb : RB w1 G2 I.bp b2 false) (gg : Good b2) (gl : ∀ k, G2 k → k < w1.heap.size) (l2 : QLater w w1 G G2) (dis : ∀ k, kv.ownBlock = some k → ¬ G2 k) (t : Touch (fun k => k = I.r ∨ k = J.r ∨ G k) w w1) (fI : F I.r) (fJ : E J.r) (notc : ∀ c ∈ L ++ M, c.b ≠ J.r) (notk : kv.ownBlock ≠ some J.r) :
    ∃ A2, RfdAt w1 I J false false (L ++ M) [] b2 A2 G2 ∧ (∀ k, A2 k → A k ∨ w.heap.size ≤ k) ∧ Touch (fun k => A k ∨ G k) w w1 := by
  refine ⟨fun k => onlyQ I (L ++ M) kv k ∨ k = J.r, ⟨⟨_, fun k => k = J.r, Or.inl ⟨rfl, ⟨by rw [List.length_append]; exact hlen, fun c hc => (List.mem_append.1 hc).elim (okL.2 c) (okM.2 c)⟩, kv, q2.onlyR, fun k hk => hk⟩, Or.inl ⟨rfl, ⟨by simp, by simp⟩, _, ⟨o2.self, rfl, o2.crow, fun k hk => by simp [Value.ownBlock] at hk, by simp, by simp⟩, fun k hk => Or.inl hk⟩, fun k hk he => ?_, fun k => Iff.rfl⟩, hb, gl, fun k hk hg => ?_, gg, h.pi, h.pj, h.bp⟩, fun k hk => ?_, t.mono (fun k hk => ?_)⟩
  · subst he
    rcases hk with e | e | ⟨c, hc, e⟩
    · exact hne e.symm
    · exact notk e
    · exact notc c hc e.symm
  · have old : ∀ k, A k → k < w.heap.size → ¬ G2 k := fun k ha hl hg => (l2 k hg).elim (h.ag k ha) (fun e => by omega)
    rcases hk with hk | rfl
    · rcases q2.ofOnlyR hk with x | x | x
      · exact old k ((hA k).2 (Or.inl x)) (hF k x) hg
      · exact old k ((hA k).2 (Or.inr x)) (hE k x) hg
      · exact dis k x hg
    · exact old _ ((hA _).2 (Or.inr fJ)) (hE _ fJ) hg
  · rcases hk with hk | rfl
    · rcases q2.ofOnlyR hk with x | x | x
      · exact Or.inl ((hA k).2 (Or.inl x))
      · exact Or.inl ((hA k).2 (Or.inr x))
      · exact Or.inr (hnew k x)
    · exact Or.inl ((hA _).2 (Or.inr fJ))
  · rcases hk with rfl | rfl | hk
    · exact Or.inl ((hA _).2 (Or.inl fI))
    · exact Or.inl ((hA _).2 (Or.inr fJ))
    · exact Or.inr hk

end
end Go.Proofs.YtfnmjlnpfoclbaaGreat
