/-
  A queue and its book, whatever the book's state; drop. Conditions: numbers in their bounds; the queue's blocks are not the book's.
-/
import Derived.Test.YtfnmjlnpfoclbaaGreatQueueRunsPaj
import Derived.Test.YtfnmjlnpfoclbaaGreatQueueRunsPak
import Derived.Test.YtfnmjlnpfoclbaaGreatQueueRunsPam
import Derived.Test.YtfnmjlnpfoclbaaGreatQueueRunsPal
namespace Go.Proofs.YtfnmjlnpfoclbaaGreat
open Go.RowKit
set_option linter.unusedVariables false

theorem qrow_ne {w : World} {B e size n k t : Nat} {v : Value} {xs : List Value} {cs : Array Value} (h : w.ownsRow B e size v n xs) (hk : w.heap[k]? = some (.cells cs t (0, 0))) (hne : t ≠ e) : v.ownBlock ≠ some k := fun he => by
  obtain ⟨cur, hcur⟩ := row_block h he
  rw [hk] at hcur
  simp only [Option.some.injEq, Obj.cells.injEq] at hcur
  exact hne hcur.2.1

/-- 'append(s, e)' outside a region that draws: the row, and what lay below stays. -/
theorem wpList_append_q {P : Program} {ops : Array Oper} {rest : List Oper} {o : Oper} {a : Act} {Q : Exit → Act → World → Prop} (hgd : o.guard = none) (s x : Operand) (t : TypeId)
    (ho : o.op = .call { callee := .builtin .append, args := #[s, x], argTypes := #[t, t] })
    (base : Nat) (e : TypeId) (i : TypeInfo) (z : Value) (size bytes : Nat) (ht : P.underlying t = some (.slice e)) (hi : P.info? e = some i) (hz : i.zero = some z)
    (hsize : i.size = size) (hby : i.bytes = bytes) (hzs : z.cells.size = size) (hsz : 0 < size)
    (v : Value) (n : Nat) (xs : List Value) (wr : World) (e' : TypeId) (us : List Value) (hs : a.eval s = v) (hown : wr.ownsRow base e size v n xs)
    (hx : a.eval x = .slice (some ⟨wr.heap.size, 0, none⟩) 1 1) (hl : us.length = size) (h1 : ∀ u ∈ us, u.oneCell' = true)
    (h63 : n + 1 ≤ maxLen) (hbytes : (n + 1) * bytes ≤ 140737488355328) (hbase : base ≤ wr.heap.size)
    (h : ∀ v' w', w'.ownsRow base e size v' (n + 1) (xs ++ us) → wr.grownBy w' v.ownBlock → Below base wr w' → wpList P ops Q rest (a.put o.dst v') w') :
    wpList P ops Q (o :: rest) a (wr.alloc (.cells us.toArray e')) := by
  refine wpList_append_own _ hgd s x t ho base e i z size bytes ht hi hz hsize hby hzs hsz v n xs hs (hown.alloc _) ⟨wr.heap.size, 0, none⟩ 1 1 us hx (by omega) ?_ h1 h63 hbytes (by simp; omega) ?_
  · intro j u hj
    have e1 : (⟨wr.heap.size, 0, none⟩ : Addr).add j = ⟨wr.heap.size, j, none⟩ := by unfold Addr.add; split <;> simp_all
    rw [e1, cell_of (heap_alloc_new wr _)]
    simpa using hj
  · intro v' w' hown' hg _
    refine h v' w' hown' ?_ ?_
    · exact ⟨hg.os, hg.tape, hg.output, Nat.le_trans (by simp) hg.size, fun k hk hne => (hg.block k (by simp; omega) hne).trans (heap_alloc_old wr _ hk)⟩
    · exact ((Below.refl base wr).alloc hbase _).grown hg (by simp; omega) (fun q hq => (hown.lt q hq).1)

theorem infoQChunk : (Tryz.prog.info? 103).map (fun i => (i.zero, i.size, i.bytes)) = some (some (.agg #[.slice none 0 0, .int .i64 0, .int .i64 0]), 3, 40) := by kernel_rfl

def QuAt (w : World) (F : Nat → Prop) (I : QuId) (L : List QCh) : Prop := ∃ cv, QuMem w F I L cv

/-- A queue, its book, and the book's plain state. -/
structure QR (w : World) (I : QuId) (L : List QCh) (bst : BookSt) (N : Nat) (F G : Nat → Prop) : Prop where
  qu : QuAt w F I L
  bk : BookAt w G I.bp bst N
  dis : ∀ k, F k → ¬ G k
  fl : ∀ k, F k → k < w.heap.size
  gl : ∀ k, G k → k < w.heap.size
  pol : polErr I.k I.s I.m = 0
  sz : 1 ≤ I.sz ∧ I.sz ≤ 100000 ∧ I.sz ≤ I.m
  good : Good bst
  ok : QChsOk L

def QLater (w w' : World) (F F' : Nat → Prop) : Prop := ∀ k, F' k → F k ∨ w.heap.size ≤ k
def QRPost (w w' : World) (I : QuId) (L : List QCh) (bst : BookSt) (N : Nat) (F G : Nat → Prop) : Prop := ∃ F' G', QR w' I L bst N F' G' ∧ QLater w w' F F' ∧ QLater w w' G G' ∧ Touch (fun k => F k ∨ G k) w w'
/-- The octets of these chunks stay. -/
def OctStay (w w' : World) (L : List QCh) : Prop := ∀ c ∈ L, w'.heap[c.b]? = w.heap[c.b]?
theorem QR.below {w w' : World} {I : QuId} {L : List QCh} {bst : BookSt} {N : Nat} {F G : Nat → Prop} (h : QR w I L bst N F G) (hb : Below w.heap.size w w') : QR w' I L bst N F G := by
  obtain ⟨cv, hm⟩ := h.qu
  have hs := hb.size
  exact ⟨⟨cv, hm.below hb⟩, h.bk.same (Below.same_on hb), h.dis, fun k hk => by have := h.fl k hk; omega, fun k hk => by have := h.gl k hk; omega, h.pol, h.sz, h.good, h.ok⟩
theorem QRPost.of_below {w w' : World} {I : QuId} {L : List QCh} {bst : BookSt} {N : Nat} {F G : Nat → Prop} (h : QR w I L bst N F G) (hb : Below w.heap.size w w') : QRPost w w' I L bst N F G :=
  ⟨F, G, h.below hb, fun k hk => Or.inl hk, fun k hk => Or.inl hk, Touch.of_below hb⟩

/-- Is a chunk given back: it is read, and full or not the last one. -/
def goneQ (n k : Nat) (c : QCh) : Prop := c.fr = c.to ∧ (c.to = c.os.length ∨ k + 1 < n)
instance (n k : Nat) (c : QCh) : Decidable (goneQ n k c) := by unfold goneQ; infer_instance
def dropQ (n : Nat) : Nat → List QCh → List QCh
  | _, [] => []
  | j, c :: l => if goneQ n j c then dropQ n (j + 1) l else c :: dropQ n (j + 1) l
theorem dropQ_take (n : Nat) : ∀ (L : List QCh) (j k : Nat), k < L.length → dropQ n j (L.take (k + 1)) = dropQ n j (L.take k) ++ (if goneQ n (j + k) (L.getD k QCh.zero) then [] else [L.getD k QCh.zero])
  | [], j, k, h => by simp at h
  | x :: l, j, 0, _ => by simp [dropQ]
  | x :: l, j, k + 1, h => by
    have := dropQ_take n l (j + 1) k (by simpa using h)
    simp only [List.take_succ_cons, dropQ, List.getD_cons_succ, this, show j + 1 + k = j + (k + 1) by omega]
    split <;> simp
theorem dropQ_sub (n : Nat) : ∀ (L : List QCh) (j : Nat), (dropQ n j L).Sublist L
  | [], j => by simp [dropQ]
  | x :: l, j => by
    have := dropQ_sub n l (j + 1)
    simp only [dropQ]
    split
    · exact this.cons _
    · exact this.cons_cons _
theorem qsum_sub {f : QCh → Nat} {L M : List QCh} (h : L.Sublist M) : qsum f L ≤ qsum f M := by
  induction h with
  | slnil => simp
  | cons a _ ih => simp only [qsum, List.map_cons, List.sum_cons] at *; omega
  | cons_cons a _ ih => simp only [qsum, List.map_cons, List.sum_cons] at *; omega
theorem dropQ_len (n : Nat) : ∀ (L : List QCh) (j : Nat), qsum QCh.len (dropQ n j L) = qsum QCh.len L
  | [], j => rfl
  | x :: l, j => by
    have := dropQ_len n l (j + 1)
    simp only [dropQ]
    split
    · rename_i hg
      have h0 : x.len = 0 := by unfold QCh.len; have := hg.1; omega
      simp only [qsum, List.map_cons, List.sum_cons] at *; omega
    · simp only [qsum, List.map_cons, List.sum_cons] at *; omega

theorem ownsRow_base {w : World} {B e size n : Nat} {v : Value} {xs : List Value} (h : w.ownsRow B e size v n xs) : w.ownsRow 0 e size v n xs := by
  refine ⟨h.1, h.2.imp id ?_⟩
  rintro ⟨g, cap, cur, h1, h2, h3⟩
  exact ⟨g, cap, cur, h1, Nat.zero_le _, h3⟩

theorem drop_mem {w w2 : World} {F : Nat → Prop} {I : QuId} {L K : List QCh} {cv kv : Value} (h : QuMem w F I L cv) (hsub : K.Sublist L) (hb : Below w.heap.size w w2)
    (hrow : w2.ownsRow w.heap.size 103 3 kv K.length (K.flatMap QCh.cells)) :
    QuMem (w2.setCell ⟨I.r, 7, none⟩ kv) (fun k => F k ∨ kv.ownBlock = some k) I K kv ∧ Touch (fun k => k = I.r) w (w2.setCell ⟨I.r, 7, none⟩ kv) := by
  have hr := lt_of h.self
  have h2 := h.below hb
  have hk2 : ∀ k, k ≠ I.r → (w2.setCell ⟨I.r, 7, none⟩ kv).heap[k]? = w2.heap[k]? := fun k hk => Below.heap_setCell _ _ _ k hk
  refine ⟨⟨?_, Or.inl h.fr, ?_, fun k hk => Or.inr hk, ?_, h.inj.sublist (hsub.map _)⟩, Touch.setCell (Touch.of_below hb) (Or.inl (show (⟨I.r, 7, none⟩ : Addr).block = I.r from rfl)) _⟩
  · rw [block_setCell h2.self]; rfl
  · have hne : kv.ownBlock ≠ some I.r := fun e => by have := (hrow.lt _ e).1; omega
    exact ownsRow_setCell_other (ownsRow_base hrow) hne kv
  · intro c hc
    obtain ⟨h3, h4⟩ := h2.mem c (hsub.subset hc)
    refine ⟨(hk2 _ ?_).trans h3, Or.inl h4⟩
    intro e
    have := h2.self
    rw [← e, h3] at this
    simp at this

theorem qrow_shape {w : World} {B e size n : Nat} {v : Value} {xs : List Value} (h : w.ownsRow B e size v n xs) : ∃ a c, v = .slice a n c := by
  rcases h.2 with ⟨rfl, h0⟩ | ⟨g, cap, cur, rfl, _⟩
  · exact ⟨none, 0, by rw [h0]⟩
  · exact ⟨_, _, rfl⟩

/-- What a given-back room does to the book. -/
def givenSt (bst : BookSt) (o : Int) (n : Nat) : BookSt := if n = 0 then bst else (giveR bst o n).2
theorem givenSt_good {bst : BookSt} (g : Good bst) (o : Int) (n : Nat) : Good (givenSt bst o n) := by
  unfold givenSt
  split
  · exact g
  · exact giveR_good g o n
def goneN (L : List QCh) : Nat := qsum QCh.room L - qsum QCh.room (dropQ L.length 0 L)

theorem drop_fin {w w3 w4 : World} {I : QuId} {L K : List QCh} {N : Nat} {bst bst' : BookSt} {F G G' : Nat → Prop} {kv : Value} (h : QR w I L bst N F G) (hsub : K.Sublist L)
    (h1 : QuMem w3 (fun k => F k ∨ kv.ownBlock = some k) I K kv) (T1 : Touch (fun k => k = I.r) w w3) (hnew : ∀ k, kv.ownBlock = some k → w.heap.size ≤ k) (T2 : Touch G w3 w4)
    (hb : BookAt w4 G' I.bp bst' N) (hG : ∀ k, G' k → G k ∨ w3.heap.size ≤ k) (hgood : Good bst') :
    QRPost w w4 I K bst' N F G ∧ OctStay w w4 L := by
  have s1 := T1.size
  have s2 := T2.size
  have hlen := hsub.length_le
  have hFk : ∀ k, (F k ∨ kv.ownBlock = some k) → k < w3.heap.size := fun k hk => hk.elim (fun x => by have := h.fl k x; omega) (fun x => (h1.crow.lt k x).2)
  have hdis : ∀ k, (F k ∨ kv.ownBlock = some k) → ¬ G k := fun k hk x => hk.elim (fun y => h.dis k y x) (fun y => by have := hnew k y; have := h.gl k x; omega)
  refine ⟨⟨_, _, ⟨⟨kv, h1.same (T2.same (fun k hk _ x => hdis k hk x))⟩, hb.narrow, ?_, ?_, fun k hk => hk.2, h.pol, h.sz, hgood, ⟨by have := h.ok.1; omega, fun c hc => h.ok.2 c (hsub.subset hc)⟩⟩, ?_, ?_, ?_⟩, ?_⟩
  · rintro k hk ⟨hk2, _⟩
    rcases hG k hk2 with x | x
    · exact hdis k hk x
    · have := hFk k hk; omega
  · intro k hk; have := hFk k hk; omega
  · exact fun k hk => hk.imp id (hnew k)
  · exact fun k hk => (hG k hk.1).imp id (fun x => by omega)
  · exact (T1.mono (fun k e => Or.inl (e ▸ (h.qu.elim fun _ hm => hm.fr)))).then (T2.mono (fun k hk => Or.inr hk))
  · obtain ⟨cv, hm⟩ := h.qu
    intro c hc
    have hx := hm.mem c hc
    have hl := lt_of hx.1
    have hne : c.b ≠ I.r := fun e => by
      have := hm.self
      rw [← e, hx.1] at this
      simp at this
    exact (T2.block c.b (by omega) (h.dis _ hx.2)).trans (T1.block c.b hl hne)

set_option maxHeartbeats 4000000 in
set_option maxRecDepth 100000 in
theorem drop_any (I : QuId) (L : List QCh) (bst : BookSt) (N : Nat) (F G : Nat → Prop) (w : World) (h : QR w I L bst N F G) :
    Calls Tryz.prog 72 #[.pointer (some ⟨I.r, 0, none⟩)] w (fun e w' => e = .returned (.tuple #[]) ∧ QRPost w w' I (dropQ L.length 0 L) (givenSt bst I.o (goneN L)) N F G ∧ OctStay w w' L) := by
  obtain ⟨i0, hi0, hz0, hz1, hz2⟩ := info_parts infoQChunk
  obtain ⟨cv, hm⟩ := h.qu
  have AB0 := Lib.hid h
  have HM := Lib.hid hm
  obtain ⟨ca, cc, hcv, g1, g2, hc⟩ := hm.chs
  subst hcv
  have HC := Lib.hid hc
  have OK := Lib.hid h.ok
  have rlt := lt_of hm.self
  have b63 := h.ok.1
  have c7 : w.cell? ⟨I.r, 7, none⟩ = some (.slice ca L.length cc) := by rw [cell_of hm.self]; rfl
  have c0 : w.cell? ⟨I.r, 0, none⟩ = some (.pointer (some ⟨I.bp, 0, none⟩)) := by rw [cell_of hm.self]; rfl
  have c1 : w.cell? ⟨I.r, 1, none⟩ = some (.int .i64 I.o) := by rw [cell_of hm.self]; rfl
  have f7 : ∀ w', Below w.heap.size w w' → w'.frozen? ⟨I.r, 7, none⟩ = false := fun w' hb => free_of (hm.below hb).self 7
  have HF7 := Lib.hid f7
  clear hc hm h f7
  obtain ⟨r, bp, o, pk, ps, pm, sz⟩ := I
  dsimp only at *
  have GN : Hid (goneN L = qsum QCh.room L - qsum QCh.room (dropQ L.length 0 L)) := Lib.hid rfl
  generalize goneN L = gn at *
  obtain ⟨n, hn⟩ : ∃ n, n = L.length := ⟨_, rfl⟩
  have HN := Lib.hid hn
  rw [← hn] at c7 b63 g1 GN ⊢
  clear hn
  go_enter Tryz.func72, Tryz.ntmps72
  go_wp2_with fail
  go_loopw [2, 3, 4, 11] (fun kv g _ i wr => ∃ k gN : Nat, k ≤ n ∧ i = .int .i64 k ∧ g = .int .i64 gN ∧ Hid (gN + qsum QCh.room (dropQ n 0 (L.take k)) = qsum QCh.room (L.take k)) ∧ wr.ownsRow w.heap.size 103 3 kv (dropQ n 0 (L.take k)).length ((dropQ n 0 (L.take k)).flatMap QCh.cells) ∧ Below w.heap.size w wr) (fun _ _ _ i _ => n - (intOf i).toNat)
  case atStart => exact ⟨0, 0, Nat.zero_le _, rfl, rfl, Lib.hid (by simp [qsum, dropQ]), World.ownsRow_nil _ _ _ _, Below.refl _ _⟩
  case round =>
    obtain ⟨k, gN, hk, rfl, rfl, hgs, how, hb⟩ := hrel
    have hsz := hb.size
    have BL := Lib.hid hb
    have OW := Lib.hid how
    have hg0 : gN ≤ 50000000 := by have := hgs.out; have := OK.out.sumR k; omega
    have d7 := old_cell hb c7
    have hdl : Hid ((dropQ n 0 (L.take k)).length ≤ 500) := Lib.hid (by have := (dropQ_sub n (L.take k) 0).length_le; have := List.length_take_le k L; have := OK.out.1; omega)
    clear how
    by_cases hlt : k < n
    · obtain ⟨b, o, rfl, d0, d1, d2⟩ := HC.out k (by rw [← HN.out]; exact hlt)
      have e0 := old_cell hb d0
      have e1 := old_cell hb d1
      have e2 := old_cell hb d2
      have hkl : k < L.length := by rw [← HN.out]; exact hlt
      have S := Lib.hid (qsum_take QCh.room L k hkl)
      have T := Lib.hid (dropQ_take n L 0 k hkl)
      obtain ⟨q1, q2, q3⟩ := OK.out.2 _ (qgetD_in hkl)
      clear d0 d1 d2 hb hkl
      have X7 : (wr.alloc (.cells #[.slice (some ⟨(L.getD k QCh.zero).b, 0, none⟩) (L.getD k QCh.zero).os.length (L.getD k QCh.zero).os.length, .int .i64 (L.getD k QCh.zero).fr, .int .i64 (L.getD k QCh.zero).to] 103)).cell? ⟨r, 7, none⟩ = some (.slice (some ⟨b, o, none⟩) n cc) := old_cell (BL.out.alloc hsz _) c7
      generalize hx : L.getD k QCh.zero = x at *
      obtain ⟨xb, xos, xf, xt⟩ := x
      simp only at *
      have BX := Lib.hid (BL.out.alloc hsz (.cells #[.slice (some ⟨xb, 0, none⟩) xos.length xos.length, .int .i64 xf, .int .i64 xt] 103))
      have OWX := Lib.hid (OW.out.alloc (.cells #[.slice (some ⟨xb, 0, none⟩) xos.length xos.length, .int .i64 xf, .int .i64 xt] 103))
      have T2 : Hid (dropQ n 0 (L.take (k + 1)) = dropQ n 0 (L.take k) ++ (if goneQ n k ⟨xb, xos, xf, xt⟩ then [] else [⟨xb, xos, xf, xt⟩])) := Lib.hid (by have := T.out; rwa [Nat.zero_add] at this)
      have S2 : Hid (qsum QCh.room (L.take (k + 1)) = qsum QCh.room (L.take k) + xos.length) := Lib.hid S.out
      clear T S hx
      by_cases hgo : goneQ n k ⟨xb, xos, xf, xt⟩
      · have T3 : Hid (dropQ n 0 (L.take (k + 1)) = dropQ n 0 (L.take k)) := Lib.hid (by rw [T2.out, if_pos hgo, List.append_nil])
        obtain ⟨h1, h2⟩ := hgo
        simp only at h1 h2
        subst h1
        clear T2
        by_cases h3 : xf = xos.length
        · clear h2
          generalize xos.length = xl at *
          subst h3
          go_wp2_with fail
          go_round
          case rel => exact ⟨k + 1, gN + xf, by omega, by go_num, by go_num, Lib.hid (by rw [T3.out, S2.out]; have := hgs.out; omega), by rw [T3.out]; exact OWX.out, BX.out⟩
          case measure => simp [intOf]; omega
        · have h4 := h2.resolve_left h3
          clear h2
          generalize xos.length = xl at *
          go_wp2_with fail
          go_round
          case rel => exact ⟨k + 1, gN + xl, by omega, by go_num, by go_num, Lib.hid (by rw [T3.out, S2.out]; have := hgs.out; omega), by rw [T3.out]; exact OWX.out, BX.out⟩
          case measure => simp [intOf]; omega
      · have T3 : Hid (dropQ n 0 (L.take (k + 1)) = dropQ n 0 (L.take k) ++ [⟨xb, xos, xf, xt⟩]) := Lib.hid (by rw [T2.out, if_neg hgo])
        have ONE : Hid (∀ u ∈ [Value.slice (some ⟨xb, 0, none⟩) xos.length xos.length, .int .i64 xf, .int .i64 xt], u.oneCell' = true) := Lib.hid (by
          intro u hu
          simp at hu
          rcases hu with rfl | rfl | rfl <;> rfl)
        have DL : Hid ((dropQ n 0 (L.take k) ++ [(⟨xb, xos, xf, xt⟩ : QCh)]).length = (dropQ n 0 (L.take k)).length + 1) := Lib.hid (by simp)
        have DF : Hid ((dropQ n 0 (L.take k) ++ [(⟨xb, xos, xf, xt⟩ : QCh)]).flatMap QCh.cells = (dropQ n 0 (L.take k)).flatMap QCh.cells ++ [Value.slice (some ⟨xb, 0, none⟩) xos.length xos.length, .int .i64 xf, .int .i64 xt]) := Lib.hid (by simp [List.flatMap_append, QCh.cells])
        have RS : Hid (qsum QCh.room (dropQ n 0 (L.take k) ++ [(⟨xb, xos, xf, xt⟩ : QCh)]) = qsum QCh.room (dropQ n 0 (L.take k)) + xos.length) := Lib.hid (by rw [qsum_app]; simp [qsum, QCh.room])
        have hgo2 : ¬ (xf = xt ∧ (xt = xos.length ∨ k + 1 < n)) := hgo
        clear T2 hgo
        have hszX := BX.out.size
        have bl := hdl.out
        generalize dropQ n 0 (L.take k) = D at *
        by_cases h1 : xf = xt
        · have h3 : ¬ (xf = xos.length) := fun x => hgo2 ⟨h1, Or.inl (h1 ▸ x)⟩
          have h4 : ¬ k + 1 < n := fun x => hgo2 ⟨h1, Or.inr x⟩
          subst h1
          clear hgo2
          generalize xos.length = xl at *
          have h34 : ¬ ((((xf : Int) == (xl : Int)) = true) ∨ (k : Int) < (n : Int) - 1) := by
            rintro (x | x)
            · have hx : (xf : Int) = xl := by simpa only [beq_iff_eq] using x
              omega
            · omega
          go_wp2_with (at_builtin; go_must (refine wpList_append_q rfl (.tmp 44) (.tmp 46) 77 rfl w.heap.size 103 i0 (.agg #[.slice none 0 0, .int .i64 0, .int .i64 0]) 3 40 Tryz.underlying77 hi0 hz0 hz1 hz2 rfl (by decide) _ _ _ (wr.alloc (.cells #[.slice (some ⟨xb, 0, none⟩) xl xl, .int .i64 xf, .int .i64 xf] 103)) _ [.slice (some ⟨xb, 0, none⟩) xl xl, .int .i64 xf, .int .i64 xf] rfl (by exact OWX.out) (by rw [World.size_alloc]; rfl) rfl ONE.out (by unfold maxLen; omega) (by omega) hszX ?_))
          intro v' w1 hown hg hbel
          have B1 := Lib.hid (BX.out.trans hbel)
          have OW1 := Lib.hid hown
          clear hown hg hbel
          go_wp2_with fail
          go_round
          case rel => exact ⟨k + 1, gN, by omega, by go_num, rfl, Lib.hid (by rw [T3.out, S2.out, RS.out]; have := hgs.out; omega), by rw [T3.out, DL.out, DF.out]; exact OW1.out, B1.out⟩
          case measure => simp [intOf]; omega
        · clear hgo2
          generalize xos.length = xl at *
          go_wp2_with (at_builtin; go_must (refine wpList_append_q rfl (.tmp 44) (.tmp 46) 77 rfl w.heap.size 103 i0 (.agg #[.slice none 0 0, .int .i64 0, .int .i64 0]) 3 40 Tryz.underlying77 hi0 hz0 hz1 hz2 rfl (by decide) _ _ _ (wr.alloc (.cells #[.slice (some ⟨xb, 0, none⟩) xl xl, .int .i64 xf, .int .i64 xt] 103)) _ [.slice (some ⟨xb, 0, none⟩) xl xl, .int .i64 xf, .int .i64 xt] rfl (by exact OWX.out) (by rw [World.size_alloc]; rfl) rfl ONE.out (by unfold maxLen; omega) (by omega) hszX ?_))
          intro v' w1 hown hg hbel
          have B1 := Lib.hid (BX.out.trans hbel)
          have OW1 := Lib.hid hown
          clear hown hg hbel
          go_wp2_with fail
          go_round
          case rel => exact ⟨k + 1, gN, by omega, by go_num, rfl, Lib.hid (by rw [T3.out, S2.out, RS.out]; have := hgs.out; omega), by rw [T3.out, DL.out, DF.out]; exact OW1.out, B1.out⟩
          case measure => simp [intOf]; omega
    · obtain rfl : k = n := by omega
      have eT : L.take k = L := by rw [HN.out]; exact List.take_length
      rw [eT] at hgs OW hdl
      have DM := Lib.hid (fun v (hv : wr.ownsRow w.heap.size 103 3 v (dropQ k 0 L).length ((dropQ k 0 L).flatMap QCh.cells)) => drop_mem (w2 := wr) HM.out (dropQ_sub k L 0) hb hv)
      have hf7 := HF7.out wr hb
      have hr7 := old_cell hb c7
      have hsub := Lib.hid (qsum_sub (f := QCh.room) (dropQ_sub k L 0))
      obtain ⟨sa, sc, rfl⟩ := qrow_shape OW.out
      obtain ⟨h1, T1⟩ := DM.out _ OW.out
      have ms := T1.size
      clear hlt hk hb DM
      have HNEW := Lib.hid (fun (q : Nat) (e : (Value.slice sa (dropQ k 0 L).length sc).ownBlock = some q) => (OW.out.lt q e).1)
      have hLE : gN ≤ qsum QCh.room L := by have := hgs.out; omega
      have hGg : Hid (gn = gN) := Lib.hid (by rw [GN.out]; have := hgs.out; omega)
      by_cases hg : gN = 0
      · subst hg
        have eS : givenSt bst o gn = bst := by unfold givenSt; rw [if_pos hGg.out]
        have FIN := Lib.hid (drop_fin AB0.out (dropQ_sub k L 0) h1 T1 HNEW.out (Touch.refl G _) (AB0.out.bk.same (T1.same (fun q hq _ x => AB0.out.dis q (by rw [x]; exact HM.out.fr) hq))) (fun _ hk => Or.inl hk) AB0.out.good)
        rw [← eS] at FIN
        clear h1 T1 eS
        go_wp2_with fail
        go_end0
        exact ⟨rfl, FIN.out⟩
      · have HT1 := Lib.hid T1
        have HH1 := Lib.hid h1
        have k0 : (wr.setCell ⟨r, 7, none⟩ (.slice sa (dropQ k 0 L).length sc)).cell? ⟨r, 0, none⟩ = some (.pointer (some ⟨bp, 0, none⟩)) := by rw [cell_of h1.self]; rfl
        have k1 : (wr.setCell ⟨r, 7, none⟩ (.slice sa (dropQ k 0 L).length sc)).cell? ⟨r, 1, none⟩ = some (.int .i64 o) := by rw [cell_of h1.self]; rfl
        have BK3 := Lib.hid (AB0.out.bk.same (T1.same (fun q hq _ x => AB0.out.dis q (by rw [x]; exact HM.out.fr) hq)))
        have GV := Lib.hid (fun q => give_all bp o gN ((wr.setCell ⟨r, 7, none⟩ (.slice sa (dropQ k 0 L).length sc)).drewN q) G bst N (BK3.out.same (Below.same_on (bdrewN (Below.refl _ _) q))) AB0.out.good)
        have GG := Lib.hid (giveR_good AB0.out.good o gN)
        have ES : Hid (givenSt bst o gn = (giveR bst o gN).2) := Lib.hid (by unfold givenSt; rw [hGg.out, if_neg hg])
        generalize giveR bst o gN = gr at *
        obtain ⟨ge, gs⟩ := gr
        simp only at GV GG ES
        clear h1 T1
        go_upto_region 11 with fail
        refine wp_region_mid 9 _ (by kernel_rfl) (by kernel_rfl) rfl ?_
        simp only [List.take_succ_cons, List.take_zero, List.drop_succ_cons, List.drop_zero]
        generalize hw3 : wr.setCell ⟨r, 7, none⟩ (.slice sa (dropQ k 0 L).length sc) = w3 at *
        repeat (go_big_quiet_step (fail))
        refine wpQuiet_nil ?_
        intro _ hw'
        obtain ⟨nq4, rfl⟩ := hw'
        intro K hK
        go_simp
        refine (GV.out _).mono ?_
        rintro e w4 ⟨rfl, hb4, ht4⟩
        have FIN : Hid (∀ q, QRPost w (w4.drewN q) ⟨r, bp, o, pk, ps, pm, sz⟩ (dropQ k 0 L) (givenSt bst o gn) N F G ∧ OctStay w (w4.drewN q) L) := Lib.hid (fun q => by
          rw [ES.out]
          exact drop_fin AB0.out (dropQ_sub k L 0) HH1.out HT1.out HNEW.out ((((Touch.refl G w3).drewN nq4).then ht4).drewN q) (hb4.same (Below.same_on (bdrewN (Below.refl _ _) q))) (fun _ hk => hk.imp id (fun x => x)) GG.out)
        clear hb4 ht4
        go_simp
        refine hK _ _ ?_
        clear hK K
        repeat (go_big_quiet_step (fail))
        refine wpQuiet_nil ?_
        intro _ hw'
        obtain ⟨nq5, rfl⟩ := hw'
        have PP := Lib.hid (FIN.out nq5)
        generalize w4.drewN nq5 = w5 at *
        go_wp2_with fail
        go_end0
        exact ⟨rfl, PP.out⟩

end Go.Proofs.YtfnmjlnpfoclbaaGreat
