/-
  Push of a queue: what it gives, with its book. Conditions: numbers in their bounds; what is pushed is apart from what it turns.
-/
import Derived.Test.YtfnmjlnpfoclbaaGreatQueueRunsPar
import Derived.Deep.DeepCutAuto
import Derived.IntWalk
namespace Go.Proofs.YtfnmjlnpfoclbaaGreat
/-- Two modules of the kit say this, with and without the argument r: which one a text sees hangs upon its imports. Here one word for all that follows. -/
theorem heap_alloc_old (w : World) (o : Obj) {r : Nat} (h : r < w.heap.size) : (w.alloc o).heap[r]? = w.heap[r]? := by
  show (w.heap.push o)[r]? = _
  rw [Array.getElem?_push_lt h, Array.getElem?_eq_getElem h]

open Go.RowKit Go.Shelf
attribute [local go_sem] Oper.semAt_some
set_option linter.unusedVariables false

def lastQ (L : List QCh) : QCh := L.getD (L.length - 1) QCh.zero
/-- What goes into the last chunk. -/
def spareN (L : List QCh) (N : Nat) : Nat := if L.length = 0 then 0 else min ((lastQ L).os.length - (lastQ L).to) N
/-- The room of a new chunk, and how many there are. -/
def roomQ (I : QuId) : Nat := (growV I.k I.s I.m ((0 : Nat) : Int) I.sz).toNat
def manyQ (I : QuId) (L : List QCh) (N : Nat) : Nat := (N - spareN L N + roomQ I - 1) / roomQ I
def takenE (bst : BookSt) (o : Int) (n : Nat) : Int := if n = 0 then 0 else (takeR bst o n).1
def takenSt (bst : BookSt) (o : Int) (n : Nat) : BookSt := if n = 0 then bst else (takeR bst o n).2
theorem takenSt_good {bst : BookSt} (g : Good bst) (o : Int) (n : Nat) : Good (takenSt bst o n) := by
  unfold takenSt
  split
  · exact g
  · exact takeR_good g o n
def pushE (I : QuId) (L : List QCh) (bst : BookSt) (N : Nat) : Int :=
  if 100000 < N + qsum QCh.len L then 4 else if 500 < L.length + manyQ I L N then 4 else takenE bst I.o (manyQ I L N * roomQ I)
def pushSt (I : QuId) (L : List QCh) (bst : BookSt) (N : Nat) : BookSt :=
  if 100000 < N + qsum QCh.len L then bst else if 500 < L.length + manyQ I L N then bst else takenSt bst I.o (manyQ I L N * roomQ I)
def moreL (L : List QCh) (ys : List Int) : List QCh := L.set (L.length - 1) ((lastQ L).more ys)
theorem more_nil (c : QCh) : c.more [] = c := by obtain ⟨b, os, f, t⟩ := c; simp [QCh.more, splice]
theorem moreL_nil (L : List QCh) : moreL L [] = L := by
  unfold moreL
  rw [more_nil]
  apply List.ext_getElem?
  intro j
  rw [List.getElem?_set]
  split
  · rename_i h
    subst h
    split
    · rename_i h; rw [List.getElem?_eq_getElem h]; simp [lastQ, List.getD_eq_getElem?_getD, h]
    · rename_i h; rw [List.getElem?_eq_none (by omega)]
  · rfl
theorem moreL_len (L : List QCh) (ys : List Int) : (moreL L ys).length = L.length := by simp [moreL]
/-- The chunks behind a push; bs: the new ones' blocks. -/
def pushL (I : QuId) (L : List QCh) (zs : List Int) (bs : List Nat) : List QCh :=
  moreL L (zs.take (spareN L zs.length)) ++ newChs (roomQ I) (zs.drop (spareN L zs.length)) bs (List.range (manyQ I L zs.length))
def PushPost (I : QuId) (L : List QCh) (bst : BookSt) (N : Nat) (F G : Nat → Prop) (zs : List Int) (w : World) : Ending → World → Prop := fun e w' =>
  e = .returned (.int .i64 (pushE I L bst zs.length)) ∧ (pushE I L bst zs.length ≠ 0 → QRPost w w' I L (pushSt I L bst zs.length) N F G) ∧
  (pushE I L bst zs.length = 0 → ∃ bs : List Nat, bs.length = manyQ I L zs.length ∧ (∀ b ∈ bs, w.heap.size ≤ b) ∧ QRPost w w' I (pushL I L zs bs) (pushSt I L bst zs.length) N F G)
theorem growE_zero {k s m : Int} {sz : Nat} (hp : polErr k s m = 0) (h1 : sz ≤ 100000) (h2 : (sz : Int) ≤ m) : growE k s m ((0 : Nat) : Int) sz = 0 := by
  unfold growE gE
  rw [if_pos hp, if_pos ⟨by omega, by omega⟩]
  split
  · rfl
  · rw [if_neg (by omega)]

/-- Behind Take: the book's state is the one that Take gives. -/
def TakeCut (w wx : World) (I : QuId) (L : List QCh) (bst1 : BookSt) (N : Nat) (F G : Nat → Prop) : Prop :=
  ∃ G1, QR wx I L bst1 N F G1 ∧ (∀ k, G1 k → G k ∨ w.heap.size ≤ k) ∧ Touch G w wx
theorem QR.taken {w w' : World} {I : QuId} {L : List QCh} {bst bst1 : BookSt} {N : Nat} {F G : Nat → Prop} (h : QR w I L bst N F G) (g : Good bst1)
    (hb : BookAt w' (fun k => G k ∨ w.heap.size ≤ k) I.bp bst1 N) (ht : Touch G w w') : TakeCut w w' I L bst1 N F G := by
  have hs := ht.size
  obtain ⟨cv, hm⟩ := h.qu
  refine ⟨_, ⟨⟨cv, hm.same (ht.same (fun k hk hl x => h.dis k hk x))⟩, hb.narrow, ?_, ?_, fun k hk => hk.2, h.pol, h.sz, g, h.ok⟩, fun k hk => hk.1, ht⟩
  · rintro k hk ⟨x | x, _⟩
    · exact h.dis k hk x
    · have := h.fl k hk; omega
  · intro k hk; have := h.fl k hk; omega

theorem QRPost.of_take {w w4 wx : World} {I : QuId} {L : List QCh} {bst1 : BookSt} {N : Nat} {F G : Nat → Prop} (hb : Below w.heap.size w w4) (h : TakeCut w4 wx I L bst1 N F G) : QRPost w wx I L bst1 N F G := by
  obtain ⟨G1, h1, h2, h3⟩ := h
  have hs := hb.size
  exact ⟨F, G1, h1, fun k hk => Or.inl hk, fun k hk => (h2 k hk).imp id (fun x => by omega), (Touch.of_below hb).then (h3.mono (fun k hk => Or.inr hk))⟩

theorem QuMem.last {w : World} {F : Nat → Prop} {I : QuId} {L : List QCh} {cv : Value} {k : Nat} (h : QuMem w F I L cv) (hk : L.length = k + 1) :
    ∃ g cap, cv = .slice (some ⟨g, 0, none⟩) L.length cap ∧ L.length ≤ cap ∧ w.cell? ⟨g, k * 3, none⟩ = some (.slice (some ⟨(L.getD k QCh.zero).b, 0, none⟩) (L.getD k QCh.zero).os.length (L.getD k QCh.zero).os.length) ∧
      w.cell? ⟨g, k * 3 + 2, none⟩ = some (.int .i64 (L.getD k QCh.zero).to) ∧ ∃ cur, w.heap[g]? = some (.cells cur 103 (0, 0)) := by
  obtain ⟨ca', cc', he, h1, h2, hcc⟩ := h.chs
  obtain ⟨b, o', ha', d0, d1, d2⟩ := hcc k (by omega)
  obtain ⟨g, cap, hsh⟩ : ∃ g cap, cv = .slice (some ⟨g, 0, none⟩) L.length cap := by
    rcases h.crow.2 with ⟨h1, h2⟩ | ⟨g, cap', cur, h1, _⟩
    · omega
    · exact ⟨g, cap', h1⟩
  rw [hsh] at he
  simp only [Value.slice.injEq, true_and] at he
  obtain ⟨rfl, rfl⟩ := he
  simp only [Option.some.injEq, Addr.mk.injEq, and_true] at ha'
  obtain ⟨rfl, rfl⟩ := ha'
  rw [Nat.zero_add] at d0 d2
  subst hsh
  obtain ⟨cur, hcur⟩ := row_block h.crow rfl
  exact ⟨g, cap, rfl, h1, d0, d2, _, hcur⟩

/-- Behind the spare part of the last chunk. -/
def MoreCut (w wx : World) (I : QuId) (L : List QCh) (bst : BookSt) (N : Nat) (F G : Nat → Prop) (ys : List Int) : Prop :=
  QR wx I (moreL L ys) bst N F G ∧ Touch F w wx
theorem qlast_split {L : List QCh} {k : Nat} (hk : L.length = k + 1) : L = L.take k ++ [L.getD k QCh.zero] := by
  have h1 : L = L.take (k + 1) := by rw [← hk]; exact List.take_length.symm
  have h2 : L.take (k + 1) = L.take k ++ [L.getD k QCh.zero] := by
    rw [List.take_succ_eq_append_getElem (by omega)]
    simp [List.getD_eq_getElem?_getD, hk]
  exact h1.trans h2
theorem qlast_set {L : List QCh} {k : Nat} (hk : L.length = k + 1) (y : QCh) : L.set k y = L.take k ++ [y] := by
  rw [List.set_eq_take_append_cons_drop, if_pos (by omega), List.drop_of_length_le (by omega)]
theorem QR.mored {w w7 : World} {I : QuId} {L : List QCh} {bst : BookSt} {N : Nat} {F G : Nat → Prop} {g cap k : Nat} (h : QR w I L bst N F G) (hk : L.length = k + 1) (hm : QuMem w F I L (.slice (some ⟨g, 0, none⟩) L.length cap))
    (ys : List Int) (hz : (L.getD k QCh.zero).to + ys.length ≤ (L.getD k QCh.zero).os.length)
    (hrow : byteRow w7 (L.getD k QCh.zero).b (splice (L.getD k QCh.zero).os (L.getD k QCh.zero).to ys)) (hT : Touch (fun j => j = (L.getD k QCh.zero).b) w w7) :
    MoreCut w (w7.setCell ⟨g, k * 3 + 2, none⟩ (.int .i64 ((L.getD k QCh.zero).to + ys.length : Nat))) I L bst N F G ys := by
  have hkl : k < L.length := by omega
  have hin := qgetD_in hkl
  have M2 := hm.more k ys hkl hz hrow hT
  have hFb := (hm.mem _ hin).2
  have hg := hm.fc g rfl
  have T2 : Touch F w (w7.setCell ⟨g, k * 3 + 2, none⟩ (.int .i64 ((L.getD k QCh.zero).to + ys.length : Nat))) := (hT.mono (fun j e => e ▸ hFb)).setCell (Or.inl hg) _
  have hok := h.ok.2 _ hin
  have hsl : ((L.getD k QCh.zero).more ys).os.length = (L.getD k QCh.zero).os.length := splice_len _ _ _ hz
  have hs := T2.size
  have eL : moreL L ys = L.set k ((L.getD k QCh.zero).more ys) := by unfold moreL lastQ; rw [hk]; rfl
  refine ⟨?_, T2⟩
  rw [eL]
  refine ⟨⟨_, M2⟩, h.bk.same (T2.same (fun j hj _ x => h.dis j x hj)), h.dis, fun j hj => by have := h.fl j hj; omega, fun j hj => by have := h.gl j hj; omega, h.pol, h.sz, h.good, ⟨by simp; exact h.ok.1, ?_⟩⟩
  intro c hc
  rcases List.mem_or_eq_of_mem_set hc with hc | rfl
  · exact h.ok.2 c hc
  · exact ⟨by show (L.getD k QCh.zero).fr ≤ _ + _; have := hok.1; omega, by rw [hsl]; exact hz, by rw [hsl]; exact hok.2.2⟩

def MoreS (g k xb xl xt : Nat) (w' : World) : Prop := w'.cell? ⟨g, k * 3, none⟩ = some (.slice (some ⟨xb, 0, none⟩) xl xl) ∧ w'.cell? ⟨g, k * 3 + 2, none⟩ = some (.int .i64 xt)
theorem reads_pos {w : World} {k : IntKind} {a : Option Addr} {n c : Nat} {zs : List Int} (h : Reads w k (.slice a n c) zs) (m : Nat) (hm : 0 < m) (hl : m ≤ zs.length) :
    ∃ ad, a = some ad ∧ ∀ j u, ((zs.take m).map (Value.int k))[j]? = some u → w.cell? (ad.add j) = some u := by
  obtain ⟨a', c', he, _, hne⟩ := h
  simp only [Value.slice.injEq] at he
  obtain ⟨rfl, _, _⟩ := he
  obtain ⟨b, o, rfl, hh⟩ := hne (by intro e; rw [e] at hl; simp at hl; omega)
  refine ⟨_, rfl, fun j u hj => ?_⟩
  have hjm : j < m := by
    rcases Nat.lt_or_ge j m with h | h
    · exact h
    · rw [List.getElem?_eq_none (by simp; omega)] at hj; cases hj
  have e1 : (⟨b, o, none⟩ : Addr).add j = ⟨b, o + j, none⟩ := by unfold Addr.add; split <;> simp_all
  rw [e1, hh j (by omega), ← hj]
  simp [hjm, List.getD_eq_getElem?_getD, List.getElem?_eq_getElem (show j < zs.length by omega)]
def PushS2 (x r : Nat) (ka : Option Addr) (n kc : Nat) (w' : World) : Prop := w'.cell? ⟨x, 0, none⟩ = some (.pointer (some ⟨r, 0, none⟩)) ∧ w'.cell? ⟨r, 7, none⟩ = some (.slice ka n kc)
theorem hsl_round (gn : Nat) (ys : List Int) (h : ys.length ≤ gn) : (splice (zeros gn) 0 ys).length = gn := by rw [splice_len _ _ _ (by simp [zeros]; omega)]; simp [zeros]
def PushS (I : QuId) (x : Nat) (w' : World) : Prop := w'.cell? ⟨x, 0, none⟩ = some (.pointer (some ⟨I.r, 0, none⟩)) ∧ w'.cell? ⟨I.r, 2, none⟩ = some (.int .i64 I.k) ∧ w'.cell? ⟨I.r, 3, none⟩ = some (.int .i64 I.s) ∧ w'.cell? ⟨I.r, 4, none⟩ = some (.int .i64 I.m) ∧ w'.cell? ⟨I.r, 5, none⟩ = some (.int .i64 I.sz)
/-- Behind the room that a new chunk gets. -/
def GrowCut (w : World) (gv ge : Int) (s7 s8 : Value) (wx : World) : Prop :=
  ∃ b, s7 = .pointer (some ⟨b, 0, none⟩) ∧ s8 = .int .i64 ge ∧ wx.heap[b]? = some (.cells #[.int .i64 gv] 3 (0, 0)) ∧ w.heap.size ≤ b ∧ Below w.heap.size w wx

set_option maxHeartbeats 4000000 in
set_option maxRecDepth 100000 in
theorem push_any (I : QuId) (L : List QCh) (bst : BookSt) (K : Nat) (F G : Nat → Prop) (v : Value) (zs : List Int) (w : World) (h : QR w I L bst K F G) (hv : ∀ w', Touch (fun k => F k ∨ G k) w w' → Reads w' .u8 v zs) (hN : zs.length ≤ 140737488351232) :
    Calls Tryz.prog 29 #[.pointer (some ⟨I.r, 0, none⟩), v] w (PushPost I L bst K F G zs w) := by
  obtain ⟨i0, hi0, hz0, hz1, hz2⟩ := info_parts infoQChunk
  by_cases hlong : 100000 < zs.length + qsum QCh.len L
  · obtain ⟨a, c, rfl, _, _⟩ := hv w (Touch.refl _ _)
    have eE : pushE I L bst zs.length = 4 := if_pos hlong
    have eS : pushSt I L bst zs.length = bst := if_pos hlong
    unfold PushPost
    rw [eE, eS]
    exact (push_long I L bst K F G a zs.length c w h hN hlong).mono fun e w' ⟨h1, h2⟩ => ⟨h1, fun _ => h2, fun x => by cases x⟩
  replace hN : zs.length ≤ 100000 := by omega
  have EE : Hid (pushE I L bst zs.length = if 500 < L.length + manyQ I L zs.length then 4 else takenE bst I.o (manyQ I L zs.length * roomQ I)) := Lib.hid (if_neg hlong)
  have ES : Hid (pushSt I L bst zs.length = if 500 < L.length + manyQ I L zs.length then bst else takenSt bst I.o (manyQ I L zs.length * roomQ I)) := Lib.hid (if_neg hlong)
  have EM : Hid (manyQ I L zs.length = (zs.length - spareN L zs.length + roomQ I - 1) / roomQ I) := Lib.hid rfl
  have ER : Hid (roomQ I = (growV I.k I.s I.m ((0 : Nat) : Int) I.sz).toNat) := Lib.hid rfl
  have EL : Hid (∀ bs, pushL I L zs bs = moreL L (zs.take (spareN L zs.length)) ++ newChs (roomQ I) (zs.drop (spareN L zs.length)) bs (List.range (manyQ I L zs.length))) := Lib.hid (fun _ => rfl)
  unfold PushPost
  generalize pushE I L bst zs.length = PE at *
  generalize pushSt I L bst zs.length = PS at *
  generalize pushL I L zs = PL at *
  generalize manyQ I L zs.length = MQ at *
  generalize roomQ I = RQ at *
  obtain ⟨cv, hm⟩ := h.qu
  have W1 : Below w.heap.size w (w.alloc (.cells #[.pointer (some ⟨I.r, 0, none⟩)] 30)) := (Below.refl _ _).alloc (Nat.le_refl _) _
  have AB0 := Lib.hid h
  have HM := Lib.hid hm
  have HLEN := Lib.hid (qLen_any I F L cv _ (hm.below W1) h.ok)
  have hsum := h.ok.sum L.length
  rw [List.take_length] at hsum
  have k6 : (w.alloc (.cells #[.pointer (some ⟨I.r, 0, none⟩)] 30)).cell? ⟨I.r, 6, none⟩ = some (.bool false) := by rw [cell_of (hm.below W1).self]; rfl
  have HW1 := Lib.hid W1
  have HV := Lib.hid hv
  obtain ⟨va, vc, rfl, _, _⟩ := hv w (Touch.refl _ _)
  obtain ⟨ca, cc, hcv, g1, g2, hcc⟩ := hm.chs
  subst hcv
  have HCC := Lib.hid hcc
  have b63 := h.ok.1
  have rlt := lt_of hm.self
  have PB : (w.alloc (.cells #[.pointer (some ⟨I.r, 0, none⟩)] 30)).heap[w.heap.size]? = some (.cells #[.pointer (some ⟨I.r, 0, none⟩)] 30 (0, 0)) := heap_alloc_new w _
  have HPB := Lib.hid PB
  generalize hS : qsum QCh.len L = S at *
  have HS := Lib.hid hS
  have HMC := Lib.hid (moreL_len L)
  generalize hNN : zs.length = N at *
  have HNN := Lib.hid hNN
  generalize hn : L.length = n at *
  have HL := Lib.hid hn
  clear h hm W1 PB hv hcc hS hNN hn
  refine callsIn_wide (n := 9).1 ?_
  refine callsIn_of_wp_marks Tryz.func29 rfl trivial ?_ rfl
  simp only [Tryz.ntmps29, List.size_toArray, List.length_cons, List.length_nil, Nat.reduceAdd, Nat.reduceSub, Array.replicate_succ, Array.replicate_zero, List.push_toArray, List.append_toArray, List.nil_append, List.cons_append]
  refine wpIn_wide.2 ?_
  go_wp2_with fail
  refine HLEN.out.mono ?_
  rintro e w2 ⟨rfl, hb2⟩
  have hs0 := HW1.out.size
  have B2 := Lib.hid (HW1.out.trans (hb2.mono hs0))
  have M2 := HM.out.below B2.out
  have P2 := (hb2.block _ (lt_of HPB.out)).trans HPB.out
  have c7 : w2.cell? ⟨I.r, 7, none⟩ = some (.slice ca n cc) := by rw [cell_of M2.self]; rfl
  have cq : w2.cell? ⟨w.heap.size, 0, none⟩ = some (.pointer (some ⟨I.r, 0, none⟩)) := by rw [cell_of P2]; rfl
  have HM2 := Lib.hid M2
  have HP2 := Lib.hid P2
  have AB2 := Lib.hid (AB0.out.below B2.out)
  clear hb2 M2 P2 k6
  go_upto_if 34 with fail
  go_cut [5] from 35 to 57 (fun s5 wx => s5 = .int .i64 (spareN L N : Nat) ∧ ∃ q, wx = w2.drewN q)
  case first =>
    cases n with
    | zero =>
      have hsp : Hid (spareN L N = 0) := Lib.hid (by unfold spareN; rw [if_pos HL.out])
      go_wp2_with fail
      go_meet
      exact ⟨by rw [hsp.out]; rfl, 0, rfl⟩
    | succ k =>
      obtain ⟨b, o, hca, d0, d1, d2⟩ := HCC.out k (by omega)
      have e0 := old_cell B2.out d0
      have e2 := old_cell B2.out d2
      obtain ⟨q1, q2, q3⟩ := AB0.out.ok.2 _ (qgetD_in (show k < L.length by rw [HL.out]; omega))
      subst hca
      have hsp : Hid (spareN L N = min ((L.getD k QCh.zero).os.length - (L.getD k QCh.zero).to) N) := Lib.hid (by unfold spareN lastQ; rw [HL.out, if_neg (by omega)]; rfl)
      generalize L.getD k QCh.zero = x at *
      obtain ⟨xb, xos, xf, xt⟩ := x
      dsimp only at *
      generalize xos.length = xl at *
      clear d0 d1 d2
      simp only [Int.natCast_add]
      go_wp2_with fail
      go_quiet (fail)
      go_wp2_with fail
      all_goals
        go_meet
        refine ⟨?_, nq, rfl⟩
        rw [hsp.out]
        congr 1
        omega
  case rest =>
    obtain ⟨rfl, q, rfl⟩ := hcut
    have hsn : Hid (spareN L N ≤ N) := Lib.hid (by unfold spareN; split <;> omega)
    generalize hSP : spareN L N = sp at *
    have HSP := Lib.hid hSP
    clear hSP
    have AB3 := Lib.hid (AB2.out.below (bdrewN (Below.refl _ w2) q))
    have P3 : Hid ((w2.drewN q).heap[w.heap.size]? = some (.cells #[.pointer (some ⟨I.r, 0, none⟩)] 30 (0, 0))) := Lib.hid HP2.out
    have B3 := Lib.hid (bdrewN B2.out q)
    have M3 := Lib.hid (HM2.out.below (bdrewN (Below.refl _ w2) q))
    clear HM2 HP2 c7 cq
    generalize w2.drewN q = w3 at *
    have c2 : w3.cell? ⟨I.r, 2, none⟩ = some (.int .i64 I.k) := by rw [cell_of M3.out.self]; rfl
    have c3 : w3.cell? ⟨I.r, 3, none⟩ = some (.int .i64 I.s) := by rw [cell_of M3.out.self]; rfl
    have c4 : w3.cell? ⟨I.r, 4, none⟩ = some (.int .i64 I.m) := by rw [cell_of M3.out.self]; rfl
    have c5 : w3.cell? ⟨I.r, 5, none⟩ = some (.int .i64 I.sz) := by rw [cell_of M3.out.self]; rfl
    have cq : w3.cell? ⟨w.heap.size, 0, none⟩ = some (.pointer (some ⟨I.r, 0, none⟩)) := by rw [cell_of P3.out]; rfl
    have GC := Lib.hid (fun W => grow_any I.k I.s I.m 0 I.sz W)
    generalize hGV : growV I.k I.s I.m 0 I.sz = GV at *
    generalize hGE : growE I.k I.s I.m 0 I.sz = GE at *
    have HGV := Lib.hid hGV
    have HGE := Lib.hid hGE
    clear hGV hGE
    go_upto_region 9 with fail
    go_cut [7, 8] from 58 to 69 (fun s7 s8 wx => GrowCut w3 GV GE s7 s8 wx)
    case first =>
      have s0 : ∀ y : WIn (PushS I w.heap.size), y.w.cell? ⟨w.heap.size, 0, none⟩ = some (.pointer (some ⟨I.r, 0, none⟩)) := fun y => y.h.1
      have s2 : ∀ y : WIn (PushS I w.heap.size), y.w.cell? ⟨I.r, 2, none⟩ = some (.int .i64 I.k) := fun y => y.h.2.1
      have s3 : ∀ y : WIn (PushS I w.heap.size), y.w.cell? ⟨I.r, 3, none⟩ = some (.int .i64 I.s) := fun y => y.h.2.2.1
      have s4 : ∀ y : WIn (PushS I w.heap.size), y.w.cell? ⟨I.r, 4, none⟩ = some (.int .i64 I.m) := fun y => y.h.2.2.2.1
      have s5 : ∀ y : WIn (PushS I w.heap.size), y.w.cell? ⟨I.r, 5, none⟩ = some (.int .i64 I.sz) := fun y => y.h.2.2.2.2
      haveI ne : Nonempty (WIn (PushS I w.heap.size)) := ⟨⟨w3, cq, c2, c3, c4, c5⟩⟩
      refine wp_normal ?_
      refine wp_region_plan 8 (PushS I w.heap.size) rfl ?_
      refine wpN_seg [0, 1, 2, 3, 4, 5, 6, 7] (by kernel_rfl) (by kernel_rfl) (by kernel_rfl) (by kernel_rfl) (by decide) (fun _ _ _ _ _ h => h) ⟨cq, c2, c3, c4, c5⟩ ?_
      simp only [pick, List.map_cons, List.map_nil, List.getElem?_cons_succ, List.getElem?_cons_zero, Option.getD_some]
      repeat (go_big_quiet_step (fail))
      refine wpQuiet_nil ?_
      refine wpN_two 8 12 _ _ (by kernel_rfl) rfl rfl ?_ ?_
      · refine NextAt.free (by kernel_rfl) ?_
        intro K hK
        go_simp
        refine (GC.out _).mono ?_
        rintro e w4 ⟨rfl, hb4⟩
        have HB4 := Lib.hid hb4
        clear hb4
        go_simp
        refine hK _ _ ?_
        clear hK K
        refine wpN_pure [9, 10, 11] (by kernel_rfl) (by kernel_rfl) (by kernel_rfl) (fun _ _ _ _ _ h => h) (fun h => by cases h) ?_
        simp only [pick, List.map_cons, List.map_nil, List.getElem?_cons_succ, List.getElem?_cons_zero, Option.getD_some]
        repeat (go_big_quiet_step (fail))
        refine wpQuiet_nil ?_
        refine wpN_one 12 _ (by kernel_rfl) rfl ?_
        refine NextAt.free (by kernel_rfl) ?_
        intro K hK
        go_simp
        refine hK _ _ ?_
        clear hK K
        refine wpN_one 13 _ (by kernel_rfl) rfl ?_
        refine NextAt.free (by kernel_rfl) ?_
        intro K hK
        go_simp
        refine hK _ _ ?_
        clear hK K
        refine wpN_one 14 _ (by kernel_rfl) rfl ?_
        refine NextAt.free (by kernel_rfl) ?_
        intro K hK
        go_simp
        refine hK _ _ ?_
        clear hK K
        refine wpN_done (by kernel_rfl) ?_
        go_wp2_with fail
        go_meet
        have hs4 := HB4.out.size
        exact ⟨_, rfl, rfl, heap_alloc_new w4 _, hs4, ((show Below w3.heap.size w3 w3.drew from bdrewN (Below.refl _ _) 1).trans HB4.out).alloc hs4 _⟩
      · have hA : Below w3.heap.size w3 (w3.drew.alloc (.cells #[.int .i64 0] 3)) := (show Below w3.heap.size w3 w3.drew from bdrewN (Below.refl _ _) 1).alloc (Nat.le_refl _) _
        have SA : PushS I w.heap.size (w3.drew.alloc (.cells #[.int .i64 0] 3)) := ⟨old_cell hA cq, old_cell hA c2, old_cell hA c3, old_cell hA c4, old_cell hA c5⟩
        have HA := Lib.hid hA
        have HSA := Lib.hid SA
        clear hA SA
        refine NextAt.held ?_
        intro K hK
        go_simp
        refine hK _ _ HSA.out ?_
        clear hK K
        refine wpN_one 8 _ (by kernel_rfl) rfl ?_
        refine NextAt.free (by kernel_rfl) ?_
        intro K hK
        go_simp
        refine (GC.out _).mono ?_
        rintro e w4 ⟨rfl, hb4⟩
        have hs4 := hb4.size
        have hbx : w4.heap[w3.heap.size]? = some (.cells #[.int .i64 0] 3 (0, 0)) := (hb4.block _ (by simp)).trans (heap_alloc_new w3.drew _)
        have hfx : w4.frozen? ⟨w3.heap.size, 0, none⟩ = false := free_of hbx _
        have hcx : w4.cell? ⟨w3.heap.size, 0, none⟩ = some (.int .i64 0) := by rw [cell_of hbx]; rfl
        have HBX := Lib.hid hbx
        have HB4 := Lib.hid (HA.out.trans (hb4.mono (by simp)))
        clear hb4 hbx
        go_simp
        refine hK _ _ ?_
        clear hK K
        refine wpN_pure [9, 10, 11] (by kernel_rfl) (by kernel_rfl) (by kernel_rfl) (fun _ _ _ _ _ h => h) (fun h => by cases h) ?_
        simp only [pick, List.map_cons, List.map_nil, List.getElem?_cons_succ, List.getElem?_cons_zero, Option.getD_some]
        repeat (go_big_quiet_step (fail))
        refine wpQuiet_nil ?_
        refine wpN_one 13 _ (by kernel_rfl) rfl ?_
        refine NextAt.free (by kernel_rfl) ?_
        intro K hK
        go_simp
        refine hK _ _ ?_
        clear hK K
        refine wpN_one 14 _ (by kernel_rfl) rfl ?_
        refine NextAt.free (by kernel_rfl) ?_
        intro K hK
        go_simp
        refine hK _ _ ?_
        clear hK K
        refine wpN_done (by kernel_rfl) ?_
        go_wp2_with fail
        go_meet
        refine ⟨_, rfl, rfl, ?_, Nat.le_refl _, HB4.out.setCell (Nat.le_refl _) _⟩
        rw [block_setCell HBX.out]
        rfl
    case rest =>
      obtain ⟨gb, rfl, rfl, hgx, hgl, hbg⟩ := hcut
      have HGX := Lib.hid hgx
      have B4 := Lib.hid (B3.out.trans (hbg.mono B3.out.size))
      have AB4 := Lib.hid (AB3.out.below hbg)
      have M4 := Lib.hid (M3.out.below hbg)
      have P4 := Lib.hid ((hbg.block _ (lt_of P3.out)).trans P3.out)
      have hw4 := B4.out.size
      have hgl2 : w.heap.size ≤ gb := Nat.le_trans B3.out.size hgl
      have hgb : gb < wc.heap.size := lt_of hgx
      clear hgx hbg c2 c3 c4 c5 cq GC M3 P3 AB3
      rename_i wc
      generalize wc = w4 at *
      by_cases hge : GE = 0
      · subst hge
        obtain ⟨zn, hzn⟩ : ∃ zn : Nat, I.sz = zn := ⟨I.sz.toNat, by have := AB0.out.sz; omega⟩
        have hg3 := growV_new I.k I.s I.m 0 zn AB0.out.pol (by omega) (by have := AB0.out.sz; omega) (by rw [← hzn]; exact HGE.out)
        rw [← hzn] at hg3
        have hgv : growV I.k I.s I.m ((0 : Nat) : Int) I.sz = GV := HGV.out
        rw [hgv] at hg3
        obtain ⟨gn, hgn⟩ : ∃ gn : Nat, GV = gn := ⟨GV.toNat, by have := AB0.out.sz; omega⟩
        subst hgn
        have HRQ : Hid (RQ = gn) := Lib.hid (by rw [ER.out]; simp)
        have hg1 : 1 ≤ gn := by have := AB0.out.sz; omega
        have hg2 : gn ≤ 100000 := by omega
        clear hg3 hzn hgv zn
        have hsn' := hsn.out
        have hmany : ((N : Int) - sp + gn - 1) / gn = (((N - sp + gn - 1) / gn : Nat) : Int) := by
          rw [Int.natCast_ediv]
          congr 1
          omega
        have PC := Lib.hid (parts_count (N - sp) gn hg1)
        have hMb : (N - sp + gn - 1) / gn ≤ 200000 := Nat.le_trans (Nat.div_le_self _ _) (by omega)
        have hMg : Hid ((N - sp + gn - 1) / gn * gn ≤ 200000) := Lib.hid (Nat.le_trans (Nat.div_mul_le_self _ _) (by omega))
        have HMQ : Hid (MQ = (N - sp + gn - 1) / gn) := Lib.hid (by rw [EM.out, HRQ.out])
        generalize (N - sp + gn - 1) / gn = M at *
        have cg : w4.cell? ⟨gb, 0, none⟩ = some (.int .i64 gn) := by rw [cell_of HGX.out]; rfl
        have cq : w4.cell? ⟨w.heap.size, 0, none⟩ = some (.pointer (some ⟨I.r, 0, none⟩)) := by rw [cell_of P4.out]; rfl
        have c7 : w4.cell? ⟨I.r, 7, none⟩ = some (.slice ca n cc) := by rw [cell_of M4.out.self]; rfl
        go_upto_region 13 with fail
        rw [hmany]
        by_cases hfull : 500 < n + M
        · have HQ := Lib.hid (QRPost.of_below AB0.out B4.out)
          have e1 : PE = 4 := by rw [EE.out, if_pos (by rw [HMQ.out]; exact hfull)]
          have e2 : PS = bst := by rw [ES.out, if_pos (by rw [HMQ.out]; exact hfull)]
          subst e1 e2
          go_wp2_with fail
          refine ⟨_, results_tmp rfl _ _ _, ?_⟩
          exact ⟨rfl, fun _ => HQ.out, fun x => by cases x⟩
        · have e1 : Hid (PE = takenE bst I.o (M * gn)) := Lib.hid (by rw [EE.out, if_neg (by rw [HMQ.out]; exact hfull), HMQ.out, HRQ.out])
          have e2 : Hid (PS = takenSt bst I.o (M * gn)) := Lib.hid (by rw [ES.out, if_neg (by rw [HMQ.out]; exact hfull), HMQ.out, HRQ.out])
          clear EE ES
          go_upto_if 91 with fail
          have c0 : w4.cell? ⟨I.r, 0, none⟩ = some (.pointer (some ⟨I.bp, 0, none⟩)) := by rw [cell_of M4.out.self]; rfl
          have c1 : w4.cell? ⟨I.r, 1, none⟩ = some (.int .i64 I.o) := by rw [cell_of M4.out.self]; rfl
          go_cut [4, 10] from 91 to 106 (fun s4 s10 wx => (s4 = .int .i64 0 ∧ (s10 = undef ∨ s10 = .int .i64 0)) ∧ Hid (PE = 0) ∧ TakeCut w4 wx I L PS K F G)
          case first =>
            by_cases hM0 : M = 0
            · subst hM0
              have TC : Hid (Hid (PE = 0) ∧ TakeCut w4 w4 I L PS K F G) := Lib.hid ⟨Lib.hid (by rw [e1.out, Nat.zero_mul]; rfl), G, by rw [e2.out, Nat.zero_mul]; exact AB4.out, fun k hk => Or.inl hk, Touch.refl _ _⟩
              go_wp2_with fail
              go_meet
              exact ⟨⟨rfl, Or.inl rfl⟩, TC.out⟩
            · have hMp : 0 < M := by omega
              have hwr : IntKind.i64.wrap ((M : Int) * (gn : Int)) = ((M * gn : Nat) : Int) := by
                rw [← Int.natCast_mul]
                exact IntWalk.i64_in _ (by have := hMg.out; omega)
              have hMg' := hMg.out
              have TK := Lib.hid (fun W (hb : Below w4.heap.size w4 W) => take_all I.bp I.o (M * gn : Nat) W G bst K (AB4.out.bk.same (Below.same_on hb)) AB0.out.good)
              have TG := Lib.hid (takeR_good AB0.out.good I.o (M * gn : Nat))
              have hMG0 : M * gn ≠ 0 := by have := Nat.mul_le_mul hMp hg1; omega
              generalize hMG : M * gn = MG at *
              have HMG := Lib.hid hMG
              have EE : Hid (PE = (takeR bst I.o MG).1) := Lib.hid (by rw [e1.out]; unfold takenE; rw [if_neg hMG0])
              have ES : Hid (PS = (takeR bst I.o MG).2) := Lib.hid (by rw [e2.out]; unfold takenSt; rw [if_neg hMG0])
              generalize takeR bst I.o MG = tr at *
              obtain ⟨te, ts⟩ := tr
              simp only at TK TG EE ES
              clear hmany hMG hMG0 e1 e2
              go_upto_region 16 with fail
              refine wp_region_mid 11 _ (by kernel_rfl) (by kernel_rfl) rfl ?_
              simp only [List.take_succ_cons, List.take_zero, List.drop_succ_cons, List.drop_zero]
              repeat (go_big_quiet_step (fail))
              refine wpQuiet_nil ?_
              intro _ hw'
              obtain ⟨nq4, rfl⟩ := hw'
              intro K' hK
              go_simp
              refine (TK.out _ (bdrewN (Below.refl _ _) _)).mono ?_
              rintro e w5 ⟨rfl, hb5, ht5⟩
              have ht5' := ((Touch.refl G w4).drewN nq4).then ht5
              have TC : Hid (∀ q, TakeCut w4 (w5.drewN q) I L PS K F G) := Lib.hid (fun q => by
                rw [ES.out]
                exact AB4.out.taken TG.out (hb5.same (Below.same_on (bdrewN (Below.refl _ w5) q))) (ht5'.drewN q))
              clear hb5 ht5 ht5'
              by_cases hE : te = 0
              · subst hE
                have PE0 : Hid (PE = 0) := EE
                go_simp
                refine hK _ _ ?_
                clear hK K'
                repeat (go_big_quiet_step (fail))
                refine wpQuiet_nil ?_
                intro _ hw'
                obtain ⟨nq5, rfl⟩ := hw'
                have TC5 := Lib.hid (TC.out nq5)
                generalize w5.drewN nq5 = w6 at *
                clear TC
                go_wp2_with fail
                go_meet
                exact ⟨⟨rfl, Or.inr rfl⟩, PE0, TC5.out⟩
              · have HE := Lib.hid hE
                go_simp
                refine hK _ _ ?_
                clear hK K'
                repeat (go_big_quiet_step (fail))
                refine wpQuiet_nil ?_
                intro _ hw'
                obtain ⟨nq5, rfl⟩ := hw'
                have TC5 := Lib.hid (QRPost.of_take B4.out (TC.out nq5))
                generalize w5.drewN nq5 = w6 at *
                clear TC
                go_wp2_with fail
                refine ⟨_, results_tmp rfl _ _ _, ?_⟩
                rw [EE.out]
                exact ⟨rfl, fun _ => TC5.out, fun x => absurd x HE.out⟩
          case rest =>
            obtain ⟨⟨rfl, _⟩, PE0, G5, qb5, hG5, t5⟩ := hcut
            have hgl0 := AB0.out.gl
            have P5 := Lib.hid ((t5.block _ (lt_of P4.out) (fun x => by have := hgl0 _ x; omega)).trans P4.out)
            have X5 := Lib.hid ((t5.block _ hgb (fun x => by have := hgl0 _ x; omega)).trans HGX.out)
            have T5 : Hid (Touch (fun k => F k ∨ G k) w wc) := Lib.hid ((Touch.of_below B4.out).then (t5.mono (fun k hk => Or.inr hk)))
            have QB5 := Lib.hid qb5
            have HG5 : Hid (∀ k, G5 k → G k ∨ w.heap.size ≤ k) := Lib.hid (fun k hk => (hG5 k hk).imp id (fun x => by omega))
            have hs5 := t5.size
            have CL := Lib.hid (clone_byte _ zs wc (HV.out _ T5.out) (by rw [HNN.out]; omega))
            clear qb5 t5 hG5 M4 P4 AB4 HGX hmany
            rename_i wc _ _
            generalize wc = w5 at *
            go_wp2_with fail
            refine CL.out.mono ?_
            rintro e w6 ⟨cl, rfl, hcl, hb6⟩
            rw [HNN.out] at hcl
            obtain ⟨la, lc, rfl⟩ := qrow_shape hcl
            have HCL := Lib.hid hcl
            have QB6 := Lib.hid (QB5.out.below hb6)
            have P6 := Lib.hid ((hb6.block _ (lt_of P5.out)).trans P5.out)
            have X6 := Lib.hid ((hb6.block _ (lt_of X5.out)).trans X5.out)
            have T6 : Hid (Touch (fun k => F k ∨ G k) w w6) := Lib.hid (T5.out.then (Touch.of_below hb6))
            have hs6 := hb6.size
            clear hcl hb6 CL
            go_upto_if 110 with fail
            go_cut [12] from 110 to 141 (fun _ wx => MoreCut w6 wx I L PS K F G5 (zs.take sp))
            case first =>
              by_cases hsp0 : sp = 0
              · subst hsp0
                have MC : Hid (MoreCut w6 w6 I L PS K F G5 (zs.take 0)) := Lib.hid ⟨by rw [List.take_zero, moreL_nil]; exact QB6.out, Touch.refl _ _⟩
                go_wp2_with fail
                go_meet
                exact MC.out
              · obtain ⟨k, hk⟩ : ∃ k, n = k + 1 := by
                  cases n with
                  | zero => exfalso; have := HSP.out; unfold spareN at this; rw [HL.out, if_pos rfl] at this; omega
                  | succ k => exact ⟨k, rfl⟩
                subst hk
                have hmin : sp = min ((L.getD k QCh.zero).os.length - (L.getD k QCh.zero).to) N := by rw [← HSP.out]; unfold spareN lastQ; rw [HL.out, if_neg (by omega)]; rfl
                have hmin2 : sp ≤ (L.getD k QCh.zero).os.length - (L.getD k QCh.zero).to := by rw [hmin]; exact Nat.min_le_left _ _
                clear hmin
                obtain ⟨cv6, hm6⟩ := QB6.out.qu
                obtain ⟨g, cap, hcv6, hcap, m0, m2, cur, hcur⟩ := hm6.last HL.out
                subst hcv6
                rw [HL.out] at hcap
                have HM6 := Lib.hid hm6
                have fz : w6.frozen? ⟨g, k * 3 + 2, none⟩ = false := free_of hcur _
                have cq : w6.cell? ⟨w.heap.size, 0, none⟩ = some (.pointer (some ⟨I.r, 0, none⟩)) := by rw [cell_of P6.out]; rfl
                have c7 : w6.cell? ⟨I.r, 7, none⟩ = some (.slice (some ⟨g, 0, none⟩) (k + 1) cap) := by rw [cell_of hm6.self, HL.out]; rfl
                have hxb := (QB6.out.ok.2 _ (qgetD_in (show k < L.length by rw [HL.out]; omega))).2
                have hxm := hm6.mem _ (qgetD_in (show k < L.length by rw [HL.out]; omega))
                have HXM := Lib.hid hxm
                have HMORE := Lib.hid (fun w7 (hb : byteRow w7 _ _) (hT : Touch _ w6 w7) => QR.mored QB6.out HL.out hm6 (zs.take sp) (by rw [List.length_take, HNN.out]; omega) hb hT)
                have HCUR := Lib.hid hcur
                clear hm6 hxm hcur
                generalize L.getD k QCh.zero = x at *
                obtain ⟨xb, xos, xf, xt⟩ := x
                dsimp only at *
                generalize hxl : xos.length = xl at *
                have HXL := Lib.hid hxl
                clear hxl
                simp only [Int.natCast_add]
                go_upto_region 22 with (go_quiet (fail))
                have s0 : ∀ y : WIn (MoreS g k xb xl xt), y.w.cell? ⟨g, k * 3, none⟩ = some (.slice (some ⟨xb, 0, none⟩) xl xl) := fun y => y.h.1
                have s2 : ∀ y : WIn (MoreS g k xb xl xt), y.w.cell? ⟨g, k * 3 + 2, none⟩ = some (.int .i64 xt) := fun y => y.h.2
                haveI ne : Nonempty (WIn (MoreS g k xb xl xt)) := ⟨⟨w6, m0, m2⟩⟩
                have hx1 : ¬ (xl = xt) := by omega
                have hx2 : xt ≤ xl := by omega
                have hx3 : sp ≤ lc := by obtain ⟨_, hh⟩ := HCL.out; rcases hh with ⟨hh, h0⟩ | ⟨_, _, _, hh, _, _, hh2, _⟩ <;> simp at hh <;> omega
                refine wp_normal ?_
                refine wp_region_plan 20 (MoreS g k xb xl xt) rfl ?_
                refine wpN_seg [0, 1, 2, 3, 4, 5, 6, 7, 8, 9, 10, 11, 12, 13, 14, 15] (by kernel_rfl) (by kernel_rfl) (by kernel_rfl) (by kernel_rfl) (by decide) (fun _ _ _ _ _ h => h) ⟨m0, m2⟩ ?_
                simp only [pick, List.map_cons, List.map_nil, List.getElem?_cons_succ, List.getElem?_cons_zero, Option.getD_some]
                repeat (go_big_quiet_step (fail))
                refine wpQuiet_nil ?_
                refine wpN_one 16 _ (by kernel_rfl) rfl ?_
                refine NextAt.held ?_
                intro K hK
                have hsl : (zs.take sp).length = sp := by rw [List.length_take, HNN.out]; omega
                refine step_copy_at rfl (.tmp 134) (.tmp 137) 42 42 rfl 5 Tryz.underlying42 (by kernel_rfl) (some ⟨xb, xt, none⟩) la (xl - xt) (xl - xt) sp lc (by simp [Act.eval]) (by simp [Act.eval]) xb xt (xos.map (Value.int .u8)) 5 HXM.out.1 ((zs.take sp).map (Value.int .u8)) (by rw [List.length_map, hsl]; show sp = min sp (xl - xt); omega) (fun _ => ⟨rfl, reads_pos (Reads.own (by rw [HNN.out]; exact HCL.out) (by rw [HNN.out]; omega)) sp (by omega) (by rw [HNN.out]; omega)⟩) (by rw [List.length_map, List.length_map, hsl, HXL.out]; omega) (by intro u hu; obtain ⟨z, _, rfl⟩ := List.mem_map.1 hu; rfl) ?_
                intro w7 hw7 ht7
                rw [← splice_mapF] at hw7
                rw [List.length_map, hsl]
                simp only [goInt]
                have hgx : g ≠ xb := fun e => by
                  have h1 := HCUR.out
                  have h2 := HXM.out.1
                  rw [e] at h1
                  unfold byteRow at h2
                  rw [h2] at h1
                  simp only [Option.some.injEq, Obj.cells.injEq] at h1
                  exact absurd h1.2.1 (by decide)
                have k7 : w7.heap[g]? = w6.heap[g]? := ht7.block g (lt_of HCUR.out) hgx
                have p0 : w7.cell? ⟨g, k * 3, none⟩ = some (.slice (some ⟨xb, 0, none⟩) xl xl) := by rw [← m0]; simp only [World.cell?, k7]
                have p2 : w7.cell? ⟨g, k * 3 + 2, none⟩ = some (.int .i64 xt) := by rw [← m2]; simp only [World.cell?, k7]
                have pf : w7.frozen? ⟨g, k * 3 + 2, none⟩ = false := free_of (k7.trans HCUR.out) _
                have FIN := Lib.hid (HMORE.out w7 hw7 (((Touch.refl _ w6).drewN (nq + 1)).then ht7))
                rw [hsl] at FIN
                clear hw7 ht7 k7
                go_simp
                refine hK _ _ ⟨p0, p2⟩ ?_
                clear hK K
                have hws : IntKind.i64.wrap ((xt : Int) + sp) = ((xt + sp : Nat) : Int) := by rw [← Int.natCast_add]; exact IntWalk.i64_in _ (by omega)
                refine wpN_pure [17, 18, 19] (by kernel_rfl) (by kernel_rfl) (by kernel_rfl) (fun _ _ _ _ _ h => h) (fun _ => ⟨p0, p2⟩) ?_
                simp only [pick, List.map_cons, List.map_nil, List.getElem?_cons_succ, List.getElem?_cons_zero, Option.getD_some]
                repeat (go_big_quiet_step (fail))
                refine wpQuiet_nil ?_
                refine wpN_one 20 _ (by kernel_rfl) rfl ?_
                refine NextAt.free (by kernel_rfl) ?_
                intro K hK
                go_simp
                refine hK _ _ ?_
                clear hK K
                refine wpN_done (by kernel_rfl) ?_
                go_wp2_with fail
                go_meet
                exact FIN.out
            case rest =>
              obtain ⟨qb7, t7⟩ := hcut
              have e1 : (moreL L (zs.take sp)).length = L.length := (HMC.out _).trans HL.out.symm
              have e9' : Hid (∀ bs, PL bs = moreL L (zs.take sp) ++ newChs gn (zs.drop sp) bs (List.range M)) := Lib.hid (fun bs => by rw [EL.out, HMQ.out, HRQ.out])
              generalize moreL L (zs.take sp) = L2 at *
              have hfl0 := AB0.out.fl
              have P7 := Lib.hid ((t7.block _ (lt_of P6.out) (fun x => by have := hfl0 _ x; omega)).trans P6.out)
              have X7 := Lib.hid ((t7.block _ (lt_of X6.out) (fun x => by have := hfl0 _ x; omega)).trans X6.out)
              have hcl7 : wc.ownsRow w5.heap.size 5 1 (.slice la N lc) N (zs.map (Value.int .u8)) := ownsRow_same HCL.out (fun j hj => t7.block j (HCL.out.lt j hj).2 (fun x => by have h1 := (HCL.out.lt j hj).1; have := hfl0 _ x; have := B4.out.size; omega))
              have C7 := Lib.hid hcl7
              have T7 : Hid (Touch (fun k => F k ∨ G k) w wc) := Lib.hid (T6.out.then (t7.mono (fun k hk => Or.inl hk)))
              have QB7 := Lib.hid qb7
              have hs7 := t7.size
              have E1 := Lib.hid e1
              clear e1 qb7 t7 hcl7 P6 X6 T6 HCL QB6
              rename_i wc _
              generalize wc = w7 at *
              have cg : w7.cell? ⟨gb, 0, none⟩ = some (.int .i64 gn) := by rw [cell_of X7.out]; rfl
              have hx3 : sp ≤ lc := by obtain ⟨_, hh⟩ := C7.out; rcases hh with ⟨hh, h0⟩ | ⟨_, _, _, hh, _, _, hh2, _⟩ <;> simp at hh <;> omega
              go_upto_region 23 with fail
              refine wp_region_mid 4 _ (by kernel_rfl) (by kernel_rfl) rfl ?_
              simp only [List.take_succ_cons, List.take_zero, List.drop_succ_cons, List.drop_zero]
              repeat (go_big_quiet_step (fail))
              refine wpQuiet_nil ?_
              intro _ hw'
              obtain ⟨nq8, rfl⟩ := hw'
              intro K hK
              go_simp
              generalize hsa : (if lc = sp then la else Option.map (fun x : Addr => x.add sp) la) = sa
              have HSA := Lib.hid hsa
              clear hsa
              refine (chunkMk_any sa (N - sp) (lc - sp) gn _ hg1).mono ?_
              rintro e w8 ⟨rfl, rfl⟩
              have b8 : Below w7.heap.size w7 (((w7.drewN nq8).alloc (.cells #[.slice sa (N - sp) (lc - sp)] 42)).alloc (.cells #[.int .i64 gn] 3)) := ((show Below w7.heap.size w7 (w7.drewN nq8) from bdrewN (Below.refl _ _) nq8).alloc (Nat.le_refl _) _).alloc (by simp) _
              have hBn := heap_alloc_new ((w7.drewN nq8).alloc (.cells #[.slice sa (N - sp) (lc - sp)] 42)) (.cells #[.int .i64 gn] 3)
              have hBs := (heap_alloc_old ((w7.drewN nq8).alloc (.cells #[.slice sa (N - sp) (lc - sp)] 42)) (.cells #[.int .i64 gn] 3) (r := w7.heap.size) (by simp)).trans (heap_alloc_new (w7.drewN nq8) _)
              have hsz : (((w7.drewN nq8).alloc (.cells #[.slice sa (N - sp) (lc - sp)] 42)).alloc (.cells #[.int .i64 gn] 3)).heap.size = w7.heap.size + 2 := by simp
              have e8 : ((w7.drewN nq8).alloc (.cells #[.slice sa (N - sp) (lc - sp)] 42)).heap.size = w7.heap.size + 1 := by simp
              rw [e8] at hBn
              have e9 : (w7.drewN nq8).heap.size = w7.heap.size := rfl
              rw [e9]
              generalize ((w7.drewN nq8).alloc (.cells #[.slice sa (N - sp) (lc - sp)] 42)).alloc (.cells #[.int .i64 gn] 3) = w8 at *
              have HB8 := Lib.hid (And.intro b8 (And.intro hBn (And.intro hBs hsz)))
              clear b8 hBn hBs hsz e8 e9
              go_simp
              refine hK _ _ ?_
              clear hK K
              repeat (go_big_quiet_step (fail))
              refine wpQuiet_nil ?_
              intro _ hw'
              obtain ⟨nq9, rfl⟩ := hw'
              have B9 : Hid (Below w7.heap.size w7 (w8.drewN nq9)) := Lib.hid (bdrewN HB8.out.1 nq9)
              have N9 : Hid ((w8.drewN nq9).heap[w7.heap.size + 1]? = some (.cells #[.int .i64 gn] 3 (0, 0))) := Lib.hid HB8.out.2.1
              have S9 : Hid ((w8.drewN nq9).heap[w7.heap.size]? = some (.cells #[.slice sa (N - sp) (lc - sp)] 42 (0, 0))) := Lib.hid HB8.out.2.2.1
              have Z9 : Hid ((w8.drewN nq9).heap.size = w7.heap.size + 2) := Lib.hid HB8.out.2.2.2
              clear HB8
              generalize w8.drewN nq9 = w9 at *
              have QB9 := Lib.hid (QB7.out.below B9.out)
              have P9 := Lib.hid ((B9.out.block _ (lt_of P7.out)).trans P7.out)
              have X9 := Lib.hid ((B9.out.block _ (lt_of X7.out)).trans X7.out)
              have C9 : Hid (w9.ownsRow w5.heap.size 5 1 (.slice la N lc) N (zs.map (Value.int .u8))) := Lib.hid (ownsRow_same C7.out (fun j hj => B9.out.block j (C7.out.lt j hj).2))
              have T9 : Hid (Touch (fun k => F k ∨ G k) w w9) := Lib.hid (T7.out.then (Touch.of_below B9.out))
              have S9' := S9.out
              rw [← HSA.out] at S9'
              obtain ⟨bb, off, hseq, hparts⟩ := chunk_seq C9.out HNN.out hN hsn' hg1 hg2 PC.out S9' N9.out
              have HSEQ := Lib.hid hseq
              have HPARTS := Lib.hid hparts
              clear hseq hparts S9' C7 QB7 T7 P7 X7
              go_wp2_with fail
              refine (wpIn_wide (n := 9)).1 ?_
              have hfl9 : ∀ k, F k → k < w9.heap.size := QB9.out.fl
              have hgl9 : ∀ k, G5 k → k < w9.heap.size := QB9.out.gl
              have hs9 := B9.out.size
              have hz9 := Z9.out
              have hpx := lt_of P9.out
              have hgx := lt_of X9.out
              have hnF : ∀ k, w.heap.size ≤ k → ¬ F k := fun k hk x => by have := hfl0 k x; omega
              have hw7 : w.heap.size ≤ w7.heap.size := by have := B4.out.size; omega
              have HNF := Lib.hid hnF
              have hIr : F I.r := HM.out.fr
              have HFL9 := Lib.hid (And.intro hfl9 hgl9)
              clear hfl9 hgl9 hnF
              generalize hfr : Act.mk _ _ = fr
              refine wpIn_rangeFunc_ownF (F := Fence.wide) (n := 9) rfl (by omega) (gf := 89) (lb := #[.pointer (some ⟨w7.heap.size, 0, none⟩), .pointer (some ⟨w7.heap.size + 1, 0, none⟩)]) (by rw [← hfr]; rfl) trivial (enters_of Tryz.func89 (by kernel_rfl) rfl)
                HSEQ.out KpC.trans (fun W l o o' hl _ _ _ => KpC.put (B := w9.heap.size) (by omega) (by omega) W l o o' hl) (Below.refl _ _) (fun _ => rfl)
                (PushI w9 I L2 gn PS K F G5 (zs.drop sp)) (fun _ _ _ => False) (PushI.own HFL9.out.1 HFL9.out.2) (fun _ _ _ _ _ hs _ _ => hs)
                ⟨[], F, rfl, by simp, by simpa [newChs] using QB9.out, fun k hk => Or.inl hk, Touch.refl _ _⟩
                (fun j => ⟨(fr.tmps.setIfInBounds 147 (chunkPart bb off (N - sp) gn j)).setIfInBounds 13 (chunkPart bb off (N - sp) gn j), []⟩) ?assign ?body ?done ?stop
              case stop =>
                rintro D c pre W _ _ h _
                exact h.elim
              case assign =>
                intro l x W K hK
                subst hfr
                simp only [List.setIfInBounds_toArray, List.set_cons_succ, List.set_cons_zero] at hK
                generalize chunkPart bb off (N - sp) gn x = pv at *
                gi_wp2
                exact hK
              case body =>
                rintro l pre x W ⟨bs, F', h1, h2, qb, hF', ht⟩ hlt
                obtain ⟨cv, hm⟩ := qb.qu
                have HI := Lib.hid (fun (g cap pl : Nat) (ys : List Int) (W2 w' : World) (Bs Bn : Nat) => PushI.round (w' := w') (W2 := W2) (g := g) (cap := cap) (ys := ys) (x := x) (Bs := Bs) (Bn := Bn) hlt (by rw [E1.out, HL.out]; omega : L2.length + M ≤ 500) hg2 HFL9.out.1 hIr h1 h2 qb hF' ht hm)
                have HH := Lib.hid hm
                generalize L2 ++ newChs gn (zs.drop sp) bs pre = Lx at *
                have PW := (ht.block _ hpx (HNF.out _ (Nat.le_refl _))).trans P9.out
                have XW := (ht.block _ hgx (HNF.out _ hgl2)).trans X9.out
                have CW : W.ownsRow w5.heap.size 5 1 (.slice la N lc) N (zs.map (Value.int .u8)) := ownsRow_same C9.out (fun j hj => ht.block j (C9.out.lt j hj).2 (HNF.out _ (by have := (C9.out.lt j hj).1; have := B4.out.size; omega)))
                have RP := HPARTS.out W x CW
                have hpl := partZ_len (zs.drop sp) gn x
                rw [List.length_drop, HNN.out] at hpl
                unfold chunkPart at RP
                have cg : W.cell? ⟨gb, 0, none⟩ = some (.int .i64 gn) := by rw [cell_of XW]; rfl
                have MD : Hid (Calls Tryz.prog 68 #[.int .i64 gn, .int .i64 gn] W (fun e w' => e = .returned (.tuple #[.slice (some ⟨W.heap.size, 0, none⟩) gn gn, .int .i64 0]) ∧ w' = W.alloc (.cells ((zeros gn).map (Value.int .u8)).toArray 5))) := Lib.hid ((made_any gn gn W).mono (fun e w' hx => by
                  rcases hx with ⟨_, x2, x3⟩ | ⟨x1, _⟩
                  · simp only [Int.toNat_natCast] at x2 x3
                    exact ⟨x2, x3⟩
                  · unfold madeE at x1
                    rw [if_pos (by omega)] at x1
                    cases x1))
                have BW : Below W.heap.size W (W.alloc (.cells ((zeros gn).map (Value.int .u8)).toArray 5)) := (Below.refl _ _).alloc (Nat.le_refl _) _
                have NW := heap_alloc_new W (.cells ((zeros gn).map (Value.int .u8)).toArray 5)
                have P1 := Lib.hid ((BW.block _ (lt_of PW)).trans PW)
                have R1 := Lib.hid ((BW.block _ (lt_of hm.self)).trans hm.self)
                have RP1 := Lib.hid (RP.below BW rfl)
                have HNW := Lib.hid NW
                have hlx := qb.ok.1
                obtain ⟨ka, kc, hcv, _, _, _⟩ := hm.chs
                subst hcv
                have HPL := Lib.hid hpl
                have hWlt := lt_of hm.self
                have hsW := ht.size
                clear h1 h2 qb hF' ht hm PW XW CW RP hpl BW NW
                subst hfr
                simp only [List.setIfInBounds_toArray, List.set_cons_succ, List.set_cons_zero, chunkPart]
                generalize hmn : min gn (N - sp - x * gn) = pl at *
                have HMN := Lib.hid hmn
                clear hmn
                gi_wp2_with (refine ⟨trivial, ?_⟩; gi_at_call 68; refine (CallsIn.inRound l (callsIn_wide.2 MD.out)).mono ?_; rintro e w' ⟨rfl, rfl⟩)
                have T1 : Hid (Touch (fun _ => False) W (W.alloc (.cells ((zeros gn).map (Value.int .u8)).toArray 5))) := Lib.hid ((Touch.refl _ W).alloc _)
                have SZ1 : (W.alloc (.cells ((zeros gn).map (Value.int .u8)).toArray 5)).heap.size = W.heap.size + 1 := by simp
                generalize W.alloc (.cells ((zeros gn).map (Value.int .u8)).toArray 5) = W1 at *
                have x0 : W1.cell? ⟨w.heap.size, 0, none⟩ = some (.pointer (some ⟨I.r, 0, none⟩)) := by rw [cell_of P1.out]; rfl
                have x7 : W1.cell? ⟨I.r, 7, none⟩ = some (.slice ka Lx.length kc) := by rw [cell_of R1.out]; rfl
                have s0 : ∀ y : WIn (PushS2 w.heap.size I.r ka Lx.length kc), y.w.cell? ⟨w.heap.size, 0, none⟩ = some (.pointer (some ⟨I.r, 0, none⟩)) := fun y => y.h.1
                have s7 : ∀ y : WIn (PushS2 w.heap.size I.r ka Lx.length kc), y.w.cell? ⟨I.r, 7, none⟩ = some (.slice ka Lx.length kc) := fun y => y.h.2
                haveI ne : Nonempty (WIn (PushS2 w.heap.size I.r ka Lx.length kc)) := ⟨⟨W1, x0, x7⟩⟩
                refine wpIn_region_plan l 14 (PushS2 w.heap.size I.r ka Lx.length kc) rfl (by kernel_rfl) ?_
                refine wpN_seg [0, 1, 2, 3, 4, 5, 6, 7] (by kernel_rfl) (by kernel_rfl) (by kernel_rfl) (by kernel_rfl) (by decide) (fun _ _ _ _ _ h => h) ⟨x0, x7⟩ ?_
                simp only [pick, List.map_cons, List.map_nil, List.getElem?_cons_succ, List.getElem?_cons_zero, Option.getD_some]
                repeat (go_big_quiet_step (fail))
                refine wpQuiet_nil ?_
                refine wpN_one 8 _ (by kernel_rfl) rfl ?_
                refine NextAt.held ?_
                intro K hK
                have hpl : (partZ (zs.drop sp) gn x).length = pl := HPL.out
                have hplg : pl ≤ gn := by rw [← HMN.out]; exact Nat.min_le_left _ _
                have HPL2 := Lib.hid hpl
                refine step_copy_at rfl (.tmp 160) (.tmp 161) 42 42 rfl 5 Tryz.underlying42 (by kernel_rfl) (some ⟨W.heap.size, 0, none⟩) (some ⟨bb, off + x * gn, none⟩) gn gn pl pl (by simp [Act.eval]) (by simp [Act.eval]) W.heap.size 0 ((zeros gn).map (Value.int .u8)) 5 HNW.out ((partZ (zs.drop sp) gn x).map (Value.int .u8)) (by rw [List.length_map, hpl]; show pl = min pl gn; omega) (fun hp => ⟨rfl, by
                  have h1 := reads_pos RP1.out (partZ (zs.drop sp) gn x).length (by rw [List.length_map] at hp; exact hp) (Nat.le_refl _)
                  rwa [List.take_length] at h1⟩) (by rw [List.length_map, List.length_map, hpl]; simp [zeros]; omega) (by intro u hu; obtain ⟨z, _, rfl⟩ := List.mem_map.1 hu; rfl) ?_
                intro W2 hw2 ht2
                rw [← splice_mapF] at hw2
                rw [List.length_map, hpl]
                simp only [goInt]
                have T2 := Lib.hid (show Touch (fun k => k = W.heap.size) W W2 from (((T1.out.mono (fun _ x => x.elim)).drewN 1).then ht2))
                have R2 := Lib.hid (show byteRow W2 W.heap.size (splice (zeros gn) 0 (partZ (zs.drop sp) gn x)) from hw2)
                have hpx0 := Lib.hid (lt_of P1.out)
                have b1 := (ht2.block w.heap.size (lt_of P1.out) (by omega)).trans P1.out
                have b2 := (ht2.block I.r (lt_of R1.out) (by omega)).trans R1.out
                have hx0 : W2.cell? ⟨w.heap.size, 0, none⟩ = some (.pointer (some ⟨I.r, 0, none⟩)) := by rw [cell_of b1]; rfl
                have hx7 : W2.cell? ⟨I.r, 7, none⟩ = some (.slice ka Lx.length kc) := by rw [cell_of b2]; rfl
                have CR := Lib.hid (ownsRow_same HH.out.crow (fun j hj => T2.out.block j (HH.out.crow.lt j hj).2 (by have := (HH.out.crow.lt j hj).2; omega)))
                have B12 := Lib.hid (And.intro b1 b2)
                clear hw2 ht2 b1 b2 x0 x7 T1 P1 R1
                go_simp
                refine hK _ _ ⟨hx0, hx7⟩ ?_
                clear hK K
                refine wpN_one 9 _ (by kernel_rfl) rfl ?_
                refine NextAt.held ?_
                intro K hK
                go_simp
                refine hK _ _ ⟨hx0, hx7⟩ ?_
                clear hK K
                refine wpN_one 10 _ (by kernel_rfl) rfl ?_
                refine NextAt.held ?_
                intro K hK
                go_simp
                have bal : Below W2.heap.size W2 (W2.alloc (.cells #[.slice (some ⟨W.heap.size, 0, none⟩) gn gn, .int .i64 0, .int .i64 pl] 103)) := (Below.refl _ _).alloc (Nat.le_refl _) _
                refine hK _ _ ⟨old_cell bal hx0, old_cell bal hx7⟩ ?_
                clear hK K bal
                refine wpN_one 11 _ (by kernel_rfl) rfl ?_
                refine NextAt.held ?_
                intro K hK
                have hlw : W2.heap.size = W2.heap.size := rfl
                have ONE : Hid (∀ u ∈ [Value.slice (some ⟨W.heap.size, 0, none⟩) gn gn, .int .i64 0, .int .i64 pl], u.oneCell' = true) := Lib.hid (by
                  intro u hu
                  simp at hu
                  rcases hu with rfl | rfl | rfl <;> rfl)
                refine step_append_new rfl (.tmp 158) (.tmp 164) 77 rfl 0 103 i0 (.agg #[.slice none 0 0, .int .i64 0, .int .i64 0]) 3 40 Tryz.underlying77 hi0 hz0 hz1 hz2 rfl (by decide) (.slice ka Lx.length kc) Lx.length (Lx.flatMap QCh.cells) W2 _ [.slice (some ⟨W.heap.size, 0, none⟩) gn gn, .int .i64 0, .int .i64 pl] (by simp [Act.eval]) CR.out (by simp [Act.eval]) rfl ONE.out (by unfold maxLen; omega) (by omega) (by omega) ?_
                intro g kc2 w' hrow hgr hpl' hszl
                have f1 := (hgr.block w.heap.size (lt_of B12.out.1) (fun e => qrow_ne CR.out B12.out.1 (by decide) e.symm)).trans B12.out.1
                have f2 := (hgr.block I.r (lt_of B12.out.2) (fun e => qrow_ne CR.out B12.out.2 (by decide) e.symm)).trans B12.out.2
                have hy0 : w'.cell? ⟨w.heap.size, 0, none⟩ = some (.pointer (some ⟨I.r, 0, none⟩)) := by rw [cell_of f1]; rfl
                have hy7 : w'.cell? ⟨I.r, 7, none⟩ = some (.slice ka Lx.length kc) := by rw [cell_of f2]; rfl
                have hyf : w'.frozen? ⟨I.r, 7, none⟩ = false := free_of f2 _
                have FIN := Lib.hid (HI.out g kc2 pl (partZ (zs.drop sp) gn x) W2 w' (w7.heap.size) (w7.heap.size + 1) rfl (by rw [HPL2.out]; exact hplg) R2.out T2.out (by
                  have e := hsl_round gn (partZ (zs.drop sp) gn x) (by rw [HPL2.out]; exact hplg)
                  simp only [QCh.cells, e, HPL2.out]
                  exact hrow) hgr hpl' ⟨by omega, HNF.out _ (by omega)⟩ ⟨by omega, HNF.out _ (by omega)⟩)
                clear hrow hgr hpl' f1 f2 hx0 hx7 HI HH CR B12 R2 T2
                go_simp
                refine hK _ _ ⟨hy0, hy7⟩ ?_
                clear hK K
                refine wpN_pure [12, 13] (by kernel_rfl) (by kernel_rfl) (by kernel_rfl) (fun _ _ _ _ _ h => h) (fun _ => ⟨hy0, hy7⟩) ?_
                simp only [pick, List.map_cons, List.map_nil, List.getElem?_cons_succ, List.getElem?_cons_zero, Option.getD_some]
                repeat (go_big_quiet_step (fail))
                refine wpQuiet_nil ?_
                refine wpN_one 14 _ (by kernel_rfl) rfl ?_
                refine NextAt.free (by kernel_rfl) ?_
                intro K hK
                go_simp
                refine hK _ _ ?_
                clear hK K
                refine wpN_done (by kernel_rfl) ?_
                gi_wp2
                exact FIN.out
              case done =>
                rintro D ys W hD rfl hI hK
                have hJ := (PushI.own HFL9.out.1 HFL9.out.2).putObj (.deferred none) hI hD hK rfl
                have FIN : Hid (∃ bs : List Nat, bs.length = MQ ∧ (∀ b ∈ bs, w.heap.size ≤ b) ∧ QRPost w (W.putObj D (.deferred none)) I (PL bs) PS K F G) := Lib.hid (by
                  obtain ⟨bs, F', h1, h2, qb, hF', ht⟩ := hJ
                  rw [← e9'.out bs] at qb
                  exact ⟨bs, by rw [h1, List.length_range, HMQ.out], fun b hb => by have := h2 b hb; omega, F', G5, qb, fun k hk => (hF' k hk).imp id (fun x => by have := x.1; omega), fun k hk => HG5.out k hk, T9.out.then (ht.mono (fun k hk => Or.inl hk))⟩)
                clear hI hJ
                subst hfr
                go_wp2_with fail
                refine ⟨by simp, .inl ⟨_, _, rfl, run_takeDeferred hK, ?_⟩⟩
                refine ⟨_, results_tmp rfl _ _ _, ?_⟩
                rw [PE0.out]
                exact ⟨rfl, fun x => absurd rfl x, fun _ => FIN.out⟩
      · exact absurd (by
          rw [← HGE.out]
          obtain ⟨zn, hzn⟩ : ∃ zn : Nat, I.sz = zn := ⟨I.sz.toNat, by have := AB0.out.sz; omega⟩
          rw [hzn]
          exact growE_zero AB0.out.pol (by have := AB0.out.sz; omega) (by have := AB0.out.sz; omega)) hge

end Go.Proofs.YtfnmjlnpfoclbaaGreat
