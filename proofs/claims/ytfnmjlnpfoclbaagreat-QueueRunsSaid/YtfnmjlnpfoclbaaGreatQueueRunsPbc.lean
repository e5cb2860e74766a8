/-
  Push of the reference's queue: it makes the same chunks. Conditions: numbers in their bounds; what is pushed is apart from what it turns.
-/
import Derived.Test.YtfnmjlnpfoclbaaGreatQueueRunsPbb
import Derived.Test.YtfnmjlnpfoclbaaGreatQueueRunsPae
namespace Go.Proofs.YtfnmjlnpfoclbaaGreat
open Go.RowKit
set_option linter.unusedVariables false

set_option maxRecDepth 100000 in
theorem slots160 (f : Nat → Value) : slotsOf 160 f = f 0 :: f 1 :: f 2 :: f 3 :: f 4 :: f 5 :: f 6 :: f 7 :: f 8 :: f 9 :: f 10 :: f 11 :: f 12 :: f 13 :: f 14 :: f 15 :: f 16 :: f 17 :: f 18 :: f 19 :: f 20 :: f 21 :: f 22 :: f 23 :: f 24 :: f 25 :: f 26 :: f 27 :: f 28 :: f 29 :: f 30 :: f 31 :: f 32 :: f 33 :: f 34 :: f 35 :: f 36 :: f 37 :: f 38 :: f 39 :: f 40 :: f 41 :: f 42 :: f 43 :: f 44 :: f 45 :: f 46 :: f 47 :: f 48 :: f 49 :: f 50 :: f 51 :: f 52 :: f 53 :: f 54 :: f 55 :: f 56 :: f 57 :: f 58 :: f 59 :: f 60 :: f 61 :: f 62 :: f 63 :: f 64 :: f 65 :: f 66 :: f 67 :: f 68 :: f 69 :: f 70 :: f 71 :: f 72 :: f 73 :: f 74 :: f 75 :: f 76 :: f 77 :: f 78 :: f 79 :: f 80 :: f 81 :: f 82 :: f 83 :: f 84 :: f 85 :: f 86 :: f 87 :: f 88 :: f 89 :: f 90 :: f 91 :: f 92 :: f 93 :: f 94 :: f 95 :: f 96 :: f 97 :: f 98 :: f 99 :: f 100 :: f 101 :: f 102 :: f 103 :: f 104 :: f 105 :: f 106 :: f 107 :: f 108 :: f 109 :: f 110 :: f 111 :: f 112 :: f 113 :: f 114 :: f 115 :: f 116 :: f 117 :: f 118 :: f 119 :: f 120 :: f 121 :: f 122 :: f 123 :: f 124 :: f 125 :: f 126 :: f 127 :: f 128 :: f 129 :: f 130 :: f 131 :: f 132 :: f 133 :: f 134 :: f 135 :: f 136 :: f 137 :: f 138 :: f 139 :: f 140 :: f 141 :: f 142 :: f 143 :: f 144 :: f 145 :: f 146 :: f 147 :: f 148 :: f 149 :: f 150 :: f 151 :: f 152 :: f 153 :: f 154 :: f 155 :: f 156 :: f 157 :: f 158 :: f 159 :: [] := rfl

def PushRPost (I : QuId) (L : List QCh) (bst : BookSt) (F G : Nat → Prop) (zs : List Int) (w : World) : Ending → World → Prop := fun e w' =>
  e = .returned (.int .i64 (pushE I L bst zs.length)) ∧ (pushE I L bst zs.length ≠ 0 → RRPost w w' I L (pushSt I L bst zs.length) F G) ∧
  (pushE I L bst zs.length = 0 → ∃ bs : List Nat, bs.length = manyQ I L zs.length ∧ (∀ b ∈ bs, w.heap.size ≤ b) ∧ RRPost w w' I (pushL I L zs bs) (pushSt I L bst zs.length) F G)

/-- The row that is laid out, and the new blocks. -/
structure NxAt (B g : Nat) (v : Value) (NL : List QCh) (bs : List Nat) (w : World) : Prop where
  row : w.ownsRow B 101 3 v NL.length (NL.flatMap QCh.cells)
  new : ∀ b ∈ bs, B ≤ b ∧ byteRow w b (zeros g)
  nd : bs.Nodup

theorem chrow_last {w : World} {B e : Nat} {L : List QCh} {cv : Value} {k : Nat} (h : w.ownsRow B e 3 cv L.length (L.flatMap QCh.cells)) (hk : L.length = k + 1) :
    ∃ g cap, cv = .slice (some ⟨g, 0, none⟩) L.length cap ∧ L.length ≤ cap ∧ w.cell? ⟨g, k * 3, none⟩ = some (.slice (some ⟨(L.getD k QCh.zero).b, 0, none⟩) (L.getD k QCh.zero).os.length (L.getD k QCh.zero).os.length) ∧
      w.cell? ⟨g, k * 3 + 2, none⟩ = some (.int .i64 (L.getD k QCh.zero).to) ∧ ∃ cur, w.heap[g]? = some (.cells cur e (0, 0)) := by
  obtain ⟨ca', cc', he, h1, h2, hcc⟩ := QChsIn.own h
  obtain ⟨b, o', ha', d0, d1, d2⟩ := hcc k (by omega)
  obtain ⟨g, cap, hsh⟩ : ∃ g cap, cv = .slice (some ⟨g, 0, none⟩) L.length cap := by
    rcases h.2 with ⟨h1, h2⟩ | ⟨g, cap', cur, h1, _⟩
    · omega
    · exact ⟨g, cap', h1⟩
  rw [hsh] at he
  simp only [Value.slice.injEq, true_and] at he
  obtain ⟨rfl, rfl⟩ := he
  simp only [Option.some.injEq, Addr.mk.injEq, and_true] at ha'
  obtain ⟨rfl, rfl⟩ := ha'
  rw [Nat.zero_add] at d0 d2
  subst hsh
  obtain ⟨cur, hcur⟩ := row_block h rfl
  exact ⟨g, cap, rfl, h1, d0, d2, _, hcur⟩
theorem NxAt.below {B g : Nat} {v : Value} {NL : List QCh} {bs : List Nat} {w w' : World} (h : NxAt B g v NL bs w) (hb : Below w.heap.size w w') : NxAt B g v NL bs w' :=
  ⟨ownsRow_same h.row (fun k hk => hb.block k (h.row.lt k hk).2), fun b hm => ⟨(h.new b hm).1, (hb.block b (lt_of (h.new b hm).2)).trans (h.new b hm).2⟩, h.nd⟩
/-- A chunk more. -/
theorem NxAt.add {B g : Nat} {v v' : Value} {NL : List QCh} {bs : List Nat} {w W w' : World} (h : NxAt B g v NL bs w) (hB : B ≤ w.heap.size) (hb : Below w.heap.size w W) (hz : byteRow W w.heap.size (zeros g))
    (hown : w'.ownsRow B 101 3 v' (NL.length + 1) (NL.flatMap QCh.cells ++ [.slice (some ⟨w.heap.size, 0, none⟩) g g, .int .i64 0, .int .i64 0])) (hgr : W.grownBy w' v.ownBlock) :
    NxAt B g v' (NL ++ [⟨w.heap.size, zeros g, 0, 0⟩]) (bs ++ [w.heap.size]) w' := by
  have h2 := h.below hb
  have keep : ∀ k, byteRow W k (zeros g) → byteRow w' k (zeros g) := fun k hk => (hgr.block k (lt_of hk) (fun e => qrow_ne h2.row hk (by decide) e.symm)).trans hk
  refine ⟨?_, fun b hm => ?_, ?_⟩
  · rw [List.length_append, List.flatMap_append]
    simpa [QCh.cells, zeros] using hown
  · rcases List.mem_append.1 hm with hm | hm
    · exact ⟨(h2.new b hm).1, keep b (h2.new b hm).2⟩
    · obtain rfl := List.mem_singleton.1 hm
      exact ⟨hB, keep _ hz⟩
  · rw [List.nodup_append]
    refine ⟨h.nd, by simp, fun a ha b hb' => ?_⟩
    have := lt_of (h.new a ha).2
    have := List.mem_singleton.1 hb'
    omega
/-- The last chunk's end is one more. -/
theorem NxAt.bump {B g gr cap k : Nat} {NL : List QCh} {bs : List Nat} {w : World} (h : NxAt B g (.slice (some ⟨gr, 0, none⟩) NL.length cap) NL bs w) (hk : NL.length = k + 1) :
    NxAt B g (.slice (some ⟨gr, 0, none⟩) NL.length cap) (NL.set k ((NL.getD k QCh.zero).upto 1)) bs (w.setCell ⟨gr, k * 3 + 2, none⟩ (.int .i64 ((NL.getD k QCh.zero).to + 1 : Nat))) := by
  refine ⟨?_, fun b hm => ⟨(h.new b hm).1, ?_⟩, h.nd⟩
  · have := qrow_set h.row (k * 3 + 2) (.int .i64 ((NL.getD k QCh.zero).to + 1 : Nat))
    have e := qcells_set2 NL k ((NL.getD k QCh.zero).upto 1) rfl rfl rfl (by omega)
    rw [List.length_set]
    rw [show ((NL.getD k QCh.zero).upto 1).to = (NL.getD k QCh.zero).to + 1 from rfl] at e
    rwa [e] at this
  · have hx := (h.new b hm).2
    refine (Below.heap_setCell _ _ _ b (fun e => ?_)).trans hx
    have e : b = gr := e
    exact qrow_ne h.row hx (by decide) (by rw [e]; rfl)

theorem NxAt.touch {B g : Nat} {v : Value} {NL : List QCh} {bs : List Nat} {w w' : World} {Z : Nat → Prop} (h : NxAt B g v NL bs w) (t : Touch Z w w') (hZ : ∀ k, Z k → k < B) : NxAt B g v NL bs w' :=
  ⟨ownsRow_same h.row (fun k hk => t.block k (h.row.lt k hk).2 (fun x => by have := hZ k x; have := (h.row.lt k hk).1; omega)),
   fun b hm => ⟨(h.new b hm).1, (t.block b (lt_of (h.new b hm).2) (fun x => by have := hZ b x; have := (h.new b hm).1; omega)).trans (h.new b hm).2⟩, h.nd⟩

/-- The chunks' octets when i of them are written. -/
structure WrAt (NL FL : List QCh) (i : Nat) (w6 w : World) : Prop where
  bl : ∀ k, k < NL.length → byteRow w (NL.getD k QCh.zero).b (if k < i then (FL.getD k QCh.zero).os else (NL.getD k QCh.zero).os)
  tt : Touch (fun k => ∃ m, m < NL.length ∧ k = (NL.getD m QCh.zero).b) w6 w
theorem WrAt.start {NL FL : List QCh} {w6 : World} (h : ∀ c ∈ NL, byteRow w6 c.b c.os) : WrAt NL FL 0 w6 w6 :=
  ⟨fun k hk => by rw [if_neg (by omega)]; exact h _ (qgetD_in hk), Touch.refl _ _⟩
theorem WrAt.step {NL FL : List QCh} {i : Nat} {w6 w w' : World} (h : WrAt NL FL i w6 w) (hn : (NL.map QCh.b).Nodup) (hi : i < NL.length) (hr : byteRow w' (NL.getD i QCh.zero).b (FL.getD i QCh.zero).os) (ht : Touch (fun k => k = (NL.getD i QCh.zero).b) w w') : WrAt NL FL (i + 1) w6 w' := by
  refine ⟨fun k hk => ?_, h.tt.then (ht.mono (fun k hk => ⟨i, hi, hk⟩))⟩
  by_cases e : k = i
  · subst e
    rw [if_pos (by omega)]
    exact hr
  · have hb := h.bl k hk
    have hne : (NL.getD k QCh.zero).b ≠ (NL.getD i QCh.zero).b := fun x => by
      have g1 : ∀ m (hm : m < NL.length), (NL.map QCh.b)[m]'(by simpa using hm) = (NL.getD m QCh.zero).b := fun m hm => by simp [List.getD_eq_getElem?_getD, hm]
      have P := List.pairwise_iff_getElem.1 hn
      have x2 := (g1 k hk).trans (x.trans (g1 i hi).symm)
      rcases Nat.lt_or_gt_of_ne e with h1 | h1
      · exact P k i (by simpa using hk) (by simpa using hi) h1 x2
      · exact P i k (by simpa using hi) (by simpa using hk) h1 x2.symm
    have hk2 : (k < i + 1) ↔ (k < i) := by omega
    simp only [hk2]
    exact (ht.block _ (lt_of hb) hne).trans hb

/-- The end of Push: the row that is laid out is the queue's. -/
theorem pushR_end {w6 wz : World} {I : QuId} {L FL NL : List QCh} {bst : BookSt} {bs : List Nat} {F G : Nat → Prop} {B g : Nat} {v cv : Value} (rr : RR w6 I L bst F G) (hm : RqMem w6 F I L cv) (hX : NxAt B g v NL bs w6) (hW : WrAt NL FL NL.length w6 wz)
    (hbk : ∀ c ∈ NL, (∃ d ∈ L, c.b = d.b ∧ c.os = d.os) ∨ (c.b ∈ bs ∧ c.os = zeros g)) (hnd : (NL.map QCh.b).Nodup) (hG : ∀ k, (v.ownBlock = some k ∨ k ∈ bs) → ¬ G k) (hlen : FL.length = NL.length) (h500 : NL.length ≤ 500)
    (hs : ∀ i, i < NL.length → (FL.getD i QCh.zero).b = (NL.getD i QCh.zero).b ∧ (FL.getD i QCh.zero).fr = (NL.getD i QCh.zero).fr ∧ (FL.getD i QCh.zero).to = (NL.getD i QCh.zero).to ∧ (FL.getD i QCh.zero).os.length = (NL.getD i QCh.zero).os.length) (hok : ∀ c ∈ NL, ChOk c) :
    RR (wz.setCell ⟨I.r, 6, none⟩ v) I FL bst (fun k => F k ∨ v.ownBlock = some k ∨ k ∈ bs) G ∧ Touch (fun k => F k ∨ k ∈ bs) w6 (wz.setCell ⟨I.r, 6, none⟩ v) := by
  obtain ⟨hce, hmb⟩ := same_cells hlen hs
  have u8 : ∀ m, m < NL.length → ∃ cs, w6.heap[(NL.getD m QCh.zero).b]? = some (.cells cs 5 (0, 0)) ∧ (F (NL.getD m QCh.zero).b ∨ (NL.getD m QCh.zero).b ∈ bs) := fun m hmm => by
    rcases hbk _ (qgetD_in hmm) with ⟨d, hd, e1, e2⟩ | ⟨hb, e2⟩
    · rw [e1]; exact ⟨_, (hm.mem d hd).1, Or.inl (hm.mem d hd).2⟩
    · exact ⟨_, (hX.new _ hb).2, Or.inr hb⟩
  have far : ∀ (k : Nat) (cs : Array Value) (ty : Nat), w6.heap[k]? = some (.cells cs ty (0, 0)) → ty ≠ 5 → wz.heap[k]? = some (.cells cs ty (0, 0)) := fun k cs ty hk hne => by
    refine (hW.tt.block k (lt_of hk) (fun ⟨m, hmm, e⟩ => ?_)).trans hk
    obtain ⟨cs2, h2, _⟩ := u8 m hmm
    rw [← e, hk] at h2
    simp at h2
    exact hne h2.2
  have hself := far _ _ _ hm.self (by decide)
  have T2 : Touch (fun k => F k ∨ k ∈ bs) w6 (wz.setCell ⟨I.r, 6, none⟩ v) := Touch.setCell (F := fun k => F k ∨ k ∈ bs) (hW.tt.mono (fun k ⟨m, hmm, e⟩ => by rw [e]; exact (u8 m hmm).choose_spec.2)) (Or.inl (Or.inl hm.fr)) v
  have sz := T2.size
  have keep : ∀ k, k ≠ I.r → (wz.setCell ⟨I.r, 6, none⟩ v).heap[k]? = wz.heap[k]? := fun k hk => Below.heap_setCell _ _ _ k hk
  have hvr : v.ownBlock ≠ some I.r := qrow_ne hX.row hm.self (by decide)
  refine ⟨⟨⟨v, ?_, Or.inl hm.fr, ?_, fun k hk => Or.inr (Or.inl hk), ?_, ?_⟩, ?_, ?_, ?_, ?_, rr.pol, rr.sz, rr.good, ?_⟩, T2⟩
  · rw [block_setCell hself]; rfl
  · rw [hlen, hce]
    refine ownsRow_base (ownsRow_same hX.row (fun k hk => ?_))
    obtain ⟨cur, hcur⟩ := row_block hX.row hk
    rw [keep k (fun e => hvr (e ▸ hk)), far k _ _ hcur (by decide), hcur]
  · intro c hc
    obtain ⟨i, hi, rfl⟩ := List.mem_iff_getElem.1 hc
    have hi2 : i < NL.length := by omega
    have e : FL[i] = FL.getD i QCh.zero := by simp [List.getD_eq_getElem?_getD, hi]
    have h1 := hW.bl i hi2
    rw [if_pos hi2] at h1
    rw [e, (hs i hi2).1]
    obtain ⟨cs, h2, h3⟩ := u8 i hi2
    refine ⟨(keep _ (fun x => ?_)).trans h1, h3.imp id (fun x => Or.inr x)⟩
    have h4 := hm.self
    rw [← x, h2] at h4
    simp at h4
  · rw [hmb]; exact hnd
  · refine rr.bk.same (fun k hk hl => T2.block k hl (fun x => ?_))
    rcases x with x | x
    · exact rr.dis k x hk
    · exact hG k (Or.inr x) hk
  · rintro k (hk | hk | hk) hGk
    · exact rr.dis k hk hGk
    · exact hG k (Or.inl hk) hGk
    · exact hG k (Or.inr hk) hGk
  · rintro k (hk | hk | hk)
    · have := rr.fl k hk; omega
    · have := (hX.row.lt k hk).2; omega
    · have := lt_of (hX.new k hk).2; omega
  · intro k hk; have := rr.gl k hk; omega
  · refine ⟨by omega, fun c hc => ?_⟩
    obtain ⟨i, hi, rfl⟩ := List.mem_iff_getElem.1 hc
    have hi2 : i < NL.length := by omega
    have e : FL[i] = FL.getD i QCh.zero := by simp [List.getD_eq_getElem?_getD, hi]
    obtain ⟨_, e2, e3, e4⟩ := hs i hi2
    rw [e, e2, e3, e4]
    exact hok _ (qgetD_in hi2)

theorem qadd_at (g c m : Nat) : (⟨g, c, none⟩ : Addr).add m = ⟨g, c + m, none⟩ := by unfold Addr.add; split <;> simp_all
def Wr32 (b o xb xl xt : Nat) (w' : World) : Prop := w'.cell? ⟨b, o, none⟩ = some (.slice (some ⟨xb, 0, none⟩) xl xl) ∧ w'.cell? ⟨b, o + 2, none⟩ = some (.int .i64 xt)

/-- Behind Take: the book's state is the one that Take gives. -/
def TakeCutR (w wx : World) (I : QuId) (L : List QCh) (bst1 : BookSt) (F G : Nat → Prop) : Prop :=
  ∃ G1, RR wx I L bst1 F G1 ∧ (∀ k, G1 k → G k ∨ w.heap.size ≤ k) ∧ Touch G w wx
theorem RR.taken {w w' : World} {I : QuId} {L : List QCh} {bst bst1 : BookSt} {F G : Nat → Prop} (h : RR w I L bst F G) (g : Good bst1)
    (hb : RB w' (fun k => G k ∨ w.heap.size ≤ k) I.bp bst1 false) (ht : Touch G w w') : TakeCutR w w' I L bst1 F G := by
  have hs := ht.size
  obtain ⟨cv, hm⟩ := h.qu
  refine ⟨_, ⟨⟨cv, hm.same (ht.same (fun k hk hl x => h.dis k hk x))⟩, RefAt.narrow' hb, ?_, ?_, fun k hk => hk.2, h.pol, h.sz, g, h.ok⟩, fun k hk => hk.1, ht⟩
  · rintro k hk ⟨x | x, _⟩
    · exact h.dis k hk x
    · have := h.fl k hk; omega
  · intro k hk; have := h.fl k hk; omega
theorem RRPost.of_take {w w4 wx : World} {I : QuId} {L : List QCh} {bst1 : BookSt} {F G : Nat → Prop} (hb : Below w.heap.size w w4) (h : TakeCutR w4 wx I L bst1 F G) : RRPost w wx I L bst1 F G := by
  obtain ⟨G1, h1, h2, h3⟩ := h
  have hs := hb.size
  exact ⟨F, G1, h1, fun k hk => Or.inl hk, fun k hk => (h2 k hk).imp id (fun x => by omega), (Touch.of_below hb).then (h3.mono (fun k hk => Or.inr hk))⟩

set_option maxHeartbeats 4000000 in
set_option maxRecDepth 100000 in
theorem pushR_any (I : QuId) (L : List QCh) (bst : BookSt) (F G : Nat → Prop) (v : Value) (zs : List Int) (w : World) (h : RR w I L bst F G) (hv : Reads w .u8 v zs) (hN : zs.length ≤ 140737488351232) :
    Calls Tryz.prog 30 #[.pointer (some ⟨I.r, 0, none⟩), v] w (PushRPost I L bst F G zs w) := by
  obtain ⟨i0, hi0, hz0, hz1, hz2⟩ := info_parts infoRCh
  obtain ⟨cv, hm⟩ := h.qu
  have SZ := Lib.hid (sizes_any I.r L cv w (by rw [cell_of hm.self]; rfl) hm.chs h.ok)
  have AB0 := Lib.hid h
  have HM := Lib.hid hm
  have HV := Lib.hid hv
  have hlen := h.ok.sum L.length
  have hroom := h.ok.sumR L.length
  rw [List.take_length] at hlen hroom
  have c7 : w.cell? ⟨I.r, 7, none⟩ = some (.bool false) := by rw [cell_of hm.self]; rfl
  obtain ⟨va, vc, rfl, _, _⟩ := hv.open
  by_cases hlong : 100000 < zs.length + qsum QCh.len L
  · have eE : pushE I L bst zs.length = 4 := if_pos hlong
    have eS : pushSt I L bst zs.length = bst := if_pos hlong
    unfold PushRPost
    rw [eE, eS]
    clear h hm hv eE eS
    generalize hS : qsum QCh.len L = S at *
    generalize qsum QCh.room L = RM at *
    generalize zs.length = N at *
    unfold SizesPost at SZ
    go_enter Tryz.func30, Tryz.ntmps30
    go_wp2_with fail
    refine SZ.out.mono ?_
    rintro e w1 ⟨rfl, hb1⟩
    have d7 := old_cell hb1 c7
    have HQ := Lib.hid (RRPost.of_below AB0.out hb1)
    clear hb1
    go_wp2_with fail
    go_ret
    exact ⟨rfl, fun _ => HQ.out, fun x => by cases x⟩
  replace hN : zs.length ≤ 100000 := by omega
  have EE : Hid (pushE I L bst zs.length = if 500 < L.length + manyQ I L zs.length then 4 else takenE bst I.o (manyQ I L zs.length * roomQ I)) := Lib.hid (if_neg hlong)
  have ES : Hid (pushSt I L bst zs.length = if 500 < L.length + manyQ I L zs.length then bst else takenSt bst I.o (manyQ I L zs.length * roomQ I)) := Lib.hid (if_neg hlong)
  have RM := Lib.hid (fun W => (roomR_any I h.pol h.sz W).1)
  obtain ⟨_, hg1, hg2⟩ := roomR_any I h.pol h.sz w
  have HCO := Lib.hid (fun c hc => h.ok.2 c hc : ∀ c ∈ L, ChOk c)
  have HG1 := Lib.hid hg1
  have AW := Lib.hid (fun NL bs (hA : Adv (roomQ I) L zs.length NL bs) => hA.write hg1 HCO.out)
  have A0 := Lib.hid (Adv.start (roomQ I) hg1 L)
  have AG := Lib.hid (fun j NL bs (hA : Adv (roomQ I) L j NL bs) hc b => hA.grow hg1 HCO.out hc b)
  have AB := Lib.hid (fun j NL bs (hA : Adv (roomQ I) L j NL bs) hc => hA.bump hg1 HCO.out hc)
  have b63 := h.ok.1
  unfold PushRPost
  generalize pushE I L bst zs.length = PE at *
  generalize pushSt I L bst zs.length = PS at *
  generalize manyQ I L zs.length = MQ at *
  generalize roomQ I = g at *
  clear h hm hv
  have CLO := Lib.hid (fun W (hW : Below w.heap.size w W) => clone_byte _ zs W (HV.out.below hW rfl) (by omega))
  have CLC := Lib.hid (fun W (hW : Below w.heap.size w W) => clone_chs cv 0 L W (HM.out.below hW).crow (by omega))
  unfold SizesPost at SZ
  generalize hS : qsum QCh.len L = S at *
  generalize qsum QCh.room L = RM' at *
  generalize hZN : zs.length = N at *
  have HZN := Lib.hid hZN
  clear hZN
  have HS := Lib.hid hS
  clear hS
  go_enter Tryz.func30, Tryz.ntmps30
  go_wp2_with fail
  refine SZ.out.mono ?_
  rintro e w1 ⟨rfl, hb1⟩
  have B1 := Lib.hid hb1
  have d7 := old_cell hb1 c7
  clear hb1 SZ
  go_wp2_with fail
  refine (CLO.out _ B1.out).mono ?_
  rintro e w2 ⟨v2, rfl, hr2, hb2⟩
  rw [HZN.out] at hr2
  have B2 := Lib.hid (B1.out.trans (hb2.mono B1.out.size))
  obtain ⟨oa, oc, rfl⟩ := qrow_shape hr2
  have R2 := Lib.hid hr2
  have M2 := Lib.hid (HM.out.below B2.out)
  have d6 : w2.cell? ⟨I.r, 6, none⟩ = some cv := by rw [cell_of M2.out.self]; rfl
  clear hr2 hb2 d7 c7
  obtain ⟨ca, cc, rfl⟩ := qrow_shape M2.out.crow
  go_wp2_with fail
  refine (CLC.out _ B2.out).mono ?_
  rintro e w3 ⟨v3, rfl, hr3, hb3⟩
  have B3 := Lib.hid (B2.out.trans (hb3.mono B2.out.size))
  have R3 : Hid (w3.ownsRow w1.heap.size 5 1 (.slice oa N oc) N (zs.map (Value.int .u8))) := Lib.hid (ownsRow_same R2.out (fun k hk => hb3.block k (R2.out.lt k hk).2))
  have C3 := Lib.hid hr3
  have M3 := Lib.hid (HM.out.below B3.out)
  obtain ⟨na, nc, rfl⟩ := qrow_shape hr3
  have m2 : w3.cell? ⟨I.r, 2, none⟩ = some (.int .i64 I.k) := by rw [cell_of M3.out.self]; rfl
  have m3 : w3.cell? ⟨I.r, 3, none⟩ = some (.int .i64 I.s) := by rw [cell_of M3.out.self]; rfl
  have m4 : w3.cell? ⟨I.r, 4, none⟩ = some (.int .i64 I.m) := by rw [cell_of M3.out.self]; rfl
  have m5 : w3.cell? ⟨I.r, 5, none⟩ = some (.int .i64 I.sz) := by rw [cell_of M3.out.self]; rfl
  have hS23 := Lib.hid hb3.size
  have hS23B := Lib.hid hb3
  have hOL : Hid (∀ k, (Value.slice oa N oc).ownBlock = some k → k < w2.heap.size) := Lib.hid (fun k hk => (R2.out.lt k hk).2)
  clear hr3 hb3 d6 R2 M2
  go_upto_region 8 with fail
  refine wp_region_mid 8 _ (by kernel_rfl) (by kernel_rfl) rfl ?_
  simp only [List.take_succ_cons, List.take_zero, List.drop_succ_cons, List.drop_zero]
  repeat (go_big_quiet_step (fail))
  refine wpQuiet_nil ?_
  intro _ hw'
  obtain ⟨nq4, rfl⟩ := hw'
  intro K hK
  go_simp
  refine (RM.out _).mono ?_
  rintro e w4 ⟨rfl, hb4⟩
  have B34 : Hid (∀ q, Below w3.heap.size w3 (w4.drewN q)) := Lib.hid (fun q => bdrewN ((show Below w3.heap.size w3 (w3.drewN nq4) from bdrewN (Below.refl _ _) _).trans hb4) q)
  clear hb4 m2 m3 m4 m5
  go_simp
  refine hK _ _ ?_
  clear hK K
  repeat (go_big_quiet_step (fail))
  refine wpQuiet_nil ?_
  intro _ hw'
  obtain ⟨nq5, rfl⟩ := hw'
  have B5 := Lib.hid (B34.out nq5)
  generalize w4.drewN nq5 = w5 at *
  clear B34
  go_wp2_with fail
  have hs2 := B2.out.size
  have s23 : w2.heap.size ≤ w3.heap.size := hS23.out
  have s35 := B5.out.size
  have B0 : Hid (w2.heap.size ≤ w5.heap.size) := Lib.hid (by omega)
  have NX0 : Hid (NxAt w2.heap.size g (.slice na L.length nc) L [] w5) := Lib.hid ⟨ownsRow_same C3.out (fun k hk => B5.out.block k (C3.out.lt k hk).2), by simp, List.nodup_nil⟩
  have OC : Hid (w5.ownsRow w1.heap.size 5 1 (.slice oa N oc) N (zs.map (Value.int .u8))) := Lib.hid (ownsRow_same R3.out (fun k hk => B5.out.block k (R3.out.lt k hk).2))
  have OLT := Lib.hid hOL.out
  refine wp_loop_framed 160 (fun gm f wr => ∃ j : Nat, j ≤ N ∧ gm = N - j ∧ f 0 = .pointer (some ⟨I.r, 0, none⟩) ∧ f 1 = .slice oa N oc ∧ f 8 = .int .i64 (g : Int) ∧ f 53 = .slice oa N oc ∧ f 54 = .int .i64 (N : Int) ∧ f 55 = .int .i64 (j : Int) ∧
    ∃ NL bs, Adv g L j NL bs ∧ f 10 = .int .i64 ((bs.length * g : Nat) : Int) ∧ NxAt w2.heap.size g (f 7) NL bs wr ∧ Below w2.heap.size w5 wr) _ _ (by kernel_rfl) N ⟨0, Nat.zero_le _, rfl, rfl, rfl, rfl, rfl, rfl, rfl, L, [], A0.out, by show Value.int .i64 0 = _; simp, NX0.out, Below.refl _ _⟩ ?_
  clear C3 R3 CLO CLC
  intro gm f wr ⟨j, hj, hgm, f0, f1, f8, f53, f54, f55, NL, bs, hA, f10, hX, hbw⟩ J K hJ hK
  rw [slots160]
  rw [f0, f1, f8, f10, f53, f54, f55]
  clear f0 f1 f8 f10 f53 f54 f55
  by_cases hlt : j < N
  · as_aux_lemma =>
    obtain ⟨go, rfl, z, co⟩ : ∃ go, oa = some ⟨go, 0, none⟩ ∧ ∃ z : Int, wr.cell? ⟨go, j, none⟩ = some (.int .u8 z) := by
      rcases OC.out.2 with ⟨h1, h2⟩ | ⟨go, cap, cur, h1, _⟩
      · omega
      · simp only [Value.slice.injEq, true_and] at h1
        obtain ⟨rfl, rfl⟩ := h1
        refine ⟨go, rfl, zs.getD j 0, ?_⟩
        have hl : go < w2.heap.size := OLT.out go rfl
        have := OC.out.cells (g := go) rfl j (.int .u8 (zs.getD j 0)) (by simp [List.getD_eq_getElem?_getD, show j < zs.length by rw [HZN.out]; exact hlt])
        rw [qadd_spot, Nat.zero_add] at this
        exact (hbw.cell (p := ⟨go, j, none⟩) hl).trans this
    have hbl : bs.length ≤ j := by
      refine Nat.le_of_not_lt (fun hc => ?_)
      have h1 := Nat.mul_le_mul_right g (show j + 1 ≤ bs.length from hc)
      rw [Nat.succ_mul] at h1
      have h2 := Nat.mul_le_mul_left j hg1
      have := hA.hi
      omega
    have hbg : bs.length * g ≤ 200000 := by have := hA.hi; omega
    have HNL : Hid (NL.length = L.length + bs.length) := Lib.hid (by rw [hA.eq, advL_len])
    obtain ⟨xa, xc, hv7⟩ := qrow_shape hX.row
    rw [hv7] at hX ⊢
    have HA := Lib.hid hA
    have HX := Lib.hid hX
    have HBW := Lib.hid hbw
    have HCO' := Lib.hid (And.intro hJ hK)
    have hwr := hbw.size
    have hBr : w2.heap.size ≤ wr.heap.size := Nat.le_trans B0.out hwr
    generalize hbgn : bs.length * g = TK at *
    have HTK := Lib.hid hbgn
    clear hbgn hA hX hbw hv7
    go_upto_region 14 with fail
    refine wp_cut_framed 160 (fun f wx => f 0 = .pointer (some ⟨I.r, 0, none⟩) ∧ f 1 = .slice (some ⟨go, 0, none⟩) N oc ∧ f 8 = .int .i64 (g : Int) ∧ f 53 = .slice (some ⟨go, 0, none⟩) N oc ∧ f 54 = .int .i64 (N : Int) ∧ f 55 = .int .i64 (j : Int) ∧ f 7 = .slice xa NL.length xc ∧ f 10 = .int .i64 (TK : Int) ∧ (∃ b : Bool, f 78 = .bool b ∧ Hid (b = true ↔ fullQ NL)) ∧ ∃ q, wx = wr.drewN q) _ _ ?_ ?_
    · intro J2 K2 hJ2 hK2
      cases hn : NL.length with
      | zero =>
        have FU : Hid (fullQ NL) := Lib.hid (Or.inl hn)
        have HN := Lib.hid hn
        clear hn
        go_quiet (fail)
        go_wp2_with fail
        exact Met.intro (hJ2 _ _ (by kernel_rfl) ⟨rfl, rfl, rfl, rfl, rfl, rfl, by rw [HN.out]; rfl, rfl, ⟨_, rfl, Lib.hid ⟨fun _ => FU.out, fun _ => rfl⟩⟩, nq, rfl⟩)
      | succ k =>
        obtain ⟨gr, cap, hv, hcap, d0, d2, cur, hcur⟩ := chrow_last HX.out.row hn
        simp only [Value.slice.injEq, true_and] at hv
        obtain ⟨rfl, rfl⟩ := hv
        have FU : Hid (fullQ NL ↔ (NL.getD k QCh.zero).to = (NL.getD k QCh.zero).os.length) := Lib.hid (by unfold fullQ lastQ; rw [hn]; simp)
        generalize NL.getD k QCh.zero = x at *
        obtain ⟨xb, xos, xf, xt⟩ := x
        simp only at *
        generalize xos.length = xl at *
        rw [hn] at hcap
        have hk2 : k < 200000 := by have := HNL.out; omega
        have HN := Lib.hid hn
        clear hn
        have hk0 : ((k : Int) + 1 == 0) = false := by simp; omega
        simp only [Int.natCast_add]
        by_cases hfe : xt = xl
        · subst hfe
          have FU2 : Hid (fullQ NL) := Lib.hid (FU.out.2 rfl)
          clear FU
          go_quiet (fail)
          go_wp2_with fail
          exact Met.intro (hJ2 _ _ (by kernel_rfl) ⟨rfl, rfl, rfl, rfl, rfl, rfl, by rw [HN.out]; rfl, rfl, ⟨_, rfl, Lib.hid ⟨fun _ => FU2.out, fun _ => by simp⟩⟩, nq, rfl⟩)
        · have FU2 : Hid (¬ fullQ NL) := Lib.hid (fun h => hfe (FU.out.1 h))
          have hfe2 : ((xt : Int) == (xl : Int)) = false := by simp; omega
          clear FU hfe
          go_quiet (fail)
          go_wp2_with fail
          exact Met.intro (hJ2 _ _ (by kernel_rfl) ⟨rfl, rfl, rfl, rfl, rfl, rfl, by rw [HN.out]; rfl, rfl, ⟨false, by first | rfl | simp, Lib.hid ⟨fun h => (by simp at h), fun h => absurd h FU2.out⟩⟩, nq, rfl⟩)
    · intro f2 wx ⟨f0, f1, f8, f53, f54, f55, f7, f10, ⟨b, f78, hbq⟩, q, hwx⟩
      rw [slots160]
      rw [f0, f1, f7, f8, f10, f53, f54, f55, f78]
      clear f0 f1 f7 f8 f10 f53 f54 f55 f78
      have HX1 : Hid (NxAt w2.heap.size g (.slice xa NL.length xc) NL bs wx) := Lib.hid (by rw [hwx]; exact HX.out.below (bdrewN (Below.refl _ _) q))
      have HB1 : Hid (Below w2.heap.size w5 wx) := Lib.hid (by rw [hwx]; exact bdrewN HBW.out q)
      have hwx2 : w2.heap.size ≤ wx.heap.size := by rw [hwx]; exact hBr
      clear hwx co HX HBW hwr hBr
      go_upto_if 78 with fail
      refine wp_cut_framed 160 (fun f wx => f 0 = .pointer (some ⟨I.r, 0, none⟩) ∧ f 1 = .slice (some ⟨go, 0, none⟩) N oc ∧ f 8 = .int .i64 (g : Int) ∧ f 53 = .slice (some ⟨go, 0, none⟩) N oc ∧ f 54 = .int .i64 (N : Int) ∧ f 55 = .int .i64 (j : Int) ∧
        ∃ NLx bsx k, NLx.length = k + 1 ∧ f 10 = .int .i64 ((bsx.length * g : Nat) : Int) ∧ NxAt w2.heap.size g (f 7) NLx bsx wx ∧ Below w2.heap.size w5 wx ∧ Adv g L (j + 1) (NLx.set k ((NLx.getD k QCh.zero).upto 1)) bsx) _ _ ?_ ?_
      · intro J3 K3 hJ3 hK3
        cases b with
        | false =>
          have hnf : ¬ fullQ NL := fun x => by have := hbq.out.2 x; cases this
          obtain ⟨k, hk⟩ : ∃ k, NL.length = k + 1 := ⟨NL.length - 1, by have : NL.length ≠ 0 := fun e => hnf (Or.inl e); omega⟩
          have FA := AB.out j NL bs HA.out hnf
          unfold lastQ at FA
          rw [hk, Nat.add_sub_cancel] at FA
          have FIN := Lib.hid (And.intro hk FA)
          clear hnf hk FA
          go_wp2_with fail
          exact Met.intro (hJ3 _ _ (by kernel_rfl) ⟨rfl, rfl, rfl, rfl, rfl, rfl, NL, bs, k, FIN.out.1, by rw [HTK.out]; rfl, HX1.out, HB1.out, FIN.out.2⟩)
        | true =>
          have hfu : fullQ NL := hbq.out.1 rfl
          have FA := Lib.hid (AG.out j NL bs HA.out hfu wx.heap.size)
          have MK := fun W => run_makeBytes W (g : Int) (g : Int) (by omega) (by omega) (by omega)
          simp only [Int.toNat_natCast] at MK
          have BZ : Below wx.heap.size wx (wx.alloc (.cells ((zeros g).map (Value.int .u8)).toArray 5)) := (Below.refl _ _).alloc (Nat.le_refl _) _
          have HZ : Hid (byteRow (wx.alloc (.cells ((zeros g).map (Value.int .u8)).toArray 5)) wx.heap.size (zeros g)) := Lib.hid (heap_alloc_new wx _)
          have HBZ := Lib.hid BZ
          have ROW := Lib.hid (HX1.out.below BZ).row
          have ONE : Hid (∀ u ∈ [Value.slice (some ⟨wx.heap.size, 0, none⟩) g g, .int .i64 0, .int .i64 0], u.oneCell' = true) := Lib.hid (by
            intro u hu
            simp at hu
            rcases hu with rfl | rfl <;> rfl)
          have hnl : NL.length ≤ 200000 := by have := HNL.out; omega
          have hzs : (wx.alloc (.cells ((zeros g).map (Value.int .u8)).toArray 5)).heap.size = wx.heap.size + 1 := by simp
          have HZS := Lib.hid hzs
          clear BZ hfu hbq hzs
          go_wp2_with (at_builtin; go_must (refine wpList_append_q rfl (.tmp 79) (.tmp 83) 81 rfl w2.heap.size 101 i0 (.agg #[.slice none 0 0, .int .i64 0, .int .i64 0]) 3 40 Tryz.underlying81 hi0 hz0 hz1 hz2 rfl (by decide) _ _ _ (wx.alloc (.cells ((zeros g).map (Value.int .u8)).toArray 5)) _ [.slice (some ⟨wx.heap.size, 0, none⟩) g g, .int .i64 0, .int .i64 0] rfl (by exact ROW.out) (by rw [World.size_alloc]; rfl) rfl ONE.out (by unfold maxLen; omega) (by omega) (by rw [HZS.out]; omega) ?_))
          intro v' w' hown hgr hbel
          have FIN := Lib.hid (And.intro (HX1.out.add hwx2 HBZ.out HZ.out hown hgr) (HB1.out.trans ((HBZ.out.mono hwx2).trans hbel)))
          obtain ⟨ya, yc, hv'⟩ := qrow_shape hown
          subst hv'
          clear hown hgr hbel
          go_wp2_with fail
          refine Met.intro (hJ3 _ _ (by kernel_rfl) ⟨rfl, rfl, rfl, rfl, rfl, rfl, NL ++ [(⟨wx.heap.size, zeros g, 0, 0⟩ : QCh)], bs ++ [wx.heap.size], NL.length, by simp, ?_, FIN.out.1, FIN.out.2, ?_⟩)
          · show Value.int .i64 _ = Value.int .i64 _
            rw [List.length_append, List.length_singleton, Nat.succ_mul, HTK.out]
            simp
          · have := FA.out
            rw [List.set_append_right _ _ (Nat.le_refl _), Nat.sub_self]
            simpa [QCh.upto, List.getD_eq_getElem?_getD] using this
      · intro f3 wy ⟨f0, f1, f8, f53, f54, f55, NLx, bsx, k, hk, f10, hXx, hBx, hAx⟩
        obtain ⟨gr, cap, hv, hcap, d0, d2, cur, hcur⟩ := chrow_last hXx.row hk
        have hkx : k < NLx.length := by omega
        have hto : (NLx.getD k QCh.zero).to + 1 ≤ 100000 := by
          have := hAx.to_le hg2 HCO.out ((NLx.getD k QCh.zero).upto 1) (List.mem_iff_getElem.2 ⟨k, by simpa using hkx, by rw [List.getElem_set_self]⟩)
          exact this
        rw [hv] at hXx
        have hgr : w2.heap.size ≤ gr := (hXx.row.lt gr rfl).1
        have XB := Lib.hid (And.intro hAx (And.intro (hXx.bump hk) (hBx.setCell (p := ⟨gr, k * 3 + 2, none⟩) hgr (.int .i64 ((NLx.getD k QCh.zero).to + 1 : Nat)))))
        have fz : wy.frozen? ⟨gr, k * 3 + 2, none⟩ = false := free_of hcur _
        have hkb : k < 200000 := by
          have := congrArg List.length hAx.eq
          rw [advL_len, List.length_set, hk] at this
          have h1 : bsx.length ≤ j + 1 := by
            refine Nat.le_of_not_lt (fun hc => ?_)
            have h1 := Nat.mul_le_mul_right g (show j + 2 ≤ bsx.length from hc)
            have h2 := Nat.mul_le_mul_left (j + 1) hg1
            rw [show (j + 2) * g = (j + 1) * g + g by rw [Nat.succ_mul]] at h1
            have := hAx.hi
            omega
          omega
        rw [hk] at hv hcap XB
        rw [slots160]
        rw [f0, f1, hv, f8, f10, f53, f54, f55]
        clear f0 f1 hv f8 f10 f53 f54 f55 hXx hBx hAx hcur hgr d0 hk hkx
        generalize NLx.getD k QCh.zero = x at *
        obtain ⟨xb, xos, xf, xt⟩ := x
        simp only at hto d2 XB
        generalize NLx.set k (QCh.upto ⟨xb, xos, xf, xt⟩ 1) = NL2 at *
        simp only [Int.natCast_add, Int.natCast_one] at XB ⊢
        go_wp2_with fail
        refine Handed.intro (N - (j + 1)) (by omega) (hJ _ _ _ (by kernel_rfl) ⟨j + 1, by omega, rfl, rfl, rfl, rfl, rfl, rfl, by first | rfl | simp, NL2, bsx, XB.out.1, by show Value.int .i64 _ = _; simp, XB.out.2.1, XB.out.2.2⟩)
  · obtain rfl : j = N := by omega
    obtain ⟨xa, xc, hv7⟩ := qrow_shape hX.row
    rw [hv7] at hX ⊢
    obtain ⟨pl1, pl2, pl3⟩ := AW.out NL bs hA
    have HNL : Hid (NL.length = L.length + bs.length) := Lib.hid (by rw [hA.eq, advL_len])
    have BW := Lib.hid (B2.out.trans ((Below.trans (hS23B.out.mono B2.out.size) ((B5.out.mono (by omega)).trans (hbw.mono B2.out.size)))))
    have HX := Lib.hid hX
    have HPL := Lib.hid pl3
    have HPL1 := Lib.hid pl1
    have HMQ := Lib.hid pl2
    have hbg : bs.length * g ≤ 200000 := by have := hA.hi; omega
    have hNLb : NL.length ≤ 200000 := by
      have h1 : bs.length ≤ j := by
        refine Nat.le_of_not_lt (fun hc => ?_)
        have h1 := Nat.mul_le_mul_right g (show j + 1 ≤ bs.length from hc)
        rw [Nat.succ_mul] at h1
        have h2 := Nat.mul_le_mul_left j hg1
        have := hA.hi
        omega
      have := HNL.out
      omega
    have HMB := Lib.hid hA.mapb
    have HOKN := Lib.hid (hA.chok hg2 HCO.out)
    have HBK := Lib.hid hA.blk
    have OCR : Hid (wr.ownsRow w1.heap.size 5 1 (.slice oa j oc) j (zs.map (Value.int .u8))) := Lib.hid (ownsRow_same OC.out (fun k hk => hbw.block k (OLT.out k hk)))
    clear hA hX hbw hv7 pl1 pl2 pl3 A0 AG AB AW hlt hgm hj
    generalize hbgn : bs.length * g = TK at *
    have HTK := Lib.hid hbgn
    have HMG : Hid (MQ * g = TK) := Lib.hid (by rw [← HMQ.out]; exact hbgn)
    clear hbgn
    by_cases hfull : 500 < NL.length
    · have HQ := Lib.hid (RRPost.of_below AB0.out BW.out)
      have e1 : PE = 4 := by rw [EE.out, if_pos (by have := HNL.out; have := HMQ.out; omega)]
      have e2 : PS = bst := by rw [ES.out, if_pos (by have := HNL.out; have := HMQ.out; omega)]
      subst e1 e2
      go_wp2_with fail
      go_ret
      first
        | exact ⟨rfl, HQ.out⟩
        | exact ⟨rfl, fun _ => HQ.out, fun x => by cases x⟩
    have e1 : Hid (PE = takenE bst I.o TK) := Lib.hid (by rw [EE.out, if_neg (by have := HNL.out; have := HMQ.out; omega), HMG.out])
    have e2 : Hid (PS = takenSt bst I.o TK) := Lib.hid (by rw [ES.out, if_neg (by have := HNL.out; have := HMQ.out; omega), HMG.out])
    clear EE ES
    have ABr := Lib.hid (AB0.out.below BW.out)
    have Mr := Lib.hid (HM.out.below BW.out)
    go_upto_if 104 with fail
    refine wp_cut_framed 160 (fun f wx => f 0 = .pointer (some ⟨I.r, 0, none⟩) ∧ f 1 = .slice oa j oc ∧ f 7 = .slice xa NL.length xc ∧ Hid (PE = 0) ∧ TakeCutR wr wx I L PS F G) _ _ ?_ ?_
    · intro J2 K2 hJ2 hK2
      by_cases hM0 : TK = 0
      · have TC : Hid (Hid (PE = 0) ∧ TakeCutR wr wr I L PS F G) := Lib.hid ⟨Lib.hid (by rw [e1.out, hM0]; rfl), G, by rw [e2.out, hM0]; exact ABr.out, fun k hk => Or.inl hk, Touch.refl _ _⟩
        subst hM0
        go_wp2_with fail
        exact Met.intro (hJ2 _ _ (by kernel_rfl) ⟨rfl, rfl, rfl, TC.out⟩)
      · have TKC := Lib.hid (fun W (hb : Below wr.heap.size wr W) => takeR_all I.bp I.o (TK : Nat) W G bst false (ABr.out.bk.below hb) AB0.out.good.e (by simp))
        have TG := Lib.hid (takeR_good AB0.out.good I.o (TK : Nat))
        have EE : Hid (PE = (takeR bst I.o (TK : Nat)).1) := Lib.hid (by rw [e1.out]; unfold takenE; rw [if_neg hM0])
        have ES : Hid (PS = (takeR bst I.o (TK : Nat)).2) := Lib.hid (by rw [e2.out]; unfold takenSt; rw [if_neg hM0])
        have c0 : wr.cell? ⟨I.r, 0, none⟩ = some (.pointer (some ⟨I.bp, 0, none⟩)) := by rw [cell_of Mr.out.self]; rfl
        have c1 : wr.cell? ⟨I.r, 1, none⟩ = some (.int .i64 I.o) := by rw [cell_of Mr.out.self]; rfl
        clear e1 e2
        have hMp : 0 < TK := by omega
        generalize takeR bst I.o (TK : Nat) = tr at *
        obtain ⟨te, ts⟩ := tr
        simp only at TKC TG EE ES
        go_upto_region 23 with fail
        refine wp_region_mid 9 _ (by kernel_rfl) (by kernel_rfl) rfl ?_
        simp only [List.take_succ_cons, List.take_zero, List.drop_succ_cons, List.drop_zero]
        repeat (go_big_quiet_step (fail))
        refine wpQuiet_nil ?_
        intro _ hw'
        obtain ⟨nq6, rfl⟩ := hw'
        intro K' hK'
        go_simp
        refine (TKC.out _ (bdrewN (Below.refl _ _) _)).mono ?_
        rintro e w6 ⟨rfl, hb6, ht6⟩
        have ht6' := ((Touch.refl G wr).drewN nq6).then ht6
        have TC : Hid (∀ q, TakeCutR wr (w6.drewN q) I L PS F G) := Lib.hid (fun q => by
          rw [ES.out]
          exact ABr.out.taken TG.out (hb6.below (bdrewN (Below.refl _ w6) q)) (ht6'.drewN q))
        clear hb6 ht6 ht6'
        by_cases hE : te = 0
        · subst hE
          have PE0 : Hid (PE = 0) := EE
          go_simp
          refine hK' _ _ ?_
          clear hK' K'
          repeat (go_big_quiet_step (fail))
          refine wpQuiet_nil ?_
          intro _ hw'
          obtain ⟨nq7, rfl⟩ := hw'
          have TC5 := Lib.hid (TC.out nq7)
          generalize w6.drewN nq7 = w7 at *
          clear TC
          go_wp2_with fail
          exact Met.intro (hJ2 _ _ (by kernel_rfl) ⟨rfl, rfl, rfl, PE0, TC5.out⟩)
        · have HE := Lib.hid hE
          go_simp
          refine hK' _ _ ?_
          clear hK' K'
          repeat (go_big_quiet_step (fail))
          refine wpQuiet_nil ?_
          intro _ hw'
          obtain ⟨nq7, rfl⟩ := hw'
          have TC5 := Lib.hid (RRPost.of_take BW.out (TC.out nq7))
          generalize w6.drewN nq7 = w7 at *
          clear TC
          go_wp2_with fail
          go_ret
          rw [EE.out]
          exact ⟨rfl, fun _ => TC5.out, fun x => absurd x HE.out⟩
    · intro f2 w6 ⟨f0, f1, f7, PE0, G6, rr6, hG6, t6⟩
      rw [slots160]
      rw [f0, f1, f7]
      clear f0 f1 f7
      have hGB : ∀ k, G k → k < w2.heap.size := fun k hk => by have := AB0.out.gl k hk; omega
      have HX6 := Lib.hid (HX.out.touch t6 hGB)
      have OC6 : Hid (w6.ownsRow w1.heap.size 5 1 (.slice oa j oc) j (zs.map (Value.int .u8))) := Lib.hid (ownsRow_same OCR.out (fun k hk => t6.block k (OCR.out.lt k hk).2 (fun x => by have := AB0.out.gl k x; have := (OCR.out.lt k hk).1; have := B1.out.size; omega)))
      have T6 : Hid (Touch (fun k => F k ∨ G k) w w6) := Lib.hid ((Touch.of_below BW.out).then (t6.mono (fun k hk => Or.inr hk)))
      have RR6 := Lib.hid rr6
      obtain ⟨cv6, hm6⟩ := rr6.qu
      have hnod : (NL.map QCh.b).Nodup := by
        rw [HMB.out, List.nodup_append]
        refine ⟨HM.out.inj, HX.out.nd, fun a ha b hb => ?_⟩
        obtain ⟨c, hc, rfl⟩ := List.mem_map.1 ha
        have := lt_of (HM.out.mem c hc).1
        have := (HX.out.new b hb).1
        omega
      have HNOD := Lib.hid hnod
      have W0 : Hid (WrAt NL (pushL I L zs bs) 0 w6 w6) := Lib.hid (WrAt.start (fun c hc => by
        rcases HBK.out c hc with ⟨d, hd, e1, e2⟩ | ⟨hb, e2⟩
        · rw [e1, e2]; exact (hm6.mem d hd).1
        · rw [e2]; exact (HX6.out.new _ hb).2))
      have d6 : w6.cell? ⟨I.r, 6, none⟩ = some cv6 := by rw [cell_of hm6.self]; rfl
      have HM6 := Lib.hid hm6
      clear hm6 rr6 t6 hnod
      have hrc : j ≤ oc ∧ oc ≤ 9223372036854775807 := by
        rcases OC.out.2 with ⟨h1, h2⟩ | ⟨g', cap, cur, h1, _, _, h2, h3, _⟩
        · simp only [Value.slice.injEq] at h1; omega
        · simp only [Value.slice.injEq, true_and] at h1; unfold maxLen at h3; omega
      have HOA : Hid (0 < j → ∃ go, oa = some ⟨go, 0, none⟩) := Lib.hid (fun h0 => by
        rcases OC.out.2 with ⟨h1, h2⟩ | ⟨g', cap, cur, h1, _⟩
        · omega
        · simp only [Value.slice.injEq, true_and] at h1; exact ⟨g', h1.1⟩)
      go_wp2_with fail
      refine wp_loop_framed 160 (fun gm f wz => ∃ i : Nat, i ≤ NL.length ∧ gm = NL.length - i ∧ f 0 = .pointer (some ⟨I.r, 0, none⟩) ∧ f 7 = .slice xa NL.length xc ∧ f 119 = .int .i64 (NL.length : Int) ∧ f 120 = .int .i64 (i : Int) ∧
        (∃ ra rc, f 1 = .slice ra (j - consN g L j i) rc ∧ j - consN g L j i ≤ rc ∧ rc ≤ 9223372036854775807 ∧ (0 < j - consN g L j i → ∃ go, oa = some ⟨go, 0, none⟩ ∧ ra = some ⟨go, consN g L j i, none⟩)) ∧ WrAt NL (pushL I L zs bs) i w6 wz) _ _ (by kernel_rfl) NL.length ⟨0, Nat.zero_le _, rfl, rfl, rfl, rfl, rfl, ⟨oa, oc, by rw [consN_zero]; rfl, by rw [consN_zero]; exact hrc.1, hrc.2, fun h0 => by rw [consN_zero] at h0 ⊢; obtain ⟨go, hgo⟩ := HOA.out h0; exact ⟨go, hgo, hgo⟩⟩, W0.out⟩ ?_
      intro gm f wz ⟨i, hi, hgm2, f0, f7, f119, f120, ⟨ra, rc, f1, hr1, hr2, hr3⟩, hW⟩ J3 K3 hJ3 hK3
      rw [slots160]
      rw [f0, f1, f7, f119, f120]
      clear f0 f1 f7 f119 f120 W0
      by_cases hlt : i < NL.length
      · obtain ⟨e1, e2, e3, c1, c2, e4⟩ := HPL.out i hlt
        have farZ : ∀ (k : Nat) (cs : Array Value) (ty : Nat), w6.heap[k]? = some (.cells cs ty (0, 0)) → ty ≠ 5 → wz.heap[k]? = some (.cells cs ty (0, 0)) := fun k cs ty hk hne => by
          refine (hW.tt.block k (lt_of hk) (fun ⟨m, hmm, e⟩ => ?_)).trans hk
          have : ∃ cs, w6.heap[(NL.getD m QCh.zero).b]? = some (.cells cs 5 (0, 0)) := by
            rcases HBK.out _ (qgetD_in hmm) with ⟨d, hd, e1, e2⟩ | ⟨hb, e2⟩
            · rw [e1]; exact ⟨_, (HM6.out.mem d hd).1⟩
            · exact ⟨_, (HX6.out.new _ hb).2⟩
          obtain ⟨cs2, h2⟩ := this
          rw [← e, hk] at h2
          simp at h2
          exact hne h2.2
        have RL : wz.ownsRow 0 101 3 cv6 L.length (L.flatMap QCh.cells) := ownsRow_same HM6.out.crow (fun k hk => by
          obtain ⟨cur, hcur⟩ := row_block HM6.out.crow hk
          rw [farZ k _ _ hcur (by decide), hcur])
        have RN : wz.ownsRow w2.heap.size 101 3 (.slice xa NL.length xc) NL.length (NL.flatMap QCh.cells) := ownsRow_same HX6.out.row (fun k hk => by
          obtain ⟨cur, hcur⟩ := row_block HX6.out.row hk
          rw [farZ k _ _ hcur (by decide), hcur])
        have cz : wz.cell? ⟨I.r, 6, none⟩ = some cv6 := by rw [cell_of (farZ _ _ _ HM6.out.self (by decide))]; rfl
        obtain ⟨qa, qc, rfl⟩ := qrow_shape HM6.out.crow
        have HRL := Lib.hid RL
        have HRN := Lib.hid RN
        have HWZ := Lib.hid hW
        have HC := Lib.hid (And.intro c1 (And.intro c2 e4))
        have HE := Lib.hid (And.intro e1 (And.intro e2 e3))
        have HLN : Hid (L.length ≤ 500) := Lib.hid b63
        have HR3 := Lib.hid hr3
        clear RL RN farZ hW c1 c2 e1 e2 e3 e4 hr3 d6
        have HR12 := Lib.hid (And.intro hr1 hr2)
        generalize hwn : wasN L i = was at *
        have HWN := Lib.hid hwn
        clear hwn
        go_upto_if 129 with fail
        refine wp_cut_framed 160 (fun f wx => f 0 = .pointer (some ⟨I.r, 0, none⟩) ∧ f 7 = .slice xa NL.length xc ∧ f 119 = .int .i64 (NL.length : Int) ∧ f 120 = .int .i64 (i : Int) ∧ f 1 = .slice ra (j - consN g L j i) rc ∧ f 15 = .int .i64 (i : Int) ∧ f 16 = .int .i64 (was : Int) ∧ wx = wz) _ _ ?_ ?_
        · intro J4 K4 hJ4 hK4
          by_cases hil : i < L.length
          · obtain ⟨a'', c'', he, _, _, hcc⟩ := QChsIn.own HRL.out
            simp only [Value.slice.injEq, true_and] at he
            obtain ⟨rfl, rfl⟩ := he
            obtain ⟨b', o', hqa, d0, d1, d2⟩ := hcc i hil
            clear hcc
            have HT : Hid (was = (L.getD i QCh.zero).to) := Lib.hid (by rw [← HWN.out]; exact if_pos hil)
            subst hqa
            generalize L.getD i QCh.zero = y at *
            obtain ⟨yb, yos, yf, yt⟩ := y
            simp only at d0 d1 d2 HT
            clear d0 d1
            go_wp2_with fail
            exact Met.intro (hJ4 _ _ (by kernel_rfl) ⟨rfl, rfl, rfl, rfl, rfl, rfl, by rw [HT.out]; rfl, rfl⟩)
          · have HT : Hid (was = 0) := Lib.hid (by rw [← HWN.out]; exact if_neg hil)
            go_wp2_with fail
            exact Met.intro (hJ4 _ _ (by kernel_rfl) ⟨rfl, rfl, rfl, rfl, rfl, rfl, by rw [HT.out]; rfl, rfl⟩)
        · intro f3 wx ⟨f0, f7, f119, f120, f1, f15, f16, hwx⟩
          subst hwx
          rw [slots160]
          rw [f0, f1, f7, f15, f16, f119, f120]
          clear f0 f1 f7 f15 f16 f119 f120
          obtain ⟨a'', c'', he, _, _, hcc⟩ := QChsIn.own HRN.out
          simp only [Value.slice.injEq, true_and] at he
          obtain ⟨rfl, rfl⟩ := he
          obtain ⟨b', o', hxa, d0, d1, d2⟩ := hcc i hlt
          subst hxa
          have hbr := HWZ.out.bl i hlt
          rw [if_neg (Nat.lt_irrefl i)] at hbr
          have HBR := Lib.hid hbr
          obtain ⟨k1, k2, k3⟩ := HOKN.out _ (qgetD_in hlt)
          have STEP := Lib.hid (fun w' hr ht => HWZ.out.step (w' := w') HNOD.out hlt hr ht)
          obtain ⟨hc1, hc2, hc4⟩ := HC.out
          have hcj : consN g L j (i + 1) ≤ j := consN_le _ _ _ _
          rw [hc4] at STEP
          obtain ⟨hr1, hr2⟩ := HR12.out
          clear hcc hbr hc4 d1
          generalize NL.getD i QCh.zero = x at *
          obtain ⟨xb, xos, xf, xt⟩ := x
          simp only at d0 d2 k1 k2 k3 hc2 HBR STEP
          generalize consN g L j i = c at *
          generalize hcn : consN g L j (i + 1) = c' at *
          obtain ⟨D, rfl⟩ : ∃ D, c' = c + D := ⟨c' - c, by omega⟩
          have HCN := Lib.hid hcn
          clear hcn
          rw [Nat.add_sub_cancel_left] at hc2 STEP
          have hpl : ((zs.drop c).take D).length = D := by rw [List.length_take, List.length_drop, HZN.out]; omega
          have HPLN := Lib.hid hpl
          generalize hxl : xos.length = xl at *
          have HXL := Lib.hid hxl
          clear hxl
          go_upto_region 32 with fail
          have s0 : ∀ y : WIn (Wr32 b' (o' + i * 3) xb xl xt), y.w.cell? ⟨b', o' + i * 3, none⟩ = some (.slice (some ⟨xb, 0, none⟩) xl xl) := fun y => y.h.1
          have s2 : ∀ y : WIn (Wr32 b' (o' + i * 3) xb xl xt), y.w.cell? ⟨b', o' + i * 3 + 2, none⟩ = some (.int .i64 xt) := fun y => y.h.2
          haveI ne : Nonempty (WIn (Wr32 b' (o' + i * 3) xb xl xt)) := ⟨⟨wx, d0, d2⟩⟩
          have hD0 := Lib.hid (And.intro d0 d2)
          have hx1 : was ≤ xt := by omega
          have hx2 : xt ≤ xl := k2
          refine wp_normal ?_
          refine wp_region_plan 13 (Wr32 b' (o' + i * 3) xb xl xt) rfl ?_
          refine wpN_seg [0, 1, 2, 3, 4, 5, 6, 7, 8, 9, 10, 11, 12] (by kernel_rfl) (by kernel_rfl) (by kernel_rfl) (by kernel_rfl) (by decide) (fun _ _ _ _ _ h => h) hD0.out ?_
          simp only [pick, List.map_cons, List.map_nil, List.getElem?_cons_succ, List.getElem?_cons_zero, Option.getD_some]
          repeat (go_big_quiet_step (fail))
          refine wpQuiet_nil ?_
          refine wpN_one 13 _ (by kernel_rfl) rfl ?_
          refine NextAt.free (by kernel_rfl) ?_
          intro K5 hK5
          have OCZ : Hid (wx.drew.ownsRow w1.heap.size 5 1 (.slice oa j oc) j (zs.map (Value.int .u8))) := Lib.hid (ownsRow_same OC6.out (fun k hk => by
            refine (show wx.heap[k]? = w6.heap[k]? from HWZ.out.tt.block k (OC6.out.lt k hk).2 (fun ⟨m, hmm, e⟩ => ?_))
            rcases HBK.out _ (qgetD_in hmm) with ⟨d, hd, e1, e2⟩ | ⟨hb, e2⟩
            · have h1 := lt_of (HM.out.mem d hd).1
              have h2 := (OC6.out.lt k hk).1
              have h3 := B1.out.size
              rw [e1] at e
              omega
            · have h1 := (HX6.out.new _ hb).1
              have h2 := OLT.out k hk
              omega))
          refine step_copy_at rfl (.tmp 149) (.tmp 150) 42 42 rfl 5 Tryz.underlying42 (by kernel_rfl) _ ra (xt - was) (xl - was) (j - c) rc (by simp [Act.eval]; rfl) (by simp [Act.eval]) xb was (xos.map (Value.int .u8)) 5 HBR.out (((zs.drop c).take D).map (Value.int .u8)) (by rw [List.length_map, HPLN.out]; show D = min (j - c) (xt - was); omega) ?hpos (by rw [List.length_map, List.length_map, HPLN.out, HXL.out]; omega) (by intro u hu; obtain ⟨z, _, rfl⟩ := List.mem_map.1 hu; rfl) ?_
          case hpos =>
            intro hp
            rw [List.length_map, HPLN.out] at hp
            obtain ⟨go, hgo, hra⟩ := HR3.out (by omega)
            refine ⟨if_neg (by omega), _, hra, fun m u hm => ?_⟩
            have hmD : m < D := by
              rcases Nat.lt_or_ge m D with h | h
              · exact h
              · rw [List.getElem?_eq_none (by rw [List.length_map, HPLN.out]; exact h)] at hm; cases hm
            have := OCZ.out.cells (g := go) (by rw [hgo]; rfl) (c + m) u (by
              rw [← hm, List.getElem?_map, List.getElem?_map, List.getElem?_take, if_pos hmD, List.getElem?_drop])
            rw [qadd_spot, Nat.zero_add] at this
            have e1 : (⟨go, c, none⟩ : Addr).add m = ⟨go, c + m, none⟩ := by unfold Addr.add; split <;> simp_all
            rw [e1]
            exact this
          intro w7 hw7 ht7
          rw [← splice_mapF] at hw7
          rw [List.length_map, HPLN.out]
          simp only [goInt]
          have FIN := Lib.hid (STEP.out w7 hw7 (((Touch.refl _ wx).drewN 1).then ht7))
          clear hw7 ht7
          go_simp
          refine hK5 _ _ ?_
          clear hK5 K5
          refine wpN_one 14 _ (by kernel_rfl) rfl ?_
          refine NextAt.free (by kernel_rfl) ?_
          intro K5 hK5
          go_simp
          refine hK5 _ _ ?_
          clear hK5 K5
          refine wpN_done (by kernel_rfl) ?_
          have hcap : D ≤ j - c := by omega
          go_wp2_with fail
          all_goals
            refine Handed.intro (NL.length - (i + 1)) (by omega) (hJ3 _ _ _ (by kernel_rfl) ⟨i + 1, by omega, rfl, rfl, rfl, rfl, by first | rfl | simp, ?_, FIN.out⟩)
            rw [HCN.out]
            refine ⟨_, _, by rw [Nat.sub_add_eq]; rfl, by omega, by omega, fun h0 => ?_⟩
            first
              | (exfalso; omega)
              | (obtain ⟨go, hgo, hra⟩ := HR3.out (by omega)
                 refine ⟨go, hgo, ?_⟩
                 rw [hra]
                 exact congrArg some (qadd_at go c D))
      · obtain rfl : i = NL.length := by omega
        have hneR : ∀ m, m < NL.length → I.r ≠ (NL.getD m QCh.zero).b := fun m hm e => by
          have := hW.bl m hm
          have h2 := HM6.out.self
          have : ∃ cs, w6.heap[(NL.getD m QCh.zero).b]? = some (.cells cs 5 (0, 0)) := by
            rcases HBK.out _ (qgetD_in hm) with ⟨d, hd, e1, e2⟩ | ⟨hb, e2⟩
            · rw [e1]; exact ⟨_, (HM6.out.mem d hd).1⟩
            · exact ⟨_, (HX6.out.new _ hb).2⟩
          obtain ⟨cs, hcs⟩ := this
          rw [← e, h2] at hcs
          simp at hcs
        have hself : wz.heap[I.r]? = w6.heap[I.r]? := hW.tt.block I.r (lt_of HM6.out.self) (fun ⟨m, hm, e⟩ => hneR m hm e)
        have fz : wz.frozen? ⟨I.r, 6, none⟩ = false := free_of (hself.trans HM6.out.self) 6
        have cz : wz.cell? ⟨I.r, 6, none⟩ = some cv6 := by rw [cell_of (hself.trans HM6.out.self)]; rfl
        have HW := Lib.hid hW
        have HSELF := Lib.hid (hself.trans HM6.out.self)
        clear hself hneR hW
        go_wp2_with fail
        go_ret
        rw [PE0.out]
        refine ⟨rfl, fun x => absurd rfl x, fun _ => ⟨bs, HMQ.out, fun b hb => ?_, ?_⟩⟩
        · have := (HX.out.new b hb).1
          have := B2.out.size
          omega
        · have hw2 := B2.out.size
          obtain ⟨E1, T1⟩ := pushR_end (B := w2.heap.size) (g := g) RR6.out HM6.out HX6.out HW.out HBK.out HNOD.out (fun k hk hgk => by
            rcases hG6 k hgk with x | x
            · have := AB0.out.gl k x
              rcases hk with hk | hk
              · have := (HX.out.row.lt k hk).1; omega
              · have := (HX.out.new k hk).1; omega
            · rcases hk with hk | hk
              · have := (HX.out.row.lt k hk).2; omega
              · have := lt_of (HX.out.new k hk).2; omega) HPL1.out (by omega) (fun i hi => by
            obtain ⟨e1, e2, e3, c1, c2, e4⟩ := HPL.out i hi
            refine ⟨e1, e2, e3, ?_⟩
            rw [e4, splice_len _ _ _ (by
              rw [List.length_take, List.length_drop, HZN.out]
              have := (HOKN.out _ (qgetD_in hi)).2.1
              omega)]) HOKN.out
          refine ⟨_, G6, E1, ?_, fun k hk => (hG6 k hk).imp id (fun x => by have := BW.out.size; omega), T6.out.trans T1 (fun k hk => ?_)⟩
          · rintro k (hk | hk | hk)
            · exact Or.inl hk
            · have := (HX.out.row.lt k hk).1; exact Or.inr (by omega)
            · have := (HX.out.new k hk).1; exact Or.inr (by omega)
          · rcases hk with hk | hk
            · exact Or.inl (Or.inl hk)
            · have := (HX.out.new k hk).1; exact Or.inr (by omega)

end Go.Proofs.YtfnmjlnpfoclbaaGreat
