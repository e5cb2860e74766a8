/-
  A rope in memory; sizes, total, Len, Room: what they give. Conditions: numbers in their bounds.
-/
import Derived.Test.YtidfidknflcioaaTopRopePag
import Derived.Test.YtidfidknflcioaaTopRopePaj
import Derived.Test.YtidfidknflcioaaTopRopePaq
import Derived.Test.YtidfidknflcioaaTopRopePas
import Derived.Test.YtidfidknflcioaaTopRopePac
import Derived.Deep.Cut
import Derived.Deep.CutRange
import Derived.Deep.DeepCutAuto
import Derived.StillTailTactics
namespace Go.Proofs.Ytidfidknflcioaa
open Go.RowKit
set_option linter.unusedVariables false

/-- A leaf in memory: its block, all its cells, how many are octets. -/
structure Lm where
  g : Nat
  cs : List Int
  n : Nat
def Lm.val (x : Lm) : Value := .slice (some ⟨x.g, 0, none⟩) x.n x.cs.length
def Lm.lc (x : Lm) : Lc := (x.cs.take x.n, x.cs.length)
def Lm.sz (x : Lm) : Sz := (x.n, x.cs.length)
def Lm.ok (x : Lm) : Prop := x.n ≤ x.cs.length ∧ x.cs.length ≤ 100000 ∧ bytes x.cs
theorem Lm.sz_lc {x : Lm} (h : x.ok) : szC x.lc = x.sz := by
  unfold szC Lm.lc Lm.sz
  simp only [List.length_take, Prod.mk.injEq, and_true]
  have := h.1
  omega
/-- What a rope is made of. -/
structure RopI where
  r : Nat
  bp : Nat
  o : Int
  p : RPar
structure RopeMem (w : World) (F : Nat → Prop) (I : RopI) (L : List Lm) (lv : Value) : Prop where
  self : w.heap[I.r]? = some (.cells #[.pointer (some ⟨I.bp, 0, none⟩), .int .i64 I.o, .int .i64 I.p.k, .int .i64 I.p.s, .int .i64 I.p.m, .int .i64 (I.p.leaf : Int), .bool false, lv, .slice none 0 0] 69 (0, 0))
  row : w.ownsRow 0 32 1 lv L.length (L.map Lm.val)
  mem : ∀ x ∈ L, byteRow w x.g x.cs ∧ x.ok ∧ F x.g
  inj : (L.map Lm.g).Nodup
  fr : F I.r
  frow : ∀ k, lv.ownBlock = some k → F k
theorem RopeMem.same {w w' : World} {F : Nat → Prop} {I : RopI} {L : List Lm} {lv : Value} (h : RopeMem w F I L lv) (hs : ∀ k, F k → k < w.heap.size → w'.heap[k]? = w.heap[k]?) : RopeMem w' F I L lv :=
  ⟨(hs _ h.fr (lt_of h.self)).trans h.self, ownsRow_same h.row (fun k hk => hs k (h.frow k hk) (h.row.lt k hk).2), fun x hx => by
    obtain ⟨h1, h2, h3⟩ := h.mem x hx
    exact ⟨(hs _ h3 (lt_of h1)).trans h1, h2, h3⟩, h.inj, h.fr, h.frow⟩
theorem RopeMem.below {w w' : World} {F : Nat → Prop} {I : RopI} {L : List Lm} {lv : Value} (h : RopeMem w F I L lv) (hb : Below w.heap.size w w') : RopeMem w' F I L lv := h.same (fun k _ hk => hb.block k hk)
theorem RopeMem.cells {w : World} {F : Nat → Prop} {I : RopI} {L : List Lm} {lv : Value} (h : RopeMem w F I L lv) :
    w.cell? ⟨I.r, 0, none⟩ = some (.pointer (some ⟨I.bp, 0, none⟩)) ∧ w.cell? ⟨I.r, 1, none⟩ = some (.int .i64 I.o) ∧ w.cell? ⟨I.r, 2, none⟩ = some (.int .i64 I.p.k) ∧ w.cell? ⟨I.r, 3, none⟩ = some (.int .i64 I.p.s) ∧ w.cell? ⟨I.r, 4, none⟩ = some (.int .i64 I.p.m) ∧
      w.cell? ⟨I.r, 5, none⟩ = some (.int .i64 (I.p.leaf : Int)) ∧ w.cell? ⟨I.r, 6, none⟩ = some (.bool false) ∧ w.cell? ⟨I.r, 7, none⟩ = some lv ∧ w.cell? ⟨I.r, 8, none⟩ = some (.slice none 0 0) := by
  refine ⟨?_, ?_, ?_, ?_, ?_, ?_, ?_, ?_, ?_⟩ <;> (rw [cell_of h.self]; rfl)

def szCells (l : List Sz) : List Value := l.flatMap fun p => [.int .i64 (p.1 : Int), .int .i64 (p.2 : Int)]
theorem szCells_app (a b : List Sz) : szCells (a ++ b) = szCells a ++ szCells b := by simp [szCells]
theorem szCells_len (a : List Sz) : (szCells a).length = a.length * 2 := by
  induction a with
  | nil => rfl
  | cons x l ih => simp only [szCells, List.flatMap_cons, List.length_append, List.length_cons, List.length_nil] at *; omega
theorem szCells_get (sp : List Sz) (k : Nat) (p : Sz) (h : sp[k]? = some p) : (szCells sp)[k * 2]? = some (.int .i64 (p.1 : Int)) ∧ (szCells sp)[k * 2 + 1]? = some (.int .i64 (p.2 : Int)) := by
  induction sp generalizing k with
  | nil => simp at h
  | cons q sp ih =>
    have e : szCells (q :: sp) = .int .i64 (q.1 : Int) :: .int .i64 (q.2 : Int) :: szCells sp := by simp [szCells]
    rw [e]
    cases k with
    | zero => simp at h; subst h; exact ⟨rfl, rfl⟩
    | succ k =>
      have := ih k (by simpa using h)
      rw [Nat.succ_mul]
      exact ⟨by simpa using this.1, by simpa [Nat.add_assoc] using this.2⟩
/-- A slice of sizes, wherever it begins. -/
def SzIn (w : World) (v : Value) (l : List Sz) : Prop :=
  ∃ a cap, v = .slice a l.length cap ∧ l.length ≤ cap ∧ cap ≤ 9223372036854775807 ∧ ∀ k p, l[k]? = some p → ∃ b o, a = some ⟨b, o, none⟩ ∧ w.cell? ⟨b, o + k * 2, none⟩ = some (.int .i64 (p.1 : Int)) ∧ w.cell? ⟨b, o + k * 2 + 1, none⟩ = some (.int .i64 (p.2 : Int))
theorem SzIn.row {w : World} {B e : Nat} {v : Value} {l : List Sz} (h : w.ownsRow B e 2 v l.length (szCells l)) : SzIn w v l := by
  obtain ⟨a, c, rfl⟩ := wrow_sh h
  have hle : l.length ≤ c ∧ c ≤ 9223372036854775807 := by
    rcases h.2 with ⟨hv, h0⟩ | ⟨g, cap, cur, hv, _, _, hn, hm, _⟩
    · simp only [Value.slice.injEq] at hv; omega
    · simp only [Value.slice.injEq] at hv
      have : cap ≤ 9223372036854775807 := hm
      omega
  refine ⟨a, c, rfl, hle.1, hle.2, fun k p hk => ?_⟩
  obtain ⟨q1, q2⟩ := szCells_get l k p hk
  obtain ⟨g, rfl, c1, _⟩ := wrow_cell h q1
  obtain ⟨g', hg', c2, _⟩ := wrow_cell h q2
  simp only [Option.some.injEq, Addr.mk.injEq, and_true] at hg'
  subst hg'
  exact ⟨g, 0, rfl, by rw [Nat.zero_add]; exact c1, by rw [Nat.zero_add]; exact c2⟩
theorem SzIn.below {w w' : World} {v : Value} {l : List Sz} (h : SzIn w v l) (hb : Below w.heap.size w w') : SzIn w' v l := by
  obtain ⟨a, c, h1, h2, h3, h4⟩ := h
  refine ⟨a, c, h1, h2, h3, fun k p hk => ?_⟩
  obtain ⟨b, o, e, c1, c2⟩ := h4 k p hk
  have lt := World.block_lt_of_cell? w _ c1
  exact ⟨b, o, e, (hb.cell (p := ⟨b, o + k * 2, none⟩) lt).trans c1, (hb.cell (p := ⟨b, o + k * 2 + 1, none⟩) lt).trans c2⟩

theorem infoLeaf : (Try.prog.info? 39).map (fun i => (i.zero, i.size, i.bytes)) = some (some (.agg #[.int .i64 0, .int .i64 0]), 2, 16) := by kernel_rfl
def SzPost (l : List Sz) (w : World) : Ending → World → Prop := fun e w' => ∃ v, e = .returned v ∧ w'.ownsRow w.heap.size 39 2 v l.length (szCells l) ∧ Below w.heap.size w w'

set_option maxHeartbeats 2000000 in
set_option maxRecDepth 100000 in
theorem sizes_any (I : RopI) (L : List Lm) (lv : Value) (F : Nat → Prop) (w : World) (hm : RopeMem w F I L lv) (hl : L.length ≤ 60000) :
    Calls Try.prog 36 #[.pointer (some ⟨I.r, 0, none⟩)] w (SzPost (L.map Lm.sz) w) := by
  obtain ⟨i0, hi0, hz0, hz1, hz2⟩ := info_parts infoLeaf
  have c7 := hm.cells.2.2.2.2.2.2.2.1
  obtain ⟨la, lc, rfl⟩ := wrow_sh hm.row
  have HR := Lib.hid hm.row
  have HM := Lib.hid hm.mem
  clear hm
  go_enter Try.func36, Try.ntmps36
  go_wp2_with fail
  clear c7
  go_loopw [3, 11] (fun ov i wr => ∃ k : Nat, k ≤ L.length ∧ i = .int .i64 (k : Int) ∧ wr.ownsRow w.heap.size 39 2 ov k (szCells ((L.map Lm.sz).take k)) ∧ Below w.heap.size w wr) (fun _ i _ => L.length - (intOf i).toNat)
  case atStart => exact ⟨0, Nat.zero_le _, rfl, World.ownsRow_nil _ _ _ _, Below.refl _ _⟩
  case round =>
    obtain ⟨k, hk, rfl, hrow, hb⟩ := hrel
    have ROW := Lib.hid hrow
    have BL := Lib.hid hb
    have hbs := hb.size
    clear hrow
    by_cases hlt : k < L.length
    · obtain ⟨x, hx⟩ : ∃ x, L[k]? = some x := ⟨_, List.getElem?_eq_getElem hlt⟩
      obtain ⟨g, rfl, d, _⟩ := wrow_cell HR.out (j := k) (u := x.val) (by rw [List.getElem?_map, hx]; rfl)
      have d' := old_cell hb d
      have ok := (HM.out x (List.mem_of_getElem? hx)).2.1
      have TK := Lib.hid (show (L.map Lm.sz).take (k + 1) = (L.map Lm.sz).take k ++ [(x.n, x.cs.length)] by rw [List.take_add_one, List.getElem?_map, hx]; rfl)
      obtain ⟨xg, xcs, xn⟩ := x
      unfold Lm.val at d'
      simp only at d' TK
      obtain ⟨cp, hcp⟩ : ∃ cp, xcs.length = cp := ⟨_, rfl⟩
      have b1 : xn ≤ cp ∧ cp ≤ 100000 := by rw [← hcp]; exact ⟨ok.1, ok.2.1⟩
      rw [hcp] at d' TK
      obtain ⟨b2, b3⟩ := b1
      clear hb d hx ok hcp
      go_wp2_with (at_builtin; go_must (refine wpList_append_w rfl (.tmp 15) (.tmp 21) 37 rfl w.heap.size 39 i0 (.agg #[.int .i64 0, .int .i64 0]) 2 16 Try.underlying37 hi0 hz0 hz1 hz2 rfl (by decide) _ _ _ wr _ [.int .i64 (xn : Int), .int .i64 (cp : Int)] rfl (by exact ROW.out) (by rfl) rfl (by intro u hu; simp at hu; rcases hu with rfl | rfl <;> rfl) (by unfold maxLen; omega) (by omega) hbs ?_))
      intro v' w4 hown' _ hb4
      have FIN := Lib.hid (show w4.ownsRow w.heap.size 39 2 v' (k + 1) (szCells ((L.map Lm.sz).take (k + 1))) by rw [TK.out, szCells_app]; exact hown')
      have B4 := Lib.hid (BL.out.trans hb4)
      clear hown' hb4
      go_wp2_with fail
      go_round
      case rel => exact ⟨k + 1, by omega, by go_num, FIN.out, B4.out⟩
      case measure => simp [intOf]; omega
    · obtain rfl : k = L.length := by omega
      have FIN := Lib.hid (show wr.ownsRow w.heap.size 39 2 u3 (L.map Lm.sz).length (szCells (L.map Lm.sz)) by
        have := ROW.out
        rw [List.take_of_length_le (by simp)] at this
        rw [List.length_map]
        exact this)
      clear hlt hk hb
      go_wp2_with fail
      go_ret
      exact ⟨_, rfl, FIN.out, BL.out⟩

theorem totS_take (l : List Sz) (k : Nat) (p : Sz) (h : l[k]? = some p) : totS (l.take (k + 1)) = ((totS (l.take k)).1 + p.1, (totS (l.take k)).2 + p.2) := by
  unfold totS
  rw [List.take_add_one, h]
  simp
theorem totS_le (l : List Sz) (A B : Nat) (h : ∀ p ∈ l, p.1 ≤ A ∧ p.2 ≤ B) : (totS l).1 ≤ l.length * A ∧ (totS l).2 ≤ l.length * B := by
  induction l with
  | nil => simp [totS]
  | cons x l ih =>
    have h1 := ih (fun p hp => h p (by simp [hp]))
    have h2 := h x (by simp)
    simp only [totS, List.map_cons, List.sum_cons, List.length_cons, Nat.succ_mul] at *
    omega
/-- Sizes that are no greater than may be. -/
def SzOk (l : List Sz) : Prop := l.length ≤ 200000 ∧ ∀ p ∈ l, p.1 ≤ 100000 ∧ p.2 ≤ 100000
theorem SzOk.take {l : List Sz} (h : SzOk l) (k : Nat) : SzOk (l.take k) := ⟨by rw [List.length_take]; have := h.1; omega, fun p hp => h.2 p (List.mem_of_mem_take hp)⟩
theorem SzOk.tot {l : List Sz} (h : SzOk l) : (totS l).1 ≤ 20000000000 ∧ (totS l).2 ≤ 20000000000 := by
  have h1 := totS_le l 100000 100000 h.2
  have h2 := h.1
  have h3 : l.length * 100000 ≤ 200000 * 100000 := Nat.mul_le_mul_right _ h2
  omega

set_option maxHeartbeats 2000000 in
set_option maxRecDepth 100000 in
theorem total_any (v : Value) (l : List Sz) (w : World) (hv : SzIn w v l) (hl : SzOk l) :
    Calls Try.prog 48 #[v] w (fun e w' => e = .returned (.tuple #[.int .i64 ((totS l).1 : Nat), .int .i64 ((totS l).2 : Nat)]) ∧ Below w.heap.size w w') := by
  obtain ⟨a, cap, rfl, _, _, hc⟩ := hv
  have HC := Lib.hid hc
  have HO := Lib.hid hl
  have hn := hl.1
  clear hc hl
  go_enter Try.func48, Try.ntmps48
  go_wp2_with fail
  go_loopw [2, 3, 8] (fun s2 s3 i wr => ∃ k : Nat, k ≤ l.length ∧ i = .int .i64 (k : Int) ∧ s2 = .int .i64 ((totS (l.take k)).1 : Nat) ∧ s3 = .int .i64 ((totS (l.take k)).2 : Nat) ∧ Below w.heap.size w wr) (fun _ _ i _ => l.length - (intOf i).toNat)
  case atStart => exact ⟨0, Nat.zero_le _, rfl, rfl, rfl, Below.refl _ _⟩
  case round =>
    obtain ⟨k, hk, rfl, rfl, rfl, hb⟩ := hrel
    have BL := Lib.hid hb
    by_cases hlt : k < l.length
    · obtain ⟨p, hp⟩ : ∃ p, l[k]? = some p := ⟨_, List.getElem?_eq_getElem hlt⟩
      obtain ⟨b, o, rfl, c1, c2⟩ := HC.out k p hp
      have d1 := old_cell hb c1
      have d2 := old_cell hb c2
      have TK := Lib.hid (totS_take l k p hp)
      have t1 := (HO.out.take k).tot
      have bp := HO.out.2 p (List.mem_of_getElem? hp)
      obtain ⟨x, y⟩ := p
      simp only at d1 d2 bp TK
      obtain ⟨⟨tx, ty⟩, ht⟩ : ∃ z, totS (l.take k) = z := ⟨_, rfl⟩
      rw [ht] at t1 TK ⊢
      simp only at t1 TK ⊢
      obtain ⟨t1a, t1b⟩ := t1
      obtain ⟨bx, by'⟩ := bp
      clear c1 c2 hp ht hb
      go_upto_region 4 with fail
      have hbx := heap_alloc_new wr (.cells #[.int .i64 (x : Int), .int .i64 (y : Int)] 39)
      have B2 := Lib.hid (BL.out.trans (((Below.refl wr.heap.size wr).alloc (Nat.le_refl _) (.cells #[.int .i64 (x : Int), .int .i64 (y : Int)] 39)).mono BL.out.size))
      obtain ⟨bb, hbb⟩ : ∃ bb, wr.heap.size = bb := ⟨_, rfl⟩
      rw [hbb] at hbx ⊢
      generalize wr.alloc (.cells #[.int .i64 (x : Int), .int .i64 (y : Int)] 39) = W1 at *
      have x0 : W1.cell? ⟨bb, 0, none⟩ = some (.int .i64 (x : Int)) := by rw [cell_of hbx]; rfl
      have x1 : W1.cell? ⟨bb, 1, none⟩ = some (.int .i64 (y : Int)) := by rw [cell_of hbx]; rfl
      clear hbx d1 d2 hbb
      go_quiet (fail)
      go_wp2_with fail
      go_round
      case rel => exact ⟨k + 1, by omega, by go_num, by rw [TK.out]; go_num, by rw [TK.out]; go_num, bdrewN B2.out _⟩
      case measure => simp [intOf]; omega
    · obtain rfl : k = l.length := by omega
      rw [List.take_length]
      clear hlt hk hb
      go_wp2_with fail
      go_ret2
      exact ⟨rfl, BL.out⟩

end Go.Proofs.Ytidfidknflcioaa
