/-
  octets and put of a ring: what they give. Conditions: numbers in their bounds.
  put of a ring: what it leaves. Conditions: numbers in their bounds.
  wants, move, Reserve of a ring: what they give. Conditions: numbers in their bounds.
  A place for some octets of a heap. No conditions but bounds.
  clear of a stretch of octets. No conditions.
-/
import Derived.Test.YtjogaohnphafgaaGreatMoveRunsPaq
import Derived.Deep.RegionWith
import Derived.Test.YtjogaohnphafgaaGreatMoveRunsPaf
import Derived.Test.YtjogaohnphafgaaGreatMoveRunsPag
import Derived.Test.YtjogaohnphafgaaGreatMoveRunsPaa
import Derived.Lib.SliceRun

namespace Go.Proofs.YtjogaohnphafgaaGreat
section
open Go.RowKit

theorem cat2 {wB : World} {S1 S2 : Value} {l1 l2 : List Int} (r1 : Reads wB .u8 S1 l1) (r2 : Reads wB .u8 S2 l2) :
    ∀ k (hk : k < [(S1, l1), (S2, l2)].length), (wB.alloc (.cells #[S1, S2] 38)).cell? ⟨wB.heap.size, k, none⟩ = some ([(S1, l1), (S2, l2)][k].1) ∧
      Reads (wB.alloc (.cells #[S1, S2] 38)) .u8 ([(S1, l1), (S2, l2)][k].1) ([(S1, l1), (S2, l2)][k].2) := by
  have W1 : Below wB.heap.size wB (wB.alloc (.cells #[S1, S2] 38)) := (Below.refl wB.heap.size wB).alloc (Nat.le_refl _) _
  have q1 := r1.below W1 rfl
  have q2 := r2.below W1 rfl
  have hn : (wB.alloc (.cells #[S1, S2] 38)).heap[wB.heap.size]? = some (.cells #[S1, S2] 38 (0, 0)) := heap_alloc_new wB _
  intro k hk
  match k, hk with
  | 0, _ => exact ⟨by rw [cell_of hn]; rfl, q1⟩
  | 1, _ => exact ⟨by rw [cell_of hn]; rfl, q2⟩

/-- The memory's octets. -/
def memRow (w : World) (g : Option Nat) (R : Nat) (cs : List Int) : Prop := cs.length = R ∧ match g with | none => R = 0 | some b => byteRow w b cs
theorem memRow.nil {w : World} {g : Option Nat} {R : Nat} {cs : List Int} (h : memRow w g R cs) (hg : g = none) : R = 0 := by subst hg; exact h.2
theorem memRow.keep {w w' : World} {g : Option Nat} {R : Nat} {cs : List Int} (h : memRow w g R cs) (hk : ∀ b, g = some b → w'.heap[b]? = w.heap[b]?) : memRow w' g R cs := by
  refine ⟨h.1, ?_⟩
  cases g with
  | none => exact h.2
  | some b => exact (hk b rfl).trans h.2

/-- Where an octet's cell lies. -/
def cellN (st R n : Nat) : Nat := if R = 0 then 0 else (st + n) % R
theorem cellN_le (st R n : Nat) : cellN st R n ≤ R := by
  unfold cellN; split
  · omega
  · exact Nat.le_of_lt (Nat.mod_lt _ (by omega))

/-- n octets from cell c on. -/
def octL (cs : List Int) (c n : Nat) : List Int := (cs.drop c).take (min (c + n) cs.length - c) ++ cs.take (n - (min (c + n) cs.length - c))
theorem octL_len (cs : List Int) (c n : Nat) (hc : c ≤ cs.length) (hn : n ≤ cs.length) : (octL cs c n).length = n := by
  unfold octL
  simp only [List.length_append, List.length_take, List.length_drop]
  omega

theorem reads_part {w : World} {b : Nat} {cs : List Int} (h : byteRow w b cs) (c k : Nat) (hk : c + k ≤ cs.length) (hl : cs.length ≤ 1000000) (f : Option Addr) (hf : 0 < k → f = some ⟨b, c, none⟩) : Reads w .u8 (.slice f k k) ((cs.drop c).take k) := by
  have hlen : ((cs.drop c).take k).length = k := by rw [List.length_take, List.length_drop]; omega
  refine ⟨f, k, by rw [hlen], by omega, fun hne => ?_⟩
  have h0 : 0 < k := by
    rcases Nat.eq_zero_or_pos k with h0 | h0
    · subst h0; simp at hne
    · exact h0
  refine ⟨b, c, hf h0, fun j hj => ?_⟩
  rw [hlen] at hj
  rw [h.cell (c + j) (by omega)]
  simp [List.getD_eq_getElem?_getD, hj]

end
end Go.Proofs.YtjogaohnphafgaaGreat

namespace Go.Proofs.YtjogaohnphafgaaGreat
section
open Go.RowKit

/-- A slice of the call's own, apart from block g. -/
def OwnAt (pl : Value) (n g : Nat) : Prop := (pl = .slice none 0 0 ∧ n = 0) ∨ ∃ b c, pl = .slice (some ⟨b, 0, none⟩) n c ∧ b ≠ g ∧ n ≤ c ∧ c ≤ maxLen
theorem OwnAt.of {W : World} {B e n g : Nat} {v : Value} {xs : List Value} (h : W.ownsRow B e 1 v n xs) (hg : g < B) : OwnAt v n g := by
  rcases h.2 with ⟨rfl, h0⟩ | ⟨b, cap, cur, rfl, hb, _, h1, h2, _⟩
  · exact Or.inl ⟨rfl, h0⟩
  · exact Or.inr ⟨b, cap, rfl, by omega, h1, h2⟩

def putD (R c n : Nat) : Nat := min (c + n) R - c
def putL (cs : List Int) (c : Nat) (zs : List Int) : List Int := splice (splice cs c (zs.take (putD cs.length c zs.length))) 0 (zs.drop (putD cs.length c zs.length))

theorem putL_len (cs : List Int) (c : Nat) (zs : List Int) (hc : c ≤ cs.length) (hn : zs.length ≤ cs.length) : (putL cs c zs).length = cs.length := by
  have h1 : (splice cs c (zs.take (putD cs.length c zs.length))).length = cs.length := splice_len _ _ _ (by rw [List.length_take]; unfold putD; omega)
  unfold putL
  rw [splice_len _ _ _ (by rw [List.length_drop, h1]; unfold putD; omega), h1]

end
end Go.Proofs.YtjogaohnphafgaaGreat

namespace Go.Proofs.YtjogaohnphafgaaGreat
section
open Go.RowKit

def wantsV (k s m : Int) (R : Nat) (len n : Int) : Int := if 100000 - len < n then 0 else growV k s m R (len + n)
def wantsE (k s m : Int) (R : Nat) (len n : Int) : Int := if 100000 - len < n then 4 else growE k s m R (len + n)

end
end Go.Proofs.YtjogaohnphafgaaGreat

namespace Go.Proofs.YtjogaohnphafgaaGreat
section
open Go.RowKit
set_option linter.unusedVariables false

/-! What is lost when the memory is made anew. -/
def Lost (F : Nat → Prop) (vm vm2 : Value) : Nat → Prop := fun k => F k ∧ (vm.ownBlock = some k → vm2.ownBlock = some k)
theorem Lost.self {F : Nat → Prop} {vm : Value} {k : Nat} (h : F k) : Lost F vm vm k := ⟨h, fun h => h⟩
theorem Lost.not {F : Nat → Prop} {vm vm2 : Value} {k : Nat} (h : F k) (hn : vm.ownBlock ≠ some k) : Lost F vm vm2 k := ⟨h, fun e => absurd e hn⟩
/-- The memory is what it was, or it is a new one. -/
def MemTo (s n n2 : Nat) (vm vm2 : Value) : Prop := (vm2 = vm ∧ n2 = n) ∨ ((n2 = n → n2 = 0) ∧ ∀ k, vm2.ownBlock = some k → s ≤ k)
theorem MemTo.new {s n n2 : Nat} {vm vm2 : Value} (h : n2 ≠ n) (hk : ∀ k, vm2.ownBlock = some k → s ≤ k) : MemTo s n n2 vm vm2 := Or.inr ⟨fun e => absurd e h, hk⟩
theorem MemTo.self (s n : Nat) (vm : Value) : MemTo s n n vm vm := Or.inl ⟨rfl, rfl⟩
theorem MemTo.mono {s s' n n2 : Nat} {vm vm2 : Value} (h : MemTo s n n2 vm vm2) (hs : s' ≤ s) : MemTo s' n n2 vm vm2 := h.imp id (fun h => ⟨h.1, fun k hk => Nat.le_trans hs (h.2 k hk)⟩)
theorem rowFar {w w' : World} {Z : Nat → Prop} {B n size : Nat} {e : TypeId} {v : Value} {xs : List Value} (hr : w.ownsRow B e size v n xs) (ht : Touch Z w w') (hd : ∀ k, v.ownBlock = some k → ¬ Z k) : w'.ownsRow B e size v n xs := ownsRow_same hr (fun k hk => ht.block k (hr.lt k hk).2 (hd k hk))
theorem rowApart {w : World} {B B' n n' size size' : Nat} {e e' : TypeId} {v v' : Value} {xs xs' : List Value} (h : w.ownsRow B e size v n xs) (h' : w.ownsRow B' e' size' v' n' xs') (hne : e ≠ e') {k : Nat} (hk : v.ownBlock = some k) : v'.ownBlock ≠ some k := fun hk' => by
  obtain ⟨c1, h1⟩ := row_block h hk
  obtain ⟨c2, h2⟩ := row_block h' hk'
  rw [h1] at h2
  simp only [Option.some.injEq, Obj.cells.injEq] at h2
  exact hne h2.2.1
theorem HpMem.apart {w : World} {F : Nat → Prop} {hp bp : Nat} {S : HpSt} {vm vb vh : Value} {vhs : List Value} (m : HpMem w F hp bp S vm vb vh vhs) :
    (∀ k, vb.ownBlock = some k → k ≠ hp) ∧ (∀ k, vh.ownBlock = some k → k ≠ hp) ∧ (∀ (i : Nat) (v : Value), vhs[i]? = some v → ∀ k, v.ownBlock = some k → k ≠ hp) ∧ (∀ k, vm.ownBlock = some k → k ≠ hp) := by
  have key : ∀ {e size n : Nat} {v : Value} {xs : List Value} {k : Nat}, w.ownsRow 0 e size v n xs → v.ownBlock = some k → e ≠ 75 → k ≠ hp := fun h hk he hkh => by
    obtain ⟨cur, hc⟩ := row_block h hk
    rw [hkh, m.self] at hc
    simp at hc
    exact he hc.2.symm
  refine ⟨fun k hk => key m.row.1 hk (by decide), fun k hk => key m.hrow.1 hk (by decide), fun i v hv k hk => ?_, fun k hk => key m.mem.1 hk (by decide)⟩
  have hi : i < S.hist.length := by rw [← m.hs.1]; exact (List.getElem?_eq_some_iff.1 hv).1
  exact key (m.hs.2 i v _ hv (List.getElem?_eq_getElem hi)).1 hk (by decide)

/-- The heap with a memory made anew. -/
def HpSt.mem' (S : HpSt) (z : Nat) : HpSt := { S with mem := reM S.mem z }
theorem HB.renewed {w w1 w' : World} {hp bp : Nat} {S : HpSt} {vm vb vh : Value} {vhs : List Value} {F G G' : Nat → Prop} {M z g : Nat} {b b' : BookSt} (h : HB w hp bp S vm vb vh vhs F G M b) (hw : Below w.heap.size w w1)
    (hb : BkIn w' G' bp M z b') (hg : ∀ k, G' k → G k ∨ w1.heap.size ≤ k) (hgs : w1.heap.size ≤ g) (hgl : g < w'.heap.size) (hgG : ¬ G' g) (hrow : byteRow w' g (reM S.mem z)) (hself : w'.heap[hp]? = some (.cells (hpCells bp S (.slice (some ⟨g, 0, none⟩) z z) vb vh) 75 (0, 0)))
    (ht : Touch (fun k => G k ∨ k = hp) w1 w') (hz : z ≤ 100000) (hin : ∀ x ∈ S.bl, x.at' + x.len ≤ z) (hvb : ∀ k, vb.ownBlock = some k → k ≠ hp) (hvh : ∀ k, vh.ownBlock = some k → k ≠ hp) (hvs : ∀ (i : Nat) (v : Value), vhs[i]? = some v → ∀ k, v.ownBlock = some k → k ≠ hp) :
    HB w' hp bp (S.mem' z) (.slice (some ⟨g, 0, none⟩) z z) vb vh vhs (fun k => (F k ∧ vm.ownBlock ≠ some k) ∨ k = g) G' M b' := by
  have m := h.hm.below hw
  have s1 := hw.size
  have keep : ∀ k, F k → k ≠ hp → w'.heap[k]? = w1.heap[k]? := fun k hk hne => ht.block k (by have := h.fl k hk; omega) (fun e => e.elim (h.dis k hk) hne)
  have hlen := reM_len S.mem z
  refine ⟨⟨hself, Or.inl ⟨m.fh, fun e => m.apart.2.2.2 hp e rfl⟩, ⟨⟨by rw [List.length_map]; simp [HpSt.mem'], Or.inr ⟨g, z, _, by rw [show (S.mem' z).mem.length = z from hlen], Nat.zero_le _, hrow, by rw [show (S.mem' z).mem.length = z from hlen]; exact Nat.le_refl _, by unfold maxLen; omega, by simp [hlen], ?_⟩⟩, fun k hk => ?_⟩, reM_bytes m.mb z, Or.inr ⟨g, by rw [show (S.mem' z).mem.length = z from hlen]⟩, ⟨ownsRow_same m.row.1 (fun k hk => keep k (m.row.2 k hk) (hvb k hk)), fun k hk => Or.inl ⟨m.row.2 k hk, rowApart m.row.1 m.mem.1 (by decide) hk⟩⟩, ⟨ownsRow_same m.hrow.1 (fun k hk => keep k (m.hrow.2 k hk) (hvh k hk)), fun k hk => Or.inl ⟨m.hrow.2 k hk, rowApart m.hrow.1 m.mem.1 (by decide) hk⟩⟩,
    ⟨m.hs.1, fun i v l h1 h2 => ⟨ownsRow_same (m.hs.2 i v l h1 h2).1 (fun k hk => keep k ((m.hs.2 i v l h1 h2).2 k hk).1 (hvs i v h1 k hk)), fun k hk => ⟨Or.inl ⟨((m.hs.2 i v l h1 h2).2 k hk).1, rowApart (m.hs.2 i v l h1 h2).1 m.mem.1 (by decide) hk⟩, ((m.hs.2 i v l h1 h2).2 k hk).2⟩⟩⟩, m.ord, fun x hx => ⟨(m.hb x hx).1, (m.hb x hx).2.1, by rw [show (S.mem' z).mem.length = z from hlen]; exact hin x hx⟩, ⟨by rw [show (S.mem' z).mem.length = z from hlen]; exact hz, m.big.2⟩⟩, by rw [show (S.mem' z).mem.length = z from hlen]; exact hb, ?_, ?_⟩
  · show List.take ((S.mem' z).mem.length * 1) ((reM S.mem z).map (Value.int .u8)).toArray.toList = (reM S.mem z).map (Value.int .u8)
    rw [show (S.mem' z).mem.length = z from hlen, List.toList_toArray, List.take_of_length_le (by rw [List.length_map, hlen]; omega)]
  · simp only [Value.ownBlock, Option.some.injEq] at hk
    exact Or.inr hk.symm
  · intro k hk hgk
    rcases hk with ⟨hk, _⟩ | rfl
    · rcases hg k hgk with e | e
      · exact h.dis k hk e
      · have := h.fl k hk; omega
    · exact hgG hgk
  · intro k hk
    rcases hk with ⟨hk, _⟩ | rfl
    · have := h.fl k hk
      have := ht.size
      omega
    · exact hgl
/-- What place finds. -/
def PlPost (w : World) (hp bp : Nat) (S : HpSt) (vb vh : Value) (F G : Nat → Prop) (M n : Nat) (way : Int) : Ending → World → Prop := fun e w' => ∃ L L', SortedL (lieL S.bl) L ∧ SortedL (lieL S.bl) L' ∧
  ((∃ g, gapSel S.mem.length L n way = some g ∧ e = .returned (.tuple #[.int .i64 (g.at' : Int), .int .i64 0]) ∧ Below w.heap.size w w') ∨
   (gapSel S.mem.length L n way = none ∧ 100000 < endL L' + n ∧ e = .returned (.tuple #[.int .i64 0, .int .i64 4]) ∧ Below w.heap.size w w') ∨
   (gapSel S.mem.length L n way = none ∧ endL L' + n ≤ 100000 ∧ growE S.k S.s S.m S.mem.length (endL L' + n : Nat) ≠ 0 ∧ e = .returned (.tuple #[.int .i64 0, .int .i64 (growE S.k S.s S.m S.mem.length (endL L' + n : Nat))]) ∧ Below w.heap.size w w') ∨
   (gapSel S.mem.length L n way = none ∧ endL L' + n ≤ 100000 ∧ growE S.k S.s S.m S.mem.length (endL L' + n : Nat) = 0 ∧ ∃ (z : Nat) (er : Int) (w1 : World), growV S.k S.s S.m S.mem.length (endL L' + n : Nat) = (z : Int) ∧ endL L' + n ≤ z ∧ S.mem.length ≤ z ∧ z ≤ 100000 ∧ e = .returned (.tuple #[.int .i64 (endL L' : Int), .int .i64 er]) ∧ Below w.heap.size w w1 ∧ RnPost w1 hp bp S vb vh F G M z (.returned (.int .i64 er)) w'))

theorem endL_le {l L : List Blk} {N : Nat} (h : SortedL (lieL l) L) (hin : ∀ x ∈ l, x.at' + x.len ≤ N) : endL L ≤ N := by
  unfold endL
  cases hg : L.getLast? with
  | none => exact Nat.zero_le _
  | some x => exact hin x (h.mem (List.mem_of_getLast? hg)).1

set_option maxHeartbeats 4000000 in
set_option maxRecDepth 100000 in
theorem placeM_any {w : World} {hp bp : Nat} {S : HpSt} {vm vb vh : Value} {vhs : List Value} {F G : Nat → Prop} {M : Nat} {b : BookSt} (h : HB w hp bp S vm vb vh vhs F G M b) (hpol : polErr S.k S.s S.m = 0) (n : Nat) (hn : n ≤ 100000) (way : Int) :
    Calls Tryz.prog 36 #[.pointer (some ⟨hp, 0, none⟩), .int .i64 (n : Int), .int .i64 way] w (PlPost w hp bp S vb vh F G M n way) := by
  have GA := Lib.hid (gapM_any h.hm n way)
  have H := Lib.hid h
  have HPO := Lib.hid hpol
  clear h hpol
  go_enter Tryz.func36, Tryz.ntmps36
  go_wp2_with fail
  refine GA.out.mono ?_
  rintro e w1 ⟨hb1, L, hs, hsel⟩
  have HB1 := Lib.hid hb1
  have HS := Lib.hid hs
  clear GA hs
  cases hg : gapSel S.mem.length L n way with
  | some g =>
    rw [hg] at hsel
    subst hsel
    have FIN : Hid (∀ w', Below w.heap.size w w' → PlPost w hp bp S vb vh F G M n way (.returned (.tuple #[.int .i64 (g.at' : Int), .int .i64 0])) w') := Lib.hid (fun w' hb => ⟨L, L, HS.out, HS.out, Or.inl ⟨g, hg, rfl, hb⟩⟩)
    have B2 := Lib.hid (HB1.out.trans (((Below.refl _ w1).alloc (Nat.le_refl _) (.cells #[.int .i64 (g.at' : Int), .int .i64 (g.len : Int)] 92)).mono HB1.out.size))
    clear hg hb1
    go_wp2_with fail
    go_ret2
    exact FIN.out _ B2.out
  | none =>
    rw [hg] at hsel
    subst hsel
    have B2 : Below w.heap.size w (w1.alloc (.cells #[.int .i64 0, .int .i64 0] 92)) := HB1.out.trans (((Below.refl _ w1).alloc (Nat.le_refl _) _).mono HB1.out.size)
    have HB2 := Lib.hid B2
    have EN := Lib.hid (endM_any (H.out.hm.below B2))
    have HG := Lib.hid hg
    clear hg hb1 B2
    go_wp2_with fail
    generalize w1.alloc (.cells #[.int .i64 0, .int .i64 0] 92) = w2 at *
    refine EN.out.mono ?_
    rintro e w3 ⟨L', hs', rfl, hb3⟩
    have HS' := Lib.hid hs'
    have B3 : Below w.heap.size w w3 := HB2.out.trans (hb3.mono HB2.out.size)
    have HB3 := Lib.hid B3
    have hel : endL L' ≤ S.mem.length := endL_le hs' (fun x hx => (H.out.hm.hb x hx).2.2)
    have hbig := H.out.hm.big.1
    obtain ⟨E, hE⟩ : ∃ E, endL L' = E := ⟨_, rfl⟩
    have HE := Lib.hid hE
    rw [hE] at hel ⊢
    have hE1 : E ≤ 100000 := by omega
    obtain ⟨N, hN⟩ : ∃ N, S.mem.length = N := ⟨_, rfl⟩
    have HN := Lib.hid hN
    rw [hN] at hbig hel
    clear hb3 EN hs' hE
    by_cases hlg : 100000 < E + n
    · have hlg' : (100000 : Int) - (E : Int) < (n : Int) := by omega
      have FIN : Hid (PlPost w hp bp S vb vh F G M n way (.returned (.tuple #[.int .i64 0, .int .i64 4])) w3) := Lib.hid ⟨L, L', HS.out, HS'.out, Or.inr (Or.inl ⟨HG.out, by rw [HE.out]; exact hlg, rfl, HB3.out⟩)⟩
      clear hN B3
      go_wp2_with fail
      go_ret2
      exact FIN.out
    · have hlg' : ¬ ((100000 : Int) - (E : Int) < (n : Int)) := by omega
      obtain ⟨ma, mc, hvm, _⟩ := H.out.hm.memory
      have m3 := H.out.hm.below B3
      obtain ⟨c0, c1, c2, c3, c4, c5, c6, _⟩ := m3.cells
      rw [hvm, hN] at c6
      have S0 : BelM w3 w3.drew := (Below.refl _ w3).drew
      have g2 : ∀ y : WIn (BelM w3), y.w.cell? ⟨hp, 2, none⟩ = some (.int .i64 S.k) := fun y => old_cell y.h c2
      have g3 : ∀ y : WIn (BelM w3), y.w.cell? ⟨hp, 3, none⟩ = some (.int .i64 S.s) := fun y => old_cell y.h c3
      have g4 : ∀ y : WIn (BelM w3), y.w.cell? ⟨hp, 4, none⟩ = some (.int .i64 S.m) := fun y => old_cell y.h c4
      have g6 : ∀ y : WIn (BelM w3), y.w.cell? ⟨hp, 6, none⟩ = some (.slice ma N mc) := fun y => old_cell y.h c6
      haveI ne : Nonempty (WIn (BelM w3)) := ⟨⟨w3.drew, S0⟩⟩
      have GR := Lib.hid (grow_any S.k S.s S.m (N : Int) ((E + n : Nat) : Int) w3.drew)
      have eEn : ((E + n : Nat) : Int) = (E : Int) + (n : Int) := by omega
      have HEN := Lib.hid eEn
      rw [eEn] at GR
      have GV := Lib.hid (fun h0 => growV_new S.k S.s S.m N (E + n) HPO.out hbig (by omega) h0)
      have PL : Hid (∀ e w', ((growE S.k S.s S.m N (E + n : Nat) ≠ 0 ∧ e = .returned (.tuple #[.int .i64 0, .int .i64 (growE S.k S.s S.m N (E + n : Nat))]) ∧ Below w.heap.size w w') ∨
          (growE S.k S.s S.m N (E + n : Nat) = 0 ∧ ∃ (z : Nat) (er : Int) (w1 : World), growV S.k S.s S.m N (E + n : Nat) = (z : Int) ∧ E + n ≤ z ∧ N ≤ z ∧ z ≤ 100000 ∧ e = .returned (.tuple #[.int .i64 (E : Int), .int .i64 er]) ∧ Below w.heap.size w w1 ∧ RnPost w1 hp bp S vb vh F G M z (.returned (.int .i64 er)) w')) → PlPost w hp bp S vb vh F G M n way e w') := Lib.hid (fun e w' hx => by
        refine ⟨L, L', HS.out, HS'.out, Or.inr (Or.inr ?_)⟩
        rw [HE.out, HN.out]
        rcases hx with ⟨h1, h2⟩ | ⟨h1, h2⟩
        · exact Or.inl ⟨by rw [← HN.out]; exact HG.out, by omega, h1, h2⟩
        · exact Or.inr ⟨by rw [← HN.out]; exact HG.out, by omega, h1, h2⟩)
      rw [eEn] at GV PL
      clear hN B3 eEn c0 c1 c2 c3 c4 c5 c6 hvm m3
      go_upto_region 7 with fail
      generalize growV S.k S.s S.m (N : Int) ((E : Int) + (n : Int)) = V at *
      generalize growE S.k S.s S.m (N : Int) ((E : Int) + (n : Int)) = er0 at *
      refine wp_normal ?_
      refine wp_region_plan 12 (BelM w3) rfl ?_
      refine wpN_seg [0, 1, 2, 3, 4, 5, 6, 7, 8, 9, 10, 11] (by kernel_rfl) (by kernel_rfl) (by kernel_rfl) (by kernel_rfl) (by decide) (fun _ _ _ _ _ h => h) S0 ?_
      simp only [pick, List.map_cons, List.map_nil, List.getElem?_cons_succ, List.getElem?_cons_zero, Option.getD_some]
      repeat (go_big_quiet_step (fail))
      refine wpQuiet_nil ?_
      clear g2 g3 g4 g6 ne
      refine wpN_one 12 _ (by kernel_rfl) rfl ?_
      refine NextAt.free (by kernel_rfl) ?_
      intro K hK
      go_simp
      refine GR.out.mono ?_
      rintro e w4 ⟨rfl, hb4⟩
      have B4 : Below w.heap.size w w4 := HB3.out.trans (Below.trans (a := w3) S0 hb4 |>.mono HB3.out.size)
      have HB4 := Lib.hid B4
      go_simp
      refine hK _ _ ?_
      clear hK K hb4 B4
      refine wpN_pure [13, 14, 15, 16, 17] (by kernel_rfl) (by kernel_rfl) (by kernel_rfl) (fun _ _ _ _ _ h => h) (fun h => by cases h) ?_
      simp only [pick, List.map_cons, List.map_nil, List.getElem?_cons_succ, List.getElem?_cons_zero, Option.getD_some]
      repeat (go_big_quiet_step (fail))
      refine wpQuiet_nil ?_
      refine wpN_done (by kernel_rfl) ?_
      by_cases h0 : er0 = 0
      · have h0' : (er0 != 0) = false := by simp [h0]
        obtain ⟨v1, v2, v3⟩ := GV.out h0
        obtain ⟨z, rfl⟩ : ∃ z : Nat, V = (z : Int) := ⟨V.toNat, by omega⟩
        have RN := Lib.hid (renew_any (H.out.below HB4.out) z (by omega))
        subst h0
        go_wp2_with fail
        refine RN.out.mono ?_
        intro e w5 hr
        obtain ⟨er, rfl⟩ : ∃ er, e = .returned (.int .i64 er) := by
          rcases hr with ⟨_, h, _⟩ | ⟨_, _, h, _⟩ | ⟨_, _, h, _⟩ <;> exact ⟨_, h⟩
        have FIN := Lib.hid (PL.out (.returned (.tuple #[.int .i64 (E : Int), .int .i64 er])) w5 (Or.inr ⟨by trivial, z, er, w4, by first | rfl | trivial, by omega, by omega, by omega, rfl, HB4.out, hr⟩))
        clear hr PL RN GV
        go_wp2_with fail
        go_ret2
        exact FIN.out
      · have h0' : (er0 != 0) = true := by simpa using h0
        have FIN := Lib.hid (PL.out (.returned (.tuple #[.int .i64 0, .int .i64 er0])) w4 (Or.inl ⟨h0, rfl, HB4.out⟩))
        clear PL GV
        go_wp2_with fail
        go_ret2
        exact FIN.out

end
end Go.Proofs.YtjogaohnphafgaaGreat

namespace Go.Proofs.YtjogaohnphafgaaGreat
section
open Go.RowKit
set_option linter.unusedVariables false

/-- n octets z from o on. -/
def fill (z : Int) : List Int → Nat → Nat → List Int
  | cs, _, 0 => cs
  | cs, o, n + 1 => fill z (cs.set o z) (o + 1) n
theorem fill_len (z : Int) : ∀ (n : Nat) (cs : List Int) (o : Nat), (fill z cs o n).length = cs.length
  | 0, _, _ => rfl
  | n + 1, cs, o => by rw [fill, fill_len z n]; simp
theorem fill_at (z : Int) : ∀ (n : Nat) (cs : List Int) (o j : Nat), o + n ≤ cs.length → (fill z cs o n)[j]? = if o ≤ j ∧ j < o + n then some z else cs[j]?
  | 0, cs, o, j, _ => by rw [fill, if_neg (by omega)]
  | n + 1, cs, o, j, h => by
    rw [fill, fill_at z n (cs.set o z) (o + 1) j (by simp; omega), List.getElem?_set]
    by_cases h1 : o = j
    · subst h1
      rw [if_neg (by omega), if_pos rfl, if_pos (by omega), if_pos (by omega)]
    · rw [if_neg h1]
      by_cases h2 : o + 1 ≤ j ∧ j < o + 1 + n
      · rw [if_pos h2, if_pos (by omega)]
      · rw [if_neg h2, if_neg (by omega)]

theorem setCells_row (z : Int) (b : Nat) : ∀ (n : Nat) (w : World) (cs : List Int) (o : Nat), byteRow w b cs → byteRow (w.setCells b o (List.replicate n (.int .u8 z))) b (fill z cs o n)
  | 0, w, cs, o, h => h
  | n + 1, w, cs, o, h => by
    rw [List.replicate_succ, World.setCells, fill]
    refine setCells_row z b n _ _ _ ?_
    unfold byteRow at h ⊢
    rw [block_setCell h]
    simp [List.map_set]
theorem setCells_touch (b : Nat) : ∀ (vs : List Value) (w : World) (o : Nat), Touch (fun k => k = b) w (w.setCells b o vs)
  | [], w, o => Touch.refl _ _
  | v :: vs, w, o => ((Touch.refl (fun k => k = b) w).setCell (p := ⟨b, o, none⟩) (Or.inl rfl) v).then (setCells_touch b vs _ _)

theorem zero_byte (w : World) : (zeroValue 5).run Tryz.prog w = .ok (.int .u8 0) w := by kernel_rfl

theorem clear_fact (w : World) (b fr n c : Nat) (f : Option Addr) (cs : List Int) (h : byteRow w b cs) (hle : fr + n ≤ cs.length) (hf : 0 < n → f = some ⟨b, fr, none⟩) :
    ∃ w', (∀ ty, (Builtin.clear_ #[38] ty #[.slice f n c]).run Tryz.prog w = .ok (.tuple #[]) w') ∧ byteRow w' b (fill 0 cs fr n) ∧ Touch (fun k => k = b) w w' := by
  by_cases h0 : n = 0
  · subst h0
    refine ⟨w, fun ty => ?_, h, Touch.refl _ _⟩
    cases f with
    | none => simp [Builtin.clear_, run_underlying Tryz.underlying38]
    | some a => simp [Builtin.clear_, run_underlying Tryz.underlying38]
  · obtain rfl := hf (by omega)
    refine ⟨_, fun ty => Lib.run_clear_slice w 38 5 ty (.int .u8 0) Tryz.underlying38 zero_byte rfl rfl b fr n c (by omega) (fun j hj => ?_) (fun j hj => free_of h _), setCells_row 0 b n w cs fr h, setCells_touch b _ _ _⟩
    rw [cell_of h]
    simp; omega

theorem fill_part (z : Int) (os : List Int) (o n a b : Nat) (h : o + n ≤ os.length) (hab : a + b ≤ o) : ((fill z os o n).drop a).take b = (os.drop a).take b := by
  apply List.ext_getElem?
  intro i
  rw [List.getElem?_take, List.getElem?_take]
  by_cases hi : i < b
  · rw [if_pos hi, if_pos hi, List.getElem?_drop, List.getElem?_drop, fill_at z n os o (a + i) h, if_neg (by omega)]
  · rw [if_neg hi, if_neg hi]
theorem fill_self (z : Int) (os : List Int) (o n : Nat) (h : o + n ≤ os.length) : ((fill z os o n).drop o).take n = List.replicate n z := by
  apply List.ext_getElem?
  intro i
  rw [List.getElem?_take, List.getElem?_replicate]
  by_cases hi : i < n
  · rw [if_pos hi, if_pos hi, List.getElem?_drop, fill_at z n os o (o + i) h, if_pos (by omega)]
  · rw [if_neg hi, if_neg hi]


end
end Go.Proofs.YtjogaohnphafgaaGreat
