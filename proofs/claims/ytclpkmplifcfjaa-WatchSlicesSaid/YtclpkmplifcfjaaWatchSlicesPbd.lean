/-
  tried: slices are cleared, something is done, what was there is put back. Conditions: what is done writes to their rows alone, and to boxes of its own.
-/
import Derived.Laws.IdiomCopy
import Derived.Lib.SliceRun
import Derived.Test.YtclpkmplifcfjaaWatchSlicesPau
import Derived.Test.YtclpkmplifcfjaaWatchSlicesPbc
namespace Go.Proofs.Ytclpkmplifcfjaa
open Go.RowKit
set_option linter.unusedVariables false

def W0 : Wn × Option Addr := (⟨0, 0, 0, 0⟩, none)
/-- A list of windows in memory. -/
def LsIn (w : World) (v : Value) (xs : List (Wn × Option Addr)) : Prop :=
  ∃ a c, v = .slice a xs.length c ∧ xs.length ≤ 1000 ∧ xs.length ≤ c ∧ c ≤ maxLen ∧ ∀ k, k < xs.length → ∃ b o, a = some ⟨b, o, none⟩ ∧ w.cell? ⟨b, o + k, none⟩ = some ((xs.getD k W0).1.val (xs.getD k W0).2)
def anyHas (xs : List (Wn × Option Addr)) (g i : Nat) : Bool := xs.any fun x => decide (x.1.has g i)
/-- The windows hold zeros, all else what it held. -/
def zeroed (xs : List (Wn × Option Addr)) (M : Nat → Nat → Int) (g i : Nat) : Int := if anyHas xs g i then 0 else M g i
/-- The windows hold what they held. -/
def putBack (xs : List (Wn × Option Addr)) (M M1 : Nat → Nat → Int) (g i : Nat) : Int := if anyHas xs g i then M g i else M1 g i

theorem anyHas_snoc (xs : List (Wn × Option Addr)) (x : Wn × Option Addr) (g i : Nat) : anyHas (xs ++ [x]) g i = (anyHas xs g i || decide (x.1.has g i)) := by simp [anyHas]
theorem anyHas_take {xs : List (Wn × Option Addr)} {k : Nat} (hk : k < xs.length) (g i : Nat) : anyHas (xs.take (k + 1)) g i = (anyHas (xs.take k) g i || decide ((xs.getD k W0).1.has g i)) := by
  rw [List.take_succ_eq_append_getElem hk, anyHas_snoc, List.getD_eq_getElem?_getD, List.getElem?_eq_getElem hk]
  rfl
theorem w0_in {xs : List (Wn × Option Addr)} {k : Nat} (hk : k < xs.length) : xs.getD k W0 ∈ xs := by
  rw [List.getD_eq_getElem?_getD, List.getElem?_eq_getElem hk]
  exact List.getElem_mem hk
theorem winrow_ne {w : World} {B B' n m : Nat} {v v' : Value} {ys zs : List Value} (h : w.ownsRow B 22 1 v n ys) (h' : w.ownsRow B' 5 1 v' m zs) {k : Nat} (hk : v'.ownBlock = some k) : v.ownBlock ≠ some k := fun he => by
  obtain ⟨c1, e1⟩ := row_block h he
  obtain ⟨c2, e2⟩ := row_block h' hk
  rw [e1] at e2
  simp only [Option.some.injEq, Obj.cells.injEq] at e2
  exact absurd e2.2.1 (by decide)

theorem wcells_touch (b : Nat) : ∀ (vs : List Value) (w : World) (o : Nat), Touch (fun k => k = b) w (w.setCells b o vs)
  | [], w, o => Touch.refl _ _
  | v :: vs, w, o => ((Touch.refl (fun k => k = b) w).setCell (p := ⟨b, o, none⟩) (Or.inl rfl) v).then (wcells_touch b vs _ _)
theorem MemF.zeros {M : Nat → Nat → Int} {len : Nat → Nat} {D : Nat → Prop} (g0 : Nat) : ∀ (n : Nat) (w : World) (M : Nat → Nat → Int) (o : Nat), MemF w M len D → MemF (w.setCells g0 o (List.replicate n (.int .u8 0))) (fun g i => if g = g0 ∧ o ≤ i ∧ i < o + n then 0 else M g i) len D
  | 0, w, M, o, h => by
    refine MemF.congr (M := M) h (fun g hg i hi => ?_)
    rw [if_neg (by omega)]
  | n + 1, w, M, o, h => by
    rw [List.replicate_succ, World.setCells]
    have h1 := MemF.zeros (M := M) g0 n _ _ (o + 1) (h.set g0 o 0)
    refine h1.congr (fun g hg i hi => ?_)
    by_cases e : g = g0
    · subst e
      by_cases e2 : i = o
      · subst e2; simp
      · by_cases e3 : o ≤ i ∧ i < o + (n + 1)
        · rw [if_pos ⟨rfl, by omega, by omega⟩, if_pos ⟨rfl, e3.1, e3.2⟩]
        · rw [if_neg (by omega), if_neg (by omega), if_neg (by omega)]
    · simp [e]

theorem zero_byteW (w : World) : (zeroValue 5).run Try.prog w = .ok (.int .u8 0) w := by kernel_rfl
/-- clear(b) -/
theorem clear_win (w : World) (M : Nat → Nat → Int) (len : Nat → Nat) (D : Nat → Prop) (x : Wn) (a : Option Addr) (h : MemF w M len D) (hx : WnOk len D x a) :
    ∃ w', (∀ ty, (Builtin.clear_ #[22] ty #[x.val a]).run Try.prog w = .ok (.tuple #[]) w') ∧ MemF w' (fun g i => if x.has g i then 0 else M g i) len D ∧ Touch D w w' := by
  obtain ⟨h1, h2, h3⟩ := hx
  unfold Wn.val
  by_cases h0 : x.n = 0
  · refine ⟨w, fun ty => ?_, h.congr (fun g hg i hi => ?_), Touch.refl _ _⟩
    · rw [h0]
      cases a with
      | none => simp [Builtin.clear_, run_underlying Try.underlying22]
      | some a => simp [Builtin.clear_, run_underlying Try.underlying22]
    · rw [if_neg (by unfold Wn.has; omega)]
  · obtain ⟨rfl, hD, hle⟩ := h3 (by omega)
    have hrow := h x.g hD
    refine ⟨_, fun ty => Lib.run_clear_slice w 22 5 ty (.int .u8 0) Try.underlying22 zero_byteW rfl rfl x.g x.o x.n x.c (by omega) (fun j hj => ?_) (fun j hj => free_of hrow _), ?_, (wcells_touch x.g _ _ _).mono (fun k e => e ▸ hD)⟩
    · rw [hrow.cell _ (by omega)]; rfl
    · refine (MemF.zeros (M := M) x.g x.n w M x.o h).congr (fun g hg i hi => ?_)
      by_cases e : g = x.g ∧ x.o ≤ i ∧ i < x.o + x.n
      · rw [if_pos e, if_pos (show x.has g i from e)]
      · rw [if_neg e, if_neg (show ¬ x.has g i from e)]

/-- copy(b, what was kept) -/
theorem copy_win (w : World) (M : Nat → Nat → Int) (len : Nat → Nat) (D : Nat → Prop) (x : Wn) (a : Option Addr) (v : Value) (zs : List Int) (h : MemF w M len D) (hx : WnOk len D x a) (hv : Reads w .u8 v zs) (hl : zs.length = x.n) :
    ∃ w', (Builtin.copy_ #[22, 22] 3 #[x.val a, v]).run Try.prog w = .ok (.int .i64 x.n) w' ∧ MemF w' (fun g i => if x.has g i then zs.getD (i - x.o) 0 else M g i) len D ∧ Touch D w w' := by
  obtain ⟨h1, h2, h3⟩ := hx
  obtain ⟨p, c, rfl, hl2, hc⟩ := hv
  unfold Wn.val
  by_cases h0 : x.n = 0
  · have hz : zs = [] := List.eq_nil_of_length_eq_zero (by omega)
    subst hz
    refine ⟨w, ?_, h.congr (fun g hg i hi => by rw [if_neg (by unfold Wn.has; omega)]), Touch.refl _ _⟩
    have := run_copy_none (P := Try.prog) w 22 22 3 5 a p x.n x.c 0 c Try.underlying22 (by kernel_rfl) (by rw [h0]; rfl)
    rw [h0] at this ⊢
    exact this
  · obtain ⟨rfl, hD, hle⟩ := h3 (by omega)
    obtain ⟨b, o, rfl, hh⟩ := hc (by intro e; subst e; simp at hl; omega)
    have hrow := h x.g hD
    have hg : w.heap[x.g]? = some (.cells (((List.range (len x.g)).map (M x.g)).map (Value.int .u8)).toArray 5 (0, 0)) := hrow
    have hrun := run_copy_row (P := Try.prog) w 22 22 3 5 x.g x.o x.n x.c ⟨b, o, none⟩ zs.length c _ 5 (zs.map (Value.int .u8)) Try.underlying22 (by kernel_rfl) hg (by rw [List.length_map, hl]; show x.n = min x.n x.n; omega)
      (fun j u hj => by
        have hjm : j < zs.length := by
          rcases Nat.lt_or_ge j zs.length with h | h
          · exact h
          · rw [List.getElem?_eq_none (by simpa using h)] at hj; cases hj
        have e1 : (⟨b, o, none⟩ : Addr).add j = ⟨b, o + j, none⟩ := by unfold Addr.add; split <;> simp_all
        rw [e1, hh j hjm, ← hj]
        simp [List.getD_eq_getElem?_getD, List.getElem?_eq_getElem hjm]) (by simp [hl]; omega) (by intro u hu; obtain ⟨z, _, rfl⟩ := List.mem_map.1 hu; rfl)
    have hTT := fun (vs : Array Value) => (⟨rfl, rfl, rfl, by simp [World.setRow], fun k _ hk => setRow_other w x.g k _ hk⟩ : Touch (fun k => k = x.g) w (w.setRow x.g vs))
    have hrow' : byteRow (w.setRow x.g ((((List.range (len x.g)).map (M x.g)).map (Value.int .u8)).toArray.toList.take x.o ++ zs.map (Value.int .u8) ++ (((List.range (len x.g)).map (M x.g)).map (Value.int .u8)).toArray.toList.drop (x.o + (zs.map (Value.int .u8)).length)).toArray) x.g (splice ((List.range (len x.g)).map (M x.g)) x.o zs) := by
      have h1 := setRow_heap w x.g _ ((((List.range (len x.g)).map (M x.g)).map (Value.int .u8)).toArray.toList.take x.o ++ zs.map (Value.int .u8) ++ (((List.range (len x.g)).map (M x.g)).map (Value.int .u8)).toArray.toList.drop (x.o + (zs.map (Value.int .u8)).length)).toArray 5 _ hg
      unfold byteRow
      rw [h1]
      simp [splice]
    refine ⟨_, ?_, MemF.splice h hl (fun _ => hle) (fun _ => hrow') (hTT _), (hTT _).mono (fun k e => e ▸ hD)⟩
    rw [hrun, List.length_map, hl]
    rfl

theorem infoSlB : (Try.prog.info? 22).map (fun i => (i.zero, i.size, i.bytes)) = some (some (.slice none 0 0), 1, 24) := by kernel_rfl
theorem own1_cell {w : World} {B e n c : Nat} {a : Option Addr} {ks : List Value} (h : w.ownsRow B e 1 (.slice a n c) n ks) {j : Nat} (hj : j < n) : ∃ g, a = some ⟨g, 0, none⟩ ∧ w.cell? ⟨g, j, none⟩ = some (ks.getD j undef) := by
  have hl := h.1
  rcases h.2 with ⟨_, h0⟩ | ⟨g, cap, cur, hv, _⟩
  · omega
  · simp only [Value.slice.injEq] at hv
    obtain ⟨rfl, _, _⟩ := hv
    have hu : ks[j]? = some (ks.getD j undef) := by
      have hjl : j < ks.length := by omega
      simp [List.getD_eq_getElem?_getD, List.getElem?_eq_getElem hjl]
    have := h.cells (g := g) rfl j _ hu
    have e1 : (⟨g, 0, none⟩ : Addr).add j = ⟨g, j, none⟩ := by unfold Addr.add; split <;> simp_all
    rw [e1] at this
    exact ⟨g, rfl, this⟩
def TriedPost (w : World) (M : Nat → Nat → Int) (len : Nat → Nat) (D X : Nat → Prop) (Q : World → Prop) : Ending → World → Prop := fun e w' =>
  e = .returned (.tuple #[]) ∧ MemF w' M len D ∧ Touch (fun k => D k ∨ X k) w w' ∧ Q w'

set_option maxHeartbeats 2000000 in
set_option maxRecDepth 100000 in
theorem tried_any (v : Value) (xs : List (Wn × Option Addr)) (fd : Nat) (caps : Array Value) (M : Nat → Nat → Int) (len : Nat → Nat) (D X : Nat → Prop) (Q : World → Prop) (w : World) (hl : LsIn w v xs) (hM : MemF w M len D) (hx : ∀ x ∈ xs, WnOk len D x.1 x.2)
    (hap : ∀ a n c, v = .slice (some a) n c → 0 < xs.length → a.block < w.heap.size ∧ ¬ D a.block ∧ ¬ X a.block) (hX : ∀ k, X k → k < w.heap.size ∧ ¬ D k) (hn : ∀ x ∈ xs, x.1.n ≤ 100000)
    (eg : ∀ args W, (callFunc fd args).run Try.prog W = .ok (.enter fd args) W)
    (hdo : ∀ W, MemF W (zeroed xs M) len D → Touch D w W → Calls Try.prog fd caps W (fun e W' => e = .returned (.tuple #[]) ∧ ∃ M1, MemF W' M1 len D ∧ (∀ g i, anyHas xs g i = false → M1 g i = M g i) ∧ Touch (fun k => D k ∨ X k) W W' ∧ Q W'))
    (hQ : ∀ W W', Q W → Touch D W W' → Q W') :
    Calls Try.prog 27 #[v, .func (.func fd) #[] caps] w (TriedPost w M len D X Q) := by
  obtain ⟨i0, hi0, hz0, hz1, hz2⟩ := info_parts infoSlB
  obtain ⟨la, lc, rfl, hlen, hlc, hlm, hcell⟩ := hl
  have HC := Lib.hid hcell
  have HM := Lib.hid hM
  have HX := Lib.hid hx
  have HDO := Lib.hid hdo
  have HN := Lib.hid hn
  have HAP := Lib.hid hap
  have HXX := Lib.hid hX
  have HQ := Lib.hid hQ
  clear hcell hM hx hdo hn hap hX hQ
  go_enter Try.func27, Try.ntmps27
  go_wp2_with fail
  go_loopw [4, 13] (fun kv i wr => ∃ (k : Nat) (ks : List Value), k ≤ xs.length ∧ i = .int .i64 k ∧ wr.ownsRow w.heap.size 22 1 kv k ks ∧ Hid (∀ j, j < k → wr.ownsRow w.heap.size 5 1 (ks.getD j undef) (xs.getD j W0).1.n (((xs.getD j W0).1.row M).map (Value.int .u8))) ∧ Below w.heap.size w wr) (fun _ i _ => xs.length - (intOf i).toNat)
  case atStart => exact ⟨0, [], Nat.zero_le _, rfl, World.ownsRow_nil _ _ _ _, Lib.hid (fun j hj => by omega), Below.refl _ _⟩
  case round =>
    obtain ⟨k, ks, hk, rfl, hrow, hks, hb⟩ := hrel
    have HROW := Lib.hid hrow
    have BL := Lib.hid hb
    have hsz := hb.size
    by_cases hlt : k < xs.length
    · obtain ⟨b, o, rfl, d⟩ := HC.out k hlt
      have hwx := HX.out _ (w0_in hlt)
      have hnx := HN.out _ (w0_in hlt)
      obtain ⟨⟨xg, xo, xn, xc⟩, xa, hxk⟩ : ∃ (x : Wn) (a : Option Addr), xs.getD k W0 = (x, a) := ⟨_, _, rfl⟩
      rw [hxk] at d hwx hnx
      have HXK := Lib.hid hxk
      dsimp only at hnx
      have d' := old_cell hb d
      have hrd := (HM.out.below hb).reads hwx
      have hrl : ((⟨xg, xo, xn, xc⟩ : Wn).row M).length = xn := by simp [Wn.row]
      have CL := Lib.hid (clone_byte _ _ wr hrd (by rw [hrl]; omega))
      have HRL := Lib.hid hrl
      unfold Wn.val at d' CL
      dsimp only at d' CL
      generalize hrw : (⟨xg, xo, xn, xc⟩ : Wn).row M = zs at *
      have HRW := Lib.hid hrw
      clear d hrow hb hwx hrd hrl hxk hrw
      go_wp2_with fail
      refine CL.out.mono ?_
      rintro e w2 ⟨cv, rfl, hcv, hb2⟩
      have B2 := Lib.hid (BL.out.trans (hb2.mono hsz))
      have OW2 := Lib.hid (ownsRow_same HROW.out (fun j hj => hb2.block j (HROW.out.lt j hj).2))
      have hs2 := hb2.size
      rw [HRL.out] at hcv
      have hcv2 := (show w2.ownsRow w.heap.size 5 1 cv xn (zs.map (Value.int .u8)) from ⟨hcv.1, hcv.2.imp id (fun ⟨g, cap, cur, h1, h2, h3⟩ => ⟨g, cap, cur, h1, Nat.le_trans hsz h2, h3⟩)⟩)
      have CV := Lib.hid hcv2
      have KS2 := Lib.hid (fun j hj => ownsRow_same (hks.out j hj) (fun i hi => hb2.block i ((hks.out j hj).lt i hi).2))
      obtain ⟨ca, cc, rfl⟩ : ∃ ca cc, cv = .slice ca xn cc := by
        rcases hcv.2 with ⟨rfl, h0⟩ | ⟨g, cap, cur, rfl, _⟩
        · exact ⟨none, 0, by rw [h0]⟩
        · exact ⟨_, _, rfl⟩
      have hsz2 : w.heap.size ≤ w2.heap.size := by omega
      have hkl : ks.length = k := by have := HROW.out.1; omega
      have HKL := Lib.hid hkl
      clear hcv hcv2 hb2 CL hkl
      go_wp2_with (at_builtin; go_must (refine wpList_append_new rfl (.tmp 17) (.tmp 20) 31 rfl w.heap.size 22 i0 (.slice none 0 0) 24 Try.underlying31 hi0 hz0 hz1 hz2 rfl _ _ _ w2 _ (.slice ca xn cc) rfl (by exact OW2.out) rfl rfl (by unfold maxLen; omega) (by omega) hsz2 ?_))
      intro kv2 w3 hown hgr hb3
      have FIN : Hid (w3.ownsRow w.heap.size 22 1 kv2 (k + 1) (ks ++ [Value.slice ca xn cc]) ∧ Hid (∀ j, j < k + 1 → w3.ownsRow w.heap.size 5 1 ((ks ++ [Value.slice ca xn cc]).getD j undef) (xs.getD j W0).1.n (((xs.getD j W0).1.row M).map (Value.int .u8))) ∧ Below w.heap.size w w3) := Lib.hid (by
        have keep : ∀ (v : Value) (n : Nat) (zs : List Value), w2.ownsRow w.heap.size 5 1 v n zs → w3.ownsRow w.heap.size 5 1 v n zs := fun v n zs h => ownsRow_same h (fun i hi => hgr.block i (h.lt i hi).2 (fun e => winrow_ne OW2.out h hi e.symm))
        refine ⟨hown, Lib.hid (fun j hj => ?_), B2.out.trans hb3⟩
        by_cases e : j = k
        · subst e
          rw [HXK.out]
          rw [List.getD_eq_getElem?_getD, List.getElem?_append_right (show ks.length ≤ j by rw [HKL.out]; omega), HKL.out, Nat.sub_self]
          show w3.ownsRow _ _ _ _ _ (((⟨xg, xo, xn, xc⟩ : Wn).row M).map _)
          rw [HRW.out]
          exact keep _ _ _ CV.out
        · have h1 := keep _ _ _ (KS2.out j (by omega))
          rw [List.getD_eq_getElem?_getD, List.getElem?_append_left (show j < ks.length by rw [HKL.out]; omega), ← List.getD_eq_getElem?_getD]
          exact h1)
      clear hown hgr hb3
      go_wp2_with fail
      go_round
      case rel => exact ⟨k + 1, _, by omega, by go_num, FIN.out⟩
      case measure => simp [intOf]; omega
    · obtain rfl : k = xs.length := by omega
      clear hlt hk hb hrow
      obtain ⟨w1, hw1⟩ : ∃ w1, w1 = wr := ⟨_, rfl⟩
      subst hw1
      have MW1 := Lib.hid (HM.out.below BL.out)
      go_wp2_with fail
      go_loopw [25] (fun i wr => ∃ k : Nat, k ≤ xs.length ∧ i = .int .i64 k ∧ MemF wr (zeroed (xs.take k) M) len D ∧ Touch D w1 wr) (fun i _ => xs.length - (intOf i).toNat)
      case atStart => exact ⟨0, Nat.zero_le _, rfl, MW1.out.congr (fun g hg i hi => by simp [zeroed, anyHas]), Touch.refl _ _⟩
      case round =>
        obtain ⟨k, hk, rfl, hmz, htz⟩ := hrel
        have HMZ := Lib.hid hmz
        have HTZ := Lib.hid htz
        by_cases hlt : k < xs.length
        · obtain ⟨b, o, rfl, d⟩ := HC.out k hlt
          have hwx := HX.out _ (w0_in hlt)
          have hsp := HAP.out _ _ _ rfl (by omega)
          dsimp only at hsp
          have d1 := old_cell BL.out d
          have d2 : wr.cell? ⟨b, o + k, none⟩ = some _ := (by
            have : wr.heap[b]? = w1.heap[b]? := htz.block b (Nat.lt_of_lt_of_le hsp.1 BL.out.size) hsp.2.1
            rw [← d1]; simp only [World.cell?, this])
          obtain ⟨⟨xg, xo, xn, xc⟩, xa, hxk⟩ : ∃ (x : Wn) (a : Option Addr), xs.getD k W0 = (x, a) := ⟨_, _, rfl⟩
          have HT := Lib.hid (anyHas_take hlt)
          rw [hxk] at d d2 hwx HT
          dsimp only at HT
          obtain ⟨w3, hcl, hm3, ht3⟩ := clear_win wr _ len D _ _ hmz hwx
          have FIN : Hid (MemF w3 (zeroed (xs.take (k + 1)) M) len D ∧ Touch D w1 w3) := Lib.hid ⟨hm3.congr (fun g hg i hi => by
            unfold zeroed
            rw [HT.out g i]
            by_cases e : (⟨xg, xo, xn, xc⟩ : Wn).has g i <;> simp [e]), htz.then ht3⟩
          unfold Wn.val at d2 hcl
          dsimp only at d2 hcl
          have hcl2 := hcl 22
          have HCL := Lib.hid hcl
          clear d d1 hmz htz hm3 ht3 hwx hxk hcl2
          have hcl := HCL.out
          go_wp2_with fail
          go_round
          case rel => exact ⟨k + 1, by omega, by go_num, FIN.out⟩
          case measure => simp [intOf]; omega
        · obtain rfl : k = xs.length := by omega
          rw [List.take_length] at HMZ
          clear hlt hk hmz htz
          have TW := Lib.hid ((Touch.of_below (F := D) BL.out).then HTZ.out)
          have DO := Lib.hid (HDO.out wr HMZ.out TW.out)
          have EG := eg caps
          go_wp2_with fail
          refine DO.out.mono ?_
          rintro e w5 ⟨rfl, M1, hm1, hout, ht5, hq5⟩
          have hDw : ∀ k, D k → k < w.heap.size := fun k hk => HM.out.lt hk
          have hlow : ∀ (e : Nat) (v : Value) (n : Nat) (zs : List Value), w1.ownsRow w.heap.size e 1 v n zs → ∀ W, Touch D w5 W → W.ownsRow w.heap.size e 1 v n zs := fun e v n zs h W hW => ownsRow_same h (fun i hi => by
            have h1 := h.lt i hi
            have h2 : ¬ D i := fun x => by have := hDw i x; omega
            have h3 : ¬ (D i ∨ X i) := fun x => x.elim h2 (fun y => by have := (HXX.out i y).1; omega)
            have s1 := HTZ.out.size
            have s2 := ht5.size
            exact (hW.block i (by omega) h2).trans ((ht5.block i (by omega) h3).trans (HTZ.out.block i h1.2 h2)))
          have HLOW := Lib.hid hlow
          obtain ⟨ka, kc, rfl⟩ : ∃ ka kc, u4 = .slice ka xs.length kc := by
            rcases HROW.out.2 with ⟨rfl, h0⟩ | ⟨g, cap, cur, rfl, _⟩
            · exact ⟨none, 0, by rw [h0]⟩
            · exact ⟨_, _, rfl⟩
          have HM1 := Lib.hid hm1
          have HOUT := Lib.hid hout
          have HT5 := Lib.hid ht5
          have HQ5 := Lib.hid hq5
          have TW5 := Lib.hid (show Touch (fun k => D k ∨ X k) w w5 from (TW.out.mono (fun k hk => Or.inl hk)).then ht5)
          clear hm1 hout ht5 hq5 hlow hDw EG
          go_wp2_with fail
          go_loopw [35] (fun i wr => ∃ k : Nat, k ≤ xs.length ∧ i = .int .i64 k ∧ MemF wr (putBack (xs.take k) M M1) len D ∧ Touch D w5 wr) (fun i _ => xs.length - (intOf i).toNat)
          case atStart => exact ⟨0, Nat.zero_le _, rfl, HM1.out.congr (fun g hg i hi => by simp [putBack, anyHas]), Touch.refl _ _⟩
          case round =>
            obtain ⟨k, hk, rfl, hmz, htz⟩ := hrel
            have HMZ2 := Lib.hid hmz
            have HTZ2 := Lib.hid htz
            by_cases hlt : k < xs.length
            · obtain ⟨b, o, rfl, d⟩ := HC.out k hlt
              have hwx := HX.out _ (w0_in hlt)
              have hsp := HAP.out _ _ _ rfl (by omega)
              dsimp only at hsp
              have d2 : wr.cell? ⟨b, o + k, none⟩ = some _ := (by
                have h1 : wr.heap[b]? = w5.heap[b]? := htz.block b (Nat.lt_of_lt_of_le hsp.1 TW5.out.size) hsp.2.1
                have h2 : w5.heap[b]? = w.heap[b]? := TW5.out.block b hsp.1 (fun x => x.elim hsp.2.1 hsp.2.2)
                rw [← d]; simp only [World.cell?, h1, h2])
              have kr := HLOW.out _ _ _ _ HROW.out wr htz
              have kj := HLOW.out _ _ _ _ (hks.out k hlt) wr htz
              obtain ⟨kg, hkg, kcell⟩ := own1_cell kr hlt
              obtain ⟨⟨xg, xo, xn, xc⟩, xa, hxk⟩ : ∃ (x : Wn) (a : Option Addr), xs.getD k W0 = (x, a) := ⟨_, _, rfl⟩
              have HT := Lib.hid (anyHas_take hlt)
              rw [hxk] at d2 hwx HT kj
              dsimp only at HT kj
              obtain ⟨vj, hvj⟩ : ∃ vj, ks.getD k undef = vj := ⟨_, rfl⟩
              rw [hvj] at kj kcell
              have hrl : ((⟨xg, xo, xn, xc⟩ : Wn).row M).length = xn := by simp [Wn.row]
              have hrd := Reads.own (k := .u8) (by rw [hrl]; exact kj) (by have := HN.out _ (w0_in hlt); rw [hxk] at this; dsimp only at this; omega)
              obtain ⟨w7, hcp, hm7, ht7⟩ := copy_win wr _ len D _ _ vj _ hmz hwx hrd hrl
              have FIN : Hid (MemF w7 (putBack (xs.take (k + 1)) M M1) len D ∧ Touch D w5 w7) := Lib.hid ⟨hm7.congr (fun g hg i hi => by
                unfold putBack
                rw [HT.out g i]
                by_cases e : (⟨xg, xo, xn, xc⟩ : Wn).has g i
                · obtain ⟨e1, e2, e3⟩ := e
                  dsimp only at e1 e2 e3
                  subst e1
                  have e4 : (⟨g, xo, xn, xc⟩ : Wn).has g i := ⟨rfl, e2, e3⟩
                  have e5 : i - xo < xn := by omega
                  have e6 : xo + (i - xo) = i := by omega
                  simp [e4, Wn.row, List.getD_eq_getElem?_getD, e5, e6]
                · simp [e]), htz.then ht7⟩
              unfold Wn.val at d2 hcp
              dsimp only at d2 hcp
              subst hkg
              clear d hmz htz hm7 ht7 hwx hxk hrd hrl kr kj hvj
              go_wp2_with fail
              go_round
              case rel => exact ⟨k + 1, by omega, by go_num, FIN.out⟩
              case measure => simp [intOf]; omega
            · obtain rfl : k = xs.length := by omega
              have FIN : Hid (TriedPost w M len D X Q (.returned (.tuple #[])) wr) := Lib.hid ⟨rfl, hmz.congr (fun g hg i hi => by
                rw [List.take_length]
                unfold putBack
                by_cases e : anyHas xs g i = true
                · simp [e]
                · rw [if_neg e]; exact HOUT.out g i (by simpa using e)), TW5.out.then (htz.mono (fun k hk => Or.inl hk)), HQ.out _ _ HQ5.out htz⟩
              clear hlt hk hmz htz
              go_wp2_with fail
              go_end0
              exact FIN.out

end Go.Proofs.Ytclpkmplifcfjaa
