/-
  Same, Mod: what they give. No conditions.
  appends: what it gives. No conditions.
  Mod, Poke: what they give. No conditions.
  A slice that came in fits its room. No conditions.
-/
import Derived.Test.YtfnmjlnpfoclbaaGreatQueueRunsPac
import Derived.Deep.QuietTactic
import Derived.BigQuiet
import Derived.ArgAppend
import Derived.BigRegion
import Derived.Test.YtfnmjlnpfoclbaaGreatQueueRunsPaa

namespace Go.Proofs.YtfnmjlnpfoclbaaGreat
section
open Go.RowKit

def SamePost (w : World) : Ending → World → Prop := fun e w' => e = .returned (.bool true) ∧ ∃ q, w' = w.drewN q

theorem quiet_at {P : Program} {f : FuncId} {args : Array Value} {w : World} {q n : Nat} {v : Value}
    (h : Calls P f args (w.drewN (q + n)) fun e w' => e = .returned v ∧ ∃ m, w' = (w.drewN (q + n)).drewN m) : Calls P f args (w.drewN (q + n)) fun e w'' => e = .returned v ∧ ∃ m, w'' = w.drewN (q + m) :=
  h.mono fun _ _ ⟨he, m, hm⟩ => ⟨he, n + m, by rw [hm, World.drewN_drewN, Nat.add_assoc]⟩

theorem equal_same {x y : Value} {zs : List Int} {w : World} (h1 : Reads w .u8 x zs) (h2 : Reads w .u8 y zs) :
    Calls Tryz.prog 33 #[x, y] w (fun e w' => e = .returned (.bool true) ∧ ∃ q, w' = w.drewN q) := by
  refine (equal_byte x y zs zs w h1 h2).mono ?_
  rintro e w' ⟨rfl, q, rfl⟩
  exact ⟨ret_bool (by simp), q, rfl⟩

set_option maxHeartbeats 2000000 in
set_option maxRecDepth 100000 in
theorem same_any (c : Nat) (B : Nat) (R : Rel) (prs : List (Value × Value)) (w : World) (hc : CellsAt w B c prs) (ht : Twins w B R) (hp : ∀ xy ∈ prs, Pr R xy) :
    Calls Tryz.prog 9 #[.pointer (some ⟨c, 0, none⟩)] w (SamePost w) := by
  have HC := Lib.hid hc
  have HT := Lib.hid ht
  have HP := Lib.hid hp
  obtain ⟨a, ca, a', ca', hcb, hrow⟩ := hc.open
  have c0 : w.cell? ⟨c, 0, none⟩ = some (.slice a prs.length ca) := by rw [cell_of hcb]; rfl
  have c1 : w.cell? ⟨c, 1, none⟩ = some (.slice a' prs.length ca') := by rw [cell_of hcb]; rfl
  have HR := Lib.hid hrow
  have len := hc.len
  clear hc ht hp hcb hrow
  go_enter Tryz.func9, Tryz.ntmps9
  go_wp2_with fail
  go_loopw [11] (fun i wr => ∃ k q : Nat, k ≤ prs.length ∧ i = .int .i64 k ∧ wr = w.drewN q) (fun i _ => prs.length - (intOf i).toNat)
  case atStart => exact ⟨0, 0, Nat.zero_le _, rfl, rfl⟩
  case round =>
    obtain ⟨k, q, hk, rfl, rfl⟩ := hrel
    by_cases hlt : k < prs.length
    · obtain ⟨g, g', rfl, rfl, h1, h2⟩ := HR.out k hlt
      have hpr := HP.out _ (List.getElem_mem hlt)
      obtain ⟨p1, q1, len1, cap1, e, hl1, hm1, _⟩ := id hpr
      obtain ⟨zs, _, hzr, _⟩ := (e ▸ hpr : Pr R (.slice p1 len1 cap1, .slice q1 len1 cap1)).reads HT.out cap1 (Nat.le_refl _)
      have RD := Lib.hid (fun n => (And.intro ((hzr cap1).1.drewN n) ((hzr cap1).2.drewN n)))
      clear hzr
      rw [e] at h1 h2
      clear e hpr
      simp only at h1 h2
      have hm1' : cap1 ≤ 9223372036854775807 := by omega
      go_wp2_with fail
      go_quiet ((go_at_call 33; exact quiet_at (equal_same (RD.out _).1 (RD.out _).2)))
      go_wp2_with fail
      go_roundw
      case rel => exact ⟨k + 1, _, by omega, by go_num, rfl⟩
      case measure => simp [intOf]; omega
    · have hkn : k = prs.length := by omega
      go_wp2_with fail
      go_ret
      exact ⟨rfl, q, rfl⟩

end
end Go.Proofs.YtfnmjlnpfoclbaaGreat

namespace Go.Proofs.YtfnmjlnpfoclbaaGreat
section
open Go.RowKit

def KeepPost (w : World) : Ending → World → Prop := fun e w' => e = .returned (.bool true) ∧ Below w.heap.size w w'

theorem byteInfo0 : (Tryz.prog.info? 5).map (fun i => (i.zero, i.size, i.bytes)) = some (some (.int .u8 0), 1, 1) := by kernel_rfl

/-- The cells of a slice, as the law on append wants them. -/
theorem Reads.cells {w : World} {p : Option Addr} {n m : Nat} {zs : List Int} (h : Reads w .u8 (.slice p n m) zs) (hn : zs.length = n) : ∀ b, p = some b → ∀ j u, (zs.map (Value.int .u8))[j]? = some u → w.cell? (b.add j) = some u := by
  intro b hb j u hj
  subst hb
  obtain ⟨a, cap, e, hl, hc⟩ := h
  simp only [Value.slice.injEq] at e
  obtain ⟨rfl, _, _⟩ := e
  rw [List.getElem?_map] at hj
  obtain ⟨z, hz, rfl⟩ := Option.map_eq_some_iff.1 hj
  have hlt : j < zs.length := (List.getElem?_eq_some_iff.1 hz).1
  obtain ⟨b', o, e, hcell⟩ := hc (by intro e; subst e; simp at hlt)
  cases e
  have e1 : (⟨b', o, none⟩ : Addr).add j = ⟨b', o + j, none⟩ := by unfold Addr.add; split <;> simp_all
  rw [e1, hcell j hlt]
  rw [List.getD_eq_getElem?_getD, hz]
  rfl

theorem new_cells (w : World) (us : List Value) (t : TypeId) : ∀ j u, us[j]? = some u → (w.alloc (.cells us.toArray t)).cell? ((⟨w.heap.size, 0, none⟩ : Addr).add j) = some u := by
  intro j u hj
  have e1 : (⟨w.heap.size, 0, none⟩ : Addr).add j = ⟨w.heap.size, j, none⟩ := by unfold Addr.add; split <;> simp_all
  rw [e1, cell_of_row _ _ _ _ _ _ (heap_alloc_new w _)]
  simpa using hj

set_option maxHeartbeats 4000000 in
set_option maxRecDepth 100000 in
theorem appends_any (c : Nat) (B : Nat) (R : Rel) (prs : List (Value × Value)) (w : World) (hc : CellsAt w B c prs) (ht : Twins w B R) (hp : ∀ xy ∈ prs, Pr R xy) :
    Calls Tryz.prog 52 #[.pointer (some ⟨c, 0, none⟩)] w (KeepPost w) := by
  obtain ⟨i0, hi, hz0, hz1, hz2⟩ := info_parts byteInfo0
  have HC := Lib.hid hc
  have HT := Lib.hid ht
  have HP := Lib.hid hp
  obtain ⟨a, ca, a', ca', hcb, hrow⟩ := hc.open
  have HCB := Lib.hid hcb
  have c0 : w.cell? ⟨c, 0, none⟩ = some (.slice a prs.length ca) := by rw [cell_of hcb]; rfl
  have HR := Lib.hid hrow
  have len := hc.len
  clear hc ht hp hcb hrow
  go_enter Tryz.func52, Tryz.ntmps52
  go_wp2_with fail
  go_loopw [11] (fun i wr => ∃ k : Nat, k ≤ prs.length ∧ i = .int .i64 k ∧ Below w.heap.size w wr) (fun i _ => prs.length - (intOf i).toNat)
  case atStart => exact ⟨0, Nat.zero_le _, rfl, Below.refl _ _⟩
  case round =>
    obtain ⟨k, hk, rfl, hb⟩ := hrel
    have hbs := hb.size
    by_cases hlt : k < prs.length
    · obtain ⟨g, g', rfl, rfl, h1, h2⟩ := HR.out k hlt
      have c1 : wr.cell? ⟨c, 1, none⟩ = some (.slice (some ⟨g', 0, none⟩) prs.length ca') := old_cell hb (by rw [cell_of HCB.out]; rfl)
      have hpr := HP.out _ (List.getElem_mem hlt)
      obtain ⟨p1, q1, len1, cap1, e, hl1, hm1, hcp⟩ := id hpr
      have hprs : Pr R (.slice p1 len1 cap1, .slice q1 len1 cap1) := e ▸ hpr
      have RD := Lib.hid (hprs.reads (HT.out.below hb) len1 hl1)
      have g1 := old_cell hb h1
      have g2 := old_cell hb h2
      rw [e] at g1 g2
      simp only at g1 g2
      have PN : p1 = none → len1 = 0 ∧ cap1 = 0 := fun h => by
        rcases Nat.eq_zero_or_pos cap1 with h0 | h0
        · omega
        · obtain ⟨b, o, _, _, h', _⟩ := hcp h0; rw [h] at h'; cases h'
      have QN : q1 = none → len1 = 0 ∧ cap1 = 0 := fun h => by
        rcases Nat.eq_zero_or_pos cap1 with h0 | h0
        · omega
        · obtain ⟨_, _, b, o, _, h', _⟩ := hcp h0; rw [h] at h'; cases h'
      have HPN := Lib.hid PN
      have HQN := Lib.hid QN
      clear e hpr hcp h1 h2 hprs PN QN
      have hm1' : cap1 ≤ 9223372036854775807 := by omega
      by_cases hfc : len1 = cap1
      · subst hfc
        obtain ⟨zs, hzl, hzr, hzb⟩ := RD.out
        obtain ⟨r1, r2⟩ := hzr len1
        go_wp2_with (at_builtin; go_must (refine wpList_append_grows (wr.alloc (.cells #[.int .u8 1, .int .u8 2, .int .u8 3] 5)) rfl _ _ 42 rfl 5 i0 (.int .u8 0) 1 1 Tryz.underlying42 hi hz0 hz1 hz2 rfl (by decide) p1 len1 len1 (zs.map (Value.int .u8)) rfl (by exact HPN.out) (by simp [hzl]) ?holds ⟨wr.heap.size, 0, none⟩ 3 3 [.int .u8 1, .int .u8 2, .int .u8 3] (by simp [Act.eval]) rfl (new_cells wr [.int .u8 1, .int .u8 2, .int .u8 3] 5) (by simp [Value.oneCell']) (by omega) (by unfold maxLen; omega) (by omega) ?_))
        case holds => exact (r1.below (w' := wr.alloc (.cells #[.int .u8 1, .int .u8 2, .int .u8 3] 5)) (by go_grown) rfl).cells hzl
        intro v1 w1 hown1 hgr1
        have bel1 : Below wr.heap.size wr w1 := Below.grown (by go_grown) hgr1 (by simp) (fun k hk => by cases hk)
        have hs1 : wr.heap.size + 1 ≤ w1.heap.size := by have := hgr1.size; simpa using this
        clear hgr1
        go_wp2_with (at_builtin; go_must (refine wpList_append_grows (w1.alloc (.cells #[.int .u8 1, .int .u8 2, .int .u8 3] 5)) rfl _ _ 42 rfl 5 i0 (.int .u8 0) 1 1 Tryz.underlying42 hi hz0 hz1 hz2 rfl (by decide) q1 len1 len1 (zs.map (Value.int .u8)) rfl (by exact HQN.out) (by simp [hzl]) ?holds ⟨w1.heap.size, 0, none⟩ 3 3 [.int .u8 1, .int .u8 2, .int .u8 3] (by simp [Act.eval]) rfl (new_cells w1 [.int .u8 1, .int .u8 2, .int .u8 3] 5) (by simp [Value.oneCell']) (by omega) (by unfold maxLen; omega) (by omega) ?_))
        case holds => exact ((r2.below bel1 rfl).below (w' := w1.alloc (.cells #[.int .u8 1, .int .u8 2, .int .u8 3] 5)) (by go_grown) rfl).cells hzl
        intro v2 w2 hown2 hgr2
        have bel2 : Below w1.heap.size w1 w2 := Below.grown (by go_grown) hgr2 (by simp) (fun k hk => by cases hk)
        clear hgr2
        have e3 : ∀ zs : List Int, zs.map (Value.int .u8) ++ [.int .u8 1, .int .u8 2, .int .u8 3] = (zs ++ [1, 2, 3]).map (Value.int .u8) := by simp
        have r1' : Reads w2 .u8 v1 (zs ++ [1, 2, 3]) := by
          refine Reads.below (w := w1) ?_ bel2 rfl
          exact Reads.own (B := _) (t := 5) (by rw [e3] at hown1; simpa [hzl] using hown1) (by simp; omega)
        have r2' : Reads w2 .u8 v2 (zs ++ [1, 2, 3]) := Reads.own (by rw [e3] at hown2; simpa [hzl] using hown2) (by simp; omega)
        have R1 := Lib.hid r1'
        have R2 := Lib.hid r2'
        have belw : Below w.heap.size w w2 := (hb.trans (bel1.mono hbs)).trans (bel2.mono (Nat.le_trans hbs bel1.size))
        clear r1 r2 r1' r2' hown1 hown2 e3 hzr hzb
        go_wp2_with fail
        refine (equal_same R1.out R2.out).mono ?_
        rintro e w3 ⟨rfl, m, rfl⟩
        go_wp2_with fail
        refine (same_any c B R prs _ (HC.out.below (bdrewN belw m)) (HT.out.below (bdrewN belw m)) HP.out).mono ?_
        rintro e w3 ⟨rfl, m2, rfl⟩
        go_wp2_with fail
        go_roundw
        case rel => exact ⟨k + 1, by omega, by go_num, bdrewN belw _⟩
        case measure => simp [intOf]; omega
      · have hfc' : len1 < cap1 := by omega
        clear hfc
        go_wp2_with fail
        go_roundw
        case rel => exact ⟨k + 1, by omega, by go_num, hb⟩
        case measure => simp [intOf]; omega
    · have hkn : k = prs.length := by omega
      go_wp2_with fail
      go_ret
      exact ⟨rfl, hb⟩

end
end Go.Proofs.YtfnmjlnpfoclbaaGreat

namespace Go.Proofs.YtfnmjlnpfoclbaaGreat
section
open Go.RowKit

def InR (R : Rel) (k : Nat) : Prop := ∃ b o c p, R b o c p ∧ (k = b ∨ k = c)

def modv (x n : Int) : Nat := ((x.tmod n + n) % n).toNat
theorem modv_lt (x n : Int) (h : 1 ≤ n) : (modv x n : Int) < n := by
  have t3 : 0 ≤ (x.tmod n + n) % n := Int.emod_nonneg _ (by omega)
  have t4 : (x.tmod n + n) % n < n := Int.emod_lt_of_pos _ (by omega)
  unfold modv
  omega

theorem mod_any (x n : Int) (w : World) (h1 : 1 ≤ n) (h2 : n ≤ 2305843009213693952) (hx : -9223372036854775808 ≤ x ∧ x ≤ 9223372036854775807) :
    Calls Tryz.prog 28 #[.int .i64 x, .int .i64 n] w (fun e w' => e = .returned (.int .i64 (modv x n)) ∧ w' = w) := by
  obtain ⟨x1, x2⟩ := hx
  have t1 : -n < x.tmod n := Int.neg_lt_of_neg_lt (by have := Int.lt_tmod_of_pos x (show 0 < n by omega); omega)
  have t2 : x.tmod n < n := Int.tmod_lt_of_pos x (by omega)
  have t3 : 0 ≤ (x.tmod n + n) % n := Int.emod_nonneg _ (by omega)
  have E : ((modv x n : Nat) : Int) = (x.tmod n + n) % n := by unfold modv; omega
  have E := Lib.hid E
  go_enter Tryz.func28, Tryz.ntmps28
  go_wp2
  go_ret
  exact ⟨ret_int (by rw [E.out]), rfl⟩

theorem Twins.write {w : World} {B : Nat} {R : Rel} (h : Twins w B R) {b o c p : Nat} (hr : R b o c p) (z : Int) (z0 : 0 ≤ z) (z1 : z ≤ 255) :
    Twins ((w.setCell ⟨b, o, none⟩ (.int .u8 z)).setCell ⟨c, p, none⟩ (.int .u8 z)) B R := by
  have set1 : ∀ (w : World) (b o b' o' : Nat) (u : Value), ¬ (b = b' ∧ o = o') → (w.setCell ⟨b, o, none⟩ u).cell? ⟨b', o', none⟩ = w.cell? ⟨b', o', none⟩ := fun w b o b' o' u hne =>
    World.cell?_setCell_other _ _ _ _ (fun e => hne (by simpa using e))
  have blk : ∀ (w : World) (b o k : Nat) (u : Value) (cs : Array Value), w.heap[k]? = some (.cells cs 5 (0, 0)) → ∃ cs', (w.setCell ⟨b, o, none⟩ u).heap[k]? = some (.cells cs' 5 (0, 0)) := fun w b o k u cs hk => by
    by_cases e : k = b
    · subst e; exact ⟨_, block_setCell hk o u⟩
    · exact ⟨cs, (Below.heap_setCell w ⟨b, o, none⟩ u k (fun e2 => e e2)).trans hk⟩
  obtain ⟨y, _, _, hb, hc⟩ := h.val b o c p hr
  refine ⟨fun b' o' c' p' hr' => ?_, fun b' o' c' p' hr' => ?_, h.one, h.inj, h.apart⟩
  · by_cases e : b = b' ∧ o = o'
    · obtain ⟨rfl, rfl⟩ := e
      obtain ⟨rfl, rfl⟩ := h.one _ _ _ _ _ _ hr hr'
      have a1 : ¬ (c = b ∧ p = o) := fun e => h.apart _ _ _ _ _ _ _ _ hr hr ⟨e.1.symm, e.2.symm⟩
      refine ⟨z, z0, z1, ?_, ?_⟩
      · rw [set1 _ _ _ _ _ _ a1]
        exact World.cell?_setCell_same _ _ _ hb
      · refine World.cell?_setCell_same _ _ _ (u := .int .u8 y) ?_
        rw [set1 _ _ _ _ _ _ (fun e => a1 ⟨e.1.symm, e.2.symm⟩)]
        exact hc
    · obtain ⟨y', y0, y1, h1, h2⟩ := h.val _ _ _ _ hr'
      have a1 : ¬ (c = b' ∧ p = o') := fun e => h.apart _ _ _ _ _ _ _ _ hr' hr ⟨e.1.symm, e.2.symm⟩
      have a2 : ¬ (b = c' ∧ o = p') := fun e => h.apart _ _ _ _ _ _ _ _ hr hr' e
      have a3 : ¬ (c = c' ∧ p = p') := fun e' => by obtain ⟨rfl, rfl⟩ := e'; exact e (h.inj _ _ _ _ _ _ hr hr')
      refine ⟨y', y0, y1, ?_, ?_⟩
      · rw [set1 _ _ _ _ _ _ a1, set1 _ _ _ _ _ _ e]; exact h1
      · rw [set1 _ _ _ _ _ _ a3, set1 _ _ _ _ _ _ a2]; exact h2
  · obtain ⟨b1, b2, ⟨cs, h1⟩, ⟨ds, h2⟩⟩ := h.row _ _ _ _ hr'
    obtain ⟨cs1, g1⟩ := blk w b o b' (.int .u8 z) cs h1
    obtain ⟨ds1, g2⟩ := blk w b o c' (.int .u8 z) ds h2
    exact ⟨b1, b2, blk _ c p b' (.int .u8 z) cs1 g1, blk _ c p c' (.int .u8 z) ds1 g2⟩

def sliceLen : Value → Nat
  | .slice _ n _ => n
  | _ => 0

def sliceFits : Value → Prop
  | .slice _ n m => n ≤ m
  | _ => True

/-- Behind Poke: everything shows the same; of what is not watched nothing has turned. -/
def PokePost (B c : Nat) (R : Rel) (prs : List (Value × Value)) (w : World) : Ending → World → Prop := fun e w' =>
  e = .returned (.bool true) ∧ CellsAt w' B c prs ∧ Twins w' B R ∧ Touch (InR R) w w'

theorem Reads.tail3 {w : World} {k : IntKind} {a : Option Addr} {n cap : Nat} {zs : List Int} (h : Reads w k (.slice a n cap) zs) (h3 : 3 ≤ n) :
    zs.length = n ∧ ∃ b o, a = some ⟨b, o, none⟩ ∧ w.cell? ⟨b, o, none⟩ = some (.int k (zs.getD 0 0)) ∧ w.cell? ⟨b, o + 1, none⟩ = some (.int k (zs.getD 1 0)) ∧ w.cell? ⟨b, o + 2, none⟩ = some (.int k (zs.getD 2 0)) ∧
      ∀ m, Reads w k (.slice (some ⟨b, o + 3, none⟩) (n - 3) m) (zs.drop 3) := by
  obtain ⟨a', cap', e, hl, hc⟩ := h
  simp only [Value.slice.injEq] at e
  obtain ⟨rfl, rfl, rfl⟩ := e
  obtain ⟨b, o, rfl, hcell⟩ := hc (by intro e; subst e; simp at h3)
  refine ⟨rfl, b, o, rfl, hcell 0 (by omega), hcell 1 (by omega), hcell 2 (by omega), fun m => ⟨_, m, by simp, by simp; omega, fun _ => ⟨b, o + 3, rfl, fun j hj => ?_⟩⟩⟩
  simp only [List.length_drop] at hj
  have := hcell (3 + j) (by omega)
  rw [show o + (3 + j) = o + 3 + j by omega] at this
  rw [this]
  simp [List.getD_eq_getElem?_getD]

theorem tail_nil {w : World} {k : IntKind} {a a' : Option Addr} {n cap m : Nat} {zs : List Int} (h : Reads w k (.slice a n cap) zs) (h3 : n ≤ 3) : Reads w k (.slice a' (n - 3) m) (zs.drop 3) := by
  obtain ⟨_, _, e, _, _⟩ := h
  simp only [Value.slice.injEq] at e
  obtain ⟨_, rfl, _⟩ := e
  have : zs.drop 3 = [] := by simp; omega
  rw [this, show zs.length - 3 = 0 by omega]
  exact ⟨_, m, rfl, by simp, fun h => absurd rfl h⟩

theorem tail_if {w : World} {k : IntKind} {a : Option Addr} {b o n cap m : Nat} {zs : List Int} (h : Reads w k (.slice a n cap) zs) (hr : ∀ m, Reads w k (.slice (some ⟨b, o + 3, none⟩) (n - 3) m) (zs.drop 3)) (hf : sliceFits (.slice a n cap)) :
    Reads w k (.slice (if cap = 3 then some ⟨b, o, none⟩ else some ⟨b, o + 3, none⟩) (n - 3) m) (zs.drop 3) := by
  split
  · simp only [sliceFits] at hf
    exact tail_nil h (by omega)
  · exact hr m

theorem CellsAt.keep {w w' : World} {B c : Nat} {prs : List (Value × Value)} (h : CellsAt w B c prs) (hk : ∀ (k : Nat) (cs : Array Value) (t : TypeId), w.heap[k]? = some (.cells cs t (0, 0)) → t ≠ 5 → w'.heap[k]? = w.heap[k]?) : CellsAt w' B c prs := by
  obtain ⟨hB, vo, vw, hc, ho, hw, hs, hl⟩ := h
  refine ⟨hB, vo, vw, (hk c _ _ hc (by decide)).trans hc, ownsRow_same ho (fun k e => ?_), ownsRow_same hw (fun k e => ?_), hs, hl⟩
  · obtain ⟨cur, h1⟩ := row_block ho e; exact hk k _ _ h1 (by decide)
  · obtain ⟨cur, h1⟩ := row_block hw e; exact hk k _ _ h1 (by decide)

theorem CellsAt.write {w : World} {B c : Nat} {R : Rel} {prs : List (Value × Value)} (h : CellsAt w B c prs) (ht : Twins w B R) {b o c' p : Nat} (hr : R b o c' p) (u : Value) :
    CellsAt ((w.setCell ⟨b, o, none⟩ u).setCell ⟨c', p, none⟩ u) B c prs := by
  obtain ⟨_, _, ⟨cs1, h1⟩, ⟨cs2, h2⟩⟩ := ht.row _ _ _ _ hr
  refine h.keep (fun k cs t hk ht => ?_)
  have n1 : k ≠ b := fun e => by subst e; rw [hk] at h1; simp at h1; exact ht h1.2
  have n2 : k ≠ c' := fun e => by subst e; rw [hk] at h2; simp at h2; exact ht h2.2
  exact (Below.heap_setCell _ ⟨c', p, none⟩ u k (fun e => n2 e)).trans (Below.heap_setCell w ⟨b, o, none⟩ u k (fun e => n1 e))

theorem Touch.write {w0 w : World} {R : Rel} (h : Touch (InR R) w0 w) {b o c p : Nat} (hr : R b o c p) (u : Value) : Touch (InR R) w0 ((w.setCell ⟨b, o, none⟩ u).setCell ⟨c, p, none⟩ u) :=
  (h.setCell (p := ⟨b, o, none⟩) (Or.inl ⟨b, o, c, p, hr, Or.inl rfl⟩) u).setCell (p := ⟨c, p, none⟩) (Or.inl ⟨b, o, c, p, hr, Or.inr rfl⟩) u

set_option maxHeartbeats 4000000 in
set_option maxRecDepth 100000 in
theorem poke_any (c : Nat) (w0 : World) (R : Rel) (prs : List (Value × Value)) (v : Value) (zs : List Int) (w : World) (hb : Below w0.heap.size w0 w) (hs : Reads w0 .i64 v zs) (hfit : sliceFits v) (hz : ∀ z ∈ zs, -9223372036854775808 ≤ z ∧ z ≤ 9223372036854775807)
    (hc : CellsAt w w0.heap.size c prs) (ht : Twins w w0.heap.size R) (hp : ∀ xy ∈ prs, Pr R xy) :
    Calls Tryz.prog 16 #[.pointer (some ⟨c, 0, none⟩), v] w (PokePost w0.heap.size c R prs w) := by
  have HP := Lib.hid hp
  have len := hc.len
  have HC := Lib.hid hc
  have HT := Lib.hid ht
  have HS := Lib.hid hs
  have HZ := Lib.hid hz
  have HB := Lib.hid hb
  clear hc ht hs hz hp hb
  go_enter Tryz.func16, Tryz.ntmps16
  go_wp2_with fail
  go_loopw [1] (fun u wr => ∃ ys, Reads w0 .i64 u ys ∧ sliceFits u ∧ (∀ z ∈ ys, -9223372036854775808 ≤ z ∧ z ≤ 9223372036854775807) ∧ CellsAt wr w0.heap.size c prs ∧ Twins wr w0.heap.size R ∧ Touch (InR R) w wr ∧ Below w0.heap.size w0 wr) (fun u _ => sliceLen u)
  case atStart => exact ⟨zs, HS.out, hfit, HZ.out, HC.out, HT.out, Touch.refl _ _, HB.out⟩
  case round =>
    obtain ⟨ys, hys, hfu, hyz, hcr, htr, htc, hbr⟩ := hrel
    obtain ⟨sa, n, scap, rfl⟩ : ∃ sa n scap, u1 = .slice sa n scap := by obtain ⟨sa, scap, h, _⟩ := hys; exact ⟨_, _, _, h⟩
    have hfu : n ≤ scap := hfu
    obtain ⟨a, ca, a', ca', hcb, hrow⟩ := hcr.open
    have c0 : wr.cell? ⟨c, 0, none⟩ = some (.slice a prs.length ca) := by rw [cell_of hcb]; rfl
    have c1 : wr.cell? ⟨c, 1, none⟩ = some (.slice a' prs.length ca') := by rw [cell_of hcb]; rfl
    have HC := Lib.hid hcr
    have HT := Lib.hid htr
    have HR := Lib.hid hrow
    have HTC := Lib.hid htc
    have HBR := Lib.hid hbr
    have HYZ := Lib.hid hyz
    clear hcr htr hrow htc hbr hcb hyz
    by_cases h3 : 3 ≤ n
    · by_cases hl0 : 0 < prs.length
      · obtain ⟨hyl, b, o, rfl, s0, s1, s2, hrest⟩ := hys.tail3 h3
        have M0 := Lib.hid (fun w => mod_any (ys.getD 0 0) prs.length w (by omega) (by omega) (HYZ.out _ (by rw [List.getD_eq_getElem?_getD, List.getElem?_eq_getElem (by omega)]; simp)))
        have ml0 := modv_lt (ys.getD 0 0) prs.length (by omega)
        have z1 := HYZ.out (ys.getD 1 0) (by rw [List.getD_eq_getElem?_getD, List.getElem?_eq_getElem (by omega)]; simp)
        have z2 := HYZ.out (ys.getD 2 0) (by rw [List.getD_eq_getElem?_getD, List.getElem?_eq_getElem (by omega)]; simp)
        generalize ys.getD 0 0 = y0 at *
        generalize ys.getD 1 0 = y1 at *
        generalize ys.getD 2 0 = y2 at *
        generalize modv y0 prs.length = k at *
        have g0 := old_cell HBR.out s0
        have g1 := old_cell HBR.out s1
        have g2 := old_cell HBR.out s2
        have hk : k < prs.length := by omega
        obtain ⟨g, g', rfl, rfl, q1, q2⟩ := HR.out k hk
        have hpr := HP.out _ (List.getElem_mem hk)
        obtain ⟨pa, pb, len1, cap1, e, hl1, hm1, hcp⟩ := id hpr
        rw [e] at q1 q2
        simp only at q1 q2
        clear e hpr s0 s1 s2 ml0
        have hcap' : cap1 ≤ 9223372036854775807 := by omega
        go_wp2_with fail
        go_quiet ((go_at_call 28; exact Calls.quiet_of_same (M0.out _)))
        go_wp2_with fail
        go_quiet (fail)
        by_cases hc0 : cap1 = 0
        · subst hc0
          go_wp2_with fail
          all_goals
            go_roundw
            case rel => exact ⟨_, tail_if hys hrest hfu, by simp only [sliceFits] at hfu ⊢; omega, fun z hz => HYZ.out z (List.mem_of_mem_drop hz), HC.out.below (bdrewN (Below.refl _ _) _), HT.out.below (bdrewN (Below.refl _ _) _), HTC.out.drewN _, bdrewN HBR.out _⟩
            case measure => simp [sliceLen]; omega
        · have M1 := Lib.hid (fun w => mod_any y1 cap1 w (by omega) (by omega) z1)
          have ml1 := modv_lt y1 cap1 (by omega)
          generalize modv y1 cap1 = k2 at *
          have hk2 : k2 < cap1 := by omega
          obtain ⟨b1, o1, c1', r1, rfl, rfl, hR⟩ := hcp (by omega)
          have RR := Lib.hid (hR k2 hk2)
          clear hcp hR
          have hv := HT.out.val _ _ _ _ RR.out
          have hw := HT.out.row _ _ _ _ RR.out
          obtain ⟨x, _, _, x1, x2⟩ := hv
          obtain ⟨_, _, ⟨cs1, f1⟩, ⟨cs2, f2⟩⟩ := hw
          have fr1 := fun j => free_of f1 j
          have fr2 := fun j => free_of f2 j
          have nap : ¬ (b1 = c1' ∧ o1 + k2 = r1 + k2) := HT.out.apart _ _ _ _ _ _ _ _ RR.out RR.out
          clear f1 f2
          go_wp2_with fail
          refine (M1.out _).mono ?_
          rintro e w1 ⟨rfl, rfl⟩
          go_wp2_with fail
          have y20 := Int.emod_nonneg y2 (show (256 : Int) ≠ 0 by decide)
          have y21 := Int.emod_lt_of_pos y2 (show (0 : Int) < 256 by decide)
          have NE : ∀ (W : World) (u : Value), (W.setCell ⟨b1, o1 + k2, none⟩ u).cell? ⟨c1', r1 + k2, none⟩ = W.cell? ⟨c1', r1 + k2, none⟩ := fun W u => World.cell?_setCell_other _ _ _ _ (fun e => nap (by simpa using e))
          have low := HT.out.row _ _ _ _ RR.out
          have LO := Lib.hid (And.intro low.1 low.2.1)
          clear low
          go_region
          go_wp2_with fail
          have C1 := Lib.hid (fun m => ((HC.out.drewN m).write (HT.out.drewN m) RR.out (.int .u8 (y2 % 256))))
          have T1 := Lib.hid (fun m => ((HT.out.drewN m).write RR.out (y2 % 256) y20 (by omega)))
          have U1 := Lib.hid (fun m => (HTC.out.drewN m).write RR.out (.int .u8 (y2 % 256)))
          have B1 := Lib.hid (fun m => ((bdrewN HBR.out m).setCell (p := ⟨b1, o1 + k2, none⟩) LO.out.1 (.int .u8 (y2 % 256))).setCell (p := ⟨c1', r1 + k2, none⟩) LO.out.2 (.int .u8 (y2 % 256)))
          refine (same_any c w0.heap.size R prs _ (C1.out _) (T1.out _) HP.out).mono ?_
          rintro e w3 ⟨rfl, m2, rfl⟩
          go_wp2_with fail
          go_roundw
          case rel => exact ⟨_, tail_if hys hrest hfu, by simp only [sliceFits] at hfu ⊢; omega, fun z hz => HYZ.out z (List.mem_of_mem_drop hz), (C1.out _).drewN _, (T1.out _).drewN _, (U1.out _).drewN _, bdrewN (B1.out _) _⟩
          case measure => simp [sliceLen]; omega
      · have hl1 : prs.length = 0 := by omega
        go_wp2_with fail
        refine (appends_any c w0.heap.size R prs _ HC.out HT.out HP.out).mono ?_
        rintro e w1 ⟨rfl, hb1⟩
        go_wp2_with fail
        go_ret
        exact ⟨rfl, HC.out.below hb1, HT.out.below hb1, HTC.out.then (Touch.of_below hb1)⟩
    · have h3' : n < 3 := by omega
      clear h3
      go_wp2_with fail
      refine (appends_any c w0.heap.size R prs _ HC.out HT.out HP.out).mono ?_
      rintro e w1 ⟨rfl, hb1⟩
      go_wp2_with fail
      go_ret
      exact ⟨rfl, HC.out.below hb1, HT.out.below hb1, HTC.out.then (Touch.of_below hb1)⟩

end
end Go.Proofs.YtfnmjlnpfoclbaaGreat

namespace Go.Proofs.YtfnmjlnpfoclbaaGreat
section
open Go.ChangeShapes Go.WideShapes Go.ChangeAt Go.RowKit

theorem row_fits {H : Type} {enc : TypeId × Value → H} {P : Program} {W : World} {t e : TypeId} {k : IntKind} {base : Nat} {v : Value} {d : DataW H} {p : List MemPlace} (ht : P.underlying t = some (.slice e)) (he : P.underlying e = some (.int k)) (hc : P.cellsOf e = 1)
    (hv : Value.okWide P W .any base t v) (h : DataW.Trod enc P W 0 (fun _ => true) true t v d p) : sliceFits v := by
  obtain ⟨a, len, cap, rfl⟩ := okWide_slice ht hv
  obtain ⟨fuel, hf⟩ := h
  rcases open_ints ht he hc hf with ⟨hcs, hx⟩ | ⟨x, l, c, zs, hcs, _, hl, hm, hz, hx, hcell, hwz⟩
  · simp [Value.cells] at hcs
    obtain ⟨rfl, rfl, rfl⟩ := hcs
    simp [sliceFits]
  · simp [Value.cells] at hcs
    obtain ⟨rfl, rfl, rfl⟩ := hcs
    exact hl

end
end Go.Proofs.YtfnmjlnpfoclbaaGreat
