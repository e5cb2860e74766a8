/-
  Cells of the program beside cells of the reference: which memory shows the same; and the slices that are watched. No conditions.
  Same, Mod: what they give. No conditions.
  appends: what it gives. No conditions.
-/
import Derived.Test.YtjogaohnphafgaaGreatMoveRunsPab
import Derived.Deep.QuietTactic
import Derived.BigQuiet
import Derived.ArgAppend

namespace Go.Proofs.YtjogaohnphafgaaGreat
section
open Go.RowKit

/-- R b o c p: the cell o of block b (the program's) stands beside the cell p of block c (the reference's). -/
abbrev Rel := Nat → Nat → Nat → Nat → Prop

structure Twins (w : World) (B : Nat) (R : Rel) : Prop where
  val : ∀ b o c p, R b o c p → ∃ z : Int, 0 ≤ z ∧ z ≤ 255 ∧ w.cell? ⟨b, o, none⟩ = some (.int .u8 z) ∧ w.cell? ⟨c, p, none⟩ = some (.int .u8 z)
  row : ∀ b o c p, R b o c p → B ≤ b ∧ B ≤ c ∧ (∃ cs, w.heap[b]? = some (.cells cs 5 (0, 0))) ∧ ∃ cs, w.heap[c]? = some (.cells cs 5 (0, 0))
  one : ∀ b o c p c' p', R b o c p → R b o c' p' → c = c' ∧ p = p'
  inj : ∀ b o c p b' o', R b o c p → R b' o' c p → b = b' ∧ o = o'
  apart : ∀ b o c p b' o' c' p', R b o c p → R b' o' c' p' → ¬ (b = c' ∧ o = p')

/-- A slice of the program and the reference's: the same length and room, cell beside cell. -/
def Pr (R : Rel) (xy : Value × Value) : Prop :=
  ∃ p q len cap, xy = (.slice p len cap, .slice q len cap) ∧ len ≤ cap ∧ cap ≤ 140737488355200 ∧ (0 < cap → ∃ b o c r, p = some ⟨b, o, none⟩ ∧ q = some ⟨c, r, none⟩ ∧ ∀ j, j < cap → R b (o + j) c (r + j))

/-- The watched slices, in the variable at block c. -/
def CellsAt (w : World) (B : Nat) (c : Nat) (prs : List (Value × Value)) : Prop :=
  B ≤ c ∧ ∃ vo vw, w.heap[c]? = some (.cells #[vo, vw] 46 (0, 0)) ∧ w.ownsRow B 38 1 vo prs.length (prs.map Prod.fst) ∧ w.ownsRow B 38 1 vw prs.length (prs.map Prod.snd) ∧
    (∀ k, vo.ownBlock = some k → vw.ownBlock ≠ some k) ∧ prs.length ≤ 100000

theorem Twins.below {w w' : World} {B : Nat} {R : Rel} (h : Twins w B R) (hb : Below w.heap.size w w') : Twins w' B R := by
  have lt1 : ∀ b o c p, R b o c p → b < w.heap.size := fun b o c p hr => by obtain ⟨_, _, ⟨cs, h1⟩, _⟩ := h.row b o c p hr; exact lt_of h1
  have lt2 : ∀ b o c p, R b o c p → c < w.heap.size := fun b o c p hr => by obtain ⟨_, _, _, ⟨cs, h1⟩⟩ := h.row b o c p hr; exact lt_of h1
  refine ⟨fun b o c p hr => ?_, fun b o c p hr => ?_, h.one, h.inj, h.apart⟩
  · obtain ⟨z, z0, z1, h1, h2⟩ := h.val b o c p hr
    exact ⟨z, z0, z1, (hb.cell (p := ⟨b, o, none⟩) (lt1 b o c p hr)).trans h1, (hb.cell (p := ⟨c, p, none⟩) (lt2 b o c p hr)).trans h2⟩
  · obtain ⟨b1, b2, ⟨cs, h1⟩, ⟨ds, h2⟩⟩ := h.row b o c p hr
    exact ⟨b1, b2, ⟨cs, (hb.block b (lt1 b o c p hr)).trans h1⟩, ⟨ds, (hb.block c (lt2 b o c p hr)).trans h2⟩⟩

theorem CellsAt.below {w w' : World} {B c : Nat} {prs : List (Value × Value)} (h : CellsAt w B c prs) (hb : Below w.heap.size w w') : CellsAt w' B c prs := by
  obtain ⟨hB, vo, vw, hc, ho, hw, hs, hl⟩ := h
  refine ⟨hB, vo, vw, (hb.block c (lt_of hc)).trans hc, ownsRow_same ho (fun k hk => hb.block k ?_), ownsRow_same hw (fun k hk => hb.block k ?_), hs, hl⟩
  · obtain ⟨cur, h1⟩ := row_block ho hk; exact lt_of h1
  · obtain ⟨cur, h1⟩ := row_block hw hk; exact lt_of h1

theorem Twins.drewN {w : World} {B : Nat} {R : Rel} (h : Twins w B R) (n : Nat) : Twins (w.drewN n) B R := h.below (bdrewN (Below.refl _ _) n)
theorem CellsAt.drewN {w : World} {B c : Nat} {prs : List (Value × Value)} (h : CellsAt w B c prs) (n : Nat) : CellsAt (w.drewN n) B c prs := h.below (bdrewN (Below.refl _ _) n)

/-- What cells hold, as a list. -/
def shown (w : World) (b o n : Nat) : List Int := (List.range n).map fun j => match w.cell? ⟨b, o + j, none⟩ with | some (.int _ z) => z | _ => 0

theorem shown_len (w : World) (b o n : Nat) : (shown w b o n).length = n := by simp [shown]

/-- Both slices, up to their room, read as the same list. -/
theorem Pr.reads {w : World} {B : Nat} {R : Rel} {p q : Option Addr} {len cap : Nat} (h : Pr R (.slice p len cap, .slice q len cap)) (ht : Twins w B R) (n : Nat) (hn : n ≤ cap) :
    ∃ zs : List Int, zs.length = n ∧ (∀ m, Reads w .u8 (.slice p n m) zs ∧ Reads w .u8 (.slice q n m) zs) ∧ ∀ z ∈ zs, 0 ≤ z ∧ z ≤ 255 := by
  obtain ⟨p', q', len', cap', e, hl, hm, hc⟩ := h
  simp only [Prod.mk.injEq, Value.slice.injEq] at e
  obtain ⟨⟨rfl, rfl, rfl⟩, rfl, _, _⟩ := e
  rcases Nat.eq_zero_or_pos n with h0 | h0
  · subst h0
    exact ⟨[], rfl, fun m => ⟨⟨p, m, rfl, by simp, fun h => absurd rfl h⟩, ⟨q, m, rfl, by simp, fun h => absurd rfl h⟩⟩, by simp⟩
  · obtain ⟨b, o, c, r, rfl, rfl, hR⟩ := hc (by omega)
    have key : ∀ j, j < n → ∃ z : Int, 0 ≤ z ∧ z ≤ 255 ∧ w.cell? ⟨b, o + j, none⟩ = some (.int .u8 z) ∧ w.cell? ⟨c, r + j, none⟩ = some (.int .u8 z) ∧ (shown w b o n).getD j 0 = z := by
      intro j hj
      obtain ⟨z, z0, z1, h1, h2⟩ := ht.val _ _ _ _ (hR j (by omega))
      exact ⟨z, z0, z1, h1, h2, by simp [shown, List.getD_eq_getElem?_getD, hj, h1]⟩
    refine ⟨shown w b o n, shown_len _ _ _ _, fun m => ⟨⟨_, m, by rw [shown_len], by rw [shown_len]; omega, fun _ => ⟨b, o, rfl, fun j hj => ?_⟩⟩, ⟨_, m, by rw [shown_len], by rw [shown_len]; omega, fun _ => ⟨c, r, rfl, fun j hj => ?_⟩⟩⟩, ?_⟩
    · rw [shown_len] at hj
      obtain ⟨z, _, _, h1, _, h3⟩ := key j hj
      rw [h1, h3]
    · rw [shown_len] at hj
      obtain ⟨z, _, _, _, h2, h3⟩ := key j hj
      rw [h2, h3]
    · intro z hz
      obtain ⟨j, hj, rfl⟩ := List.mem_iff_getElem.1 hz
      rw [shown_len] at hj
      obtain ⟨z, z0, z1, _, _, h3⟩ := key j hj
      rw [List.getD_eq_getElem?_getD, List.getElem?_eq_getElem (by rw [shown_len]; exact hj)] at h3
      simp only [Option.getD_some] at h3
      rw [h3]
      exact ⟨z0, z1⟩

/-- The watched slices, as the walk loads them. -/
theorem CellsAt.open {w : World} {B c : Nat} {prs : List (Value × Value)} (h : CellsAt w B c prs) :
    ∃ a ca a' ca', w.heap[c]? = some (.cells #[.slice a prs.length ca, .slice a' prs.length ca'] 46 (0, 0)) ∧
      ∀ k (hk : k < prs.length), ∃ g g', a = some ⟨g, 0, none⟩ ∧ a' = some ⟨g', 0, none⟩ ∧ w.cell? ⟨g, k, none⟩ = some (prs[k].1) ∧ w.cell? ⟨g', k, none⟩ = some (prs[k].2) := by
  obtain ⟨hB, vo, vw, hc, ho, hw, hs, hl⟩ := h
  have row : ∀ (v : Value) (xs : List Value), w.ownsRow B 38 1 v prs.length xs → ∃ a ca, v = .slice a prs.length ca ∧ ∀ k, k < prs.length → ∃ g, a = some ⟨g, 0, none⟩ ∧ ∀ (x : Value), xs[k]? = some x → w.cell? ⟨g, k, none⟩ = some x := by
    intro v xs hr
    rcases hr.2 with ⟨rfl, h0⟩ | ⟨g, cap, cur, rfl, _⟩
    · exact ⟨none, 0, by rw [h0], fun k hk => by omega⟩
    · refine ⟨_, cap, rfl, fun k _ => ⟨g, rfl, fun x hx => ?_⟩⟩
      have := hr.cells (g := g) rfl k x hx
      have e : (⟨g, 0, none⟩ : Addr).add k = ⟨g, k, none⟩ := by unfold Addr.add; split <;> simp_all
      rwa [e] at this
  obtain ⟨a, ca, rfl, h1⟩ := row vo _ ho
  obtain ⟨a', ca', rfl, h2⟩ := row vw _ hw
  refine ⟨a, ca, a', ca', hc, fun k hk => ?_⟩
  obtain ⟨g, rfl, h3⟩ := h1 k hk
  obtain ⟨g', rfl, h4⟩ := h2 k hk
  exact ⟨g, g', rfl, rfl, h3 _ (by simp [hk]), h4 _ (by simp [hk])⟩

theorem CellsAt.len {w : World} {B c : Nat} {prs : List (Value × Value)} (h : CellsAt w B c prs) : prs.length ≤ 100000 := by obtain ⟨_, _, _, _, _, _, _, h⟩ := h; exact h

end
end Go.Proofs.YtjogaohnphafgaaGreat

namespace Go.Proofs.YtjogaohnphafgaaGreat
section
open Go.RowKit

def SamePost (w : World) : Ending → World → Prop := fun e w' => e = .returned (.bool true) ∧ ∃ q, w' = w.drewN q

theorem quiet_at {P : Program} {f : FuncId} {args : Array Value} {w : World} {q n : Nat} {v : Value}
    (h : Calls P f args (w.drewN (q + n)) fun e w' => e = .returned v ∧ ∃ m, w' = (w.drewN (q + n)).drewN m) : Calls P f args (w.drewN (q + n)) fun e w'' => e = .returned v ∧ ∃ m, w'' = w.drewN (q + m) :=
  h.mono fun _ _ ⟨he, m, hm⟩ => ⟨he, n + m, by rw [hm, World.drewN_drewN, Nat.add_assoc]⟩

theorem equal_same {x y : Value} {zs : List Int} {w : World} (h1 : Reads w .u8 x zs) (h2 : Reads w .u8 y zs) :
    Calls Tryz.prog 61 #[x, y] w (fun e w' => e = .returned (.bool true) ∧ ∃ q, w' = w.drewN q) := by
  refine (equal_byte x y zs zs w h1 h2).mono ?_
  rintro e w' ⟨rfl, q, rfl⟩
  exact ⟨ret_bool (by simp), q, rfl⟩

set_option maxHeartbeats 2000000 in
set_option maxRecDepth 100000 in
theorem same_any (c : Nat) (B : Nat) (R : Rel) (prs : List (Value × Value)) (w : World) (hc : CellsAt w B c prs) (ht : Twins w B R) (hp : ∀ xy ∈ prs, Pr R xy) :
    Calls Tryz.prog 29 #[.pointer (some ⟨c, 0, none⟩)] w (SamePost w) := by
  have HC := Lib.hid hc
  have HT := Lib.hid ht
  have HP := Lib.hid hp
  obtain ⟨a, ca, a', ca', hcb, hrow⟩ := hc.open
  have c0 : w.cell? ⟨c, 0, none⟩ = some (.slice a prs.length ca) := by rw [cell_of hcb]; rfl
  have c1 : w.cell? ⟨c, 1, none⟩ = some (.slice a' prs.length ca') := by rw [cell_of hcb]; rfl
  have HR := Lib.hid hrow
  have len := hc.len
  clear hc ht hp hcb hrow
  go_enter Tryz.func29, Tryz.ntmps29
  go_wp2_with fail
  go_loopw [11] (fun i wr => ∃ k q : Nat, k ≤ prs.length ∧ i = .int .i64 k ∧ wr = w.drewN q) (fun i _ => prs.length - (intOf i).toNat)
  case atStart => exact ⟨0, 0, Nat.zero_le _, rfl, rfl⟩
  case round =>
    obtain ⟨k, q, hk, rfl, rfl⟩ := hrel
    by_cases hlt : k < prs.length
    · obtain ⟨g, g', rfl, rfl, h1, h2⟩ := HR.out k hlt
      have hpr := HP.out _ (List.getElem_mem hlt)
      obtain ⟨p1, q1, len1, cap1, e, hl1, hm1, _⟩ := id hpr
      obtain ⟨zs, _, hzr, _⟩ := (e ▸ hpr : Pr R (.slice p1 len1 cap1, .slice q1 len1 cap1)).reads HT.out cap1 (Nat.le_refl _)
      have RD := Lib.hid (fun n => (And.intro ((hzr cap1).1.drewN n) ((hzr cap1).2.drewN n)))
      clear hzr
      rw [e] at h1 h2
      clear e hpr
      simp only at h1 h2
      have hm1' : cap1 ≤ 9223372036854775807 := by omega
      go_wp2_with fail
      go_quiet ((go_at_call 61; exact quiet_at (equal_same (RD.out _).1 (RD.out _).2)))
      go_wp2_with fail
      go_roundw
      case rel => exact ⟨k + 1, _, by omega, by go_num, rfl⟩
      case measure => simp [intOf]; omega
    · have hkn : k = prs.length := by omega
      go_wp2_with fail
      go_ret
      exact ⟨rfl, q, rfl⟩

end
end Go.Proofs.YtjogaohnphafgaaGreat

namespace Go.Proofs.YtjogaohnphafgaaGreat
section
open Go.RowKit

def KeepPost (w : World) : Ending → World → Prop := fun e w' => e = .returned (.bool true) ∧ Below w.heap.size w w'

theorem byteInfo0 : (Tryz.prog.info? 5).map (fun i => (i.zero, i.size, i.bytes)) = some (some (.int .u8 0), 1, 1) := by kernel_rfl

/-- The cells of a slice, as the law on append wants them. -/
theorem Reads.cells {w : World} {p : Option Addr} {n m : Nat} {zs : List Int} (h : Reads w .u8 (.slice p n m) zs) (hn : zs.length = n) : ∀ b, p = some b → ∀ j u, (zs.map (Value.int .u8))[j]? = some u → w.cell? (b.add j) = some u := by
  intro b hb j u hj
  subst hb
  obtain ⟨a, cap, e, hl, hc⟩ := h
  simp only [Value.slice.injEq] at e
  obtain ⟨rfl, _, _⟩ := e
  rw [List.getElem?_map] at hj
  obtain ⟨z, hz, rfl⟩ := Option.map_eq_some_iff.1 hj
  have hlt : j < zs.length := (List.getElem?_eq_some_iff.1 hz).1
  obtain ⟨b', o, e, hcell⟩ := hc (by intro e; subst e; simp at hlt)
  cases e
  have e1 : (⟨b', o, none⟩ : Addr).add j = ⟨b', o + j, none⟩ := by unfold Addr.add; split <;> simp_all
  rw [e1, hcell j hlt]
  rw [List.getD_eq_getElem?_getD, hz]
  rfl

theorem new_cells (w : World) (us : List Value) (t : TypeId) : ∀ j u, us[j]? = some u → (w.alloc (.cells us.toArray t)).cell? ((⟨w.heap.size, 0, none⟩ : Addr).add j) = some u := by
  intro j u hj
  have e1 : (⟨w.heap.size, 0, none⟩ : Addr).add j = ⟨w.heap.size, j, none⟩ := by unfold Addr.add; split <;> simp_all
  rw [e1, cell_of_row _ _ _ _ _ _ (heap_alloc_new w _)]
  simpa using hj

set_option maxHeartbeats 4000000 in
set_option maxRecDepth 100000 in
theorem appends_any (c : Nat) (B : Nat) (R : Rel) (prs : List (Value × Value)) (w : World) (hc : CellsAt w B c prs) (ht : Twins w B R) (hp : ∀ xy ∈ prs, Pr R xy) :
    Calls Tryz.prog 60 #[.pointer (some ⟨c, 0, none⟩)] w (KeepPost w) := by
  obtain ⟨i0, hi, hz0, hz1, hz2⟩ := info_parts byteInfo0
  have HC := Lib.hid hc
  have HT := Lib.hid ht
  have HP := Lib.hid hp
  obtain ⟨a, ca, a', ca', hcb, hrow⟩ := hc.open
  have HCB := Lib.hid hcb
  have c0 : w.cell? ⟨c, 0, none⟩ = some (.slice a prs.length ca) := by rw [cell_of hcb]; rfl
  have HR := Lib.hid hrow
  have len := hc.len
  clear hc ht hp hcb hrow
  go_enter Tryz.func60, Tryz.ntmps60
  go_wp2_with fail
  go_loopw [11] (fun i wr => ∃ k : Nat, k ≤ prs.length ∧ i = .int .i64 k ∧ Below w.heap.size w wr) (fun i _ => prs.length - (intOf i).toNat)
  case atStart => exact ⟨0, Nat.zero_le _, rfl, Below.refl _ _⟩
  case round =>
    obtain ⟨k, hk, rfl, hb⟩ := hrel
    have hbs := hb.size
    by_cases hlt : k < prs.length
    · obtain ⟨g, g', rfl, rfl, h1, h2⟩ := HR.out k hlt
      have c1 : wr.cell? ⟨c, 1, none⟩ = some (.slice (some ⟨g', 0, none⟩) prs.length ca') := old_cell hb (by rw [cell_of HCB.out]; rfl)
      have hpr := HP.out _ (List.getElem_mem hlt)
      obtain ⟨p1, q1, len1, cap1, e, hl1, hm1, hcp⟩ := id hpr
      have hprs : Pr R (.slice p1 len1 cap1, .slice q1 len1 cap1) := e ▸ hpr
      have RD := Lib.hid (hprs.reads (HT.out.below hb) len1 hl1)
      have g1 := old_cell hb h1
      have g2 := old_cell hb h2
      rw [e] at g1 g2
      simp only at g1 g2
      have PN : p1 = none → len1 = 0 ∧ cap1 = 0 := fun h => by
        rcases Nat.eq_zero_or_pos cap1 with h0 | h0
        · omega
        · obtain ⟨b, o, _, _, h', _⟩ := hcp h0; rw [h] at h'; cases h'
      have QN : q1 = none → len1 = 0 ∧ cap1 = 0 := fun h => by
        rcases Nat.eq_zero_or_pos cap1 with h0 | h0
        · omega
        · obtain ⟨_, _, b, o, _, h', _⟩ := hcp h0; rw [h] at h'; cases h'
      have HPN := Lib.hid PN
      have HQN := Lib.hid QN
      clear e hpr hcp h1 h2 hprs PN QN
      have hm1' : cap1 ≤ 9223372036854775807 := by omega
      by_cases hfc : len1 = cap1
      · subst hfc
        obtain ⟨zs, hzl, hzr, hzb⟩ := RD.out
        obtain ⟨r1, r2⟩ := hzr len1
        go_wp2_with (at_builtin; go_must (refine wpList_append_grows (wr.alloc (.cells #[.int .u8 1, .int .u8 2, .int .u8 3] 5)) rfl _ _ 38 rfl 5 i0 (.int .u8 0) 1 1 Tryz.underlying38 hi hz0 hz1 hz2 rfl (by decide) p1 len1 len1 (zs.map (Value.int .u8)) rfl (by exact HPN.out) (by simp [hzl]) ?holds ⟨wr.heap.size, 0, none⟩ 3 3 [.int .u8 1, .int .u8 2, .int .u8 3] (by simp [Act.eval]) rfl (new_cells wr [.int .u8 1, .int .u8 2, .int .u8 3] 5) (by simp [Value.oneCell']) (by omega) (by unfold maxLen; omega) (by omega) ?_))
        case holds => exact (r1.below (w' := wr.alloc (.cells #[.int .u8 1, .int .u8 2, .int .u8 3] 5)) (by go_grown) rfl).cells hzl
        intro v1 w1 hown1 hgr1
        have bel1 : Below wr.heap.size wr w1 := Below.grown (by go_grown) hgr1 (by simp) (fun k hk => by cases hk)
        have hs1 : wr.heap.size + 1 ≤ w1.heap.size := by have := hgr1.size; simpa using this
        clear hgr1
        go_wp2_with (at_builtin; go_must (refine wpList_append_grows (w1.alloc (.cells #[.int .u8 1, .int .u8 2, .int .u8 3] 5)) rfl _ _ 38 rfl 5 i0 (.int .u8 0) 1 1 Tryz.underlying38 hi hz0 hz1 hz2 rfl (by decide) q1 len1 len1 (zs.map (Value.int .u8)) rfl (by exact HQN.out) (by simp [hzl]) ?holds ⟨w1.heap.size, 0, none⟩ 3 3 [.int .u8 1, .int .u8 2, .int .u8 3] (by simp [Act.eval]) rfl (new_cells w1 [.int .u8 1, .int .u8 2, .int .u8 3] 5) (by simp [Value.oneCell']) (by omega) (by unfold maxLen; omega) (by omega) ?_))
        case holds => exact ((r2.below bel1 rfl).below (w' := w1.alloc (.cells #[.int .u8 1, .int .u8 2, .int .u8 3] 5)) (by go_grown) rfl).cells hzl
        intro v2 w2 hown2 hgr2
        have bel2 : Below w1.heap.size w1 w2 := Below.grown (by go_grown) hgr2 (by simp) (fun k hk => by cases hk)
        clear hgr2
        have e3 : ∀ zs : List Int, zs.map (Value.int .u8) ++ [.int .u8 1, .int .u8 2, .int .u8 3] = (zs ++ [1, 2, 3]).map (Value.int .u8) := by simp
        have r1' : Reads w2 .u8 v1 (zs ++ [1, 2, 3]) := by
          refine Reads.below (w := w1) ?_ bel2 rfl
          exact Reads.own (B := _) (t := 5) (by rw [e3] at hown1; simpa [hzl] using hown1) (by simp; omega)
        have r2' : Reads w2 .u8 v2 (zs ++ [1, 2, 3]) := Reads.own (by rw [e3] at hown2; simpa [hzl] using hown2) (by simp; omega)
        have R1 := Lib.hid r1'
        have R2 := Lib.hid r2'
        have belw : Below w.heap.size w w2 := (hb.trans (bel1.mono hbs)).trans (bel2.mono (Nat.le_trans hbs bel1.size))
        clear r1 r2 r1' r2' hown1 hown2 e3 hzr hzb
        go_wp2_with fail
        refine (equal_same R1.out R2.out).mono ?_
        rintro e w3 ⟨rfl, m, rfl⟩
        go_wp2_with fail
        refine (same_any c B R prs _ (HC.out.below (bdrewN belw m)) (HT.out.below (bdrewN belw m)) HP.out).mono ?_
        rintro e w3 ⟨rfl, m2, rfl⟩
        go_wp2_with fail
        go_roundw
        case rel => exact ⟨k + 1, by omega, by go_num, bdrewN belw _⟩
        case measure => simp [intOf]; omega
      · have hfc' : len1 < cap1 := by omega
        clear hfc
        go_wp2_with fail
        go_roundw
        case rel => exact ⟨k + 1, by omega, by go_num, hb⟩
        case measure => simp [intOf]; omega
    · have hkn : k = prs.length := by omega
      go_wp2_with fail
      go_ret
      exact ⟨rfl, hb⟩

end
end Go.Proofs.YtjogaohnphafgaaGreat
