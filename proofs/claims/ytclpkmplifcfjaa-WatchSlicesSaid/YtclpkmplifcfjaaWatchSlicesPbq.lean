/-
  visit: the search through the leads, as the plain one. Conditions: the leads' map reads as is said.
-/
import Derived.Laws.EntriesVeiled
import Derived.Maps.Own
import Derived.Test.YtclpkmplifcfjaaWatchSlicesPbo
import Derived.Test.YtclpkmplifcfjaaWatchSlicesPbp
namespace Go.Proofs.Ytclpkmplifcfjaa
open Go.RowKit Go.Shelf
set_option linter.unusedVariables false

/-! How a row reads as a map's element. -/
def rowElem : Value → Option (DataW Unit × List MemPlace)
  | .slice none 0 0 => some (.nil, [])
  | .slice (some ⟨g, 0, none⟩) n c => some (.agg [.lit (.int .i64 g), .lit (.int .i64 n), .lit (.int .i64 c)], [])
  | _ => none
def rowD : Option (Nat × Nat × Nat) → DataW Unit
  | none => .nil
  | some (g, n, c) => .agg [.lit (.int .i64 g), .lit (.int .i64 n), .lit (.int .i64 c)]
def rowOf : Option (Nat × Nat × Nat) → Value
  | none => .slice none 0 0
  | some (g, n, c) => .slice (some ⟨g, 0, none⟩) n c
theorem rowElem_of (o : Option (Nat × Nat × Nat)) : rowElem (rowOf o) = some (rowD o, []) := by
  rcases o with _ | ⟨g, n, c⟩ <;> rfl
theorem rowElem_inv {v : Value} {o : Option (Nat × Nat × Nat)} {ps : List MemPlace} (h : rowElem v = some (rowD o, ps)) : v = rowOf o := by
  unfold rowElem at h
  split at h
  · rcases o with _ | ⟨g, n, c⟩
    · rfl
    · simp [rowD] at h
  · next g' n' c' =>
    rcases o with _ | ⟨g, n, c⟩
    · simp [rowD] at h
    · simp only [rowD, Option.some.injEq, Prod.mk.injEq, DataW.agg.injEq, List.cons.injEq, DataW.lit.injEq, Lit.int.injEq, true_and, and_true] at h
      obtain ⟨⟨h1, h2, h3⟩, _⟩ := h
      have e1 : g' = g := by omega
      have e2 : n' = n := by omega
      have e3 : c' = c := by omega
      subst e1; subst e2; subst e3
      rfl
  · cases h

structure Leads (w : World) (B mb N n : Nat) (S : Nat → Option (Nat × Nat × Nat)) (D : DataW Unit) (L : Nat → List Nat) : Prop where
  map : w.ownsMap Try.prog 3 rowElem mb N D
  look : ∀ a, a < n → D.atKey (.int .i64 (a : Int)) .nil = rowD (S a)
  row : ∀ a, a < n → w.ownsRow B 3 1 (rowOf (S a)) (L a).length (natCells (L a))
  inj : ∀ a a' k, a < n → a' < n → (rowOf (S a)).ownBlock = some k → (rowOf (S a')).ownBlock = some k → a = a'
theorem Leads.same {w w' : World} {B mb N n : Nat} {S : Nat → Option (Nat × Nat × Nat)} {D : DataW Unit} {L : Nat → List Nat} (h : Leads w B mb N n S D L) (hm : w'.heap[mb]? = w.heap[mb]?) (hs : ∀ a k, a < n → (rowOf (S a)).ownBlock = some k → w'.heap[k]? = w.heap[k]?) : Leads w' B mb N n S D L :=
  ⟨ownsMap_same h.map hm, h.look, fun a ha => ownsRow_same (h.row a ha) (fun k hk => hs a k ha hk), h.inj⟩
theorem Leads.lookup {w : World} {B mb N n : Nat} {S : Nat → Option (Nat × Nat × Nat)} {D : DataW Unit} {L : Nat → List Nat} (h : Leads w B mb N n S D L) {a : Nat} (ha : a < n) (hn : n ≤ 1000) :
    (Instr.lookup 64 (.map (some mb)) (.int .i64 (a : Int)) false).run Try.prog w = .ok (rowOf (S a)) w := by
  have hz : (zeroValue 35).run Try.prog w = .ok (.slice none 0 0) w := by kernel_rfl
  have hkey := Maps.keyOf_int_mk (P := Try.prog) (k := 3) Try.underlying3 (a := (a : Int)) (WalkArith.wf_i64 (by omega))
  obtain ⟨v, ps, hrun, hv⟩ := h.map.lookup (Maps.int_keyed Try.underlying3) Try.underlying64 hz (zd := .nil) (zp := []) rfl hkey
  rw [h.look a ha] at hv
  rw [hrun, rowElem_inv hv]

/-- What visit finds. -/
structure VisW (w : World) (z z1 Bl mb g cap B N n : Nat) (S : Nat → Option (Nat × Nat × Nat)) (D : DataW Unit) (ps : List (Nat × Nat)) (out : List Int) : Prop where
  o : w.heap[z]? = some (.cells #[.slice (some ⟨g, 0, none⟩) n cap] 35 (0, 0))
  v : w.heap[z1]? = some (.cells #[.func (.func 26) #[] #[.pointer (some ⟨z, 0, none⟩), .pointer (some ⟨Bl, 0, none⟩), .pointer (some ⟨z1, 0, none⟩)]] 66 (0, 0))
  l : w.heap[Bl]? = some (.cells #[.map (some mb)] 64 (0, 0))
  r : w.ownsRow B 3 1 (.slice (some ⟨g, 0, none⟩) n cap) n (out.map (Value.int .i64))
  m : Leads w B mb N n S D (ldOf ps)
  ne : ∀ a, a < n → (rowOf (S a)).ownBlock ≠ some g
theorem VisW.step {w : World} {z z1 Bl mb g cap B N n : Nat} {S : Nat → Option (Nat × Nat × Nat)} {D : DataW Unit} {ps : List (Nat × Nat)} {out : List Int} (h : VisW w z z1 Bl mb g cap B N n S D ps out) (k : Nat) (l : Int) :
    VisW (w.setCell ⟨g, k, none⟩ (.int .i64 l)) z z1 Bl mb g cap B N n S D ps (out.set k l) := by
  obtain ⟨cur, hg⟩ := row_block h.r rfl
  have ne : ∀ j cs t, w.heap[j]? = some (.cells cs t (0, 0)) → t ≠ 3 → j ≠ g := fun j cs t hj ht e => by
    rw [e, hg] at hj
    simp only [Option.some.injEq, Obj.cells.injEq] at hj
    exact ht hj.2.1.symm
  have nm : mb ≠ g := fun e => by
    obtain ⟨es, clock, hb, _⟩ := h.m.map
    rw [e, hg] at hb
    cases hb
  refine ⟨(Below.heap_setCell _ _ _ _ (ne _ _ _ h.o (by decide))).trans h.o, (Below.heap_setCell _ _ _ _ (ne _ _ _ h.v (by decide))).trans h.v, (Below.heap_setCell _ _ _ _ (ne _ _ _ h.l (by decide))).trans h.l, ?_, h.m.same (Below.heap_setCell _ _ _ _ nm) (fun a j ha hj => Below.heap_setCell _ _ _ _ (fun e => h.ne a ha (by have e' : j = g := e; rw [← e']; exact hj))), h.ne⟩
  have := wrow_set h.r k (.int .i64 l)
  rwa [← List.map_set] at this

def VisPost (z z1 Bl mb g cap B N n : Nat) (S : Nat → Option (Nat × Nat × Nat)) (D : DataW Unit) (ps : List (Nat × Nat)) (out : List Int) (w : World) : Ending → World → Prop := fun e w' =>
  e = .returned (.tuple #[]) ∧ VisW w' z z1 Bl mb g cap B N n S D ps out ∧ Touch (fun k => k = g) w w'

set_option maxHeartbeats 2000000 in
set_option maxRecDepth 100000 in
theorem vis_any (ps : List (Nat × Nat)) (n : Nat) (hps : ∀ p ∈ ps, p.1 < n ∧ p.2 < n) (hn : n ≤ 1000) (hld : ∀ a, (ldOf ps a).length ≤ 100000) (z z1 Bl mb g cap B N : Nat) (S : Nat → Option (Nat × Nat × Nat)) (D : DataW Unit) (l : Nat) :
    ∀ (f : Nat) (out : List Int) (a : Nat) (w : World), out.length = n → a < n → negs n out < f → VisW w z z1 Bl mb g cap B N n S D ps out →
      Calls Try.prog 26 #[.int .i64 (a : Int), .int .i64 (l : Int), .pointer (some ⟨z, 0, none⟩), .pointer (some ⟨Bl, 0, none⟩), .pointer (some ⟨z1, 0, none⟩)] w (VisPost z z1 Bl mb g cap B N n S D ps (vis ps f out a l) w) := by
  intro f
  induction f with
  | zero => intro out a w _ _ h; omega
  | succ f ih =>
    intro out a w hlen ha hneg hv
    have IH := Lib.hid ih
    have HV := Lib.hid hv
    have c0 := (cell_of hv.o 0).trans rfl
    have hget : (out.map (Value.int .i64))[a]? = some (.int .i64 (out.getD a (-1))) := by
      rw [List.getElem?_map, List.getD_eq_getElem?_getD, List.getElem?_eq_getElem (by omega)]; rfl
    obtain ⟨g', hg', cg, fg⟩ := wrow_cell hv.r hget
    simp only [Option.some.injEq, Addr.mk.injEq, and_true] at hg'
    subst hg'
    have haz : (a : Int) < (n : Int) := by omega
    have EN := Lib.hid (enters_of Try.func26 (by kernel_rfl) rfl)
    have hstep := hv.step a l
    have HS := Lib.hid hstep
    have LK := hstep.m.lookup ha hn
    have HROW := Lib.hid (hstep.m.row a ha)
    obtain ⟨ra, rc, hrv⟩ := wrow_sh HROW.out
    have hrl := hld a
    rw [hrv] at LK HROW
    have HRV := Lib.hid hrv
    have cl := (cell_of hstep.l 0).trans rfl
    have HVIS : Hid (vis ps (f + 1) out a l = if 0 ≤ out.getD a (-1) then out else (ldOf ps a).foldl (fun o x => vis ps f o x l) (out.set a l)) := Lib.hid (by rw [vis])
    have HLD : Hid (∀ x ∈ ldOf ps a, x < n) := Lib.hid (fun x hx => by
      rcases ldOf_mem.1 hx with h | h
      · exact (hps _ h).2
      · exact (hps _ h).1)
    have HNEG : Hid (¬ 0 ≤ out.getD a (-1) → negs n (out.set a (l : Int)) < f) := Lib.hid (fun h0 => by
      have : negs n (out.set a (l : Int)) < negs n out := by
        have hset := fun j => getD_setI out a j (l : Int) (by omega)
        refine cntD_lt n (fun j _ hj => ?_) ⟨a, ha, ?_, ?_⟩
        · by_cases e : j = a
          · rw [e]; omega
          · rw [hset, if_neg e] at hj; exact hj
        · rw [hset, if_pos rfl]; omega
        · omega
      omega)
    have HT : Hid (Touch (fun k => k = g) w (w.setCell ⟨g, a, none⟩ (.int .i64 (l : Int)))) := Lib.hid (Touch.setCell (p := ⟨g, a, none⟩) (Touch.refl (fun k => k = g) w) (Or.inl rfl) _)
    have HLEN := Lib.hid hlen
    have HPS := Lib.hid hps
    clear ih hv hstep hget hrv hld hneg hlen hps
    generalize out.getD a (-1) = q at *
    generalize hF : (fun (o : List Int) (x : Nat) => vis ps f o x (l : Int)) = F at *
    have HF := Lib.hid hF
    clear hF
    generalize hLS : ldOf ps a = LS at *
    have HLS := Lib.hid hLS
    have HA := Lib.hid ha
    clear hLS
    go_enter Try.func26, Try.ntmps26
    by_cases hq : 0 ≤ q
    · have HE : Hid (vis ps (f + 1) out a l = out) := Lib.hid (by rw [HVIS.out, if_pos hq])
      clear LK
      go_wp2_with fail
      go_end0
      exact ⟨rfl, by rw [HE.out]; exact HV.out, Touch.refl _ _⟩
    · have HE : Hid (vis ps (f + 1) out a l = LS.foldl F (out.set a l)) := Lib.hid (by rw [HVIS.out, if_neg hq])
      have HN0 := Lib.hid (HNEG.out hq)
      clear HNEG HVIS
      go_wp2_with fail
      go_loopw [22] (fun i wr => ∃ k : Nat, k ≤ LS.length ∧ i = .int .i64 k ∧ VisW wr z z1 Bl mb g cap B N n S D ps ((LS.take k).foldl F (out.set a l)) ∧ Touch (fun j => j = g) w wr ∧ ((LS.take k).foldl F (out.set a l)).length = n ∧ negs n ((LS.take k).foldl F (out.set a l)) < f) (fun i _ => LS.length - (intOf i).toNat)
      case atStart => exact ⟨0, Nat.zero_le _, rfl, HS.out, HT.out, by simp; exact HLEN.out, HN0.out⟩
      case round =>
        obtain ⟨k, hk, rfl, hvk, htk, hlk, hnk⟩ := hrel
        have HVK := Lib.hid hvk
        have HTK := Lib.hid htk
        have HLK := Lib.hid (And.intro hlk hnk)
        by_cases hlt : k < LS.length
        · have hrow := hvk.m.row a HA.out
          rw [HRV.out, HLS.out] at hrow
          obtain ⟨x, hx⟩ : ∃ x, LS[k]? = some x := ⟨_, List.getElem?_eq_getElem hlt⟩
          have hxl : x < n := HLD.out x (List.mem_of_getElem? hx)
          have hxc : (natCells LS)[k]? = some (.int .i64 (x : Int)) := by unfold natCells; rw [List.getElem?_map, hx]; rfl
          obtain ⟨g2, hg2, cg2, _⟩ := wrow_cell hrow hxc
          subst hg2
          have cv := (cell_of hvk.v 0).trans rfl
          have VI := Lib.hid (IH.out _ x wr hlk hxl hnk hvk)
          have HF1 : Hid ((LS.take (k + 1)).foldl F (out.set a l) = vis ps f ((LS.take k).foldl F (out.set a l)) x l) := Lib.hid (by
            rw [List.take_add_one, hx, List.foldl_append]
            simp only [Option.toList, List.foldl_cons, List.foldl_nil]
            rw [← HF.out])
          have HOK := Lib.hid (vis_ok ps n HPS.out l (by omega) f _ x hlk hxl hnk).1
          have eg := EN.out
          clear hvk htk hlk hnk hrow hx hxc
          clear LK cl c0 cg fg
          go_wp2_with fail
          refine VI.out.mono ?_
          rintro e w9 ⟨rfl, hv9, ht9⟩
          have HV9 := Lib.hid hv9
          have HT9 := Lib.hid ht9
          clear hv9 ht9
          go_wp2_with fail
          go_round
          case rel => exact ⟨k + 1, by omega, by go_num, by rw [HF1.out]; exact HV9.out, HTK.out.trans HT9.out (fun j hj => Or.inl hj), by rw [HF1.out]; exact HOK.out.len.trans HLK.out.1, by rw [HF1.out]; exact Nat.lt_of_le_of_lt (HOK.out.negs n) HLK.out.2⟩
          case measure => simp [intOf]; omega
        · obtain rfl : k = LS.length := by omega
          clear hvk htk hlk hnk hlt hk
          go_wp2_with fail
          go_end0
          exact ⟨rfl, by rw [HE.out]; have := HVK.out; rwa [List.take_length] at this, HTK.out⟩

end Go.Proofs.Ytclpkmplifcfjaa
