/-
  move of a ring: what it gives. Conditions: numbers in their bounds; the ring's blocks are not the book's.
-/
import Derived.Test.YtfolidedcejafaaTopRingPav
import Derived.Deep.RegionWith
import Derived.Deep.Cut
namespace Go.Proofs.Ytfolidedcejafaa
open Go.RowKit

theorem BookAt.narrow {w : World} {F : Nat → Prop} {p : Nat} {st : BookSt} {N : Nat} (h : BookAt w F p st N) : BookAt w (fun k => F k ∧ k < w.heap.size) p st N := by
  obtain ⟨mb, blk, lv, ev, D, hm⟩ := h
  refine ⟨mb, blk, lv, ev, D, ⟨hm.self, ⟨hm.fp, lt_of hm.self⟩, hm.map, ⟨hm.fmap, hm.map.lt⟩, hm.look, hm.anone, ?_, hm.inj, hm.lrow, ?_, hm.erow, ?_⟩⟩
  · intro o b hb
    obtain ⟨l, h, s, h1, h2, h3⟩ := hm.asome o b hb
    exact ⟨l, h, s, h1, h2, h3, lt_of h2⟩
  · intro k hk
    obtain ⟨cur, h1⟩ := row_block hm.lrow hk
    exact ⟨hm.flea k hk, lt_of h1⟩
  · intro k hk
    obtain ⟨cur, h1⟩ := row_block hm.erow hk
    exact ⟨hm.fent k hk, lt_of h1⟩

/-- What an account has, and the book's numbers, in their bounds. -/
structure Sound (st : BookSt) (o l h s : Int) : Prop where
  acc : st.acc o = some (l, h, s)
  ow : 1 ≤ o ∧ o ≤ 40
  l0 : 0 ≤ l ∧ l ≤ 1000000000
  h0 : 0 ≤ h ∧ h ≤ 1000000000
  s0 : 0 ≤ s ∧ s ≤ 1000000000
  b0 : 0 ≤ st.budget ∧ st.budget ≤ 1000000000
  t0 : 0 ≤ st.total ∧ st.total ≤ 1000000000
  en : st.entries.length ≤ 10000

def MovePost (F : Nat → Prop) (r bp : Nat) (o k s m : Int) (g : Option Nat) (R : Nat) (rst rlen : Int) (bst : BookSt) (l h ls : Int) (N size : Nat) (zs : List Int) (w : World) : Ending → World → Prop := fun e w' =>
  e = .returned (.int .i64 (changeE bst l h ls R size)) ∧ ∃ G : Nat → Prop, BookAt w' G bp (changeSt bst o l h ls R size) N ∧ (∀ k, G k → F k ∨ w.heap.size ≤ k) ∧ ¬ G r ∧
    ((changeE bst l h ls R size ≠ 0 ∧ ringAt w' r bp o k s m (memOf g R) rst rlen ∧ Touch F w w') ∨
     (changeE bst l h ls R size = 0 ∧ ∃ g', w.heap.size ≤ g' ∧ ¬ G g' ∧ ringAt w' r bp o k s m (memOf (some g') size) 0 zs.length ∧ byteRow w' g' (zs ++ zeros (size - zs.length)) ∧ Touch (fun k => F k ∨ k = r) w w'))

theorem copy_fact (w : World) (g size : Nat) (sp : Option Addr) (n sCap : Nat) (cur cs : List Value) (hg : w.heap[g]? = some (.cells cur.toArray 5 (0, 0))) (hn : cs.length = Nat.min n size) (hnn : cs.length = n)
    (hpos : 0 < cs.length → ∃ ad, sp = some ad ∧ ∀ j v, cs[j]? = some v → w.cell? (ad.add j) = some v) (hfit : 0 + cs.length ≤ cur.length) (h1 : ∀ v ∈ cs, v.oneCell' = true) :
    ∃ w', (Builtin.copy_ #[46, 46] 3 #[.slice (some ⟨g, 0, none⟩) size size, .slice sp n sCap]).run Try.prog w = .ok (.int .i64 n) w' ∧ w'.heap[g]? = some (.cells (splice cur 0 cs).toArray 5 (0, 0)) ∧ Touch (fun k => k = g) w w' := by
  by_cases h0 : cs.length = 0
  · obtain rfl : cs = [] := List.eq_nil_of_length_eq_zero h0
    have hrun := run_copy_none (P := Try.prog) w 46 46 3 5 (some ⟨g, 0, none⟩) sp size size n sCap Try.underlying46 byteSize (by simpa using hn.symm)
    refine ⟨w, ?_, by simpa [splice] using hg, Touch.refl _ _⟩
    rw [hrun]
    simp at hnn
    rw [← hnn]
    rfl
  · obtain ⟨ad, rfl, hsrc⟩ := hpos (by omega)
    have hrun := run_copy_row (P := Try.prog) w 46 46 3 5 g 0 size size ad n sCap cur.toArray 5 cs Try.underlying46 byteSize hg hn hsrc (by simpa using hfit) h1
    refine ⟨w.setRow g (cur.toArray.toList.take 0 ++ (cs ++ cur.toArray.toList.drop (0 + cs.length))).toArray, ?_, by simpa [splice] using setRow_heap w g _ (cs ++ List.drop cs.length cur).toArray 5 _ hg, ⟨rfl, rfl, rfl, by simp [World.setRow], fun k _ hk => setRow_other w g k _ hk⟩⟩
    rw [hrun, hnn]
    rfl

set_option maxHeartbeats 2000000 in
set_option maxRecDepth 100000 in
theorem move_any (r bp : Nat) (o k s m : Int) (g : Option Nat) (R : Nat) (rst rlen : Int) (size : Nat) (v : Value) (zs : List Int) (w : World) (F : Nat → Prop) (bst : BookSt) (N : Nat) (l h ls : Int)
    (hr : ringAt w r bp o k s m (memOf g R) rst rlen) (hR : R ≤ 100000) (hsz : size ≤ 100000) (hb : BookAt w F bp bst N) (hs : Sound bst o l h ls) (hF : ¬ F r) (hv : Reads w .u8 v zs) (hvF : ∀ b o' n c, v = .slice (some ⟨b, o', none⟩) n c → ¬ F b ∧ b ≠ r) (hzs : zs.length ≤ size) :
    Calls Try.prog 72 #[.pointer (some ⟨r, 0, none⟩), .int .i64 size, v] w (MovePost F r bp o k s m g R rst rlen bst l h ls N size zs w) := by
  obtain ⟨a, ha, _, _⟩ := memOf_sh g R
  have c0 : w.cell? ⟨r, 0, none⟩ = some (.pointer (some ⟨bp, 0, none⟩)) := by rw [cell_of hr]; rfl
  have c1 : w.cell? ⟨r, 1, none⟩ = some (.int .i64 o) := by rw [cell_of hr]; rfl
  have c6 : w.cell? ⟨r, 6, none⟩ = some (.slice a R R) := by rw [cell_of hr]; rw [← ha]; rfl
  have CH := change_any bp o R size l h ls w.drew F bst N (hb.same (Below.same_on ((Below.refl _ _).drew))) hs.acc hs.ow (by omega) (by omega) hs.l0 hs.h0 hs.s0 hs.b0 hs.t0 hs.en
  have HCH := Lib.hid CH
  have HR := Lib.hid hr
  have HV := Lib.hid hv
  have HVF := Lib.hid hvF
  have HF := Lib.hid hF
  have rlt := lt_of hr
  obtain ⟨pa, pc, rfl, _, _⟩ := hv
  clear CH hr hb ha hvF hF
  go_enter Try.func72, Try.ntmps72
  go_wp2_with fail
  go_region_with ((go_at_call 79; refine HCH.out.mono ?_; rintro e w2 ⟨rfl, hb2, ht2⟩))
  all_goals
    have XT : Touch F w w2 := ((Touch.refl F w).drew).then ht2
    have R2 : Hid (ringAt w2 r bp o k s m (memOf g R) rst rlen) := Lib.hid ((XT.block r rlt HF.out).trans HR.out)
    have hbN := hb2.narrow
    have HBN := Lib.hid hbN
    have NG : ¬ ((F r ∨ w.drew.heap.size ≤ r) ∧ r < w2.heap.size) := fun h => h.1.elim HF.out (fun x => absurd (show w.heap.size ≤ r from x) (by omega))
    have HNG := Lib.hid NG
    have HXT := Lib.hid XT
    have sz2 := XT.size
    have V2 := Lib.hid (HV.out.touch XT (fun b o' n c e => (HVF.out b o' n c e).1))
    clear hb2 ht2 XT hbN NG
    by_cases e0 : changeE bst l h ls R size = 0
    case neg =>
      have HE0 := Lib.hid e0
      have e0' : (changeE bst l h ls R size == 0) = false := by simpa using e0
      go_wp2_with fail
      go_ret
      exact ⟨rfl, _, HBN.out, fun k hk => hk.1, HNG.out, Or.inl ⟨HE0.out, R2.out, HXT.out⟩⟩
    case pos =>
      have HE0 := Lib.hid e0
      rw [e0]
      have r2lt := lt_of R2.out
      clear e0
      go_wp2_with fail
      refine (made_any size size w2).mono ?_
      intro e w3 hp
      rcases hp with ⟨_, rfl, rfl⟩ | ⟨h2, _⟩
      case inr =>
        unfold madeE at h2
        rw [if_pos ⟨by omega, by omega⟩] at h2
        omega
      have G3 : Hid ((w2.alloc (.cells ((zeros ((size : Int).toNat)).map (Value.int .u8)).toArray 5)).heap[w2.heap.size]? = some (.cells ((zeros size).map (Value.int .u8)).toArray 5 (0, 0))) := Lib.hid (heap_alloc_new w2 _)
      have R3 : Hid ((w2.alloc (.cells ((zeros ((size : Int).toNat)).map (Value.int .u8)).toArray 5)).heap[r]? = some (.cells (ringCells bp o k s m (memOf g R) rst rlen) 109 (0, 0))) := Lib.hid ((heap_alloc_old _ _ r2lt).trans R2.out)
      have V3 := Lib.hid (V2.out.below (w' := w2.alloc (.cells ((zeros ((size : Int).toNat)).map (Value.int .u8)).toArray 5)) ((Below.refl _ _).alloc (Nat.le_refl _) _) rfl)
      have T3 := Lib.hid (HXT.out.alloc (.cells ((zeros ((size : Int).toNat)).map (Value.int .u8)).toArray 5))
      have B3 : Hid (BookAt (w2.alloc (.cells ((zeros ((size : Int).toNat)).map (Value.int .u8)).toArray 5)) (fun k => (F k ∨ w.drew.heap.size ≤ k) ∧ k < w2.heap.size) bp (changeSt bst o l h ls R size) N) := Lib.hid (HBN.out.same (Below.same_on ((Below.refl _ _).alloc (Nat.le_refl _) _)))
      have g2 : w2.heap.size ≠ r := by omega
      have HG2 := Lib.hid g2
      clear R2 HBN V2 HXT
      generalize w2.alloc (.cells ((zeros ((size : Int).toNat)).map (Value.int .u8)).toArray 5) = w3 at *
      have d6 : w3.cell? ⟨r, 6, none⟩ = some (memOf g R) := by rw [cell_of R3.out]; rfl
      have f6 : ∀ j, w3.frozen? ⟨r, j, none⟩ = false := fun j => free_of R3.out j
      generalize w2.heap.size = g' at *
      have G4 : Hid ((w3.setCell ⟨r, 6, none⟩ (.slice (some ⟨g', 0, none⟩) size size)).heap[g']? = some (.cells ((zeros size).map (Value.int .u8)).toArray 5 (0, 0))) := Lib.hid ((Below.heap_setCell _ _ _ g' HG2.out).trans G3.out)
      have R4 : Hid ((w3.setCell ⟨r, 6, none⟩ (.slice (some ⟨g', 0, none⟩) size size)).heap[r]? = some (.cells (ringCells bp o k s m (.slice (some ⟨g', 0, none⟩) size size) rst rlen) 109 (0, 0))) := Lib.hid (by rw [block_setCell R3.out]; rfl)
      have V4 := Lib.hid (V3.out.touch ((Touch.refl (fun k => k = r) w3).setCell (p := ⟨r, 6, none⟩) (Or.inl rfl) (.slice (some ⟨g', 0, none⟩) size size)) (fun b o' n c e => (HVF.out b o' n c e).2))
      have HN : Hid ((zs.map (Value.int .u8)).length = Nat.min zs.length size) := Lib.hid (by rw [List.length_map]; exact (Nat.min_eq_left hzs).symm)
      have HPO : Hid (0 < (zs.map (Value.int .u8)).length → (some ⟨g', 0, none⟩ : Option Addr) = some ⟨g', 0, none⟩ ∧ ∃ ad, pa = some ad ∧ ∀ j v, (zs.map (Value.int .u8))[j]? = some v → (w3.setCell ⟨r, 6, none⟩ (.slice (some ⟨g', 0, none⟩) size size)).cell? (ad.add j) = some v) := Lib.hid (fun h0 => ⟨rfl, V4.out.src rfl h0⟩)
      have HFI : Hid (0 + (zs.map (Value.int .u8)).length ≤ ((zeros size).map (Value.int .u8)).length) := Lib.hid (by simp [zeros]; omega)
      have H1 : Hid (∀ v ∈ zs.map (Value.int .u8), v.oneCell' = true) := Lib.hid (by intro v hv; obtain ⟨z, _, rfl⟩ := List.mem_map.1 hv; rfl)
      have d6' : (w3.setCell ⟨r, 6, none⟩ (.slice (some ⟨g', 0, none⟩) size size)).cell? ⟨r, 6, none⟩ = some (.slice (some ⟨g', 0, none⟩) size size) := by rw [cell_of R4.out]; rfl
      obtain ⟨w5, CPY, hg5, ht5⟩ := copy_fact (w3.setCell ⟨r, 6, none⟩ (.slice (some ⟨g', 0, none⟩) size size)) g' size pa zs.length pc ((zeros size).map (Value.int .u8)) (zs.map (Value.int .u8)) G4.out HN.out (by simp) (fun h0 => (HPO.out h0).2) HFI.out H1.out
      rw [splice_zeros] at hg5
      have G5 : Hid (byteRow w5 g' (zs ++ zeros (size - zs.length))) := Lib.hid hg5
      have R5 := Lib.hid ((ht5.block r (by simpa [World.setCell] using lt_of R3.out) (fun e => HG2.out e.symm)).trans R4.out)
      have Ta : Touch (fun k => F k ∨ k = r) w w3 := T3.out.mono (fun _ h => Or.inl h)
      have Tb := Ta.setCell (p := ⟨r, 6, none⟩) (Or.inl (Or.inr rfl)) (.slice (some ⟨g', 0, none⟩) size size)
      have T5 := Lib.hid (Tb.trans ht5 (fun i hi => Or.inr (by rw [hi]; exact sz2)))
      clear Ta Tb
      have B5 : Hid (BookAt w5 (fun k => (F k ∨ w.drew.heap.size ≤ k) ∧ k < g') bp (changeSt bst o l h ls R size) N) := Lib.hid (B3.out.same (fun k hk hlt => by
        have hkr : k ≠ r := fun e => HNG.out (e ▸ hk)
        have h1 := ht5.block k (by simpa [World.setCell] using hlt) (fun e => by have := hk.2; omega)
        exact h1.trans (Below.heap_setCell _ _ _ k hkr)))
      have e7 : w5.cell? ⟨r, 7, none⟩ = some (.int .i64 rst) := by rw [cell_of R5.out]; rfl
      have e8 : w5.cell? ⟨r, 8, none⟩ = some (.int .i64 rlen) := by rw [cell_of R5.out]; rfl
      have f5 : ∀ j, w5.frozen? ⟨r, j, none⟩ = false := fun j => free_of R5.out j
      have ne7 : ∀ (W : World) (u : Value), (W.setCell ⟨r, 7, none⟩ u).cell? ⟨r, 8, none⟩ = W.cell? ⟨r, 8, none⟩ := fun W u => World.cell?_setCell_other _ _ _ _ (by simp)
      clear hg5 ht5 HN HPO HFI H1 V4 V3 G4 R4 G3 R3
      go_wp2_with fail
      go_ret
      refine ⟨by rw [HE0.out]; rfl, fun k => (F k ∨ w.drew.heap.size ≤ k) ∧ k < g', ?_, fun k hk => hk.1, HNG.out, Or.inr ⟨HE0.out, g', sz2, fun h => absurd h.2 (by omega), ?_, ?_, ?_⟩⟩
      · exact B5.out.same (fun k hk hlt => by
          have hkr : k ≠ r := fun e => HNG.out (e ▸ hk)
          exact (Below.heap_setCell _ _ _ k hkr).trans (Below.heap_setCell _ _ _ k hkr))
      · show _ = _
        rw [block_setCell (block_setCell R5.out 7 _) 8 _]; rfl
      · exact (Below.heap_setCell _ _ _ g' HG2.out).trans ((Below.heap_setCell _ _ _ g' HG2.out).trans G5.out)
      · exact (T5.out.setCell (p := ⟨r, 7, none⟩) (Or.inl (Or.inr rfl)) _).setCell (p := ⟨r, 8, none⟩) (Or.inl (Or.inr rfl)) _

end Go.Proofs.Ytfolidedcejafaa
