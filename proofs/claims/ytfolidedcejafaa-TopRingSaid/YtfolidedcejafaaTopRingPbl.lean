/-
  Write of a ring: what it gives. Conditions: numbers in their bounds; the ring's blocks are not the book's.
-/
import Derived.Test.YtfolidedcejafaaTopRingPbk
namespace Go.Proofs.Ytfolidedcejafaa
open Go.RowKit

/-- Behind Write: refused, and all stays (W0); or taken. -/
def WritePost (F : Nat → Prop) (r bp : Nat) (o k s m : Int) (g : Option Nat) (R : Nat) (cs : List Int) (rst rlen : Nat) (bst : BookSt) (l h ls : Int) (N : Nat) (zs : List Int) (w : World) : Ending → World → Prop := fun e w' =>
  (∃ err : Int, err ≠ 0 ∧ e = .returned (.tuple #[.bool false, .int .i64 err]) ∧ ringAt w' r bp o k s m (memOf g R) rst rlen ∧ Touch F w w' ∧ ∃ G : Nat → Prop, BookAt w' G bp bst N ∧ (∀ k, G k → F k ∨ w.heap.size ≤ k) ∧ ¬ G r ∧ (err = wantsE k s m R rlen zs.length ∨ wantsE k s m R rlen zs.length = 0 ∧ ∃ V : Nat, wantsV k s m R rlen zs.length = (V : Int) ∧ V ≠ R ∧ err = changeE bst l h ls R V)) ∨
  (wantsE k s m R rlen zs.length = 0 ∧ wantsV k s m R rlen zs.length = R ∧ e = .returned (.tuple #[.bool false, .int .i64 0]) ∧ ringAt w' r bp o k s m (memOf g R) rst (rlen + zs.length : Nat) ∧
    memRow w' g R (putL cs (cellN rst R rlen) zs) ∧ Touch (fun k => k = r ∨ g = some k) w w') ∨
  (∃ V : Nat, wantsE k s m R rlen zs.length = 0 ∧ wantsV k s m R rlen zs.length = (V : Int) ∧ V ≠ R ∧ changeE bst l h ls R V = 0 ∧ e = .returned (.tuple #[.bool true, .int .i64 0]) ∧
    ∃ (g' : Nat) (G : Nat → Prop), w.heap.size ≤ g' ∧ ¬ G g' ∧ ¬ G r ∧ (∀ k, G k → F k ∨ w.heap.size ≤ k) ∧ BookAt w' G bp (changeSt bst o l h ls R V) N ∧ ringAt w' r bp o k s m (memOf (some g') V) 0 (rlen + zs.length : Nat) ∧
      byteRow w' g' (putL (octL cs (cellN rst R 0) rlen ++ zeros (V - rlen)) (cellN 0 V rlen) zs) ∧ Touch (fun k => F k ∨ k = r) w w')


set_option maxHeartbeats 2000000 in
set_option maxRecDepth 100000 in
theorem write_any (r bp : Nat) (o k s m : Int) (g : Option Nat) (R : Nat) (cs : List Int) (rst rlen : Nat) (v : Value) (zs : List Int) (w : World) (F : Nat → Prop) (bst : BookSt) (N : Nat) (l h ls : Int)
    (hr : ringAt w r bp o k s m (memOf g R) rst rlen) (hm : memRow w g R cs) (hR : R ≤ 100000) (hst : rst ≤ 100000) (hrl : rlen ≤ R) (hp : polErr k s m = 0) (hv : Reads w .u8 v zs) (hn : zs.length ≤ 140737488351232) (hne : g ≠ none ∨ zs ≠ []) (hb : BookAt w F bp bst N) (hs : Sound bst o l h ls) (hF : ¬ F r) :
    Calls Try.prog 25 #[.pointer (some ⟨r, 0, none⟩), v] w (WritePost F r bp o k s m g R cs rst rlen bst l h ls N zs w) := by
  have HR := Lib.hid hr
  have HM := Lib.hid hm
  have HB := Lib.hid hb
  have HS := Lib.hid hs
  have HF := Lib.hid hF
  have HPO := Lib.hid hp
  have HNE := Lib.hid hne
  have HC := Lib.hid (clone_byte v zs w hv (by omega))
  have rlt := lt_of hr
  obtain ⟨a0, c0, rfl, _, _⟩ := hv
  clear hr hm hb hs hF hp hne
  go_enter Try.func25, Try.ntmps25
  go_wp2_with fail
  refine HC.out.mono ?_
  rintro e w1 ⟨pv, rfl, po, hb1⟩
  have R1 : ringAt w1 r bp o k s m (memOf g R) rst rlen := (hb1.block r rlt).trans HR.out
  have M1 : memRow w1 g R cs := HM.out.keep (fun b hb => hb1.block b (by have := HM.out.2; rw [hb] at this; exact lt_of this))
  have K1 : BookAt w1 (fun k => F k ∧ k < w.heap.size) bp bst N := HB.out.narrow.same (fun k hk _ => hb1.block k hk.2)
  have HRES := Lib.hid (reserve_any r bp o k s m g R cs rst rlen zs.length w1 (fun k => F k ∧ k < w.heap.size) bst N l h ls R1 M1 hR hst hrl HPO.out (by omega) K1 HS.out (fun x => HF.out x.1))
  have PO := Lib.hid po
  have HB1 := Lib.hid hb1
  have HR1 := Lib.hid R1
  have HK1 := Lib.hid K1
  have HM1 := Lib.hid M1
  have RV := Lib.hid (Reads.own po (by omega))
  obtain ⟨pa, pc, rfl, hp1, hp2⟩ := ownsRow_lt2 po
  clear po hb1 R1 K1 M1
  go_wp2_with fail
  refine HRES.out.mono ?_
  intro e w2 hres
  rcases hres with ⟨hA, rfl, hb2⟩ | ⟨hE, V, hV, hVR, rfl, hmv⟩
  · by_cases hE : wantsE k s m R rlen zs.length = 0
    · have hVR : wantsV k s m R rlen zs.length = R := hA.resolve_left (fun x => x hE)
      have HVR := Lib.hid hVR
      have HEE := Lib.hid hE
      obtain ⟨_, V', hV', _, hNV, _⟩ := wants_ok HPO.out hR hE
      have hNR : rlen + zs.length ≤ R := by rw [hVR] at hV'; omega
      obtain ⟨b, rfl⟩ : ∃ b, g = some b := by
        cases hg : g with
        | some b => exact ⟨b, rfl⟩
        | none =>
          have h0 := HM.out.nil hg
          rcases HNE.out with x | x
          · exact absurd hg x
          · exact absurd (List.eq_nil_of_length_eq_zero (by omega)) x
      have s1 := HB1.out.size
      have hrow1 : byteRow w b cs := HM.out.2
      have blt := lt_of hrow1
      have B2 := Lib.hid (HB1.out.trans (hb2.mono HB1.out.size))
      have hr2 : ringAt w2 r bp o k s m (memOf (some b) R) rst rlen := (B2.out.block r rlt).trans HR.out
      have hrow2 : byteRow w2 b cs := (B2.out.block b blt).trans hrow1
      have HR2 := Lib.hid hr2
      have HROW := Lib.hid hrow2
      have HRV2 := Lib.hid (RV.out.below hb2 rfl)
      have HOA : Hid (OwnAt (.slice pa zs.length pc) zs.length b) := Lib.hid (OwnAt.of PO.out blt)
      have hbr : b ≠ r := by
        rintro rfl
        have h1 := HR.out
        unfold ringAt at h1
        unfold byteRow at hrow1
        rw [hrow1] at h1
        simp at h1
      have HBR := Lib.hid hbr
      have c8 : w2.cell? ⟨r, 8, none⟩ = some (.int .i64 rlen) := by rw [cell_of hr2]; rfl
      have HCE := Lib.hid (cell_any r bp o k s m (some b) R rst rlen rlen w2 hr2 (by omega) (by omega) (by omega))
      have hcn : (if R = 0 then (0 : Int) else ((rst : Int) + rlen) % R) = (cellN rst R rlen : Int) := by
        unfold cellN; split <;> simp
      have HCN := Lib.hid hcn
      have hcl := cellN_le rst R rlen
      have HPL := Lib.hid HM.out.1
      rw [hE]
      clear hA hb2 hE hVR hV' hrow1 hr2 hrow2 hcn
      generalize hcc : cellN rst R rlen = cc at *
      have HCC := Lib.hid hcc
      clear hcc
      go_wp2_with fail
      refine HCE.out.mono ?_
      rintro e w3 ⟨rfl, q, rfl⟩
      rw [HCN.out]
      go_wp2_with fail
      refine (put_any r bp o k s m b R cs rst rlen cc _ zs (w2.drewN q) HR2.out HROW.out HPL.out (by omega) hcl (HRV2.out.drewN q) (by omega) HOA.out).mono ?_
      rintro e w4 ⟨rfl, hrow4, ht4⟩
      have R4 : w4.heap[r]? = some (.cells (ringCells bp o k s m (memOf (some b) R) rst rlen) 109 (0, 0)) := (ht4.block r (lt_of HR2.out) (fun e => HBR.out e.symm)).trans HR2.out
      have d8 : w4.cell? ⟨r, 8, none⟩ = some (.int .i64 rlen) := by rw [cell_of R4]; rfl
      have f8 : w4.frozen? ⟨r, 8, none⟩ = false := free_of R4 8
      have HR4 := Lib.hid R4
      have HROW4 := Lib.hid hrow4
      have HT4 := Lib.hid ht4
      clear R4 hrow4 ht4
      go_wp2_with fail
      go_ret2
      have e8 : ((rlen + zs.length : Nat) : Int) = (rlen : Int) + zs.length := by simp
      refine Or.inr (Or.inl ⟨HEE.out, HVR.out, rfl, ?_, ⟨?_, ?_⟩, ?_⟩)
      · unfold ringAt
        rw [e8, block_setCell HR4.out]; rfl
      · rw [HCC.out, putL_len _ _ _ (by rw [HPL.out]; exact hcl) (by rw [HPL.out]; omega)]; exact HPL.out
      · rw [HCC.out]
        exact (Below.heap_setCell _ _ _ b HBR.out).trans HROW4.out
      · have T1 : Touch (fun k => k = r ∨ some b = some k) w w2 := Touch.of_below B2.out
        have T2 := (T1.drewN q).then (HT4.out.mono (fun k hk => Or.inr (by rw [hk])))
        exact T2.setCell (p := ⟨r, 8, none⟩) (Or.inl (Or.inl rfl)) _
    · have HE := Lib.hid hE
      have B2 := Lib.hid (HB1.out.trans (hb2.mono HB1.out.size))
      have R2 := Lib.hid ((hb2.block r (lt_of HR1.out)).trans HR1.out)
      have K2 := Lib.hid (HK1.out.same (Below.same_on hb2))
      clear hA hb2
      generalize hEE : wantsE k s m R rlen zs.length = E at *
      have HEQ := Lib.hid hEE
      clear hEE
      have hE' : (E == 0) = false := by simpa using hE
      go_wp2_with fail
      go_ret2
      exact Or.inl ⟨E, HE.out, rfl, R2.out, Touch.of_below B2.out, _, K2.out, fun k hk => Or.inl hk.1, fun x => HF.out x.1, Or.inl HEQ.out.symm⟩
  · have HEW := Lib.hid hE
    obtain ⟨_, G, hG1, hG2, hG3, hG4⟩ := hmv
    by_cases hE0 : changeE bst l h ls R V = 0
    · rcases hG4 with ⟨x, _⟩ | ⟨_, g', hg', hGg, hr2, hrow, ht2⟩
      · exact absurd hE0 x
      · have ol : (octL cs (cellN rst R 0) rlen).length = rlen := octL_len _ _ _ (by rw [HM.out.1]; exact cellN_le _ _ _) (by rw [HM.out.1]; exact hrl)
        rw [ol] at hr2 hrow
        obtain ⟨_, V', hV', _, hNV, hV2⟩ := wants_ok HPO.out hR hE
        obtain rfl : V' = V := by rw [hV] at hV'; omega
        have hpb : ∀ b, (Value.slice pa zs.length pc).ownBlock = some b → w.heap.size ≤ b ∧ b < w1.heap.size := fun b hb => by
          obtain ⟨cur, h1⟩ := row_block PO.out hb
          exact ⟨row_base2 PO.out hb, lt_of h1⟩
        have s1 := HB1.out.size
        have OA : OwnAt (.slice pa zs.length pc) zs.length g' := by
          rcases PO.out.2 with ⟨x, x0⟩ | ⟨b, cap, cur, x, hb, hh, h1, h2, _⟩
          · exact Or.inl ⟨x, x0⟩
          · have := (hpb b (by rw [x]; rfl)).2
            exact Or.inr ⟨b, cap, x, by omega, h1, h2⟩
        have RV2 : Reads w2 .u8 (.slice pa zs.length pc) zs := RV.out.touch ht2 (fun b o' n' c e => by
          rcases PO.out.2 with ⟨x, x0⟩ | ⟨b', cap, cur, x, hb', hh, h1, h2, _⟩
          · rw [x] at e; cases e
          · have hh2 := hpb b' (by rw [x]; rfl)
            rw [x] at e
            simp only [Value.slice.injEq, Option.some.injEq, Addr.mk.injEq] at e
            rintro (y | y)
            · have := y.2; omega
            · omega)
        have HR2 := Lib.hid hr2
        have HROW := Lib.hid hrow
        have HRV2 := Lib.hid RV2
        have HOA := Lib.hid OA
        have HGG := Lib.hid hGg
        have HG1 := Lib.hid hG1
        have HG2 := Lib.hid hG2
        have HG3 := Lib.hid hG3
        have HT2 := Lib.hid ht2
        have HVV := Lib.hid hV
        have HVR := Lib.hid hVR
        have HE0 := Lib.hid hE0
        have hgr : g' ≠ r := by omega
        have HGR := Lib.hid hgr
        have c8 : w2.cell? ⟨r, 8, none⟩ = some (.int .i64 rlen) := by rw [cell_of hr2]; rfl
        have HCE := Lib.hid (cell_any r bp o k s m (some g') V' 0 rlen rlen w2 hr2 (by omega) (by omega) (by omega))
        have hcn : (if V' = 0 then (0 : Int) else ((0 : Int) + rlen) % V') = (cellN 0 V' rlen : Int) := by
          unfold cellN; split <;> simp
        have HCN := Lib.hid hcn
        have hcl := cellN_le 0 V' rlen
        have HPL : Hid ((octL cs (cellN rst R 0) rlen ++ zeros (V' - rlen)).length = V') := Lib.hid (by rw [List.length_append, ol]; simp [zeros]; omega)
        rw [hE0]
        clear hG1 hG2 hG3 hGg hr2 hrow ht2 RV2 OA hpb hV hV' hE hcn ol hE0
        generalize hcc : cellN 0 V' rlen = cc at *
        have HCC := Lib.hid hcc
        clear hcc
        go_wp2_with fail
        refine HCE.out.mono ?_
        rintro e w3 ⟨rfl, q, rfl⟩
        rw [HCN.out]
        go_wp2_with fail
        refine (put_any r bp o k s m g' V' _ 0 rlen cc _ zs (w2.drewN q) HR2.out HROW.out HPL.out (by omega) hcl (HRV2.out.drewN q) (by omega) HOA.out).mono ?_
        rintro e w4 ⟨rfl, hrow4, ht4⟩
        have R4 : w4.heap[r]? = some (.cells (ringCells bp o k s m (memOf (some g') V') 0 rlen) 109 (0, 0)) := (ht4.block r (lt_of HR2.out) (fun e => HGR.out e.symm)).trans HR2.out
        have d8 : w4.cell? ⟨r, 8, none⟩ = some (.int .i64 rlen) := by rw [cell_of R4]; rfl
        have f8 : w4.frozen? ⟨r, 8, none⟩ = false := free_of R4 8
        have HR4 := Lib.hid R4
        have HROW4 := Lib.hid hrow4
        have HT4 := Lib.hid ht4
        clear R4 hrow4 ht4
        go_wp2_with fail
        go_ret2
        have e8 : ((rlen + zs.length : Nat) : Int) = (rlen : Int) + zs.length := by simp
        refine Or.inr (Or.inr ⟨V', HEW.out, HVV.out, HVR.out, HE0.out, rfl, g', G, Nat.le_trans s1 hg', HGG.out, HG3.out, fun k hk => (HG2.out k hk).imp (fun x => x.1) (fun x => Nat.le_trans s1 x), ?_, ?_, ?_, ?_⟩)
        · exact HG1.out.same (fun k hk hlt => by
            have hkr : k ≠ r := fun e => HG3.out (e ▸ hk)
            exact (Below.heap_setCell _ _ _ k hkr).trans (HT4.out.block k hlt (fun e => HGG.out (e ▸ hk))))
        · unfold ringAt
          rw [e8, block_setCell HR4.out]; rfl
        · rw [HCC.out]
          exact (Below.heap_setCell _ _ _ g' HGR.out).trans HROW4.out
        · have T1 : Touch (fun k => F k ∨ k = r) w w2 := (Touch.of_below HB1.out).then (HT2.out.mono (fun k hk => hk.imp (fun x => x.1) id))
          have T2 := (T1.drewN q).trans HT4.out (fun i hi => Or.inr (by rw [hi]; omega))
          exact T2.setCell (p := ⟨r, 8, none⟩) (Or.inl (Or.inr rfl)) _
    · rcases hG4 with ⟨_, hr2, ht2⟩ | ⟨x, _⟩
      · have HE0 := Lib.hid hE0
        rw [show changeSt bst o l h ls R V = bst from if_neg (fun x => hE0 x.1)] at hG1
        have HG1 := Lib.hid hG1
        have HG2 := Lib.hid hG2
        have HG3 := Lib.hid hG3
        have HR2 := Lib.hid hr2
        have HT2 := Lib.hid ht2
        have HVV := Lib.hid hV
        have HVR := Lib.hid hVR
        generalize hEE : changeE bst l h ls R V = E at *
        have HEQ := Lib.hid hEE
        have hd : decide (E = 0) = false := by simpa using hE0
        have hd2 : (E == 0) = false := by simpa using hE0
        clear hG1 hG2 hG3 hr2 ht2 hEE hV hVR hE
        go_wp2_with fail
        go_ret2
        exact Or.inl ⟨E, HE0.out, rfl, HR2.out, (Touch.of_below HB1.out).then (HT2.out.mono (fun _ x => x.1)), G, HG1.out, fun k hk => (HG2.out k hk).imp (fun x => x.1) (fun x => Nat.le_trans HB1.out.size x), HG3.out, Or.inr ⟨HEW.out, V, HVV.out, HVR.out, HEQ.out.symm⟩⟩
      · exact absurd x hE0

end Go.Proofs.Ytfolidedcejafaa
