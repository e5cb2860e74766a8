/-
  Replace: what it gives for a policy that is right and a slice of the call's own. No conditions beyond the theorems' own.
-/
import Derived.Test.YtidfidknflcioaaTopRopePap
namespace Go.Proofs.Ytidfidknflcioaa
open Go.RowKit

theorem Reads.touch {F : Nat → Prop} {w w' : World} {k : IntKind} {v : Value} {zs : List Int} (h : Reads w k v zs) (ht : Touch F w w') (hF : ∀ b o n c, v = .slice (some ⟨b, o, none⟩) n c → ¬ F b) : Reads w' k v zs := by
  obtain ⟨a, cap, rfl, hl, hc⟩ := h
  refine ⟨a, cap, rfl, hl, fun hne => ?_⟩
  obtain ⟨b, o, rfl, h1⟩ := hc hne
  refine ⟨b, o, rfl, fun j hj => ?_⟩
  have h2 := h1 j hj
  have hb : b < w.heap.size := World.block_lt_of_cell? w ⟨b, o + j, none⟩ h2
  have h3 := ht.block b hb (hF b o _ _ rfl)
  unfold World.cell? at h2 ⊢
  rw [h3]
  exact h2

theorem Reads.take {w : World} {k : IntKind} {a : Option Addr} {n c : Nat} {zs : List Int} (h : Reads w k (.slice a n c) zs) (m : Nat) (hm : m ≤ zs.length) : Reads w k (.slice a m c) (zs.take m) := by
  obtain ⟨a', cap, e, hl, hc⟩ := h
  simp only [Value.slice.injEq] at e
  obtain ⟨rfl, rfl, rfl⟩ := e
  have hlm : (zs.take m).length = m := by rw [List.length_take]; omega
  refine ⟨a, c, by rw [hlm], by omega, fun hne => ?_⟩
  have h0 : 0 < m := by
    rcases Nat.eq_zero_or_pos m with h0 | h0
    · subst h0; simp at hne
    · exact h0
  obtain ⟨b, o, rfl, h1⟩ := hc (by intro e; subst e; simp at hm; omega)
  refine ⟨b, o, rfl, fun j hj => ?_⟩
  rw [hlm] at hj
  rw [h1 j (by omega)]
  simp [List.getD_eq_getElem?_getD, hj]

theorem Reads.dropZ {w : World} {k : IntKind} {b o n c : Nat} {zs : List Int} (h : Reads w k (.slice (some ⟨b, o, none⟩) n c) zs) (t : Nat) (ht : t ≤ zs.length) (z : Option Addr) (hz : t < zs.length → z = some ⟨b, o + t, none⟩) (m : Nat) : Reads w k (.slice z (n - t) m) (zs.drop t) := by
  obtain ⟨a', cap, e, hl, hc⟩ := h
  simp only [Value.slice.injEq] at e
  obtain ⟨rfl, rfl, rfl⟩ := e
  have hlm : (zs.drop t).length = zs.length - t := by rw [List.length_drop]
  refine ⟨z, m, by rw [hlm], by omega, fun hne => ?_⟩
  have h0 : t < zs.length := by
    rcases Nat.lt_or_ge t zs.length with h0 | h0
    · exact h0
    · exact absurd (List.drop_eq_nil_of_le h0) hne
  obtain ⟨b', o', e1, h1⟩ := hc (by intro e; subst e; simp at h0)
  simp only [Option.some.injEq, Addr.mk.injEq, and_true] at e1
  obtain ⟨rfl, rfl⟩ := e1
  refine ⟨b, o + t, hz h0, fun j hj => ?_⟩
  rw [hlm] at hj
  rw [Nat.add_assoc, h1 (t + j) (by omega)]
  simp [List.getD_eq_getElem?_getD]

theorem splice_mapF (cs zs : List Int) (F : Nat) : (splice cs F zs).map (Value.int .u8) = splice (cs.map (Value.int .u8)) F (zs.map (Value.int .u8)) := by simp [splice]

theorem bytes_spliceF {cs zs : List Int} {F : Nat} (h : bytes cs) (hz : bytes zs) : bytes (splice cs F zs) := by
  intro z hm
  simp only [splice, List.mem_append] at hm
  rcases hm with hm | hm | hm
  · exact h z (List.mem_of_mem_take hm)
  · exact hz z hm
  · exact h z (List.mem_of_mem_drop hm)

def ReplPost (k s m : Int) (g : Nat) (cs : List Int) (n cap f t : Nat) (zs : List Int) (N : Nat) (w : World) : Ending → World → Prop := fun e w' =>
  ∃ g' ds, e = .returned (.tuple #[.slice (some ⟨g', 0, none⟩) N (growV k s m cap N).toNat, .bool (decide (cap < N)), .int .i64 0]) ∧ byteRow w' g' ds ∧ ds.length = (growV k s m cap N).toNat ∧ bytes ds ∧
    ds.take N = cs.take f ++ zs ++ (cs.take n).drop t ∧ (g' = g ∨ w.heap.size ≤ g') ∧ Touch (fun k => k = g) w w'

set_option maxHeartbeats 800000 in
set_option maxRecDepth 100000 in
theorem replace_any (k s m : Int) (g : Nat) (cs : List Int) (n cap f t : Nat) (v : Value) (zs : List Int) (N : Nat) (w : World) (hp : polErr k s m = 0) (hr : byteRow w g cs) (hcl : cs.length = cap) (hc : cap ≤ 100000) (hn : n ≤ cap) (hft : f ≤ t) (htn : t ≤ n)
    (hv : Reads w .u8 v zs) (hz : zs.length ≤ 100000) (hbz : bytes zs) (hbc : bytes cs) (hNe : N = n - (t - f) + zs.length) (hN : N ≤ 100000) (he : growE k s m cap N = 0) :
    Calls Try.prog 88 #[.agg #[.int .i64 k, .int .i64 s, .int .i64 m], .slice (some ⟨g, 0, none⟩) n cap, .int .i64 f, .int .i64 t, v] w (ReplPost k s m g cs n cap f t zs N w) := by
  have HP := Lib.hid hp
  have HR := Lib.hid hr
  have HV := Lib.hid hv
  have HE := Lib.hid he
  have HBZ := Lib.hid hbz
  have HBC := Lib.hid hbc
  have HCL := Lib.hid hcl
  have glt := lt_of hr
  obtain ⟨a0, c0, rfl, _, _⟩ := hv
  have HN : Hid ((n : Int) - ((t : Int) - f) + zs.length = N) := Lib.hid (by omega)
  have HNe := Lib.hid hNe
  have d1 : ¬ ((f : Int) < 0) := by omega
  have d2 : ¬ t < f := by omega
  have d3 : ¬ n < t := by omega
  have d4 : (n : Int) - ((t : Int) - f) + zs.length ≤ 100000 := by omega
  clear hp hr he hbz hbc hcl hNe
  go_enter Try.func88, Try.ntmps88
  go_wp2_with fail
  have W1 : Below w.heap.size w (w.alloc (.cells #[.int .i64 k, .int .i64 s, .int .i64 m] 23)) := by go_grown
  refine (begins_any k s m _ n cap _ zs _ HP.out hc (HV.out.below W1 rfl) hz).mono ?_
  rintro e w1 ⟨rfl, hb⟩
  have hs0 := W1.size
  have B1 := Lib.hid (W1.trans (hb.mono hs0))
  have bx0 : w1.cell? ⟨w.heap.size, 0, none⟩ = some (.int .i64 k) := old_cell hb (by rw [cell_of_row _ _ _ _ _ _ (heap_alloc_new w _)]; rfl)
  have bx1 : w1.cell? ⟨w.heap.size, 1, none⟩ = some (.int .i64 s) := old_cell hb (by rw [cell_of_row _ _ _ _ _ _ (heap_alloc_new w _)]; rfl)
  have bx2 : w1.cell? ⟨w.heap.size, 2, none⟩ = some (.int .i64 m) := old_cell hb (by rw [cell_of_row _ _ _ _ _ _ (heap_alloc_new w _)]; rfl)
  clear hb W1 hs0
  go_wp2_with fail
  rw [HN.out]
  refine (fit_any k s m g cs n cap N w1 HP.out ((B1.out.block g glt).trans HR.out) HCL.out hc hn hN HE.out).mono ?_
  rintro e w2 ⟨hb, hcase⟩
  have B2 := Lib.hid (B1.out.trans (hb.mono B1.out.size))
  have hs1 := B1.out.size
  have hs2 := hb.size
  have HV2 := Lib.hid (HV.out.below B2.out rfl)
  clear bx0 bx1 bx2
  rcases hcase with ⟨hfit, rfl⟩ | ⟨hnew, g', hg', rfl, r2⟩
  · have GV := Lib.hid (growV_has k s m cap N HP.out hc hfit).1
    have R2 : Hid (byteRow w2 g cs) := Lib.hid ((B2.out.block g glt).trans HR.out)
    clear hb
    go_wp2_with fail
    refine (clone_byte _ zs w2 HV2.out (by omega)).mono ?_
    rintro e w3 ⟨pv, rfl, po, hb3⟩
    have B3 := Lib.hid (B2.out.trans (hb3.mono B2.out.size))
    have glt2 := lt_of R2.out
    have R3 : Hid (byteRow w3 g cs) := Lib.hid ((hb3.block g glt2).trans R2.out)
    have PR := Lib.hid (Reads.own po (by omega))
    have PB : Hid (∀ b o n c, pv = .slice (some ⟨b, o, none⟩) n c → ¬ (b = g)) := Lib.hid (fun b o n c e h => by
      subst e; subst h
      have := row_base2 po (k := b) rfl
      omega)
    obtain ⟨pa, pc, rfl, hpl, hpm⟩ := ownsRow_lt2 po
    clear po hb3 R2 HV2 HV
    obtain ⟨F, hF⟩ : ∃ F, F = f + zs.length := ⟨_, rfl⟩
    have HF := Lib.hid hF
    have q1 : F ≤ N := by have := HNe.out; omega
    have q2 : IntKind.i64.wrap ((f : Int) + zs.length) = (F : Int) := by rw [IntKind.wrap_i64]; omega
    have HT : Hid (((((cs.take n).drop t).map (Value.int .u8)).length) = Nat.min (n - t) (N - F)) := Lib.hid (by
      have h1 := HCL.out
      have h2 := HNe.out
      have h3 : N - F = n - t := by omega
      rw [h3, List.length_map, List.length_drop, List.length_take]
      show _ = min _ _
      omega)
    have HPO : Hid (0 < (((cs.take n).drop t).map (Value.int .u8)).length → (if cap = F then some (⟨g, 0, none⟩ : Addr) else some ⟨g, F, none⟩) = some ⟨g, F, none⟩ ∧ ∃ ad, (if cap = t then some (⟨g, 0, none⟩ : Addr) else some ⟨g, t, none⟩) = some ad ∧ ∀ j v, (((cs.take n).drop t).map (Value.int .u8))[j]? = some v → w3.drew.cell? (ad.add j) = some v) := Lib.hid (by
      intro h0
      have h1 := HCL.out
      have h2 := HNe.out
      simp only [List.length_map, List.length_drop, List.length_take] at h0
      refine ⟨if_neg (by omega), _, if_neg (by omega), fun j v hj => ?_⟩
      have hjl : j < n - t := by
        have := (List.getElem?_eq_some_iff.1 hj).1
        simp at this; omega
      have e1 : (⟨g, t, none⟩ : Addr).add j = ⟨g, t + j, none⟩ := by unfold Addr.add; split <;> simp_all
      rw [e1]
      have hc := R3.out.cell (t + j) (by omega)
      refine (show w3.drew.cell? ⟨g, t + j, none⟩ = w3.cell? ⟨g, t + j, none⟩ from rfl).trans (hc.trans ?_)
      rw [List.getElem?_map] at hj
      rw [List.getElem?_drop, List.getElem?_take, if_pos (by omega), List.getElem?_eq_getElem (by omega)] at hj
      simp at hj
      rw [← hj]
      simp [List.getD_eq_getElem?_getD, List.getElem?_eq_getElem (show t + j < cs.length by omega)])
    have HFI : Hid (F + (((cs.take n).drop t).map (Value.int .u8)).length ≤ (cs.map (Value.int .u8)).length) := Lib.hid (by
      have h1 := HCL.out
      have h2 := HNe.out
      simp only [List.length_map, List.length_drop, List.length_take]
      omega)
    have H1 : Hid (∀ v ∈ ((cs.take n).drop t).map (Value.int .u8), v.oneCell' = true) := Lib.hid (by intro v hv; obtain ⟨z, _, rfl⟩ := List.mem_map.1 hv; rfl)
    have R3r : Hid (w3.drew.heap[g]? = some (.cells (cs.map (Value.int .u8)).toArray 5 (0, 0))) := Lib.hid R3.out
    clear hF
    go_wp2_with fail
    go_region_law ((go_loud (refine step_copy_at rfl (.tmp 69) (.tmp 72) 32 32 rfl 5 Try.underlying32 byteSize (if cap = F then some (⟨g, 0, none⟩ : Addr) else some ⟨g, F, none⟩) (if cap = t then some (⟨g, 0, none⟩ : Addr) else some ⟨g, t, none⟩) (N - F) (cap - F) (n - t) (cap - t) (by simp [Act.eval, Act.put]) (by simp [Act.eval, Act.put]) g F (cs.map (Value.int .u8)) 5 R3r.out (((cs.take n).drop t).map (Value.int .u8)) HT.out HPO.out HFI.out H1.out ?_)); intro w4 hg4 ht4)
    have hT : ((cs.take n).drop t).length = n - t := by
      have h1 := HCL.out
      rw [List.length_drop, List.length_take]; omega
    have sl1 : (splice cs F ((cs.take n).drop t)).length = cap := by
      rw [splice_len _ _ _ (by rw [hT]; have h1 := HCL.out; have h2 := HNe.out; have h3 := HF.out; omega)]; exact HCL.out
    have R4 : Hid (byteRow w4 g (splice cs F ((cs.take n).drop t))) := Lib.hid (by show _ = _; rw [splice_mapF]; exact hg4)
    have TO4 := Lib.hid (((Touch.of_below (F := fun k => k = g) B3.out).drew).then ht4)
    have PR4 := Lib.hid ((show Reads w3.drew .u8 (.slice pa zs.length pc) zs from PR.out).touch ht4 PB.out)
    obtain ⟨z3, hz3⟩ : ∃ z, (if cap = f then some (⟨g, 0, none⟩ : Addr) else some ⟨g, f, none⟩) = z := ⟨_, rfl⟩
    have HPO2 : Hid (0 < (zs.map (Value.int .u8)).length → z3 = some ⟨g, f, none⟩ ∧ ∃ ad, pa = some ad ∧ ∀ j v, (zs.map (Value.int .u8))[j]? = some v → w4.cell? (ad.add j) = some v) := Lib.hid (by
      intro h0
      have h2 := HNe.out
      have h0' := h0
      simp only [List.length_map] at h0'
      exact ⟨hz3.symm.trans (if_neg (by omega)), PR4.out.src rfl h0⟩)
    have HN2 : Hid ((zs.map (Value.int .u8)).length = Nat.min zs.length (N - f)) := Lib.hid (by
      have h2 := HNe.out
      rw [List.length_map]; exact (Nat.min_eq_left (by omega)).symm)
    have HFI2 : Hid (f + (zs.map (Value.int .u8)).length ≤ ((splice cs F ((cs.take n).drop t)).map (Value.int .u8)).length) := Lib.hid (by
      have h2 := HNe.out
      rw [List.length_map, List.length_map, sl1]; omega)
    have H12 : Hid (∀ v ∈ zs.map (Value.int .u8), v.oneCell' = true) := Lib.hid (by intro v hv; obtain ⟨z, _, rfl⟩ := List.mem_map.1 hv; rfl)
    have R4r : Hid (w4.heap[g]? = some (.cells ((splice cs F ((cs.take n).drop t)).map (Value.int .u8)).toArray 5 (0, 0))) := Lib.hid R4.out
    have q3 : f ≤ N := by have := HNe.out; omega
    clear hg4 ht4 HT HPO HFI H1 R3r R3
    generalize (if cap = F then (some (⟨g, 0, none⟩ : Addr)) else some ⟨g, F, none⟩) = z1
    generalize (if cap = t then (some (⟨g, 0, none⟩ : Addr)) else some ⟨g, t, none⟩) = z2
    go_wp2_with (with_reducible refine wpList_copy_at rfl (.tmp 76) (.tmp 77) 32 32 rfl 5 Try.underlying32 byteSize z3 pa (N - f) (cap - f) zs.length pc rfl rfl g f ((splice cs F ((cs.take n).drop t)).map (Value.int .u8)) 5 R4r.out (zs.map (Value.int .u8)) HN2.out HPO2.out HFI2.out H12.out ?_)
    intro w5 hg5 ht5
    have R5 : Hid (byteRow w5 g (splice (splice cs F ((cs.take n).drop t)) f zs)) := Lib.hid (by show _ = _; rw [splice_mapF]; exact hg5)
    have TO5 := Lib.hid (TO4.out.then ht5)
    clear hg5 ht5
    have sl2 : (splice (splice cs F ((cs.take n).drop t)) f zs).length = cap := by
      have h2 := HNe.out
      rw [splice_len _ _ _ (by rw [sl1]; omega)]; exact sl1
    have sp : (splice (splice cs F ((cs.take n).drop t)) f zs).take N = cs.take f ++ zs ++ (cs.take n).drop t := by
      have h1 := HCL.out
      have h2 := HNe.out
      have h3 := HF.out
      rw [h3]
      have e := splice2 cs zs ((cs.take n).drop t) f (by rw [hT]; omega)
      rw [hT] at e
      rw [← e]
      congr 1
      omega
    have sb : bytes (splice (splice cs F ((cs.take n).drop t)) f zs) := bytes_spliceF (bytes_spliceF HBC.out (fun z hz => HBC.out z (List.mem_of_mem_take (List.mem_of_mem_drop hz)))) HBZ.out
    generalize splice (splice cs F ((cs.take n).drop t)) f zs = D at *
    have SL := Lib.hid sl2
    have SP := Lib.hid sp
    have SB := Lib.hid sb
    clear sl1 sl2 sp sb hz3 hT HPO2 HN2 HFI2 H12 R4r R4 PR4 TO4 PR PB
    go_wp2_with fail
    go_loopw [19] (fun i wr => ∃ (j : Nat) (ds : List Int), N ≤ j ∧ i = .int .i64 j ∧ byteRow wr g ds ∧ ds.length = cap ∧ bytes ds ∧ ds.take N = cs.take f ++ zs ++ (cs.take n).drop t ∧ Touch (fun k => k = g) w wr) (fun i _ => n - (intOf i).toNat)
    case atStart => exact ⟨N, D, Nat.le_refl _, rfl, R5.out, SL.out, SB.out, SP.out, TO5.out⟩
    case round =>
      obtain ⟨j, ds, hj, rfl, r1, hdl, hdb, hdt, hto⟩ := hrel
      have R1 := Lib.hid r1
      have DB := Lib.hid hdb
      have DT := Lib.hid hdt
      have TO := Lib.hid hto
      clear hdb hdt hto
      by_cases hlt : j < n
      · have g1 := r1.cell j (by omega)
        have f1 := fun j => free_of r1 j
        clear r1
        go_wp2_with fail
        go_roundw
        case rel => exact ⟨j + 1, ds.set j 0, by omega, by go_num, R1.out.set j _, by simp [hdl], bytes_set DB.out _ _ (by omega) (by omega), by rw [List.take_set_of_le (by omega)]; exact DT.out, TO.out.setCell (p := ⟨g, j, none⟩) (Or.inl rfl) _⟩
        case measure => simp [intOf]; omega
      · clear r1
        go_wp2_with fail
        go_ret3
        refine ⟨g, ds, ?_, R1.out, by rw [GV.out]; simpa using hdl, DB.out, DT.out, Or.inl rfl, TO.out⟩
        rw [GV.out]
        have : ¬ cap < N := by omega
        simp [this]
  · have hg0 : w.heap.size ≤ g' := by omega
    have R2 : Hid (byteRow w2 g cs) := Lib.hid ((B2.out.block g glt).trans HR.out)
    obtain ⟨gv1, gv2, gv3⟩ := growV_new k s m cap N HP.out hc hN HE.out
    obtain ⟨V, hV⟩ : ∃ V : Nat, (growV k s m cap N).toNat = V := ⟨_, rfl⟩
    have HVV := Lib.hid hV
    have v1 : N ≤ V := by omega
    have G2 : Hid (byteRow w2 g' (cs.take n ++ zeros (V - n))) := Lib.hid (by rw [← hV]; exact r2)
    have ds0l : (cs.take n ++ zeros (V - n)).length = V := by
      have h1 := HCL.out
      simp [zeros]; omega
    have ds0f : (cs.take n ++ zeros (V - n)).take f = cs.take f := by
      have h1 := HCL.out
      rw [List.take_append_of_le_length (by rw [List.length_take]; omega), List.take_take, Nat.min_eq_left (by omega)]
    have ds0b : bytes (cs.take n ++ zeros (V - n)) := by
      intro z hz
      rcases List.mem_append.1 hz with h | h
      · exact HBC.out z (List.mem_of_mem_take h)
      · exact bytes_zeros _ z h
    generalize cs.take n ++ zeros (V - n) = D0 at *
    have DL := Lib.hid ds0l
    have DF := Lib.hid ds0f
    have DB := Lib.hid ds0b
    have glt2 : g' < w2.heap.size := lt_of r2
    rw [hV]
    clear hb ds0l ds0f ds0b r2 gv1 gv2 gv3 hV
    go_wp2_with fail
    refine (clone_byte _ zs w2 HV2.out (by omega)).mono ?_
    rintro e w3 ⟨pv, rfl, po, hb3⟩
    have B3 := Lib.hid (B2.out.trans (hb3.mono B2.out.size))
    have R3 : Hid (byteRow w3 g cs) := Lib.hid ((hb3.block g (lt_of R2.out)).trans R2.out)
    have G3 : Hid (byteRow w3 g' D0) := Lib.hid ((hb3.block g' glt2).trans G2.out)
    have PR := Lib.hid (Reads.own po (by omega))
    have PB : Hid (∀ b o n c, pv = .slice (some ⟨b, o, none⟩) n c → ¬ (b = g')) := Lib.hid (fun b o n c e h => by
      subst e; subst h
      have := row_base2 po (k := b) rfl
      omega)
    obtain ⟨pa, pc, rfl, hpl, hpm⟩ := ownsRow_lt2 po
    clear po hb3 R2 HV2 HV G2
    obtain ⟨F, hF⟩ : ∃ F, F = f + zs.length := ⟨_, rfl⟩
    have HF := Lib.hid hF
    have q1 : F ≤ N := by have := HNe.out; omega
    have q2 : IntKind.i64.wrap ((f : Int) + zs.length) = (F : Int) := by rw [IntKind.wrap_i64]; omega
    obtain ⟨z1, hz1⟩ : ∃ z, (if V = F then some (⟨g', 0, none⟩ : Addr) else some ⟨g', F, none⟩) = z := ⟨_, rfl⟩
    obtain ⟨z2, hz2⟩ : ∃ z, (if cap = t then some (⟨g, 0, none⟩ : Addr) else some ⟨g, t, none⟩) = z := ⟨_, rfl⟩
    have hT : ((cs.take n).drop t).length = n - t := by
      have h1 := HCL.out
      rw [List.length_drop, List.length_take]; omega
    have HT : Hid (((((cs.take n).drop t).map (Value.int .u8)).length) = Nat.min (n - t) (N - F)) := Lib.hid (by
      have h2 := HNe.out
      have h3 : N - F = n - t := by omega
      rw [h3, List.length_map, hT]
      show _ = min _ _
      omega)
    have HPO : Hid (0 < (((cs.take n).drop t).map (Value.int .u8)).length → z1 = some ⟨g', F, none⟩ ∧ ∃ ad, z2 = some ad ∧ ∀ j v, (((cs.take n).drop t).map (Value.int .u8))[j]? = some v → w3.drew.cell? (ad.add j) = some v) := Lib.hid (by
      intro h0
      have h1 := HCL.out
      have h2 := HNe.out
      rw [List.length_map, hT] at h0
      refine ⟨hz1.symm.trans (if_neg (by omega)), _, hz2.symm.trans (if_neg (by omega)), fun j v hj => ?_⟩
      have hjl : j < n - t := by
        have := (List.getElem?_eq_some_iff.1 hj).1
        simp at this; omega
      have e1 : (⟨g, t, none⟩ : Addr).add j = ⟨g, t + j, none⟩ := by unfold Addr.add; split <;> simp_all
      rw [e1]
      have hc := R3.out.cell (t + j) (by omega)
      refine (show w3.drew.cell? ⟨g, t + j, none⟩ = w3.cell? ⟨g, t + j, none⟩ from rfl).trans (hc.trans ?_)
      rw [List.getElem?_map] at hj
      rw [List.getElem?_drop, List.getElem?_take, if_pos (by omega), List.getElem?_eq_getElem (by omega)] at hj
      simp at hj
      rw [← hj]
      simp [List.getD_eq_getElem?_getD, List.getElem?_eq_getElem (show t + j < cs.length by omega)])
    have HFI : Hid (F + (((cs.take n).drop t).map (Value.int .u8)).length ≤ (D0.map (Value.int .u8)).length) := Lib.hid (by
      have h1 := DL.out
      have h2 := HNe.out
      rw [List.length_map, List.length_map, hT, h1]
      omega)
    have H1 : Hid (∀ v ∈ ((cs.take n).drop t).map (Value.int .u8), v.oneCell' = true) := Lib.hid (by intro v hv; obtain ⟨z, _, rfl⟩ := List.mem_map.1 hv; rfl)
    have G3r : Hid (w3.drew.heap[g']? = some (.cells (D0.map (Value.int .u8)).toArray 5 (0, 0))) := Lib.hid G3.out
    have v2 : F ≤ V := by omega
    clear hF
    go_wp2_with fail
    go_region_law ((go_loud (refine step_copy_at rfl (.tmp 69) (.tmp 72) 32 32 rfl 5 Try.underlying32 byteSize z1 z2 (N - F) (V - F) (n - t) (cap - t) (by simp [Act.eval, Act.put]) (by simp [Act.eval, Act.put]) g' F (D0.map (Value.int .u8)) 5 G3r.out (((cs.take n).drop t).map (Value.int .u8)) HT.out HPO.out HFI.out H1.out ?_)); intro w4 hg4 ht4)
    have sl1 : (splice D0 F ((cs.take n).drop t)).length = V := by
      have h1 := DL.out
      have h2 := HNe.out
      have h3 := HF.out
      rw [splice_len _ _ _ (by rw [hT]; omega)]; exact h1
    have R4 : Hid (byteRow w4 g' (splice D0 F ((cs.take n).drop t))) := Lib.hid (by show _ = _; rw [splice_mapF]; exact hg4)
    have hsz3 := B3.out.size
    have B4 := Lib.hid (B3.out.drew.trans (ht4.below (B := w.heap.size) (by simpa using hsz3) (fun k hk => by omega)))
    have PR4 := Lib.hid ((show Reads w3.drew .u8 (.slice pa zs.length pc) zs from PR.out).touch ht4 PB.out)
    have HPO2 : Hid (0 < (zs.map (Value.int .u8)).length → (some ⟨g', f, none⟩ : Option Addr) = some ⟨g', f, none⟩ ∧ ∃ ad, pa = some ad ∧ ∀ j v, (zs.map (Value.int .u8))[j]? = some v → w4.cell? (ad.add j) = some v) := Lib.hid (by
      intro h0
      exact ⟨rfl, PR4.out.src rfl h0⟩)
    have HN2 : Hid ((zs.map (Value.int .u8)).length = Nat.min zs.length (N - f)) := Lib.hid (by
      have h2 := HNe.out
      rw [List.length_map]; exact (Nat.min_eq_left (by omega)).symm)
    have HFI2 : Hid (f + (zs.map (Value.int .u8)).length ≤ ((splice D0 F ((cs.take n).drop t)).map (Value.int .u8)).length) := Lib.hid (by
      have h2 := HNe.out
      rw [List.length_map, List.length_map, sl1]; omega)
    have H12 : Hid (∀ v ∈ zs.map (Value.int .u8), v.oneCell' = true) := Lib.hid (by intro v hv; obtain ⟨z, _, rfl⟩ := List.mem_map.1 hv; rfl)
    have R4r : Hid (w4.heap[g']? = some (.cells ((splice D0 F ((cs.take n).drop t)).map (Value.int .u8)).toArray 5 (0, 0))) := Lib.hid R4.out
    have q3 : f ≤ N := by have := HNe.out; omega
    clear hg4 ht4 HT HPO HFI H1 G3r G3 R3 hz1 hz2
    go_wp2_with (with_reducible refine wpList_copy_at rfl (.tmp 76) (.tmp 77) 32 32 rfl 5 Try.underlying32 byteSize (some ⟨g', f, none⟩) pa (N - f) (V - f) zs.length pc rfl rfl g' f ((splice D0 F ((cs.take n).drop t)).map (Value.int .u8)) 5 R4r.out (zs.map (Value.int .u8)) HN2.out HPO2.out HFI2.out H12.out ?_)
    intro w5 hg5 ht5
    have R5 : Hid (byteRow w5 g' (splice (splice D0 F ((cs.take n).drop t)) f zs)) := Lib.hid (by show _ = _; rw [splice_mapF]; exact hg5)
    have B5 := Lib.hid (B4.out.trans (ht5.below (B := w.heap.size) B4.out.size (fun k hk => by omega)))
    clear hg5 ht5
    have sl2 : (splice (splice D0 F ((cs.take n).drop t)) f zs).length = V := by
      have h2 := HNe.out
      rw [splice_len _ _ _ (by rw [sl1]; omega)]; exact sl1
    have sp : (splice (splice D0 F ((cs.take n).drop t)) f zs).take N = cs.take f ++ zs ++ (cs.take n).drop t := by
      have h1 := DL.out
      have h2 := HNe.out
      have h3 := HF.out
      rw [h3]
      have e := splice2 D0 zs ((cs.take n).drop t) f (by rw [hT, h1]; omega)
      rw [hT, DF.out] at e
      rw [← e]
      congr 1
      omega
    have sb : bytes (splice (splice D0 F ((cs.take n).drop t)) f zs) := bytes_spliceF (bytes_spliceF DB.out (fun z hz => HBC.out z (List.mem_of_mem_take (List.mem_of_mem_drop hz)))) HBZ.out
    generalize splice (splice D0 F ((cs.take n).drop t)) f zs = D at *
    have SL := Lib.hid sl2
    have SP := Lib.hid sp
    have SB := Lib.hid sb
    clear sl1 sl2 sp sb hT HPO2 HN2 HFI2 H12 R4r R4 PR4 B4 PR PB
    go_wp2_with fail
    go_ret3
    refine ⟨g', D, ?_, R5.out, by rw [HVV.out]; exact SL.out, SB.out, SP.out, Or.inr hg0, Touch.of_below B5.out⟩
    rw [HVV.out]
    simp [hnew]

end Go.Proofs.Ytidfidknflcioaa
