/-
  room.Remove, room.Add, shift where there are no marks: what they give. Conditions: numbers in their bounds.
-/
import Derived.Test.YtidfidknflcioaaTopRopePbd
import Derived.Deep.RegionLaw
namespace Go.Proofs.Ytidfidknflcioaa
open Go.RowKit
set_option linter.unusedVariables false

def RemB (g : Nat) (cs : List Int) (n cap f t : Nat) (w : World) : Ending → World → Prop := fun e w' =>
  ∃ ds, e = .returned (.tuple #[.slice (some ⟨g, 0, none⟩) (n - (t - f)) cap, .int .i64 0]) ∧ byteRow w' g ds ∧ ds.length = cap ∧ bytes ds ∧ ds.take (n - (t - f)) = cs.take f ++ (cs.take n).drop t ∧ Touch (fun k => k = g) w w'

set_option maxHeartbeats 2000000 in
set_option maxRecDepth 100000 in
theorem removeB_any (g : Nat) (cs : List Int) (n cap f t : Nat) (w : World) (hr : byteRow w g cs) (hcl : cs.length = cap) (hc : cap ≤ 100000) (hn : n ≤ cap) (hft : f ≤ t) (htn : t ≤ n) (hbc : bytes cs) :
    Calls Try.prog 44 #[.slice (some ⟨g, 0, none⟩) n cap, .int .i64 (f : Int), .int .i64 (t : Int)] w (RemB g cs n cap f t w) := by
  have HR := Lib.hid hr
  have HBC := Lib.hid hbc
  have HCL := Lib.hid hcl
  have glt := lt_of hr
  have HT : Hid (((((cs.take n).drop t).map (Value.int .u8)).length) = Nat.min (n - t) (n - f)) := Lib.hid (by
    have h1 := HCL.out
    rw [List.length_map, List.length_drop, List.length_take]
    show _ = min _ _
    omega)
  have HPO : Hid (0 < (((cs.take n).drop t).map (Value.int .u8)).length → (if cap = f then some (⟨g, 0, none⟩ : Addr) else some ⟨g, f, none⟩) = some ⟨g, f, none⟩ ∧ ∃ ad, (if cap = t then some (⟨g, 0, none⟩ : Addr) else some ⟨g, t, none⟩) = some ad ∧ ∀ j v, (((cs.take n).drop t).map (Value.int .u8))[j]? = some v → w.drew.cell? (ad.add j) = some v) := Lib.hid (by
    intro h0
    have h1 := HCL.out
    simp only [List.length_map, List.length_drop, List.length_take] at h0
    refine ⟨if_neg (by omega), _, if_neg (by omega), fun j v hj => ?_⟩
    have hjl : j < n - t := by
      have := (List.getElem?_eq_some_iff.1 hj).1
      simp at this; omega
    have e1 : (⟨g, t, none⟩ : Addr).add j = ⟨g, t + j, none⟩ := by unfold Addr.add; split <;> simp_all
    rw [e1]
    have hc := HR.out.cell (t + j) (by omega)
    refine (show w.drew.cell? ⟨g, t + j, none⟩ = w.cell? ⟨g, t + j, none⟩ from rfl).trans (hc.trans ?_)
    rw [List.getElem?_map] at hj
    rw [List.getElem?_drop, List.getElem?_take, if_pos (by omega), List.getElem?_eq_getElem (by omega)] at hj
    simp at hj
    rw [← hj]
    simp [List.getD_eq_getElem?_getD, List.getElem?_eq_getElem (show t + j < cs.length by omega)])
  have HFI : Hid (f + (((cs.take n).drop t).map (Value.int .u8)).length ≤ (cs.map (Value.int .u8)).length) := Lib.hid (by
    have h1 := HCL.out
    simp only [List.length_map, List.length_drop, List.length_take]
    omega)
  have H1 : Hid (∀ v ∈ ((cs.take n).drop t).map (Value.int .u8), v.oneCell' = true) := Lib.hid (by intro v hv; obtain ⟨z, _, rfl⟩ := List.mem_map.1 hv; rfl)
  have R3r : Hid (w.drew.heap[g]? = some (.cells (cs.map (Value.int .u8)).toArray 5 (0, 0))) := Lib.hid HR.out
  have hT : ((cs.take n).drop t).length = n - t := by rw [List.length_drop, List.length_take]; omega
  have HTT := Lib.hid hT
  have hmin : min n cs.length = n := by omega
  obtain ⟨N, hN⟩ : ∃ N, n - (t - f) = N := ⟨_, rfl⟩
  have hsum : (f : Int) + ((n - t : Nat) : Int) = (N : Int) := by omega
  have HN := Lib.hid hN
  have hNn : N ≤ n := by omega
  have sp : (splice cs f ((cs.take n).drop t)).take N = cs.take f ++ (cs.take n).drop t := by
    unfold splice
    rw [← List.append_assoc]
    exact List.take_left' (by rw [List.length_append, List.length_take, hT]; omega)
  have sl : (splice cs f ((cs.take n).drop t)).length = cap := by rw [splice_len _ _ _ (by rw [hT]; omega)]; exact hcl
  have sb : bytes (splice cs f ((cs.take n).drop t)) := bytes_spliceF hbc (fun z hz => hbc z (List.mem_of_mem_take (List.mem_of_mem_drop hz)))
  have SP := Lib.hid sp
  have SL := Lib.hid sl
  have SB := Lib.hid sb
  rw [show RemB g cs n cap f t w = fun e w' => ∃ ds, e = .returned (.tuple #[.slice (some ⟨g, 0, none⟩) N cap, .int .i64 0]) ∧ byteRow w' g ds ∧ ds.length = cap ∧ bytes ds ∧ ds.take N = cs.take f ++ (cs.take n).drop t ∧ Touch (fun k => k = g) w w' from by rw [← hN]; rfl]
  have hfn : f ≤ n := by omega
  have hfc : f ≤ cap := by omega
  have htc : t ≤ cap := by omega
  clear hr hbc hcl hT hN sp sl sb
  go_enter Try.func44, Try.ntmps44
  go_wp2_with fail
  go_region_law ((go_loud (refine step_copy_at rfl (.tmp 31) (.tmp 34) 32 32 rfl 5 Try.underlying32 byteSize (if cap = f then some (⟨g, 0, none⟩ : Addr) else some ⟨g, f, none⟩) (if cap = t then some (⟨g, 0, none⟩ : Addr) else some ⟨g, t, none⟩) (n - f) (cap - f) (n - t) (cap - t) (by simp [Act.eval, Act.put]) (by simp [Act.eval, Act.put]) g f (cs.map (Value.int .u8)) 5 R3r.out (((cs.take n).drop t).map (Value.int .u8)) HT.out HPO.out HFI.out H1.out ?_)); intro w4 hg4 ht4)
  have R4 : Hid (byteRow w4 g (splice cs f ((cs.take n).drop t))) := Lib.hid (by show _ = _; rw [splice_mapF]; exact hg4)
  have TO4 := Lib.hid (((Touch.refl (fun k => k = g) w).drew).then ht4)
  clear hg4 ht4 HT HPO HFI H1 R3r HTT
  generalize splice cs f ((cs.take n).drop t) = D at *
  generalize (if cap = f then (some (⟨g, 0, none⟩ : Addr)) else some ⟨g, f, none⟩) = z1
  generalize (if cap = t then (some (⟨g, 0, none⟩ : Addr)) else some ⟨g, t, none⟩) = z2
  go_wp2_with fail
  go_loopw [9] (fun i wr => ∃ (j : Nat) (ds : List Int), N ≤ j ∧ i = .int .i64 j ∧ byteRow wr g ds ∧ ds.length = cap ∧ bytes ds ∧ ds.take N = cs.take f ++ (cs.take n).drop t ∧ Touch (fun k => k = g) w wr) (fun i _ => n - (intOf i).toNat)
  case atStart => exact ⟨N, D, Nat.le_refl _, rfl, R4.out, SL.out, SB.out, SP.out, TO4.out⟩
  case round =>
    obtain ⟨j, ds, hj, rfl, r1, hdl, hdb, hdt, hto⟩ := hrel
    have R1 := Lib.hid r1
    have DB := Lib.hid hdb
    have DT := Lib.hid hdt
    have TO := Lib.hid hto
    clear hdb hdt hto
    by_cases hlt : j < n
    · have g1 := r1.cell j (by omega)
      have f1 := fun j => free_of r1 j
      clear r1
      go_wp2_with fail
      go_roundw
      case rel => exact ⟨j + 1, ds.set j 0, by omega, by go_num, R1.out.set j _, by simp [hdl], bytes_set DB.out _ _ (by omega) (by omega), by rw [List.take_set_of_le (by omega)]; exact DT.out, TO.out.setCell (p := ⟨g, j, none⟩) (Or.inl rfl) _⟩
      case measure => simp [intOf]; omega
    · clear r1
      go_wp2_with fail
      go_ret2
      exact ⟨ds, rfl, R1.out, hdl, DB.out, DT.out, TO.out⟩

set_option maxHeartbeats 1000000 in
set_option maxRecDepth 100000 in
theorem shift_none (r : Nat) (fv : Value) (w : World) (h : w.cell? ⟨r, 8, none⟩ = some (.slice none 0 0)) :
    Calls Try.prog 68 #[.pointer (some ⟨r, 0, none⟩), fv] w (fun e w' => e = .returned (.tuple #[]) ∧ w' = w) := by
  go_enter Try.func68, Try.ntmps68
  go_wp2_with fail
  go_loopw [10] (fun i wr => i = .int .i64 0 ∧ wr = w) (fun _ _ => 0)
  case atStart => exact ⟨rfl, rfl⟩
  case round =>
    obtain ⟨rfl, rfl⟩ := hrel
    go_wp2_with fail
    go_end0
    exact ⟨rfl, rfl⟩

set_option maxHeartbeats 1000000 in
set_option maxRecDepth 100000 in
theorem addB_any (k s m : Int) (g : Nat) (cs : List Int) (n cap : Nat) (v : Value) (zs : List Int) (w : World) (hp : polErr k s m = 0) (hr : byteRow w g cs) (hcl : cs.length = cap) (hc : cap ≤ 100000) (hn : n ≤ cap)
    (hv : Reads w .u8 v zs) (hbz : bytes zs) (hbc : bytes cs) (hN : n + zs.length ≤ 100000) (he : growE k s m cap (n + zs.length : Nat) = 0) :
    Calls Try.prog 70 #[.agg #[.int .i64 k, .int .i64 s, .int .i64 m], .slice (some ⟨g, 0, none⟩) n cap, v] w (ReplPost k s m g cs n cap n n zs (n + zs.length) w) := by
  have B1 : Below w.heap.size w (w.alloc (.cells #[.int .i64 k, .int .i64 s, .int .i64 m] 23)) := (Below.refl _ _).alloc (Nat.le_refl _) _
  have hb3 := heap_alloc_new w (.cells #[.int .i64 k, .int .i64 s, .int .i64 m] 23)
  have RP := Lib.hid (replace_any k s m g cs n cap n n v zs (n + zs.length) _ hp ((B1.block g (lt_of hr)).trans hr) hcl hc hn (Nat.le_refl _) (Nat.le_refl _) (hv.below B1 rfl) (by omega) hbz hbc (by omega) hN he)
  have HB := Lib.hid B1
  have x0 : (w.alloc (.cells #[.int .i64 k, .int .i64 s, .int .i64 m] 23)).cell? ⟨w.heap.size, 0, none⟩ = some (.int .i64 k) := by rw [cell_of hb3]; rfl
  have x1 : (w.alloc (.cells #[.int .i64 k, .int .i64 s, .int .i64 m] 23)).cell? ⟨w.heap.size, 1, none⟩ = some (.int .i64 s) := by rw [cell_of hb3]; rfl
  have x2 : (w.alloc (.cells #[.int .i64 k, .int .i64 s, .int .i64 m] 23)).cell? ⟨w.heap.size, 2, none⟩ = some (.int .i64 m) := by rw [cell_of hb3]; rfl
  clear hb3 B1 hp hr hbz hbc he
  go_enter Try.func70, Try.ntmps70
  go_wp2_with fail
  refine RP.out.mono ?_
  rintro e w2 ⟨g', ds, rfl, h1, h2, h3, h4, h5, h6⟩
  have FIN := Lib.hid (And.intro h1 (And.intro h2 (And.intro h3 (And.intro h4 (And.intro h5 ((Touch.of_below (F := fun k => k = g) HB.out).then h6))))))
  have HS := HB.out.size
  clear h1 h2 h3 h4 h5 h6 x0 x1 x2
  go_wp2_with fail
  go_ret3
  obtain ⟨f1, f2, f3, f4, f5, f6⟩ := FIN.out
  exact ⟨g', ds, rfl, f1, f2, f3, f4, f5.imp id (fun h => Nat.le_trans HS h), f6⟩

end Go.Proofs.Ytidfidknflcioaa
