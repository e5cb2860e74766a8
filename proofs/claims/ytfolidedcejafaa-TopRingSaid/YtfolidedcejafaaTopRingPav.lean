/-
  put of a ring: what it leaves. Conditions: numbers in their bounds.
-/
import Derived.Test.YtfolidedcejafaaTopRingPau
namespace Go.Proofs.Ytfolidedcejafaa
open Go.RowKit

/-- A slice of the call's own, apart from block g. -/
def OwnAt (pl : Value) (n g : Nat) : Prop := (pl = .slice none 0 0 ∧ n = 0) ∨ ∃ b c, pl = .slice (some ⟨b, 0, none⟩) n c ∧ b ≠ g ∧ n ≤ c ∧ c ≤ maxLen
theorem OwnAt.of {W : World} {B e n g : Nat} {v : Value} {xs : List Value} (h : W.ownsRow B e 1 v n xs) (hg : g < B) : OwnAt v n g := by
  rcases h.2 with ⟨rfl, h0⟩ | ⟨b, cap, cur, rfl, hb, _, h1, h2, _⟩
  · exact Or.inl ⟨rfl, h0⟩
  · exact Or.inr ⟨b, cap, rfl, by omega, h1, h2⟩

def putD (R c n : Nat) : Nat := min (c + n) R - c
def putL (cs : List Int) (c : Nat) (zs : List Int) : List Int := splice (splice cs c (zs.take (putD cs.length c zs.length))) 0 (zs.drop (putD cs.length c zs.length))

theorem putL_len (cs : List Int) (c : Nat) (zs : List Int) (hc : c ≤ cs.length) (hn : zs.length ≤ cs.length) : (putL cs c zs).length = cs.length := by
  have h1 : (splice cs c (zs.take (putD cs.length c zs.length))).length = cs.length := splice_len _ _ _ (by rw [List.length_take]; unfold putD; omega)
  unfold putL
  rw [splice_len _ _ _ (by rw [List.length_drop, h1]; unfold putD; omega), h1]

set_option maxHeartbeats 2000000 in
set_option maxRecDepth 100000 in
theorem put_any (r bp : Nat) (o k s m : Int) (b R : Nat) (cs : List Int) (st len : Int) (c : Nat) (v : Value) (zs : List Int) (w : World) (h : ringAt w r bp o k s m (memOf (some b) R) st len) (hm : byteRow w b cs) (hcl : cs.length = R) (hR : R ≤ 1000000) (hc : c ≤ R)
    (hv : Reads w .u8 v zs) (hn : zs.length ≤ R) (hp : OwnAt v zs.length b) :
    Calls Try.prog 55 #[.pointer (some ⟨r, 0, none⟩), .int .i64 c, v] w (fun e w' => e = .returned (.tuple #[]) ∧ byteRow w' b (putL cs c zs) ∧ Touch (fun k => k = b) w w') := by
  obtain ⟨n, hnn⟩ : ∃ n, n = zs.length := ⟨_, rfl⟩
  obtain ⟨d, hd⟩ : ∃ d, d = putD R c n := ⟨_, rfl⟩
  have hd2 : d = min (c + n) R - c := hd
  have C := cells_any r bp o k s m (some b) R st len c n w h hR (fun h => by cases h) hc (by omega)
  unfold CellsPost at C
  rw [← hd2] at C
  have HC := Lib.hid C
  have HM := Lib.hid hm
  have HV := Lib.hid hv
  have HN := Lib.hid hnn
  have HCL := Lib.hid hcl
  have dn : d ≤ n := by omega
  have HPUT : Hid (putL cs c zs = splice (splice cs c (zs.take d)) 0 (zs.drop d)) := Lib.hid (by unfold putL; rw [hcl, ← hnn, ← hd])
  have hcd : c + d ≤ R := by omega
  have hrest : n - d ≤ R := by omega
  have H1 : Hid (∀ v ∈ (zs.take d).map (Value.int .u8), v.oneCell' = true) := Lib.hid (by intro v hv; obtain ⟨z, _, rfl⟩ := List.mem_map.1 hv; rfl)
  have H2 : Hid (∀ v ∈ (zs.drop d).map (Value.int .u8), v.oneCell' = true) := Lib.hid (by intro v hv; obtain ⟨z, _, rfl⟩ := List.mem_map.1 hv; rfl)
  have HN1 : Hid (((zs.take d).map (Value.int .u8)).length = Nat.min n d) := Lib.hid (by rw [List.length_map, List.length_take, ← hnn]; exact Nat.min_comm _ _)
  have HN2 : Hid (((zs.drop d).map (Value.int .u8)).length = Nat.min (n - d) (n - d)) := Lib.hid (by rw [List.length_map, List.length_drop, ← hnn]; exact (Nat.min_self _).symm)
  have HF1 : Hid (c + ((zs.take d).map (Value.int .u8)).length ≤ (cs.map (Value.int .u8)).length) := Lib.hid (by rw [List.length_map, List.length_map, List.length_take, hcl, ← hnn]; omega)
  have HF2 : Hid (0 + ((zs.drop d).map (Value.int .u8)).length ≤ ((splice cs c (zs.take d)).map (Value.int .u8)).length) := Lib.hid (by
    rw [List.length_map, List.length_map, List.length_drop, splice_len _ _ _ (by rw [List.length_take, hcl, ← hnn]; omega), hcl, ← hnn]; omega)
  have hp' := hp
  rw [← hnn] at hp'
  rcases hp' with ⟨rfl, h0⟩ | ⟨pb, pc, rfl, hpb, hnc, hcm⟩
  · have hz0 : zs = [] := List.eq_nil_of_length_eq_zero (by omega)
    have d0 : d = 0 := by omega
    subst hz0
    subst d0
    subst h0
    have HP0 : Hid (putL cs c [] = cs) := Lib.hid (by rw [HPUT.out]; simp [splice])
    have C0 := HC.out
    simp only [Nat.sub_self] at C0
    have HC0 := Lib.hid C0
    clear C0 C h hm hv hnn hd hd2 hcl hp hn HN1 HN2 HF1 HF2 H1 H2
    go_enter Try.func55, Try.ntmps55
    go_wp2_with fail
    refine HC0.out.mono ?_
    rintro e w2 ⟨f1, f2, rfl, _, q, rfl⟩
    have M2 : Hid ((w.drewN q).heap[b]? = some (.cells (cs.map (Value.int .u8)).toArray 5 (0, 0))) := Lib.hid HM.out
    have Z1 : Hid (([] : List Value).length = Nat.min 0 0) := Lib.hid rfl
    have Z2 : Hid (∀ (f : Option Addr) (off : Nat) (W : World), 0 < ([] : List Value).length → f = some ⟨b, off, none⟩ ∧ ∃ ad, (none : Option Addr) = some ad ∧ ∀ j v, ([] : List Value)[j]? = some v → W.cell? (ad.add j) = some v) := Lib.hid (fun f off W h => absurd h (by simp))
    have Z3 : Hid (c + ([] : List Value).length ≤ (cs.map (Value.int .u8)).length) := Lib.hid (by rw [List.length_map, HCL.out]; simpa using hc)
    have Z4 : Hid (0 + ([] : List Value).length ≤ (splice (cs.map (Value.int .u8)) c []).length) := Lib.hid (by simp)
    have Z5 : Hid (∀ v ∈ ([] : List Value), v.oneCell' = true) := Lib.hid (by simp)
    go_wp2_with (with_reducible refine wpList_copy_at rfl (.tmp 17) (.tmp 18) 46 46 rfl 5 Try.underlying46 byteSize f1 none 0 0 0 0 rfl rfl b c (cs.map (Value.int .u8)) 5 M2.out [] Z1.out (Z2.out f1 c _) Z3.out Z5.out ?_)
    intro w3 hg3 ht3
    have G3 : Hid (w3.heap[b]? = some (.cells (splice (cs.map (Value.int .u8)) c []).toArray 5 (0, 0))) := Lib.hid hg3
    have T3 := Lib.hid (((Touch.refl (fun k => k = b) w).drewN q).then ht3)
    clear hg3 ht3
    go_wp2_with (with_reducible refine wpList_copy_at rfl (.tmp 21) (.tmp 22) 46 46 rfl 5 Try.underlying46 byteSize f2 none 0 0 0 0 rfl rfl b 0 (splice (cs.map (Value.int .u8)) c []) 5 G3.out [] Z1.out (Z2.out f2 0 _) Z4.out Z5.out ?_)
    intro w4 hg4 ht4
    have R4 : Hid (byteRow w4 b cs) := Lib.hid (by show _ = _; rw [hg4]; simp [splice])
    have T4 := Lib.hid (T3.out.then ht4)
    clear hg4 ht4
    go_wp2_with fail
    go_end0
    exact ⟨rfl, by rw [HP0.out]; exact R4.out, T4.out⟩
  · have K1 : d ≤ pc := by omega
    obtain ⟨z3, hz3⟩ : ∃ z, (if pc = d then some (⟨pb, 0, none⟩ : Addr) else some ⟨pb, d, none⟩) = z := ⟨_, rfl⟩
    clear C h hm hv hnn hd hd2 hcl hp hn
    go_enter Try.func55, Try.ntmps55
    go_wp2_with fail
    refine HC.out.mono ?_
    rintro e w2 ⟨f1, f2, rfl, hf, q, rfl⟩
    obtain ⟨x1, x2⟩ := hf b rfl
    have M2 : Hid ((w.drewN q).heap[b]? = some (.cells (cs.map (Value.int .u8)).toArray 5 (0, 0))) := Lib.hid HM.out
    have V2 : Hid (Reads (w.drewN q) .u8 (.slice (some ⟨pb, 0, none⟩) n pc) zs) := Lib.hid (HV.out.drewN q)
    have P1 : Hid (0 < ((zs.take d).map (Value.int .u8)).length → f1 = some ⟨b, c, none⟩ ∧ ∃ ad, (some ⟨pb, 0, none⟩ : Option Addr) = some ad ∧ ∀ j v, ((zs.take d).map (Value.int .u8))[j]? = some v → (w.drewN q).cell? (ad.add j) = some v) := Lib.hid (by
      intro h0
      rw [List.length_map, List.length_take] at h0
      have hnn := HN.out
      refine ⟨x1 (by omega), ?_⟩
      obtain ⟨ad, ha, hb⟩ := (V2.out.take d (by omega)).src (by rw [List.length_take]; omega) (by rw [List.length_map, List.length_take]; omega)
      exact ⟨ad, ha, hb⟩)
    go_wp2_with (with_reducible refine wpList_copy_at rfl (.tmp 17) (.tmp 18) 46 46 rfl 5 Try.underlying46 byteSize f1 (some ⟨pb, 0, none⟩) d d n pc rfl rfl b c (cs.map (Value.int .u8)) 5 M2.out ((zs.take d).map (Value.int .u8)) HN1.out P1.out HF1.out H1.out ?_)
    intro w3 hg3 ht3
    have hmin : min d zs.length = d := by have := HN.out; omega
    have R3 : Hid (byteRow w3 b (splice cs c (zs.take d))) := Lib.hid (by show _ = _; rw [splice_mapF, List.map_take]; exact hg3)
    have R3r : Hid (w3.heap[b]? = some (.cells ((splice cs c (zs.take d)).map (Value.int .u8)).toArray 5 (0, 0))) := Lib.hid R3.out
    have T3 := Lib.hid (((Touch.refl (fun k => k = b) w).drewN q).then ht3)
    have V3 := V2.out.touch ht3 (fun b' o' n' c' e h' => by simp only [Value.slice.injEq, Option.some.injEq, Addr.mk.injEq] at e; omega)
    have V4 := Lib.hid (V3.dropZ d (by have := HN.out; omega) z3 (fun hlt => by rw [← hz3, if_neg (by have := HN.out; omega)]; simp) (pc - d))
    have P2 : Hid (0 < ((zs.drop d).map (Value.int .u8)).length → f2 = some ⟨b, 0, none⟩ ∧ ∃ ad, z3 = some ad ∧ ∀ j v, ((zs.drop d).map (Value.int .u8))[j]? = some v → w3.cell? (ad.add j) = some v) := Lib.hid (by
      intro h0
      have h0' := h0
      rw [List.length_map, List.length_drop] at h0
      have hnn := HN.out
      refine ⟨x2 (by omega), ?_⟩
      obtain ⟨ad, ha, hb⟩ := V4.out.src (by rw [List.length_drop]; omega) h0'
      exact ⟨ad, ha, hb⟩)
    rw [hmin]
    clear hmin hg3 ht3 V2 V3 P1 M2 x1 x2 hf
    go_wp2_with (with_reducible refine wpList_copy_at rfl (.tmp 21) (.tmp 22) 46 46 rfl 5 Try.underlying46 byteSize f2 z3 (n - d) (n - d) (n - d) (pc - d) rfl rfl b 0 ((splice cs c (zs.take d)).map (Value.int .u8)) 5 R3r.out ((zs.drop d).map (Value.int .u8)) HN2.out P2.out HF2.out H2.out ?_)
    intro w4 hg4 ht4
    have R4 : Hid (byteRow w4 b (putL cs c zs)) := Lib.hid (by rw [HPUT.out]; show _ = _; rw [splice_mapF, List.map_drop]; exact hg4)
    have T4 := Lib.hid (T3.out.then ht4)
    clear hg4 ht4
    go_wp2_with fail
    go_end0
    exact ⟨rfl, R4.out, T4.out⟩

end Go.Proofs.Ytfolidedcejafaa
