/-
  Copied, and the reference's. No conditions.
-/
import Derived.Test.YtidfidknflcioaaTopPolicyPat
namespace Go.Proofs.Ytidfidknflcioaa
open Go.RowKit

theorem byteSize : (Try.prog.info? 5).map (·.size) = some 1 := by
  obtain ⟨i0, hi, _, h, _⟩ := info_parts byteInfo0
  rw [hi]; simp [h]

/-- What 'copy' of the list zs reads. -/
theorem Reads.src {w : World} {p : Option Addr} {n m : Nat} {zs : List Int} (h : Reads w .u8 (.slice p n m) zs) (hn : zs.length = n) (h0 : 0 < (zs.map (Value.int .u8)).length) :
    ∃ ad, p = some ad ∧ ∀ j v, (zs.map (Value.int .u8))[j]? = some v → w.cell? (ad.add j) = some v := by
  have hc := h.cells hn
  obtain ⟨a, cap, e, hl, hr⟩ := h
  simp only [Value.slice.injEq] at e
  obtain ⟨rfl, _, _⟩ := e
  obtain ⟨b, o, rfl, _⟩ := hr (by intro e; subst e; simp at h0)
  exact ⟨_, rfl, hc _ rfl⟩

theorem splice_zeros (zs : List Int) (H : Nat) : splice ((zeros H).map (Value.int .u8)) 0 (zs.map (Value.int .u8)) = (zs ++ zeros (H - zs.length)).map (Value.int .u8) := by
  simp [splice, zeros]

def CopyRow (zs : List Int) (H : Nat) (w : World) : Ending → World → Prop := fun e w' =>
  ∃ g, w.heap.size ≤ g ∧ e = .returned (.slice (some ⟨g, 0, none⟩) zs.length H) ∧ byteRow w' g (zs ++ zeros (H - zs.length)) ∧ Below w.heap.size w w'

set_option maxHeartbeats 1000000 in
set_option maxRecDepth 100000 in
theorem copiedRaw_any (v : Value) (zs : List Int) (h : Int) (w : World) (hr : Reads w .u8 v zs) (h1 : (zs.length : Int) ≤ h) (h2 : h ≤ 100000) :
    Calls Try.prog 81 #[v, .int .i64 zs.length, .int .i64 h] w (CopyRow zs h.toNat w) := by
  have HR := Lib.hid hr
  obtain ⟨a, cap, rfl, hl, _⟩ := hr
  have MK := fun w => run_makeBytes w zs.length h (by omega) h1 (by omega)
  have N := Lib.hid (rfl : zs.length = zs.length)
  have HG := Lib.hid (heap_alloc_new w (.cells ((zeros h.toNat).map (Value.int .u8)).toArray 5))
  have HN : Hid ((zs.map (Value.int .u8)).length = Nat.min zs.length zs.length) := Lib.hid (by simp)
  have HFI : Hid (0 + (zs.map (Value.int .u8)).length ≤ ((zeros h.toNat).map (Value.int .u8)).length) := Lib.hid (by simp [zeros]; omega)
  have H1 : Hid (∀ v ∈ zs.map (Value.int .u8), v.oneCell' = true) := Lib.hid (by intro v hv; obtain ⟨z, _, rfl⟩ := List.mem_map.1 hv; rfl)
  have HPO : Hid (0 < (zs.map (Value.int .u8)).length → (some (⟨w.heap.size, 0, none⟩ : Addr) = some ⟨w.heap.size, 0, none⟩) ∧ ∃ ad, a = some ad ∧ ∀ j v, (zs.map (Value.int .u8))[j]? = some v → (w.alloc (.cells ((zeros h.toNat).map (Value.int .u8)).toArray 5)).cell? (ad.add j) = some v) :=
    Lib.hid (fun h0 => ⟨rfl, (HR.out.below (w' := w.alloc (.cells ((zeros h.toNat).map (Value.int .u8)).toArray 5)) (by go_grown) rfl).src rfl h0⟩)
  go_enter Try.func81, Try.ntmps81
  go_wp2_with (with_reducible refine wpList_copy_at rfl (.tmp 11) (.tmp 12) 32 32 rfl 5 Try.underlying32 byteSize (some ⟨w.heap.size, 0, none⟩) a zs.length h.toNat zs.length cap rfl rfl w.heap.size 0 ((zeros h.toNat).map (Value.int .u8)) 5 HG.out (zs.map (Value.int .u8)) HN.out HPO.out HFI.out H1.out ?_)
  intro w' hg ht
  rw [splice_zeros] at hg
  have bel : Below w.heap.size w w' := Below.trans (by go_grown) (ht.below (by simp) (fun k hk => by omega))
  go_wp2_with fail
  go_ret
  exact ⟨w.heap.size, Nat.le_refl _, by simp, hg, bel⟩

def copE (n : Nat) (h : Int) : Int := if 100000 < n then 4 else if (0 ≤ h ∧ h ≤ 100000) ∧ (n : Int) ≤ h then 0 else 2
def CopyPost (zs : List Int) (h : Int) (w : World) : Ending → World → Prop := fun e w' => Below w.heap.size w w' ∧
  ((copE zs.length h = 0 ∧ ∃ g, w.heap.size ≤ g ∧ e = .returned (.tuple #[.slice (some ⟨g, 0, none⟩) zs.length h.toNat, .int .i64 0]) ∧ byteRow w' g (zs ++ zeros (h.toNat - zs.length))) ∨
  (copE zs.length h ≠ 0 ∧ e = .returned (.tuple #[.slice none 0 0, .int .i64 (copE zs.length h)])))

set_option maxHeartbeats 2000000 in
theorem copied_any (v : Value) (zs : List Int) (h : Int) (w : World) (hr : Reads w .u8 v zs) : Calls Try.prog 75 #[v, .int .i64 h] w (CopyPost zs h w) := by
  have HR := Lib.hid hr
  obtain ⟨a, cap, rfl, hl, _⟩ := hr
  by_cases h1 : 100000 < zs.length
  · have E := Lib.hid (show copE zs.length h = 4 from by unfold copE; rw [if_pos h1])
    have h1' : (100000 : Int) < (zs.length : Int) := by omega
    clear h1
    go_enter Try.func75, Try.ntmps75
    go_wp2_with fail
    go_ret2
    exact ⟨Below.refl _ _, Or.inr ⟨by rw [E.out]; decide, by rw [E.out]; rfl⟩⟩
  · have h1' : (zs.length : Int) ≤ 100000 := by omega
    by_cases h2 : 0 ≤ h ∧ h ≤ 100000
    · by_cases h3 : (zs.length : Int) ≤ h
      · have E := Lib.hid (show copE zs.length h = 0 from by unfold copE; rw [if_neg h1, if_pos ⟨h2, h3⟩])
        obtain ⟨a1, a2⟩ := h2
        have RAW := Lib.hid (copiedRaw_any (.slice a zs.length cap) zs h w HR.out h3 a2)
        clear h1
        go_enter Try.func75, Try.ntmps75
        go_wp2_with fail
        refine (within_room_yes _ _ _ _ a1 a2).mono ?_
        rintro e w' ⟨rfl, rfl⟩
        go_wp2_with fail
        refine RAW.out.mono ?_
        rintro e w' ⟨g, hg, rfl, hrow, hbel⟩
        go_wp2_with fail
        go_ret2
        exact ⟨hbel, Or.inl ⟨E.out, g, hg, rfl, hrow⟩⟩
      · have E := Lib.hid (show copE zs.length h = 2 from by unfold copE; rw [if_neg h1, if_neg (fun x => h3 x.2)])
        obtain ⟨a1, a2⟩ := h2
        have h4 : h < (zs.length : Int) := by omega
        clear h1 h3
        go_enter Try.func75, Try.ntmps75
        go_wp2_with fail
        refine (within_room_yes _ _ _ _ a1 a2).mono ?_
        rintro e w' ⟨rfl, rfl⟩
        go_wp2_with fail
        go_ret2
        exact ⟨Below.refl _ _, Or.inr ⟨by rw [E.out]; decide, by rw [E.out]; rfl⟩⟩
    · have E := Lib.hid (show copE zs.length h = 2 from by unfold copE; rw [if_neg h1, if_neg (fun x => h2 x.1)])
      have H2 := Lib.hid h2
      clear h1 h2
      go_enter Try.func75, Try.ntmps75
      go_wp2_with fail
      refine (within_room_no _ _ _ _ H2.out).mono ?_
      rintro e w' ⟨rfl, rfl⟩
      go_wp2_with fail
      go_ret2
      exact ⟨Below.refl _ _, Or.inr ⟨by rw [E.out]; decide, by rw [E.out]; rfl⟩⟩

end Go.Proofs.Ytidfidknflcioaa
