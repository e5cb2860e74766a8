/-
  The reference's heap: Set. No conditions but bounds.
  A heap: Set. No conditions but bounds.
  A heap: Close. No conditions but bounds.
-/
import Derived.Test.YtjogaohnphafgaaGreatMoveRunsPbi

namespace Go.Proofs.YtjogaohnphafgaaGreat
section
open Go.RowKit
set_option linter.unusedVariables false

theorem bytes_splice_at {m zs : List Int} {o : Nat} (hm : bytes m) (hz : bytes zs) : bytes (splice m o zs) := fun u hu => by
  unfold splice at hu
  rcases List.mem_append.1 hu with h4 | h4
  · exact hm u (List.mem_of_mem_take h4)
  · rcases List.mem_append.1 h4 with h5 | h5
    · exact hz u h5
    · exact hm u (List.mem_of_mem_drop h5)
theorem reads_src {w : World} {sr : Option Addr} {k c : Nat} {zs : List Int} (h : Reads w .u8 (.slice sr k c) zs) : zs.length = k ∧ (0 < k → ∃ ad, sr = some ad ∧ ∀ j v, zs[j]? = some v → w.cell? (ad.add j) = some (.int .u8 v)) := by
  obtain ⟨a, c', e, _, hx⟩ := h
  simp only [Value.slice.injEq] at e
  obtain ⟨rfl, rfl, rfl⟩ := e
  refine ⟨rfl, fun hk => ?_⟩
  obtain ⟨b, o, rfl, hc⟩ := hx (by intro e; rw [e] at hk; simp at hk)
  refine ⟨_, rfl, fun j v hj => ?_⟩
  rw [Addr.add_lit, hc j (List.getElem?_eq_some_iff.1 hj).1, List.getD_eq_getElem?_getD, hj]
  rfl
/-- copy of octets into the memory. -/
theorem RfMem.put {w : World} {F : Nat → Prop} {rp pp M : Nat} {S : HpSt} {kept : List (List Blk)} {vm vb vk : Value} {vks : List Value} (m : RfMem w F rp pp M S kept vm vb vk vks) (to' n k c : Nat) (ad sr : Option Addr) (zs : List Int) (hle : to' + n ≤ S.mem.length) (hkn : k ≤ n)
    (hd : 0 < n → ∃ g, vm = .slice (some ⟨g, 0, none⟩) S.mem.length S.mem.length ∧ ad = some ⟨g, to', none⟩) (hr : Reads w .u8 (.slice sr k c) zs) (hz : Go.Proofs.YtjogaohnphafgaaGreat.bytes zs) :
    ∃ w', (Builtin.copy_ #[38, 38] 3 #[.slice ad n n, .slice sr k c]).run Tryz.prog w = .ok (.int .i64 k) w' ∧ RfMem w' F rp pp M { S with mem := splice S.mem to' zs } kept vm vb vk vks ∧ Touch (fun k => vm.ownBlock = some k) w w' := by
  obtain ⟨hcl, hsr⟩ := reads_src hr
  by_cases h0 : n = 0
  · have hk : k = 0 := by omega
    subst hk
    subst h0
    have hrun := run_copy_none (P := Tryz.prog) w 38 38 3 5 ad sr 0 0 0 c Tryz.underlying38 byteSize (by simp)
    refine ⟨w, by rw [hrun]; rfl, ?_, Touch.refl _ _⟩
    have hz0 : zs = [] := List.eq_nil_of_length_eq_zero hcl
    have e : ({ S with mem := splice S.mem to' zs } : HpSt) = S := by rw [hz0]; simp [splice]
    rw [e]
    exact m
  · obtain ⟨g, hg, hrow, _⟩ := m.bytes (by omega)
    obtain ⟨g', hg', rfl⟩ := hd (by omega)
    rw [hg] at hg'
    simp only [Value.slice.injEq, Option.some.injEq, Addr.mk.injEq, and_true] at hg'
    subst hg'
    obtain ⟨w', h1, h2, h3⟩ := copy_at_fact w g to' n sr k c S.mem zs hrow hcl hkn hsr (by omega)
    exact ⟨w', h1, m.octs hg h2 (by unfold splice; simp [hcl]; omega) (bytes_splice_at m.mb hz) h3, h3.mono (fun k hk => by rw [hg, hk]; rfl)⟩
/-- .. of the program. -/
theorem HB.put {w : World} {hp bp : Nat} {S : HpSt} {vm vb vh : Value} {vhs : List Value} {F G : Nat → Prop} {M : Nat} {b : BookSt} (h : HB w hp bp S vm vb vh vhs F G M b) (to' n k c : Nat) (ad sr : Option Addr) (zs : List Int) (hle : to' + n ≤ S.mem.length) (hkn : k ≤ n)
    (hd : 0 < n → ∃ g cap, vm = .slice (some ⟨g, 0, none⟩) S.mem.length cap ∧ ad = some ⟨g, to', none⟩) (hr : Reads w .u8 (.slice sr k c) zs) (hz : Go.Proofs.YtjogaohnphafgaaGreat.bytes zs) :
    ∃ w', (Builtin.copy_ #[38, 38] 3 #[.slice ad n n, .slice sr k c]).run Tryz.prog w = .ok (.int .i64 k) w' ∧ HB w' hp bp { S with mem := splice S.mem to' zs } vm vb vh vhs F G M b ∧ Touch (fun k => vm.ownBlock = some k) w w' := by
  obtain ⟨hcl, hsr⟩ := reads_src hr
  by_cases h0 : n = 0
  · have hk : k = 0 := by omega
    subst hk
    subst h0
    have hrun := run_copy_none (P := Tryz.prog) w 38 38 3 5 ad sr 0 0 0 c Tryz.underlying38 byteSize (by simp)
    refine ⟨w, by rw [hrun]; rfl, ?_, Touch.refl _ _⟩
    have hz0 : zs = [] := List.eq_nil_of_length_eq_zero hcl
    have e : ({ S with mem := splice S.mem to' zs } : HpSt) = S := by rw [hz0]; simp [splice]
    rw [e]
    exact h
  · obtain ⟨g, hg, hrow, _⟩ := h.hm.bytes (by omega)
    obtain ⟨g', c', hg', rfl⟩ := hd (by omega)
    rw [hg] at hg'
    simp only [Value.slice.injEq, Option.some.injEq, Addr.mk.injEq, and_true] at hg'
    obtain ⟨rfl, _⟩ := hg'
    obtain ⟨w', h1, h2, h3⟩ := copy_at_fact w g to' n sr k c S.mem zs hrow hcl hkn hsr (by omega)
    exact ⟨w', h1, h.octs hg h2 (by unfold splice; simp [hcl]; omega) (bytes_splice_at h.hm.mb hz) h3, h3.mono (fun k hk => by rw [hg, hk]; rfl)⟩

def stE (S : HpSt) (q at' : Int) (n : Nat) : Int := if fndE S q ≠ 0 then fndE S q else if ¬ (0 ≤ at' ∧ at' ≤ ((blkAt S q).len : Int)) ∨ ((blkAt S q).len : Int) - at' < (n : Int) then 2 else 0
def RsPost (w : World) (F : Nat → Prop) (rp pp M : Nat) (S : HpSt) (kept : List (List Blk)) (vm vb vk : Value) (vks : List Value) (q at' : Int) (zs : List Int) : Ending → World → Prop := fun e w' => e = .returned (.int .i64 (stE S q at' zs.length)) ∧
  ((stE S q at' zs.length ≠ 0 ∧ Below w.heap.size w w') ∨ (stE S q at' zs.length = 0 ∧ RfMem w' F rp pp M { S with mem := splice S.mem ((blkAt S q).at' + at'.toNat) zs } kept vm vb vk vks ∧ Touch F w w'))

set_option maxHeartbeats 4000000 in
set_option maxRecDepth 100000 in
theorem setR_any {w : World} {F : Nat → Prop} {rp pp M : Nat} {S : HpSt} {kept : List (List Blk)} {vm vb vk : Value} {vks : List Value} (m : RfMem w F rp pp M S kept vm vb vk vks) (q at' : Int) (ha : -9223372036854775808 ≤ at' ∧ at' ≤ 9223372036854775807) (zs : List Int) (a : Option Addr) (n c : Nat) (hr : Reads w .u8 (.slice a n c) zs) (hz : Go.Proofs.YtjogaohnphafgaaGreat.bytes zs) :
    Calls Tryz.prog 15 #[.pointer (some ⟨rp, 0, none⟩), .int .i64 q, .int .i64 at', .slice a n c] w (RsPost w F rp pp M S kept vm vb vk vks q at' zs) := by
  have BK := Lib.hid (blockR_any m q)
  unfold BkPost at BK
  have HM := Lib.hid m
  have hbig := m.big.1
  have hin := blkAt_in (S := S) (q := q) (fun x hx => (m.hb x hx).2.2)
  obtain ⟨hzl, _⟩ := reads_src hr
  have hnb : n ≤ 9223372036854775807 := by obtain ⟨_, _, e, h1, _⟩ := hr; omega
  have HR := Lib.hid hr
  have HZ := Lib.hid hz
  have FINE : Hid (∀ er w', stE S q at' n = er → er ≠ 0 → Below w.heap.size w w' → RsPost w F rp pp M S kept vm vb vk vks q at' zs (.returned (.int .i64 er)) w') := Lib.hid (fun er w' h1 h2 h3 => by rw [← hzl] at h1; exact ⟨by rw [h1], Or.inl ⟨by rw [h1]; exact h2, h3⟩⟩)
  have FINO : Hid (∀ w', stE S q at' n = 0 → RfMem w' F rp pp M { S with mem := splice S.mem ((blkAt S q).at' + at'.toNat) zs } kept vm vb vk vks → Touch F w w' → RsPost w F rp pp M S kept vm vb vk vks q at' zs (.returned (.int .i64 0)) w') := Lib.hid (fun w' h1 h2 h3 => by rw [← hzl] at h1; exact ⟨by rw [h1], Or.inr ⟨h1, h2, h3⟩⟩)
  obtain ⟨hat1, hat2⟩ := ha
  clear m hr hz hzl
  by_cases hE : fndE S q = 0
  case neg =>
    have FIN := Lib.hid (fun w' => FINE.out (fndE S q) w' (by unfold stE; rw [if_pos hE]) hE)
    have hE2 : (fndE S q == 0) = false := by simpa using hE
    generalize fndE S q = E at *
    generalize blkAt S q = X at *
    clear hE FINE FINO
    go_enter Tryz.func15, Tryz.ntmps15
    go_wp2_with fail
    refine BK.out.mono ?_
    rintro e w2 ⟨rfl, hb2⟩
    have HB2 := Lib.hid (hb2.alloc hb2.size (.cells #[.int .i64 (X.h : Int), .int .i64 (X.at' : Int), .int .i64 (X.len : Int)] 78))
    clear hb2 BK
    go_wp2_with fail
    go_ret
    exact FIN.out _ HB2.out
  case pos =>
    have ev : stE S q at' n = if ¬ (0 ≤ at' ∧ at' ≤ ((blkAt S q).len : Int)) ∨ ((blkAt S q).len : Int) - at' < (n : Int) then 2 else 0 := by unfold stE; rw [if_neg (by simpa using hE)]
    rw [hE] at BK
    generalize stE S q at' n = E at *
    generalize blkAt S q = X at *
    clear hE
    by_cases hbad : ¬ (0 ≤ at' ∧ at' ≤ (X.len : Int)) ∨ (X.len : Int) - at' < (n : Int)
    · rw [if_pos hbad] at ev
      have FIN := Lib.hid (fun w' => FINE.out 2 w' ev (by decide))
      clear FINE FINO ev
      rcases (show at' < 0 ∨ (¬ at' < 0 ∧ (X.len : Int) < at') ∨ (¬ at' < 0 ∧ ¬ (X.len : Int) < at' ∧ (X.len : Int) - at' < (n : Int)) from by omega) with h1 | ⟨h1, h2⟩ | ⟨h1, h2, h3⟩
      all_goals
        clear hbad
        go_enter Tryz.func15, Tryz.ntmps15
        go_wp2_with fail
        refine BK.out.mono ?_
        rintro e w2 ⟨rfl, hb2⟩
        have HB2 := Lib.hid (hb2.alloc hb2.size (.cells #[.int .i64 (X.h : Int), .int .i64 (X.at' : Int), .int .i64 (X.len : Int)] 78))
        clear hb2 BK
        go_wp2_with fail
        go_ret
        exact FIN.out _ HB2.out
    · rw [if_neg hbad] at ev
      obtain ⟨an, rfl⟩ : ∃ an : Nat, at' = (an : Int) := ⟨at'.toNat, by omega⟩
      rw [Int.toNat_natCast] at FINO
      have hal : an + n ≤ X.len := by omega
      have FIN := Lib.hid (fun w' => FINO.out w' ev)
      obtain ⟨xh, xa, xl⟩ := X
      simp only at hin hal FIN BK
      have HIN := Lib.hid hin
      have hxl : xl ≤ 100000 := by omega
      have hanx : an ≤ xl := by omega
      clear FINE FINO ev hbad hin
      go_enter Tryz.func15, Tryz.ntmps15
      go_wp2_with fail
      refine BK.out.mono ?_
      rintro e w2 ⟨rfl, hb2⟩
      have HB2 := Lib.hid (hb2.alloc hb2.size (.cells #[.int .i64 (xh : Int), .int .i64 (xa : Int), .int .i64 (xl : Int)] 78))
      have RS2 := heap_alloc_new w2 (.cells #[.int .i64 (xh : Int), .int .i64 (xa : Int), .int .i64 (xl : Int)] 78)
      obtain ⟨q0, q1, q2⟩ := cells3h RS2
      have c6 := (HM.out.below HB2.out).cells.2.2.2.2.2.2.1
      clear hb2 BK
      have h1 : ¬ (an : Int) < 0 := by omega
      have h2 : ¬ (xl : Int) < (an : Int) := by omega
      have h3 : ¬ (xl : Int) - (an : Int) < (n : Int) := by omega
      go_upto_region 5 with fail
      obtain ⟨r, hr⟩ : ∃ r, w2.heap.size = r := ⟨_, rfl⟩
      rw [hr] at q0 q1 q2 ⊢
      generalize w2.alloc (.cells #[.int .i64 (xh : Int), .int .i64 (xa : Int), .int .i64 (xl : Int)] 78) = W at *
      clear RS2 hr
      have S0 : BelM W W.drew := (Below.refl _ W).drew
      have mD := (HM.out.below HB2.out).below S0
      have e6 : ∀ z : WIn (BelM W), z.w.cell? ⟨rp, 6, none⟩ = some vm := fun z => old_cell z.h c6
      have e1 : ∀ z : WIn (BelM W), z.w.cell? ⟨r, 1, none⟩ = some (.int .i64 (xa : Int)) := fun z => old_cell z.h q1
      haveI ne : Nonempty (WIn (BelM W)) := ⟨⟨W.drew, S0⟩⟩
      have hpn : (xa : Int) + (an : Int) ≤ 100000 := by have := HIN.out; omega
      rcases HM.out.msh with ⟨hvm, h0⟩ | ⟨g, hvm⟩
      · have hin := HIN.out
        obtain rfl : xa = 0 := by omega
        obtain rfl : xl = 0 := by omega
        obtain rfl : an = 0 := by omega
        obtain rfl : n = 0 := by omega
        rw [hvm] at e6
        obtain ⟨w9, hrun, mP, tP⟩ := mD.put (0 + 0) 0 0 c none a zs (by omega) (Nat.le_refl _) (fun h => absurd h (by omega)) (HR.out.below (w' := W.drew) (HB2.out.drew) rfl) HZ.out
        refine wp_normal ?_
        refine wp_region_plan 10 (BelM W) rfl ?_
        refine wpN_seg [0, 1, 2, 3, 4, 5, 6, 7, 8, 9] (by kernel_rfl) (by kernel_rfl) (by kernel_rfl) (by kernel_rfl) (by decide) (fun _ _ _ _ _ h => h) S0 ?_
        simp only [pick, List.map_cons, List.map_nil, List.getElem?_cons_succ, List.getElem?_cons_zero, Option.getD_some]
        repeat (go_big_quiet_step (fail))
        refine wpQuiet_nil ?_
        clear e6 e1 ne
        refine wpN_one 10 _ (by kernel_rfl) rfl ?_
        refine NextAt.free (by kernel_rfl) ?_
        intro K hK
        refine step_copy_known rfl (.tmp 48) (.tmp 49) 38 rfl _ _ _ (by rfl) (by rfl) hrun ?_
        go_simp
        refine hK _ _ ?_
        clear hK K
        refine wpN_done (by kernel_rfl) ?_
        have FF := Lib.hid (FIN.out w9 mP ((Touch.of_below HB2.out).drew.trans (tP.mono (fun k hk => HM.out.mem.2 k hk)) (fun k hk => Or.inl hk)))
        clear hrun mP tP S0
        go_wp2_with fail
        go_ret
        exact FF.out
      · obtain ⟨N, hN⟩ : ∃ N, S.mem.length = N := ⟨_, rfl⟩
        have hin := HIN.out
        obtain ⟨w9, hrun, mP, tP⟩ := mD.put (xa + an) (N - (xa + an)) n c (if N = xa + an then some ⟨g, 0, none⟩ else some ⟨g, xa + an, none⟩) a zs (by omega) (by omega) (fun h => ⟨g, hvm, if_neg (by omega)⟩) (HR.out.below (w' := W.drew) (HB2.out.drew) rfl) HZ.out
        rw [hvm, hN] at e6
        rw [hN] at hin hbig
        clear hvm hN
        refine wp_normal ?_
        refine wp_region_plan 10 (BelM W) rfl ?_
        refine wpN_seg [0, 1, 2, 3, 4, 5, 6, 7, 8, 9] (by kernel_rfl) (by kernel_rfl) (by kernel_rfl) (by kernel_rfl) (by decide) (fun _ _ _ _ _ h => h) S0 ?_
        simp only [pick, List.map_cons, List.map_nil, List.getElem?_cons_succ, List.getElem?_cons_zero, Option.getD_some]
        repeat (go_big_quiet_step (fail))
        refine wpQuiet_nil ?_
        generalize (if N = xa + an then (some ⟨g, 0, none⟩ : Option Addr) else some ⟨g, xa + an, none⟩) = A at *
        clear e6 e1 ne
        refine wpN_one 10 _ (by kernel_rfl) rfl ?_
        refine NextAt.free (by kernel_rfl) ?_
        intro K hK
        refine step_copy_known rfl (.tmp 48) (.tmp 49) 38 rfl _ _ _ (by rfl) (by rfl) hrun ?_
        go_simp
        refine hK _ _ ?_
        clear hK K
        refine wpN_done (by kernel_rfl) ?_
        have FF := Lib.hid (FIN.out w9 mP ((Touch.of_below HB2.out).drew.trans (tP.mono (fun k hk => HM.out.mem.2 k hk)) (fun k hk => Or.inl hk)))
        clear hrun mP tP S0
        go_wp2_with fail
        go_ret
        exact FF.out

end
end Go.Proofs.YtjogaohnphafgaaGreat

namespace Go.Proofs.YtjogaohnphafgaaGreat
section
open Go.RowKit
set_option linter.unusedVariables false

def SmPost (w : World) (hp bp : Nat) (S : HpSt) (vm vb vh : Value) (vhs : List Value) (F G : Nat → Prop) (M : Nat) (b : BookSt) (q at' : Int) (zs : List Int) : Ending → World → Prop := fun e w' => e = .returned (.int .i64 (stE S q at' zs.length)) ∧
  ((stE S q at' zs.length ≠ 0 ∧ Below w.heap.size w w') ∨ (stE S q at' zs.length = 0 ∧ HB w' hp bp { S with mem := splice S.mem ((blkAt S q).at' + at'.toNat) zs } vm vb vh vhs F G M b ∧ Touch F w w'))

set_option maxHeartbeats 4000000 in
set_option maxRecDepth 100000 in
theorem setM_any {w : World} {hp bp : Nat} {S : HpSt} {vm vb vh : Value} {vhs : List Value} {F G : Nat → Prop} {M : Nat} {b : BookSt} (h : HB w hp bp S vm vb vh vhs F G M b) (q at' : Int) (ha : -9223372036854775808 ≤ at' ∧ at' ≤ 9223372036854775807) (zs : List Int) (a : Option Addr) (n c : Nat) (hr : Reads w .u8 (.slice a n c) zs) (hz : Go.Proofs.YtjogaohnphafgaaGreat.bytes zs) :
    Calls Tryz.prog 14 #[.pointer (some ⟨hp, 0, none⟩), .int .i64 q, .int .i64 at', .slice a n c] w (SmPost w hp bp S vm vb vh vhs F G M b q at' zs) := by
  have FD := Lib.hid (findM_any h.hm q)
  unfold FdPost at FD
  have H := Lib.hid h
  have hbig := h.hm.big.1
  obtain ⟨hzl, _⟩ := reads_src hr
  have hnb : n ≤ 9223372036854775807 := by obtain ⟨_, _, e, h1, _⟩ := hr; omega
  have HR := Lib.hid hr
  have HZ := Lib.hid hz
  have FINE : Hid (∀ er w', stE S q at' n = er → er ≠ 0 → Below w.heap.size w w' → SmPost w hp bp S vm vb vh vhs F G M b q at' zs (.returned (.int .i64 er)) w') := Lib.hid (fun er w' h1 h2 h3 => by rw [← hzl] at h1; exact ⟨by rw [h1], Or.inl ⟨by rw [h1]; exact h2, h3⟩⟩)
  have FINO : Hid (∀ w', stE S q at' n = 0 → HB w' hp bp { S with mem := splice S.mem ((blkAt S q).at' + at'.toNat) zs } vm vb vh vhs F G M b → Touch F w w' → SmPost w hp bp S vm vb vh vhs F G M b q at' zs (.returned (.int .i64 0)) w') := Lib.hid (fun w' h1 h2 h3 => by rw [← hzl] at h1; exact ⟨by rw [h1], Or.inr ⟨h1, h2, h3⟩⟩)
  obtain ⟨hat1, hat2⟩ := ha
  clear h hr hz hzl
  by_cases hE : fndE S q = 0
  case neg =>
    have FIN := Lib.hid (fun w' => FINE.out (fndE S q) w' (by unfold stE; rw [if_pos hE]) hE)
    have hE2 : (fndE S q != 0) = true := by simpa using hE
    have HE := Lib.hid hE
    clear hE FINE FINO
    go_enter Tryz.func14, Tryz.ntmps14
    go_wp2_with fail
    refine FD.out.mono ?_
    rintro e w2 ⟨rfl, ⟨_, rfl⟩ | ⟨h0, _⟩⟩
    · generalize fndE S q = E at *
      clear FD
      go_wp2_with fail
      go_ret
      exact FIN.out _ (Below.refl _ _)
    · exact absurd h0 HE.out
  case pos =>
    have ev : stE S q at' n = if ¬ (0 ≤ at' ∧ at' ≤ ((blkAt S q).len : Int)) ∨ ((blkAt S q).len : Int) - at' < (n : Int) then 2 else 0 := by unfold stE; rw [if_neg (by simpa using hE)]
    obtain ⟨hcl, i, x, hf, hx, hi, hbk⟩ := fndE_zero hE
    rw [hbk] at ev FINO
    obtain ⟨g, cap, hvb, d0, d1, d2, _⟩ := blk_cells H.out.hm.row.1 hx
    have hin := (H.out.hm.hb x (List.mem_of_getElem? hx)).2.2
    have FD2 : Hid (Calls Tryz.prog 39 #[.pointer (some ⟨hp, 0, none⟩), .int .i64 q] w (fun e w' => w' = w ∧ e = .returned (.tuple #[.pointer (some ⟨g, i * 3, none⟩), .int .i64 0]))) := Lib.hid (FD.out.mono (by
      rintro e w' ⟨h1, ⟨h2, _⟩ | ⟨_, i', x', g', cap', hf', hv', he'⟩⟩
      · exact absurd hE h2
      · rw [hf] at hf'
        cases hf'
        rw [hvb] at hv'
        simp only [Value.slice.injEq, Option.some.injEq, Addr.mk.injEq, and_true, true_and] at hv'
        rw [← hv'.1] at he'
        exact ⟨h1, he'⟩))
    have OC := Lib.hid (fun W (hW : Below w.heap.size w W) => octetsM_any (H.out.hm.below hW) (x.h : Int) x.at' x.len hin)
    unfold OcPost at OC
    generalize stE S q at' n = E at *
    clear hE hcl hf hx hi hbk hvb FD
    have hxl : x.len ≤ 100000 := by omega
    by_cases hbad : ¬ (0 ≤ at' ∧ at' ≤ (x.len : Int)) ∨ (x.len : Int) - at' < (n : Int)
    · rw [if_pos hbad] at ev
      have FIN := Lib.hid (fun w' => FINE.out 2 w' ev (by decide))
      clear FINE FINO ev OC
      by_cases h1 : 0 ≤ at' ∧ at' ≤ (x.len : Int)
      · have h3 : (x.len : Int) - at' < (n : Int) := by omega
        have W1 := Lib.hid (within_move_yes at' 0 (x.len : Int) w h1.1 h1.2)
        obtain ⟨h1a, h1b⟩ := h1
        clear hbad
        go_enter Tryz.func14, Tryz.ntmps14
        go_wp2_with fail
        refine FD2.out.mono ?_
        rintro e w2 ⟨rfl, rfl⟩
        go_wp2_with fail
        refine W1.out.mono ?_
        rintro e w3 ⟨rfl, hw3⟩
        obtain rfl := hw3
        go_wp2_with fail
        go_ret
        exact FIN.out _ (Below.refl _ _)
      · have W1 := Lib.hid (within_move_no at' 0 (x.len : Int) w h1)
        clear hbad h1
        go_enter Tryz.func14, Tryz.ntmps14
        go_wp2_with fail
        refine FD2.out.mono ?_
        rintro e w2 ⟨rfl, rfl⟩
        go_wp2_with fail
        refine W1.out.mono ?_
        rintro e w3 ⟨rfl, hw3⟩
        obtain rfl := hw3
        go_wp2_with fail
        go_ret
        exact FIN.out _ (Below.refl _ _)
    · rw [if_neg hbad] at ev
      obtain ⟨an, rfl⟩ : ∃ an : Nat, at' = (an : Int) := ⟨at'.toNat, by omega⟩
      rw [Int.toNat_natCast] at FINO
      have hal : an + n ≤ x.len := by omega
      have hanx : an ≤ x.len := by omega
      have FIN := Lib.hid (fun w' => FINO.out w' ev)
      have W1 := Lib.hid (within_move_yes (an : Int) 0 (x.len : Int) w (by omega) (by omega))
      have h3 : ¬ (x.len : Int) - (an : Int) < (n : Int) := by omega
      have HIN := Lib.hid hin
      clear FINE FINO ev hbad hin
      go_enter Tryz.func14, Tryz.ntmps14
      go_wp2_with fail
      refine FD2.out.mono ?_
      rintro e w2 ⟨rfl, rfl⟩
      go_wp2_with fail
      refine W1.out.mono ?_
      rintro e w3 ⟨rfl, hw3⟩
      obtain rfl := hw3
      go_wp2_with fail
      refine (OC.out _ (Below.refl _ _)).mono ?_
      rintro e w4 ⟨oa, rfl, hoa, hb4⟩
      have H4 := H.out.below hb4
      have HOA := Lib.hid hoa
      have R4 : Reads w4 .u8 (.slice a n c) zs := HR.out.below hb4 rfl
      have T4 : Touch F w2 w4 := Touch.of_below hb4
      clear hb4 OC FD2 d0 d1 d2 hoa
      by_cases h0 : x.len = 0
      · have hin := HIN.out
        have e1 : an = 0 := by omega
        have e2 : n = 0 := by omega
        subst e1
        subst e2
        obtain ⟨w9, hrun, mP, tP⟩ := H4.put (x.at' + 0) 0 0 c oa a zs (by omega) (Nat.le_refl _) (fun h => absurd h (by omega)) R4 HZ.out
        have FF := Lib.hid (FIN.out w9 mP (T4.trans (tP.mono (fun k hk => H.out.hm.mem.2 k hk)) (fun k hk => Or.inl hk)))
        clear mP tP R4 H4 T4
        rw [h0]
        cases oa with
        | none =>
          go_wp2_with fail
          go_ret
          exact FF.out
        | some ad =>
          go_wp2_with fail
          go_ret
          exact FF.out
      · obtain ⟨g2, cap2, hvm2, rfl⟩ := HOA.out (by omega)
        have hin := HIN.out
        obtain ⟨w9, hrun, mP, tP⟩ := H4.put (x.at' + an) (x.len - an) n c (if x.len = an then some ⟨g2, x.at', none⟩ else some ⟨g2, x.at' + an, none⟩) a zs (by omega) (by omega) (fun h => ⟨g2, cap2, hvm2, if_neg (by omega)⟩) R4 HZ.out
        have FF := Lib.hid (FIN.out w9 mP (T4.trans (tP.mono (fun k hk => H.out.hm.mem.2 k hk)) (fun k hk => Or.inl hk)))
        clear mP tP R4 H4 T4 hvm2 HOA h0
        go_wp2_with fail
        all_goals go_ret
        all_goals exact FF.out

end
end Go.Proofs.YtjogaohnphafgaaGreat

namespace Go.Proofs.YtjogaohnphafgaaGreat
section
open Go.RowKit
set_option linter.unusedVariables false

def McPost (w : World) (hp bp : Nat) (S : HpSt) (vm vh : Value) (vhs : List Value) (F G : Nat → Prop) (M : Nat) : Ending → World → Prop := fun e w' =>
  (S.closed = true ∧ e = .returned (.int .i64 11) ∧ w' = w) ∨
  (S.closed = false ∧ e = .returned (.int .i64 0) ∧ ∃ (vm2 : Value) (F' G' : Nat → Prop) (b' : BookSt), HB w' hp bp S.shut vm2 (.slice none 0 0) vh vhs F' G' M b' ∧ MemTo w.heap.size S.mem.length 0 vm vm2 ∧ (∀ k, F' k → Lost F vm vm2 k ∨ w.heap.size ≤ k) ∧ (∀ k, G' k → G k ∨ w.heap.size ≤ k) ∧ Touch (fun k => Lost F vm vm2 k ∨ G k) w w')

/-- A heap shut. -/
theorem HB.shut {w w2 : World} {hp bp : Nat} {S : HpSt} {vm vb vh vm2 : Value} {vhs : List Value} {F F' G G' : Nat → Prop} {M : Nat} {b b' : BookSt} (h : HB w hp bp S vm vb vh vhs F G M b) (hF : ∀ k, F k → vm.ownBlock ≠ some k → F' k) (self : w2.heap[hp]? = some (.cells (hpCells bp S vm2 vb vh) 75 (0, 0)))
    (keep : ∀ k, F k → k ≠ hp → w2.heap[k]? = w.heap[k]?) (hv : vm2 = .slice none 0 0 ∨ ∃ g cur, vm2 = .slice (some ⟨g, 0, none⟩) 0 0 ∧ w2.heap[g]? = some (.cells cur 5 (0, 0)) ∧ cur.size = 0 ∧ F' g) (bk : BkIn w2 G' bp M 0 b')
    (dis : ∀ k, F' k → ¬ G' k) (fl : ∀ k, F' k → k < w2.heap.size) :
    HB ((w2.setCell ⟨hp, 7, none⟩ (.slice none 0 0)).setCell ⟨hp, 5, none⟩ (.bool true)) hp bp S.shut vm2 (.slice none 0 0) vh vhs F' G' M b' := by
  have m := h.hm
  obtain ⟨a1, a2, a3, a4⟩ := m.apart
  have k5 : ∀ k, k ≠ hp → ((w2.setCell ⟨hp, 7, none⟩ (.slice none 0 0)).setCell ⟨hp, 5, none⟩ (.bool true)).heap[k]? = w2.heap[k]? := fun k hk => (Below.heap_setCell _ ⟨hp, 5, none⟩ _ k hk).trans (Below.heap_setCell _ ⟨hp, 7, none⟩ _ k hk)
  have key : ∀ k, F k → k ≠ hp → ((w2.setCell ⟨hp, 7, none⟩ (.slice none 0 0)).setCell ⟨hp, 5, none⟩ (.bool true)).heap[k]? = w.heap[k]? := fun k hk hne => (k5 k hne).trans (keep k hk hne)
  have sz : ((w2.setCell ⟨hp, 7, none⟩ (.slice none 0 0)).setCell ⟨hp, 5, none⟩ (.bool true)).heap.size = w2.heap.size := by simp [World.setCell]
  have tt : Touch (fun k => k = hp) w2 ((w2.setCell ⟨hp, 7, none⟩ (.slice none 0 0)).setCell ⟨hp, 5, none⟩ (.bool true)) := Touch.setCell (F := fun k => k = hp) (p := ⟨hp, 5, none⟩) (Touch.setCell (F := fun k => k = hp) (p := ⟨hp, 7, none⟩) (Touch.refl _ w2) (Or.inl rfl) _) (Or.inl rfl) _
  have nh : vm.ownBlock ≠ some hp := fun e => a4 hp e rfl
  refine ⟨⟨block_setCell (block_setCell self 7 _) 5 _, hF _ m.fh nh, ⟨?_, ?_⟩, fun z hz => by simp [HpSt.shut] at hz, ?_, ⟨World.ownsRow_nil _ _ _ _, fun k hk => by simp [Value.ownBlock] at hk⟩, ⟨ownsRow_same m.hrow.1 (fun k hk => key k (m.hrow.2 k hk) (a2 k hk)), fun k hk => hF k (m.hrow.2 k hk) (rowApart m.hrow.1 m.mem.1 (by decide) hk)⟩,
    ⟨m.hs.1, fun i v l h1 h2 => ⟨ownsRow_same (m.hs.2 i v l h1 h2).1 (fun k hk => key k ((m.hs.2 i v l h1 h2).2 k hk).1 (a3 i v h1 k hk)), fun k hk => ⟨hF k ((m.hs.2 i v l h1 h2).2 k hk).1 (rowApart (m.hs.2 i v l h1 h2).1 m.mem.1 (by decide) hk), by simp [Value.ownBlock]⟩⟩⟩, List.Pairwise.nil, fun x hx => by simp [HpSt.shut] at hx, ⟨Nat.zero_le _, Nat.zero_le _, m.big.2.2⟩⟩, ?_, dis, fun k hk => by rw [sz]; exact fl k hk⟩
  · rcases hv with rfl | ⟨g, cur, rfl, hg, hc, _⟩
    · exact World.ownsRow_nil _ _ _ _
    · have hne : g ≠ hp := fun e => by rw [e, self] at hg; simp [hpCells] at hg
      exact ⟨rfl, Or.inr ⟨g, 0, cur, rfl, Nat.zero_le _, (k5 g hne).trans hg, Nat.le_refl _, Nat.zero_le _, by simpa using hc, rfl⟩⟩
  · intro k hk
    rcases hv with rfl | ⟨g, cur, rfl, hg, hc, hf⟩
    · simp [Value.ownBlock] at hk
    · simp [Value.ownBlock] at hk
      rw [← hk]; exact hf
  · rcases hv with rfl | ⟨g, cur, rfl, _⟩
    · exact Or.inl ⟨rfl, rfl⟩
    · exact Or.inr ⟨g, rfl⟩
  · exact bk.touch tt (fun k hk hg => by subst hk; exact dis _ (hF _ m.fh nh) hg)

set_option maxHeartbeats 4000000 in
set_option maxRecDepth 100000 in
theorem closeM_any {w : World} {hp bp : Nat} {S : HpSt} {vm vb vh : Value} {vhs : List Value} {F G : Nat → Prop} {M : Nat} {b : BookSt} (h : HB w hp bp S vm vb vh vhs F G M b) :
    Calls Tryz.prog 26 #[.pointer (some ⟨hp, 0, none⟩)] w (McPost w hp bp S vm vh vhs F G M) := by
  have c5 := h.hm.cells.2.2.2.2.2.1
  cases hc : S.closed with
  | true =>
    rw [hc] at c5
    have FIN : Hid (McPost w hp bp S vm vh vhs F G M (.returned (.int .i64 11)) w) := Lib.hid (Or.inl ⟨hc, rfl, rfl⟩)
    clear h hc
    go_enter Tryz.func26, Tryz.ntmps26
    go_wp2_with fail
    go_ret
    exact FIN.out
  | false =>
    rw [hc] at c5
    have RN := Lib.hid (renew_any h 0 (by omega))
    have H := Lib.hid h
    have HC := Lib.hid hc
    have hshp : ∃ n : Nat, S.mem.length = n := ⟨_, rfl⟩
    clear h hc hshp
    -- what the stores leave
    have END : Hid (∀ (w2 : World) (vm2 : Value) (F' G' : Nat → Prop) (b' : BookSt), (∀ k, F k → vm.ownBlock ≠ some k → F' k) → (∀ k, F' k → Lost F vm vm2 k ∨ w.heap.size ≤ k) → (∀ k, G' k → G k ∨ w.heap.size ≤ k) → w2.heap[hp]? = some (.cells (hpCells bp S vm2 vb vh) 75 (0, 0)) → (∀ k, F k → k ≠ hp → w2.heap[k]? = w.heap[k]?) →
        (vm2 = .slice none 0 0 ∨ ∃ g cur, vm2 = .slice (some ⟨g, 0, none⟩) 0 0 ∧ w2.heap[g]? = some (.cells cur 5 (0, 0)) ∧ cur.size = 0 ∧ F' g) → BkIn w2 G' bp M 0 b' → (∀ k, F' k → ¬ G' k) → (∀ k, F' k → k < w2.heap.size) → Touch (fun k => Lost F vm vm2 k ∨ G k) w w2 → MemTo w.heap.size S.mem.length 0 vm vm2 →
        w2.cell? ⟨hp, 7, none⟩ = some vb ∧ w2.cell? ⟨hp, 5, none⟩ = some (.bool S.closed) ∧ (∀ j, w2.frozen? ⟨hp, j, none⟩ = false) ∧ McPost w hp bp S vm vh vhs F G M (.returned (.int .i64 0)) ((w2.setCell ⟨hp, 7, none⟩ (.slice none 0 0)).setCell ⟨hp, 5, none⟩ (.bool true))) := Lib.hid (by
      intro w2 vm2 F' G' b' x1 x2 x3 x4 x5 x6 x7 x8 x9 x10 x11
      have nh : vm.ownBlock ≠ some hp := fun e => H.out.hm.apart.2.2.2 hp e rfl
      refine ⟨(cell_of x4 7).trans rfl, (cell_of x4 5).trans rfl, fun j => free_of x4 j, Or.inr ⟨HC.out, rfl, vm2, F', G', b', H.out.shut x1 x4 x5 x6 x7 x8 x9, x11, x2, x3, ?_⟩⟩
      exact Touch.setCell (F := fun k => Lost F vm vm2 k ∨ G k) (p := ⟨hp, 5, none⟩) (Touch.setCell (F := fun k => Lost F vm vm2 k ∨ G k) (p := ⟨hp, 7, none⟩) x10 (Or.inl (Or.inl (Lost.not H.out.hm.fh nh))) _) (Or.inl (Or.inl (Lost.not H.out.hm.fh nh))) _)
    go_enter Tryz.func26, Tryz.ntmps26
    go_wp2_with fail
    refine RN.out.mono ?_
    rintro e w2 (⟨r1, rfl, hw2⟩ | ⟨r1, r2, rfl, _⟩ | ⟨r1, r2, rfl, G', b', g, hbk, hG, hgs, hgl, hgG, hrow, hself, ht⟩)
    · obtain ⟨e7, e5, fz, hF⟩ := END.out w2 vm F G b (fun k h _ => h) (fun k h => Or.inl (Lost.self h)) (fun k h => Or.inl h) (by rw [hw2]; exact H.out.hm.self) (fun k _ _ => by rw [hw2]) (by
        rcases H.out.hm.msh with ⟨hv, _⟩ | ⟨g, hv⟩
        · exact Or.inl hv
        · right
          rw [← r1] at hv
          rcases H.out.hm.mem.1.2 with ⟨h1, _⟩ | ⟨g', cap, cur, h1, _, hb, hle, _, hsz, htk⟩
          · rw [hv] at h1; simp at h1
          · rw [hv] at h1
            simp only [Value.slice.injEq, Option.some.injEq, Addr.mk.injEq, and_true] at h1
            obtain ⟨rfl, _, rfl⟩ := h1
            exact ⟨g, cur, hv, by rw [hw2]; exact hb, by simpa using hsz, H.out.hm.mem.2 g (by rw [hv]; rfl)⟩) (by rw [hw2, r1]; exact H.out.bk) H.out.dis (fun k hk => by rw [hw2]; exact H.out.fl k hk) (by rw [hw2]; exact Touch.refl _ _) (Or.inl ⟨rfl, r1⟩)
      have F2 := Lib.hid hF
      have f5 := fz 5
      have f7 := fz 7
      clear hF fz RN END hw2 r1
      go_wp2_with fail
      go_ret
      exact F2.out
    · omega
    · have hmem : reM S.mem 0 = [] := List.eq_nil_of_length_eq_zero (reM_len S.mem 0)
      obtain ⟨e7, e5, fz, hF⟩ := END.out w2 (.slice (some ⟨g, 0, none⟩) 0 0) (fun k => (F k ∧ vm.ownBlock ≠ some k) ∨ k = g) G' b' (fun k h h2 => Or.inl ⟨h, h2⟩) (fun k h => h.imp (fun e => Lost.not e.1 e.2) (fun e => by omega)) hG hself (fun k hk hne => ht.block k (H.out.fl k hk) (fun e => e.elim (H.out.dis k hk) hne)) (Or.inr ⟨g, _, rfl, hrow, by rw [hmem]; rfl, Or.inr rfl⟩) hbk (fun k hk hg' => by
        rcases hk with ⟨h1, _⟩ | rfl
        · rcases hG k hg' with h2 | h2
          · exact H.out.dis k h1 h2
          · have := H.out.fl k h1; omega
        · exact hgG hg') (fun k hk => by
        rcases hk with ⟨h1, _⟩ | rfl
        · exact Nat.lt_of_lt_of_le (H.out.fl k h1) ht.size
        · exact hgl) (ht.mono (fun k hk => hk.elim Or.inr (fun e => Or.inl (e ▸ Lost.not H.out.hm.fh (fun e2 => H.out.hm.apart.2.2.2 hp e2 rfl))))) (MemTo.new r1 (fun k hk => by simp [Value.ownBlock] at hk; omega))
      have F2 := Lib.hid hF
      have f5 := fz 5
      have f7 := fz 7
      clear hF fz RN END hbk hG hrow hself ht hgG hmem
      go_wp2_with fail
      go_ret
      exact F2.out

end
end Go.Proofs.YtjogaohnphafgaaGreat
