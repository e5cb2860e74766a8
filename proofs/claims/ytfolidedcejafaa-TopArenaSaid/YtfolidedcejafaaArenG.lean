/-
  place, grow and Take of an arena: what they give. Conditions: numbers in their bounds.
-/
import Derived.Test.YtfolidedcejafaaArenL
import Derived.Test.YtfolidedcejafaaRingMove2
namespace Go.Proofs.Ytfolidedcejafaa
open Go.RowKit
set_option linter.unusedVariables false

/-- Where a region of n octets finds its place: at ch, from at on. -/
def PlaceOk (chunks : List Chk) (regs : List Reg) (n ch at' : Nat) (fits : Bool) : Prop :=
  (fits = true → ch < chunks.length ∧ at' + n ≤ (chunks.getD ch Chk.zero).os.length) ∧ (fits = false → ch = chunks.length ∧ at' = 0) ∧
  (0 < regs.length → (regs.getD (regs.length - 1) Reg.zero).ch < ch ∨ ((regs.getD (regs.length - 1) Reg.zero).ch = ch ∧ (regs.getD (regs.length - 1) Reg.zero).to ≤ at'))
def PlacePost (chunks : List Chk) (regs : List Reg) (n : Nat) (w : World) : Ending → World → Prop := fun e w' =>
  ∃ ch at' fits, e = .returned (.tuple #[.agg #[.int .i64 (ch : Nat), .int .i64 (at' : Nat), .int .i64 ((at' : Nat) + n : Nat)], .bool fits]) ∧ PlaceOk chunks regs n ch at' fits ∧ Below w.heap.size w w'

theorem three_below {B b : Nat} {w W : World} {a0 a1 a2 : Value} (h : Below B w W) (hb : B ≤ b) : Below B w (((W.setCell ⟨b, 0, none⟩ a0).setCell ⟨b, 1, none⟩ a1).setCell ⟨b, 2, none⟩ a2) :=
  ((h.setCell (p := ⟨b, 0, none⟩) hb _).setCell (p := ⟨b, 1, none⟩) hb _).setCell (p := ⟨b, 2, none⟩) hb _
theorem align_ok (t a : Nat) (h : 1 ≤ a) : t ≤ (t + a - 1) / a * a ∧ (t + a - 1) / a * a ≤ t + a - 1 ∧ ((t : Int) + a - 1) / a * a = ((t + a - 1) / a * a : Nat) := by
  have h1 := Nat.div_add_mod (t + a - 1) a
  have h2 := Nat.mod_lt (t + a - 1) (show 0 < a by omega)
  have h3 : (t + a - 1) / a * a = a * ((t + a - 1) / a) := Nat.mul_comm _ _
  refine ⟨by omega, by omega, ?_⟩
  have e : ((t : Int) + a - 1) = ((t + a - 1 : Nat) : Int) := by omega
  rw [e]
  simp

set_option maxHeartbeats 4000000 in
set_option maxRecDepth 100000 in
theorem place_any (I : ArId) (F : Nat → Prop) (st : ArSt) (cv rv mv : Value) (n al : Nat) (w : World) (h : ArMem w F I st cv rv mv) (hok : RegsOk st.regs) (hco : ChksOk st.chunks) (hfi : Fits st) (hn : n ≤ 100000) (ha : 1 ≤ al ∧ al ≤ 64) :
    Calls Try.prog 41 #[.pointer (some ⟨I.r, 0, none⟩), .int .i64 n, .int .i64 al] w (PlacePost st.chunks st.regs n w) := by
  have W1 : Below w.heap.size w (w.alloc (.cells #[.int .i64 0, .int .i64 0, .int .i64 0] 92)) := (Below.refl _ _).alloc (Nat.le_refl _) _
  have hh := h.below W1
  obtain ⟨ca, cc, hcv, h1, h2, hc⟩ := hh.chks
  subst hcv
  obtain ⟨ra, rc, hrv, hr1, hr2, hrc⟩ := hh.regs
  subst hrv
  have HC := Lib.hid hc
  have OK := Lib.hid hco
  have c7 : (w.alloc (.cells #[.int .i64 0, .int .i64 0, .int .i64 0] 92)).cell? ⟨I.r, 7, none⟩ = some (.slice ca st.chunks.length cc) := by rw [cell_of hh.self]; rfl
  have b63 := hok.1
  have c63 := hco.1
  obtain ⟨ha1, ha2⟩ := ha
  have HW := Lib.hid W1
  -- the start of the search
  have START : Hid (∀ c0 a0 : Nat, (0 < st.regs.length → (st.regs.getD (st.regs.length - 1) Reg.zero).ch = c0 ∧ (st.regs.getD (st.regs.length - 1) Reg.zero).to ≤ a0) → ∀ ch at', ((ch = c0 ∧ at' = a0) ∨ (c0 < ch ∧ at' = 0)) → 0 < st.regs.length → (st.regs.getD (st.regs.length - 1) Reg.zero).ch < ch ∨ ((st.regs.getD (st.regs.length - 1) Reg.zero).ch = ch ∧ (st.regs.getD (st.regs.length - 1) Reg.zero).to ≤ at')) := Lib.hid (fun c0 a0 hs ch at' hca h0 => by
    obtain ⟨e1, e2⟩ := hs h0
    rcases hca with ⟨rfl, rfl⟩ | ⟨hlt, rfl⟩
    · exact Or.inr ⟨e1, e2⟩
    · left; omega)
  by_cases h0 : st.regs.length = 0
  · have hs0 := hh.self
    rw [h0] at hs0
    have LA := Lib.hid (last_nil _ _ _ _ _ _ _ _ _ _ _ _ _ _ _ hs0)
    have ST := Lib.hid (START.out 0 0 (fun h => by omega))
    have HN := Lib.hid h0
    generalize hI : I.r = r at *
    clear hc h hh hs0 h0 W1 hrc
    go_enter Try.func41, Try.ntmps41
    go_wp2_with fail
    refine LA.out.mono ?_
    rintro e w1 ⟨rfl, rfl⟩
    go_wp2_with fail
    go_loop [8, 9] (fun c a => ∃ ch at' : Nat, ch ≤ st.chunks.length ∧ c = .int .i64 ch ∧ a = .int .i64 at' ∧ at' ≤ 200000 ∧ ((ch = 0 ∧ at' = 0) ∨ (0 < ch ∧ at' = 0))) (fun c _ => st.chunks.length - (intOf c).toNat)
    case atStart => exact ⟨0, 0, Nat.zero_le _, rfl, rfl, by omega, Or.inl ⟨rfl, rfl⟩⟩
    case round =>
      obtain ⟨ch, at', hch, rfl, rfl, hat, hca⟩ := hrel
      have PL := Lib.hid (ST.out ch at' hca)
      have HCA := Lib.hid hca
      clear hca
      by_cases hlt : ch < st.chunks.length
      · obtain ⟨b1, o1, rfl, e0⟩ := HC.out ch hlt
        have q1 := OK.out.2 _ (getD_in Chk.zero hlt)
        unfold Chk.val at e0
        generalize hx : st.chunks.getD ch Chk.zero = y at *
        generalize hm : y.os.length = m at *
        by_cases hle : (at' : Int) ≤ (m : Int) - n
        · go_wp2_with fail
          refine bodyPost_ret (v := .tuple #[.agg #[.int .i64 ch, .int .i64 at', .int .i64 ((at' : Int) + n)], .bool true]) (by simp [results, Try.results41, go_sem]) rfl ⟨ch, at', true, by simp, ⟨fun _ => ⟨hlt, by rw [hx, hm]; omega⟩, fun h => (by cases h), PL.out⟩, by go_grown⟩
        · have hgt : (m : Int) - n < at' := by omega
          go_wp2_with fail
          go_round
          case rel => exact ⟨ch + 1, 0, by omega, by go_num, rfl, by omega, Or.inr ⟨by rcases HCA.out with x | x <;> omega, rfl⟩⟩
          case measure => simp [intOf]; omega
      · obtain rfl : ch = st.chunks.length := by omega
        clear hlt hch
        have PF := Lib.hid (fun h0 : 0 < st.regs.length => (Or.inl (by rw [HN.out] at h0; omega) : (st.regs.getD (st.regs.length - 1) Reg.zero).ch < st.chunks.length ∨ ((st.regs.getD (st.regs.length - 1) Reg.zero).ch = st.chunks.length ∧ (st.regs.getD (st.regs.length - 1) Reg.zero).to ≤ 0)))
        go_wp2_with fail
        refine bodyPost_ret (v := .tuple #[.agg #[.int .i64 st.chunks.length, .int .i64 0, .int .i64 n], .bool false]) (by simp [results, Try.results41, go_sem]) rfl ⟨st.chunks.length, 0, false, by simp, ⟨fun h => (by cases h), fun _ => ⟨rfl, rfl⟩, PF.out⟩, by go_grown⟩
  · have hl0 : st.regs.length - 1 < st.regs.length := by omega
    obtain ⟨b, o, cap, hrv2⟩ := shapeR hh.regs hl0
    obtain ⟨rfl, rfl⟩ : ra = some ⟨b, o, none⟩ ∧ rc = cap := by simp at hrv2; exact hrv2
    have LA := Lib.hid (last_some _ _ _ _ _ _ _ _ b o st.regs.length rc _ _ _ _ _ hh.self (by omega) (by omega))
    obtain ⟨r0, r1, r2, r3⟩ := reg_cells hh.regs _ hl0
    have hx := getD_in Reg.zero hl0
    have hin := (hfi _ hx).1
    have qto := (hok.2 _ hx).2
    obtain ⟨a1, a2, a3⟩ := align_ok (st.regs.getD (st.regs.length - 1) Reg.zero).to al ha1
    have ST := Lib.hid (START.out (st.regs.getD (st.regs.length - 1) Reg.zero).ch (((st.regs.getD (st.regs.length - 1) Reg.zero).to + al - 1) / al * al) (fun _ => ⟨rfl, a1⟩))
    replace r3 : (w.alloc (.cells #[.int .i64 0, .int .i64 0, .int .i64 0] 92)).cell? ⟨b, o + (st.regs.length - 1) * 4 + 1 + 2, none⟩ = some (.int .i64 (st.regs.getD (st.regs.length - 1) Reg.zero).to) := r3
    have blt := World.block_lt_of_cell? _ _ r0
    generalize hxx : st.regs.getD (st.regs.length - 1) Reg.zero = x at *
    generalize hI : I.r = r at *
    generalize ha0 : (x.to + al - 1) / al * al = A0 at *
    have d1 : 0 ≤ ((x.to : Int) + al - 1) / al := Int.ediv_nonneg (by omega) (by omega)
    have d2 : ((x.to : Int) + al - 1) / al ≤ 200000 := Int.le_trans (Int.ediv_le_self _ (by omega)) (by omega)
    have d3 : 0 ≤ ((x.to : Int) + al - 1) / al * al := by rw [a3]; omega
    have d4 : ((x.to : Int) + al - 1) / al * al ≤ 200000 := by rw [a3]; omega
    have A3 := Lib.hid a3
    have a3' : A0 ≤ 200000 := by omega
    have HX := Lib.hid hxx
    clear hc h hh W1 hrc hx hrv2 a3 hxx ha0
    have BW : Hid (∀ q, Below w.heap.size w ((w.alloc (.cells #[.int .i64 0, .int .i64 0, .int .i64 0] 92)).drewN q)) := Lib.hid (fun q => bdrewN HW.out q)
    go_enter Try.func41, Try.ntmps41
    go_wp2_with fail
    refine LA.out.mono ?_
    rintro e w1 ⟨rfl, q, rfl⟩
    go_wp2_with fail
    go_quiet (fail)
    go_wp2_with fail
    go_loopw [8, 9] (fun c a wr => (∃ q, wr = (w.alloc (.cells #[.int .i64 0, .int .i64 0, .int .i64 0] 92)).drewN q) ∧ ∃ ch at' : Nat, ch ≤ st.chunks.length ∧ c = .int .i64 ch ∧ a = .int .i64 at' ∧ at' ≤ 200000 ∧ ((ch = x.ch ∧ at' = A0) ∨ (x.ch < ch ∧ at' = 0))) (fun c _ _ => st.chunks.length - (intOf c).toNat)
    case atStart => exact ⟨⟨_, by first | rfl | exact World.drewN_drewN _ _ _⟩, x.ch, A0, by omega, rfl, by rw [A3.out], a3', Or.inl ⟨rfl, rfl⟩⟩
    case round =>
      obtain ⟨⟨q3, rfl⟩, ch, at', hch, rfl, rfl, hat, hca⟩ := hrel
      have PL := Lib.hid (ST.out ch at' hca)
      have HCA := Lib.hid hca
      clear hca
      by_cases hlt : ch < st.chunks.length
      · obtain ⟨b1, o1, rfl, e0⟩ := HC.out ch hlt
        have q1 := OK.out.2 _ (getD_in Chk.zero hlt)
        unfold Chk.val at e0
        generalize hx : st.chunks.getD ch Chk.zero = y at *
        generalize hm : y.os.length = m at *
        by_cases hle : (at' : Int) ≤ (m : Int) - n
        · go_wp2_with fail
          refine bodyPost_ret (v := .tuple #[.agg #[.int .i64 ch, .int .i64 at', .int .i64 ((at' : Int) + n)], .bool true]) (by simp [results, Try.results41, go_sem]) rfl ⟨ch, at', true, by simp, ⟨fun _ => ⟨hlt, by rw [hx, hm]; omega⟩, fun h => (by cases h), by rw [HX.out]; exact PL.out⟩, three_below (BW.out _) (Nat.le_refl _)⟩
        · have hgt : (m : Int) - n < at' := by omega
          go_wp2_with fail
          go_round
          case rel => exact ⟨⟨_, rfl⟩, ch + 1, 0, by omega, by go_num, rfl, by omega, Or.inr ⟨by rcases HCA.out with x | x <;> omega, rfl⟩⟩
          case measure => simp [intOf]; omega
      · obtain rfl : ch = st.chunks.length := by omega
        clear hlt hch
        have PF := Lib.hid (fun h0 : 0 < st.regs.length => (Or.inl (by omega) : x.ch < st.chunks.length ∨ (x.ch = st.chunks.length ∧ x.to ≤ 0)))
        go_wp2_with fail
        refine bodyPost_ret (v := .tuple #[.agg #[.int .i64 st.chunks.length, .int .i64 0, .int .i64 n], .bool false]) (by simp [results, Try.results41, go_sem]) rfl ⟨st.chunks.length, 0, false, by simp, ⟨fun h => (by cases h), fun _ => ⟨rfl, rfl⟩, by rw [HX.out]; exact PF.out⟩, three_below (BW.out _) (Nat.le_refl _)⟩

end Go.Proofs.Ytfolidedcejafaa
