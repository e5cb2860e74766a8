/-
  living, memory, Look, Where, Copy, Lost and marked of an arena: what they give where nothing is refused. Conditions: numbers in their bounds.
-/
import Derived.Test.YtfolidedcejafaaArenR
namespace Go.Proofs.Ytfolidedcejafaa
open Go.RowKit
set_option linter.unusedVariables false

theorem row_lower {W : World} {B B' e size n : Nat} {v : Value} {xs : List Value} (h : W.ownsRow B e size v n xs) (hB : B' ≤ B) : W.ownsRow B' e size v n xs := by
  refine ⟨h.1, ?_⟩
  rcases h.2 with h0 | ⟨g, cap, cur, rfl, hb, rest⟩
  · exact Or.inl h0
  · exact Or.inr ⟨g, cap, cur, rfl, Nat.le_trans hB hb, rest⟩
theorem res3b {W : World} {b : Nat} {x y z a c d : Value} {t : TypeId} (h : W.heap[b]? = some (.cells #[x, y, z] t (0, 0))) :
    (W.setCell ⟨b, 0, none⟩ a).cell? ⟨b, 0, none⟩ = some a ∧ ((W.setCell ⟨b, 0, none⟩ a).setCell ⟨b, 1, none⟩ c).cell? ⟨b, 1, none⟩ = some c ∧ (((W.setCell ⟨b, 0, none⟩ a).setCell ⟨b, 1, none⟩ c).setCell ⟨b, 2, none⟩ d).cell? ⟨b, 2, none⟩ = some d :=
  ⟨(cell_of (block_setCell h 0 a) 0).trans rfl, (cell_of (block_setCell (block_setCell h 0 a) 1 c) 1).trans rfl, (cell_of (block_setCell (block_setCell (block_setCell h 0 a) 1 c) 2 d) 2).trans rfl⟩
/-- A region's place in the list, the first with its number. -/
def FirstAt (L : List Reg) (no : Int) (k : Nat) : Prop := k < L.length ∧ (L.getD k Reg.zero).no = no ∧ ∀ j, j < k → (L.getD j Reg.zero).no ≠ no

theorem shapeR {w : World} {v : Value} {L : List Reg} (h : RegsIn w v L) {k : Nat} (hk : k < L.length) : ∃ b o cap, v = .slice (some ⟨b, o, none⟩) L.length cap := by
  obtain ⟨a, cap, rfl, _, _, hc⟩ := h
  obtain ⟨b, o, rfl, _⟩ := hc k hk
  exact ⟨b, o, cap, rfl⟩

set_option maxHeartbeats 1000000 in
set_option maxRecDepth 100000 in
theorem find_ok (I : ArId) (F : Nat → Prop) (st : ArSt) (cv : Value) (b o cap : Nat) (mv : Value) (no : Int) (k : Nat) (w : World) (h : ArMem w F I st cv (.slice (some ⟨b, o, none⟩) st.regs.length cap) mv) (hok : RegsOk st.regs) (hf : FirstAt st.regs no k) :
    Calls Try.prog 68 #[.pointer (some ⟨I.r, 0, none⟩), .int .i64 no] w (fun e w' => e = .returned (.pointer (some ⟨b, o + k * 4, none⟩)) ∧ w = w') := by
  have c8 : w.cell? ⟨I.r, 8, none⟩ = some (.slice (some ⟨b, o, none⟩) st.regs.length cap) := by rw [cell_of h.self]; rfl
  obtain ⟨a, cap', he, h1, h2, hc⟩ := h.regs
  have HC := Lib.hid hc
  have OK := Lib.hid hok
  have HF := Lib.hid hf
  generalize I.r = r at *
  generalize hL : st.regs = L at *
  obtain ⟨rfl, rfl⟩ : a = some ⟨b, o, none⟩ ∧ cap' = cap := by simp at he; exact ⟨he.1.symm, he.2.symm⟩
  have b63 : L.length ≤ 2000 := OK.out.1
  have hk := hf.1
  clear hc h hok hL hf he
  go_enter Try.func68, Try.ntmps68
  go_wp2_with fail
  go_loop [5, 11] (fun _ i => ∃ j : Nat, j ≤ k ∧ i = .int .i64 j) (fun _ i => L.length - (intOf i).toNat)
  case atStart => exact ⟨0, Nat.zero_le _, rfl⟩
  case round =>
    obtain ⟨j, hj, rfl⟩ := hrel
    have hlt : j < L.length := by omega
    obtain ⟨b', o', hbo, d0, d1, d2, d3⟩ := HC.out j hlt
    obtain ⟨rfl, rfl⟩ : b' = b ∧ o' = o := by simp at hbo; exact ⟨hbo.1.symm, hbo.2.symm⟩
    clear hbo d1 d2 d3
    by_cases hjk : j = k
    · subst hjk
      have hno := HF.out.2.1
      rw [hno] at d0
      clear hno
      go_wp2_with fail
      go_ret
      exact ⟨rfl, rfl⟩
    · have hne : ¬ ((L.getD j Reg.zero).no = no) := HF.out.2.2 j (by omega)
      generalize (L.getD j Reg.zero).no = x at *
      go_wp2_with fail
      go_round
      case rel => exact ⟨j + 1, by omega, by go_num⟩
      case measure => simp [intOf]; omega

set_option maxHeartbeats 1000000 in
set_option maxRecDepth 100000 in
theorem living_ok (I : ArId) (F : Nat → Prop) (st : ArSt) (cv : Value) (b o cap : Nat) (mv : Value) (no : Int) (k : Nat) (w : World) (h : ArMem w F I st cv (.slice (some ⟨b, o, none⟩) st.regs.length cap) mv) (hok : RegsOk st.regs) (hf : FirstAt st.regs no k) :
    Calls Try.prog 44 #[.pointer (some ⟨I.r, 0, none⟩), .int .i64 no] w (fun e w' => e = .returned (.tuple #[.pointer (some ⟨b, o + k * 4, none⟩), .int .i64 0]) ∧ w = w') := by
  have c6 : w.cell? ⟨I.r, 6, none⟩ = some (.bool false) := by rw [cell_of h.self]; rfl
  have FI := Lib.hid (find_ok I F st cv b o cap mv no k w h hok hf)
  generalize I.r = r at *
  clear h hok hf
  go_enter Try.func44, Try.ntmps44
  go_wp2_with fail
  refine FI.out.mono ?_
  rintro e w1 ⟨rfl, rfl⟩
  go_wp2_with fail
  go_ret2
  exact ⟨rfl, rfl⟩

/-- A stretch of a block. -/
def MemPost (b fr to : Nat) (w : World) : Ending → World → Prop := fun e w' => ∃ f, e = .returned (.slice f (to - fr) (to - fr)) ∧ (fr < to → f = some ⟨b, fr, none⟩) ∧ Below w.heap.size w w'
theorem mem_mk {b fr to A C : Nat} {w w' : World} {f : Option Addr} (hA : A = to - fr) (hC : C = to - fr) (h : fr < to → f = some ⟨b, fr, none⟩) (hb : Below w.heap.size w w') : MemPost b fr to w (.returned (.slice f A C)) w' := by
  subst hA hC
  exact ⟨f, rfl, h, hb⟩

set_option maxHeartbeats 2000000 in
set_option maxRecDepth 100000 in
theorem memory_any (I : ArId) (F : Nat → Prop) (st : ArSt) (cv rv mv : Value) (ch fr to : Nat) (w : World) (h : ArMem w F I st cv rv mv) (hok : ChksOk st.chunks) (h0 : ch < st.chunks.length) (h1 : fr ≤ to) (h2 : to ≤ (st.chunks.getD ch Chk.zero).os.length) :
    Calls Try.prog 43 #[.pointer (some ⟨I.r, 0, none⟩), .agg #[.int .i64 ch, .int .i64 fr, .int .i64 to]] w (MemPost (st.chunks.getD ch Chk.zero).b fr to w) := by
  have c7 : w.cell? ⟨I.r, 7, none⟩ = some cv := by rw [cell_of h.self]; rfl
  obtain ⟨a, cap, rfl, g1, g2, hc⟩ := h.chks
  obtain ⟨b, o, rfl, d0⟩ := hc ch h0
  have q1 := hok.2 _ (getD_in Chk.zero h0)
  have q2 := hok.1
  have rlt := lt_of h.self
  have dlt := World.block_lt_of_cell? w _ d0
  have W1 : Below w.heap.size w (w.alloc (.cells #[.int .i64 ch, .int .i64 fr, .int .i64 to] 92)) := (Below.refl _ _).alloc (Nat.le_refl _) _
  have e7 := old_cell W1 c7
  have e0 := old_cell W1 d0
  have HW := Lib.hid W1
  unfold Chk.val at e0
  generalize I.r = r at *
  generalize st.chunks.getD ch Chk.zero = x at *
  generalize st.chunks.length = N at *
  generalize x.os.length = M at *
  generalize x.b = B at *
  clear hc h hok d0 c7 W1
  go_enter Try.func43, Try.ntmps43
  go_wp2_with fail
  go_quiet (fail)
  go_wp2_with fail
  all_goals
    go_ret
    refine mem_mk ?_ ?_ ?_ ?_
    · omega
    · omega
    · intro h'; first | rfl | omega
    · exact bdrewN ((Below.refl _ _).alloc (Nat.le_refl _) _) _

/-- The cells of a region behind a pointer. -/
theorem reg_cells {w : World} {b o cap : Nat} {L : List Reg} (h : RegsIn w (.slice (some ⟨b, o, none⟩) L.length cap) L) (k : Nat) (hk : k < L.length) :
    w.cell? ⟨b, o + k * 4, none⟩ = some (.int .i64 (L.getD k Reg.zero).no) ∧ w.cell? ⟨b, o + k * 4 + 1, none⟩ = some (.int .i64 (L.getD k Reg.zero).ch) ∧ w.cell? ⟨b, o + k * 4 + 2, none⟩ = some (.int .i64 (L.getD k Reg.zero).fr) ∧ w.cell? ⟨b, o + k * 4 + 3, none⟩ = some (.int .i64 (L.getD k Reg.zero).to) := by
  obtain ⟨a, cap', he, h1, h2, hc⟩ := h
  obtain ⟨b', o', hbo, d⟩ := hc k hk
  simp only [Value.slice.injEq] at he
  rw [← he.1] at hbo
  simp only [Option.some.injEq, Addr.mk.injEq, and_true] at hbo
  obtain ⟨rfl, rfl⟩ := hbo
  exact d

/-- The regions' numbers fit the chunks. -/
def Fits (st : ArSt) : Prop := ∀ x ∈ st.regs, x.ch < st.chunks.length ∧ x.to ≤ (st.chunks.getD x.ch Chk.zero).os.length
/-- What a region shows. -/
def ArSt.shows (st : ArSt) (x : Reg) : List Int := ((st.chunks.getD x.ch Chk.zero).os.drop x.fr).take x.len

def LookPost (b fr to : Nat) (w : World) : Ending → World → Prop := fun e w' => ∃ f, e = .returned (.tuple #[.slice f (to - fr) (to - fr), .int .i64 0]) ∧ (fr < to → f = some ⟨b, fr, none⟩) ∧ Below w.heap.size w w'

set_option maxHeartbeats 2000000 in
set_option maxRecDepth 100000 in
theorem arLook_ok (I : ArId) (F : Nat → Prop) (st : ArSt) (cv rv : Value) (mv : Value) (no : Int) (k : Nat) (w : World) (h : ArMem w F I st cv rv mv) (hok : RegsOk st.regs) (hco : ChksOk st.chunks) (hfi : Fits st) (hf : FirstAt st.regs no k) :
    Calls Try.prog 15 #[.pointer (some ⟨I.r, 0, none⟩), .int .i64 no] w (LookPost (st.chunks.getD (st.regs.getD k Reg.zero).ch Chk.zero).b (st.regs.getD k Reg.zero).fr (st.regs.getD k Reg.zero).to w) := by
  obtain ⟨b, o, cap, rfl⟩ := shapeR h.regs hf.1
  have LV := Lib.hid (living_ok I F st cv b o cap mv no k w h hok hf)
  obtain ⟨d0, d1, d2, d3⟩ := reg_cells h.regs k hf.1
  have hx := getD_in Reg.zero hf.1
  have ME := Lib.hid (memory_any I F st cv _ mv (st.regs.getD k Reg.zero).ch (st.regs.getD k Reg.zero).fr (st.regs.getD k Reg.zero).to w h hco (hfi _ hx).1 (hok.2 _ hx).1 (hfi _ hx).2)
  generalize I.r = r at *
  generalize st.regs.getD k Reg.zero = x at *
  generalize (st.chunks.getD x.ch Chk.zero).b = B at *
  clear h hok hco hfi hf hx
  go_enter Try.func15, Try.ntmps15
  go_wp2_with fail
  refine LV.out.mono ?_
  rintro e w1 ⟨rfl, rfl⟩
  go_wp2_with fail
  refine ME.out.mono ?_
  rintro e w1 ⟨f, rfl, hf, hb⟩
  have HF := Lib.hid hf
  have HB := Lib.hid hb
  clear hf hb
  go_wp2_with fail
  go_ret2
  exact ⟨f, rfl, HF.out, HB.out⟩

set_option maxHeartbeats 2000000 in
set_option maxRecDepth 100000 in
theorem arWhere_ok (I : ArId) (F : Nat → Prop) (st : ArSt) (cv rv : Value) (mv : Value) (no : Int) (k : Nat) (w : World) (h : ArMem w F I st cv rv mv) (hok : RegsOk st.regs) (hf : FirstAt st.regs no k) :
    Calls Try.prog 47 #[.pointer (some ⟨I.r, 0, none⟩), .int .i64 no] w (fun e w' => e = .returned (.tuple #[.agg #[.int .i64 (st.regs.getD k Reg.zero).ch, .int .i64 (st.regs.getD k Reg.zero).fr, .int .i64 (st.regs.getD k Reg.zero).to], .int .i64 0]) ∧ Below w.heap.size w w') := by
  obtain ⟨b, o, cap, rfl⟩ := shapeR h.regs hf.1
  have W1 : Below w.heap.size w (w.alloc (.cells #[.int .i64 0, .int .i64 0, .int .i64 0] 92)) := (Below.refl _ _).alloc (Nat.le_refl _) _
  have LV := Lib.hid (living_ok I F st cv b o cap mv no k _ (h.below W1) hok hf)
  obtain ⟨d0, d1, d2, d3⟩ := reg_cells (h.below W1).regs k hf.1
  generalize I.r = r at *
  generalize st.regs.getD k Reg.zero = x at *
  clear h hok hf
  go_enter Try.func47, Try.ntmps47
  go_wp2_with fail
  refine LV.out.mono ?_
  rintro e w1 ⟨rfl, rfl⟩
  go_wp2_with fail
  refine bodyPost_ret (v := .tuple #[.agg #[.int .i64 x.ch, .int .i64 x.fr, .int .i64 x.to], .int .i64 0]) (by simp [results, Try.results47, go_sem]) rfl ⟨rfl, by go_grown⟩

def ArCopyPost (zs : List Int) (w : World) : Ending → World → Prop := fun e w' => ∃ v, e = .returned (.tuple #[v, .int .i64 0]) ∧ w'.ownsRow w.heap.size 5 1 v zs.length (zs.map (Value.int .u8)) ∧ Below w.heap.size w w'

set_option maxHeartbeats 2000000 in
set_option maxRecDepth 100000 in
theorem arCopy_ok (I : ArId) (F : Nat → Prop) (st : ArSt) (cv rv : Value) (mv : Value) (no : Int) (k : Nat) (w : World) (h : ArMem w F I st cv rv mv) (hok : RegsOk st.regs) (hco : ChksOk st.chunks) (hfi : Fits st) (hf : FirstAt st.regs no k) :
    Calls Try.prog 48 #[.pointer (some ⟨I.r, 0, none⟩), .int .i64 no] w (ArCopyPost (st.shows (st.regs.getD k Reg.zero)) w) := by
  obtain ⟨b, o, cap, rfl⟩ := shapeR h.regs hf.1
  have LV := Lib.hid (living_ok I F st cv b o cap mv no k w h hok hf)
  obtain ⟨d0, d1, d2, d3⟩ := reg_cells h.regs k hf.1
  have hx := getD_in Reg.zero hf.1
  have hin := (hfi _ hx).1
  have ME := Lib.hid (memory_any I F st cv _ mv (st.regs.getD k Reg.zero).ch (st.regs.getD k Reg.zero).fr (st.regs.getD k Reg.zero).to w h hco hin (hok.2 _ hx).1 (hfi _ hx).2)
  have hrow := (h.mem _ (getD_in Chk.zero hin)).1
  have q1 := (hok.2 _ hx).1
  have q2 := (hfi _ hx).2
  have q3 := hco.2 _ (getD_in Chk.zero hin)
  have RP : Hid (∀ (w' : World) (f : Option Addr), Below w.heap.size w w' → ((st.regs.getD k Reg.zero).fr < (st.regs.getD k Reg.zero).to → f = some ⟨(st.chunks.getD (st.regs.getD k Reg.zero).ch Chk.zero).b, (st.regs.getD k Reg.zero).fr, none⟩) → Reads w' .u8 (.slice f ((st.regs.getD k Reg.zero).to - (st.regs.getD k Reg.zero).fr) ((st.regs.getD k Reg.zero).to - (st.regs.getD k Reg.zero).fr)) (st.shows (st.regs.getD k Reg.zero))) := Lib.hid (fun w' f hb hf => by
    have hr : byteRow w' _ _ := (hb.block _ (lt_of hrow)).trans hrow
    exact reads_part hr _ _ (by omega) (by omega) f (fun h0 => hf (by omega)))
  have hlen : (st.shows (st.regs.getD k Reg.zero)).length ≤ 100000 := by unfold ArSt.shows Reg.len; rw [List.length_take]; omega
  generalize st.shows (st.regs.getD k Reg.zero) = zs at *
  generalize I.r = r at *
  generalize st.regs.getD k Reg.zero = x at *
  generalize (st.chunks.getD x.ch Chk.zero).b = B at *
  clear h hok hco hfi hf hx hin hrow q1 q2 q3
  go_enter Try.func48, Try.ntmps48
  go_wp2_with fail
  refine LV.out.mono ?_
  rintro e w1 ⟨rfl, rfl⟩
  go_wp2_with fail
  refine ME.out.mono ?_
  rintro e w1 ⟨f, rfl, hf, hb⟩
  have CL := Lib.hid (clone_byte _ zs w1 (RP.out w1 f hb hf) (by omega))
  have HB := Lib.hid hb
  clear hf hb
  go_wp2_with fail
  refine CL.out.mono ?_
  rintro e w2 ⟨v, rfl, ho, hb2⟩
  have hs1 := HB.out.size
  have B2 := Lib.hid (HB.out.trans (hb2.mono hs1))
  have HO := Lib.hid (row_lower ho hs1)
  clear ho hb2
  go_wp2_with fail
  go_ret2
  exact ⟨v, rfl, HO.out, B2.out⟩

/-- The octets lost ahead of the last region's end. -/
def lostOf (st : ArSt) : Int := if st.regs.length = 0 then 0 else (((st.regs.getD (st.regs.length - 1) Reg.zero).to + sumN Chk.len (st.chunks.take (st.regs.getD (st.regs.length - 1) Reg.zero).ch) : Nat) : Int) - (sumN Reg.len st.regs : Nat)

set_option maxHeartbeats 2000000 in
set_option maxRecDepth 100000 in
theorem arLost_any (I : ArId) (F : Nat → Prop) (st : ArSt) (cv rv mv : Value) (w : World) (h : ArMem w F I st cv rv mv) (hok : RegsOk st.regs) (hco : ChksOk st.chunks) (hfi : Fits st) :
    Calls Try.prog 12 #[.pointer (some ⟨I.r, 0, none⟩)] w (IntPost (lostOf st) w) := by
  by_cases h0 : st.regs.length = 0
  · obtain ⟨a, cap, rfl, _⟩ := h.regs
    have hs := h.self
    rw [h0] at hs
    have LA := Lib.hid (last_nil _ _ _ _ _ _ _ _ _ _ _ _ _ _ w hs)
    have E := Lib.hid (show lostOf st = 0 from if_pos h0)
    generalize I.r = r at *
    clear h hok hco hfi h0 hs
    go_enter Try.func12, Try.ntmps12
    go_wp2_with fail
    refine LA.out.mono ?_
    rintro e w1 ⟨rfl, rfl⟩
    go_wp2_with fail
    go_ret
    exact ⟨by rw [E.out]; rfl, Below.refl _ _⟩
  · have hl : st.regs.length - 1 < st.regs.length := by omega
    obtain ⟨b, o, cap, rfl⟩ := shapeR h.regs hl
    have b63 := hok.1
    have LA := Lib.hid (last_some _ _ _ _ _ _ _ _ b o st.regs.length cap _ _ _ _ w h.self (by omega) (by omega))
    obtain ⟨d0, d1, d2, d3⟩ := reg_cells h.regs _ hl
    have hx := getD_in Reg.zero hl
    have hin := (hfi _ hx).1
    have q2 := (hok.2 _ hx).2
    have c7 : w.cell? ⟨I.r, 7, none⟩ = some cv := by rw [cell_of h.self]; rfl
    obtain ⟨ca, ccap, rfl, g1, g2, hc⟩ := h.chks
    have HC := Lib.hid hc
    have OK := Lib.hid hco
    have E := Lib.hid (show lostOf st = _ from if_neg h0)
    have LE := Lib.hid (fun (w' : World) (hb : Below w.heap.size w w') => arLen_any I F st _ _ mv w' (h.below hb) hok)
    have hsl := hok.sum st.regs.length
    rw [List.take_length] at hsl
    have c63 := hco.1
    generalize I.r = r at *
    generalize hLL : st.chunks = L at *
    generalize st.regs.getD (st.regs.length - 1) Reg.zero = x at *
    generalize sumN Reg.len st.regs = S at *
    generalize st.regs.length = n at *
    clear h hok hco hfi h0 hx hc hLL
    go_enter Try.func12, Try.ntmps12
    go_wp2_with fail
    refine LA.out.mono ?_
    rintro e w1 ⟨rfl, q, rfl⟩
    go_wp2_with fail
    go_quiet (fail)
    go_wp2_with fail
    go_loopw [4, 6, 27] (fun n _ i wr => ∃ k : Nat, k ≤ x.ch ∧ i = .int .i64 k ∧ n = .int .i64 (x.to + sumN Chk.len (L.take k) : Nat) ∧ Below w.heap.size w wr) (fun _ _ i _ => x.ch - (intOf i).toNat)
    case atStart => exact ⟨0, Nat.zero_le _, rfl, by simp [sumN], by first | exact bdrewN (Below.refl _ _) _ | exact bdrewN (bdrewN (Below.refl _ _) _) _⟩
    case round =>
      obtain ⟨k, hk, rfl, rfl, hbel⟩ := hrel
      have hs := OK.out.sum k
      have BL := Lib.hid hbel
      have hsz := hbel.size
      by_cases hlt : k < x.ch
      · obtain ⟨b1, o1, rfl, d0⟩ := HC.out k (by omega)
        have e0 := old_cell hbel d0
        clear d0 hbel
        have S := Lib.hid (sumN_take Chk.len Chk.zero L k (by omega))
        have q1 := OK.out.2 _ (getD_in Chk.zero (show k < L.length by omega))
        unfold Chk.val at e0
        generalize hx : L.getD k Chk.zero = y at *
        have S2 : Hid (x.to + sumN Chk.len (L.take (k + 1)) = x.to + sumN Chk.len (L.take k) + y.os.length) := Lib.hid (by rw [S.out]; unfold Chk.len; omega)
        clear S hx
        generalize y.os.length = m at *
        generalize sumN Chk.len (L.take k) = N at *
        go_wp2_with fail
        go_round
        case rel => exact ⟨k + 1, by omega, by go_num, by rw [S2.out]; congr 1, BL.out⟩
        case measure => simp [intOf]; omega
      · obtain rfl : k = x.ch := by omega
        have LE2 := Lib.hid (LE.out _ hbel)
        clear hlt hk hbel
        generalize sumN Chk.len (L.take x.ch) = N at *
        go_wp2_with fail
        refine LE2.out.mono ?_
        rintro e w2 ⟨rfl, hb2⟩
        have HB2 := Lib.hid (BL.out.trans (hb2.mono hsz))
        clear hb2
        go_wp2_with fail
        go_ret
        refine ⟨?_, HB2.out⟩
        rw [E.out]
        rfl

set_option maxRecDepth 100000 in
theorem markedF_any (no many en no2 : Int) (B : Nat) (w : World) (hb : w.cell? ⟨B, 0, none⟩ = some (.int .i64 no2)) :
    Calls Try.prog 70 #[.agg #[.int .i64 no, .int .i64 many, .int .i64 en], .pointer (some ⟨B, 0, none⟩)] w (fun e w' => e = .returned (.bool (decide (no = no2))) ∧ Below w.heap.size w w') := by
  have W1 : Below w.heap.size w (w.alloc (.cells #[.int .i64 no, .int .i64 many, .int .i64 en] 88)) := (Below.refl _ _).alloc (Nat.le_refl _) _
  have e0 := old_cell W1 hb
  have HW := Lib.hid W1
  clear hb W1
  go_enter Try.func70, Try.ntmps70
  go_wp2_with fail
  go_ret
  exact ⟨by first | rfl | simp, HW.out⟩

/-- The first mark with a number. -/
def FirstMk (L : List Mk) (no : Int) (k : Nat) : Prop := k < L.length ∧ (L.getD k Mk.zero).no = no ∧ ∀ j, j < k → (L.getD j Mk.zero).no ≠ no

set_option maxHeartbeats 2000000 in
set_option maxRecDepth 100000 in
theorem idxMark_ok (v : Value) (L : List Mk) (B : Nat) (no : Int) (k : Nat) (w : World) (hr : MksIn w v L) (hl : L.length ≤ 1000) (hb : w.cell? ⟨B, 0, none⟩ = some (.int .i64 no)) (hf : FirstMk L no k) :
    Calls Try.prog 69 #[v, .func (.func 70) #[] #[.pointer (some ⟨B, 0, none⟩)]] w (IntPost k w) := by
  obtain ⟨a, cap, rfl, h1, h2, hc⟩ := hr
  have HC := Lib.hid hc
  have HF := Lib.hid hf
  have HB := Lib.hid hb
  have hk := hf.1
  clear hc hf hb
  go_enter Try.func69, Try.ntmps69
  go_wp2_with fail
  go_loopw [5, 8] (fun _ i wr => ∃ j : Nat, j ≤ k ∧ i = .int .i64 j ∧ Below w.heap.size w wr) (fun _ i _ => L.length - (intOf i).toNat)
  case atStart => exact ⟨0, Nat.zero_le _, rfl, Below.refl _ _⟩
  case round =>
    obtain ⟨j, hj, rfl, hbel⟩ := hrel
    have hlt : j < L.length := by omega
    obtain ⟨b1, o1, rfl, d0, d1, d2⟩ := HC.out j hlt
    have e0 := old_cell hbel d0
    have e1 := old_cell hbel d1
    have e2 := old_cell hbel d2
    have BL := Lib.hid hbel
    have hsz := hbel.size
    have MF := Lib.hid (fun (a b c : Int) => markedF_any a b c no B wr (old_cell hbel HB.out))
    clear d0 d1 d2 hbel
    have hcase : (L.getD j Mk.zero).no = no ↔ j = k := ⟨fun h => by
      rcases Nat.lt_or_ge j k with h' | h'
      · exact absurd h (HF.out.2.2 j h')
      · omega, fun h => by rw [h]; exact HF.out.2.1⟩
    have CS := Lib.hid hcase
    clear hcase
    generalize L.getD j Mk.zero = x at *
    go_wp2_with fail
    refine (MF.out _ _ _).mono ?_
    rintro e w1 ⟨rfl, hb1⟩
    have B1 := Lib.hid (BL.out.trans (hb1.mono hsz))
    clear hb1
    by_cases hjk : j = k
    · have hd := decide_eq_true (CS.out.2 hjk)
      subst hjk
      go_wp2_with fail
      go_ret
      exact ⟨rfl, B1.out⟩
    · have hd := decide_eq_false (fun h => hjk (CS.out.1 h))
      go_wp2_with fail
      go_round
      case rel => exact ⟨j + 1, by omega, by go_num, B1.out⟩
      case measure => simp [intOf]; omega

set_option maxHeartbeats 2000000 in
set_option maxRecDepth 100000 in
theorem marked_ok (I : ArId) (F : Nat → Prop) (st : ArSt) (cv rv mv : Value) (no : Int) (k : Nat) (w : World) (h : ArMem w F I st cv rv mv) (hl : st.marks.length ≤ 1000) (hf : FirstMk st.marks no k) :
    Calls Try.prog 50 #[.pointer (some ⟨I.r, 0, none⟩), .int .i64 no] w (IntPost k w) := by
  have W1 : Below w.heap.size w (w.alloc (.cells #[.int .i64 no] 3)) := (Below.refl _ _).alloc (Nat.le_refl _) _
  have c9 : (w.alloc (.cells #[.int .i64 no] 3)).cell? ⟨I.r, 9, none⟩ = some mv := by rw [cell_of (h.below W1).self]; rfl
  have hb : (w.alloc (.cells #[.int .i64 no] 3)).cell? ⟨w.heap.size, 0, none⟩ = some (.int .i64 no) := (cell_of (heap_alloc_new w _) 0).trans rfl
  have IX := Lib.hid (idxMark_ok mv st.marks w.heap.size no k _ (h.below W1).mks hl hb hf)
  have HW := Lib.hid W1
  generalize I.r = r at *
  clear h hl hf hb W1
  go_enter Try.func50, Try.ntmps50
  go_wp2_with fail
  refine IX.out.mono ?_
  rintro e w1 ⟨rfl, hb1⟩
  have B1 := Lib.hid (HW.out.trans (hb1.mono (by simp)))
  clear hb1
  go_wp2_with fail
  go_ret
  exact ⟨rfl, B1.out⟩

end Go.Proofs.Ytfolidedcejafaa
