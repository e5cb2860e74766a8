/-
  Slices of bytes that a call makes: make, copy; Made, Copied and the reference's. No conditions.
  Copied, and the reference's. No conditions.
  twice: the same memory for the program and for the reference. No conditions but the length's.
  Two copies, one behind the other, in plain Lean; what a replacing leaves. No program.
  slices.Clone, slices.Grow (of nil) and slices.Concat at []byte: what they give. No conditions but lengths.
-/
import Derived.Test.YtfnmjlnpfoclbaaGreatQueueRunsPad
import Derived.Laws.MakeOwn
import Derived.Laws.CopyOwn
import Derived.Deep.Upon
import Derived.Lib.AppendZeros

namespace Go.Proofs.YtfnmjlnpfoclbaaGreat
section
open Go.RowKit

/-- 'copy' into a row that is known: of the other blocks none has turned. -/
theorem wpList_copy_at {P : Program} {w : World} {ops : Array Oper} {rest : List Oper} {o : Oper} {a : Act} {Q : Exit → Act → World → Prop} (hgd : o.guard = none) (d s : Operand) (dT sT : TypeId)
    (ho : o.op = .call { callee := .builtin .copy, args := #[d, s], argTypes := #[dT, sT] }) (elem : TypeId) (hu : P.underlying dT = some (.slice elem)) (hsz : (P.info? elem).map (·.size) = some 1)
    (dp sp : Option Addr) (dLen dCap sLen sCap : Nat) (hd : a.eval d = .slice dp dLen dCap) (hs : a.eval s = .slice sp sLen sCap)
    (g off : Nat) (cur : List Value) (t : TypeId) (hg : w.heap[g]? = some (.cells cur.toArray t (0, 0))) (cs : List Value) (hn : cs.length = Nat.min sLen dLen)
    (hpos : 0 < cs.length → dp = some ⟨g, off, none⟩ ∧ ∃ ad, sp = some ad ∧ ∀ j v, cs[j]? = some v → w.cell? (ad.add j) = some v)
    (hfit : off + cs.length ≤ cur.length) (h1 : ∀ v ∈ cs, v.oneCell' = true)
    (h : ∀ w', w'.heap[g]? = some (.cells (splice cur off cs).toArray t (0, 0)) → Touch (fun k => k = g) w w' → wpList P ops Q rest (a.put o.dst (goInt cs.length)) w') :
    wpList P ops Q (o :: rest) a w := by
  by_cases h0 : cs.length = 0
  · obtain rfl : cs = [] := List.eq_nil_of_length_eq_zero h0
    refine wpList_copy_nothing hgd d s dT sT ho elem hu hsz dp sp dLen dCap sLen sCap hd hs (by simpa using hn.symm) ?_
    exact h w (by simpa [splice] using hg) (Touch.refl _ _)
  · obtain ⟨rfl, ad, rfl, hsrc⟩ := hpos (by omega)
    refine wpList_copy_own hgd d s dT sT ho elem hu hsz g off dLen dCap ad sLen sCap hd hs cur.toArray t hg cs hn hsrc (by simpa using hfit) h1 ?_
    exact h _ (by simpa [splice] using setRow_heap w g _ _ t _ hg) ⟨rfl, rfl, rfl, by simp [World.setRow], fun k _ hk => setRow_other w g k _ hk⟩

/-- A block of bytes. -/
def byteRow (w : World) (g : Nat) (cs : List Int) : Prop := w.heap[g]? = some (.cells (cs.map (Value.int .u8)).toArray 5 (0, 0))
def zeros (n : Nat) : List Int := List.replicate n 0

theorem made_zeros (n : Nat) : madeCells #[.int .u8 0] n = ((zeros n).map (Value.int .u8)).toArray := by
  apply Array.ext
  · simp [madeCells, zeros]
  · intro i h1 h2
    simp [madeCells, zeros, Nat.mod_one]

theorem run_makeBytes (w : World) (l c : Int) (h0 : 0 ≤ l) (hlc : l ≤ c) (hc : c ≤ 281474976710656) :
    (Instr.makeSlice 42 (.int .i64 l) (.int .i64 c)).run Tryz.prog w = .ok (.slice (some ⟨w.heap.size, 0, none⟩) l.toNat c.toNat) (w.alloc (.cells ((zeros c.toNat).map (Value.int .u8)).toArray 5)) := by
  obtain ⟨i0, hi, hz0, hz1, hz2⟩ := info_parts byteInfo0
  have h := run_make (P := Tryz.prog) w 42 5 i0 (.int .u8 0) Tryz.underlying42 hi hz0 .i64 .i64 l c h0 hlc (by rw [hz2]; omega) (by omega)
  rw [h]
  simp only [Value.cells, hz1, Nat.mul_one]
  rw [made_zeros]

def madeE (n have' : Int) : Int := if (0 ≤ have' ∧ have' ≤ 100000) ∧ (0 ≤ n ∧ n ≤ have') then 0 else 2
def MadePost (n have' : Int) (w : World) : Ending → World → Prop := fun e w' =>
  (madeE n have' = 0 ∧ e = .returned (.tuple #[.slice (some ⟨w.heap.size, 0, none⟩) n.toNat have'.toNat, .int .i64 0]) ∧ w' = w.alloc (.cells ((zeros have'.toNat).map (Value.int .u8)).toArray 5)) ∨
  (madeE n have' = 2 ∧ e = .returned (.tuple #[.slice none 0 0, .int .i64 2]) ∧ w' = w)

set_option maxHeartbeats 1000000 in
theorem made_any (n h : Int) (w : World) : Calls Tryz.prog 68 #[.int .i64 n, .int .i64 h] w (MadePost n h w) := by
  by_cases h1 : 0 ≤ h ∧ h ≤ 100000
  · by_cases h2 : 0 ≤ n ∧ n ≤ h
    · have E := Lib.hid (show madeE n h = 0 from by unfold madeE; rw [if_pos ⟨h1, h2⟩])
      have MK := fun w => run_makeBytes w n h h2.1 h2.2 (by omega)
      obtain ⟨a1, a2⟩ := h1
      obtain ⟨a3, a4⟩ := h2
      go_enter Tryz.func68, Tryz.ntmps68
      go_wp2_with fail
      refine (within_room_yes _ _ _ _ a1 a2).mono ?_
      rintro e w' ⟨rfl, rfl⟩
      go_wp2_with fail
      refine (within_room_yes _ _ _ _ a3 a4).mono ?_
      rintro e w' ⟨rfl, rfl⟩
      go_wp2_with fail
      go_ret2
      exact Or.inl ⟨E.out, rfl, rfl⟩
    · have E := Lib.hid (show madeE n h = 2 from by unfold madeE; rw [if_neg (fun x => h2 x.2)])
      have H2 := Lib.hid h2
      obtain ⟨a1, a2⟩ := h1
      clear h2
      go_enter Tryz.func68, Tryz.ntmps68
      go_wp2_with fail
      refine (within_room_yes _ _ _ _ a1 a2).mono ?_
      rintro e w' ⟨rfl, rfl⟩
      go_wp2_with fail
      refine (within_room_no _ _ _ _ H2.out).mono ?_
      rintro e w' ⟨rfl, rfl⟩
      go_wp2_with fail
      go_ret2
      exact Or.inr ⟨E.out, rfl, rfl⟩
  · have E := Lib.hid (show madeE n h = 2 from by unfold madeE; rw [if_neg (fun x => h1 x.1)])
    have H1 := Lib.hid h1
    clear h1
    go_enter Tryz.func68, Tryz.ntmps68
    go_wp2_with fail
    refine (within_room_no _ _ _ _ H1.out).mono ?_
    rintro e w' ⟨rfl, rfl⟩
    go_wp2_with fail
    go_ret2
    exact Or.inr ⟨E.out, rfl, rfl⟩

end
end Go.Proofs.YtfnmjlnpfoclbaaGreat

namespace Go.Proofs.YtfnmjlnpfoclbaaGreat
section
open Go.RowKit

theorem byteSize : (Tryz.prog.info? 5).map (·.size) = some 1 := by
  obtain ⟨i0, hi, _, h, _⟩ := info_parts byteInfo0
  rw [hi]; simp [h]

/-- What 'copy' of the list zs reads. -/
theorem Reads.src {w : World} {p : Option Addr} {n m : Nat} {zs : List Int} (h : Reads w .u8 (.slice p n m) zs) (hn : zs.length = n) (h0 : 0 < (zs.map (Value.int .u8)).length) :
    ∃ ad, p = some ad ∧ ∀ j v, (zs.map (Value.int .u8))[j]? = some v → w.cell? (ad.add j) = some v := by
  have hc := h.cells hn
  obtain ⟨a, cap, e, hl, hr⟩ := h
  simp only [Value.slice.injEq] at e
  obtain ⟨rfl, _, _⟩ := e
  obtain ⟨b, o, rfl, _⟩ := hr (by intro e; subst e; simp at h0)
  exact ⟨_, rfl, hc _ rfl⟩

theorem splice_zeros (zs : List Int) (H : Nat) : splice ((zeros H).map (Value.int .u8)) 0 (zs.map (Value.int .u8)) = (zs ++ zeros (H - zs.length)).map (Value.int .u8) := by
  simp [splice, zeros]

def CopyRow (zs : List Int) (H : Nat) (w : World) : Ending → World → Prop := fun e w' =>
  ∃ g, w.heap.size ≤ g ∧ e = .returned (.slice (some ⟨g, 0, none⟩) zs.length H) ∧ byteRow w' g (zs ++ zeros (H - zs.length)) ∧ Below w.heap.size w w'

def copE (n : Nat) (h : Int) : Int := if 100000 < n then 4 else if (0 ≤ h ∧ h ≤ 100000) ∧ (n : Int) ≤ h then 0 else 2
def CopyPost (zs : List Int) (h : Int) (w : World) : Ending → World → Prop := fun e w' => Below w.heap.size w w' ∧
  ((copE zs.length h = 0 ∧ ∃ g, w.heap.size ≤ g ∧ e = .returned (.tuple #[.slice (some ⟨g, 0, none⟩) zs.length h.toNat, .int .i64 0]) ∧ byteRow w' g (zs ++ zeros (h.toNat - zs.length))) ∨
  (copE zs.length h ≠ 0 ∧ e = .returned (.tuple #[.slice none 0 0, .int .i64 (copE zs.length h)])))

end
end Go.Proofs.YtfnmjlnpfoclbaaGreat

namespace Go.Proofs.YtfnmjlnpfoclbaaGreat
section
open Go.RowKit

def bytes (cs : List Int) : Prop := ∀ z ∈ cs, 0 ≤ z ∧ z ≤ 255
theorem bytes_zeros (n : Nat) : bytes (zeros n) := by intro z hz; simp [zeros] at hz; omega
theorem bytes_set {cs : List Int} (h : bytes cs) (k : Nat) (z : Int) (z0 : 0 ≤ z) (z1 : z ≤ 255) : bytes (cs.set k z) := by
  intro y hy
  rcases List.mem_or_eq_of_mem_set hy with h1 | rfl
  · exact h y h1
  · exact ⟨z0, z1⟩

theorem byteRow.cell {w : World} {g : Nat} {cs : List Int} (h : byteRow w g cs) (j : Nat) (hj : j < cs.length) : w.cell? ⟨g, j, none⟩ = some (.int .u8 (cs.getD j 0)) := by
  rw [cell_of h]; simp [List.getD_eq_getElem?_getD, hj]
theorem byteRow.set {w : World} {g : Nat} {cs : List Int} (h : byteRow w g cs) (j : Nat) (z : Int) : byteRow (w.setCell ⟨g, j, none⟩ (.int .u8 z)) g (cs.set j z) := by
  have := block_setCell h j (.int .u8 z)
  unfold byteRow
  rw [this]
  simp [List.map_set]
theorem byteRow.other {w : World} {g g' : Nat} {cs : List Int} (h : byteRow w g cs) (hne : g ≠ g') (j : Nat) (u : Value) : byteRow (w.setCell ⟨g', j, none⟩ u) g cs :=
  (Below.heap_setCell w ⟨g', j, none⟩ u g (fun e => hne e)).trans h

theorem splice_map (cs zs : List Int) : (splice cs 0 zs).map (Value.int .u8) = splice (cs.map (Value.int .u8)) 0 (zs.map (Value.int .u8)) := by simp [splice]
theorem bytes_splice {cs zs : List Int} (h : bytes cs) (hz : bytes zs) : bytes (splice cs 0 zs) := by
  intro z hm
  simp only [splice, List.take_zero, List.nil_append, List.mem_append] at hm
  rcases hm with h1 | h1
  · exact hz z h1
  · exact h z (List.mem_of_mem_drop h1)

theorem copy_src {w W : World} {a : Option Addr} {cap : Nat} {zs : List Int} (hr : Reads w .u8 (.slice a zs.length cap) zs) (hb : Below w.heap.size w W) (g : Nat) :
    0 < (zs.map (Value.int .u8)).length → some (⟨g, 0, none⟩ : Addr) = some ⟨g, 0, none⟩ ∧ ∃ ad, a = some ad ∧ ∀ j v, (zs.map (Value.int .u8))[j]? = some v → W.cell? (ad.add j) = some v :=
  fun h0 => ⟨rfl, (hr.below hb rfl).src rfl h0⟩

/-- Two rows of the call's own that hold the same. -/
def TwicePost (n H : Nat) (w : World) : Ending → World → Prop := fun e w' =>
  ∃ g g' cs, g ≠ g' ∧ w.heap.size ≤ g ∧ w.heap.size ≤ g' ∧ e = .returned (.tuple #[.slice (some ⟨g, 0, none⟩) n H, .slice (some ⟨g', 0, none⟩) n H]) ∧ byteRow w' g cs ∧ byteRow w' g' cs ∧ cs.length = H ∧ bytes cs ∧ Below w.heap.size w w'

end
end Go.Proofs.YtfnmjlnpfoclbaaGreat

namespace Go.Proofs.YtfnmjlnpfoclbaaGreat
section

theorem splice_len {α : Type} (ds T : List α) (f : Nat) (h : f + T.length ≤ ds.length) : (splice ds f T).length = ds.length := by
  simp [splice]; omega

theorem splice2 (ds zs T : List Int) (f : Nat) (h : f + zs.length + T.length ≤ ds.length) :
    (splice (splice ds (f + zs.length) T) f zs).take (f + zs.length + T.length) = ds.take f ++ zs ++ T := by
  apply List.ext_getElem?
  intro i
  simp only [splice, List.getElem?_take, List.getElem?_append, List.getElem?_drop, List.length_take, List.length_append, List.length_drop]
  grind

end
end Go.Proofs.YtfnmjlnpfoclbaaGreat

namespace Go.Proofs.YtfnmjlnpfoclbaaGreat
section
open Go.RowKit

theorem infoB1 : (Tryz.prog.info? 5).map (fun i => (i.zero, i.size, i.bytes)) = some (some (.int .u8 0), 1, 1) := by kernel_rfl

theorem row_base2 {B : Nat} {v : Value} {n : Nat} {xs : List Value} {e : TypeId} {W : World} (h : W.ownsRow B e 1 v n xs) {k : Nat} (hk : v.ownBlock = some k) : B ≤ k := by
  rcases h.2 with ⟨rfl, _⟩ | ⟨g, cap, cur, rfl, hb, _⟩
  · simp [Value.ownBlock] at hk
  · simp [Value.ownBlock] at hk; omega

theorem ownsRow_lt2 {W : World} {B e : Nat} {v : Value} {n : Nat} {xs : List Value} (h : W.ownsRow B e 1 v n xs) : ∃ a c, v = .slice a n c ∧ n ≤ c ∧ c ≤ maxLen := by
  rcases h.2 with ⟨rfl, rfl⟩ | ⟨g, cap, cur, rfl, _, _, h1, h2, _⟩
  · exact ⟨_, _, rfl, Nat.le_refl _, Nat.zero_le _⟩
  · exact ⟨_, _, rfl, h1, h2⟩

/-- 'append(v, s...)' onto a row of the call's own, whatever s is. -/
theorem wpList_append_reads {ops : Array Oper} {rest : List Oper} {o : Oper} {a : Act} {Q : Exit → Act → World → Prop} (hgd : o.guard = none) (s x : Operand)
    (ho : o.op = .call { callee := .builtin .append, args := #[s, x], argTypes := #[42, 42] })
    (base : Nat) (w : World) (v : Value) (n : Nat) (xs : List Int) (hs : a.eval s = v) (hown : w.ownsRow base 5 1 v n (xs.map (Value.int .u8)))
    (sv : Value) (zs : List Int) (hx : a.eval x = sv) (hr : Reads w .u8 sv zs) (h63 : n + zs.length ≤ 140737488355328) (hbase : base ≤ w.heap.size)
    (h : ∀ v' w', w'.ownsRow base 5 1 v' (n + zs.length) ((xs ++ zs).map (Value.int .u8)) → w.grownBy w' v.ownBlock → wpList Tryz.prog ops Q rest (a.put o.dst v') w') :
    wpList Tryz.prog ops Q (o :: rest) a w := by
  obtain ⟨i0, hi, hz0, hz1, hz2⟩ := info_parts infoB1
  have hr' := hr
  obtain ⟨p, cap, rfl, hl, hc⟩ := hr
  cases p with
  | none =>
    have hz : zs = [] := by
      rcases List.eq_nil_or_concat zs with h' | ⟨l, y, h'⟩
      · exact h'
      · obtain ⟨b, o, h1, _⟩ := hc (by rw [h']; simp)
        cases h1
    subst hz
    obtain ⟨a1, c1, rfl, h1, h2⟩ := ownsRow_lt2 hown
    refine wpList_plain hgd fun K hK => ?_
    have hrun := run_append_nothing (P := Tryz.prog) w 42 42 o.type 5 i0 Tryz.underlying42 hi a1 n c1 h1 (.slice none 0 cap) (Src.ofNil w Tryz.underlying42 cap)
    unfold Oper.wp execOp
    simp only [List.length_nil] at hx
    simp only [ho, resolve, invoke, builtin, Sem.run_bind, Sem.run_pure, Result.andThen_ok, List.map_toArray, List.map_cons, List.map_nil, hs, hx, hrun]
    exact hK _ _ (h _ _ (by simpa using hown) (World.grownBy.refl _ _))
  | some ad =>
    have hcs := hr'.cells rfl
    refine wpList_append_own _ hgd s x 42 ho base 5 i0 (.int .u8 0) 1 1 Tryz.underlying42 hi hz0 hz1 hz2 rfl (by decide) v n _ hs hown ad zs.length cap (zs.map (Value.int .u8)) hx (by simp) (hcs _ rfl) ?_ ?_ (by omega) hbase ?_
    · intro u hu; obtain ⟨z, _, rfl⟩ := List.mem_map.1 hu; rfl
    · unfold maxLen; omega
    · intro v' w' h1 h2 _
      exact h v' w' (by simpa using h1) h2

def OwnBytes (zs : List Int) (w : World) : Ending → World → Prop := fun e w' =>
  ∃ v, e = .returned v ∧ w'.ownsRow w.heap.size 5 1 v zs.length (zs.map (Value.int .u8)) ∧ Below w.heap.size w w'

set_option maxHeartbeats 1000000 in
set_option maxRecDepth 100000 in
theorem clone_byte (v : Value) (zs : List Int) (w : World) (hr : Reads w .u8 v zs) (hreach : zs.length ≤ 140737488355328) :
    Calls Tryz.prog 66 #[v] w (OwnBytes zs w) := by
  have hr' := hr
  obtain ⟨a, cap, rfl, hl, hc⟩ := hr
  have hq := fun (w : World) (a : Option Addr) (n c : Nat) => Lib.run_eql_slice_nil (P := Tryz.prog) w 42 5 a n c 0 0 Tryz.underlying42
  cases a with
  | none =>
    have hz : zs = [] := by
      rcases List.eq_nil_or_concat zs with h | ⟨l, x, h⟩
      · exact h
      · obtain ⟨b, o, h1, _⟩ := hc (by rw [h]; simp)
        cases h1
    subst hz
    clear hc hr'
    go_enter Tryz.func66, Tryz.ntmps66
    go_wp2
    go_ret
    exact ⟨_, rfl, World.ownsRow_nil _ _ _ _, Below.refl _ _⟩
  | some ad =>
    have HR : Hid (Reads (w.alloc (.cells #[] 5)) .u8 (.slice (some ad) zs.length cap) zs) := Lib.hid (hr'.below ((Below.refl w.heap.size w).alloc (Nat.le_refl _) _) rfl)
    have HM : Hid (World.ownsRow (w.alloc (.cells #[] 5)) w.heap.size 5 1 (.slice (some ⟨w.heap.size, 0, none⟩) 0 0) 0 (([] : List Int).map (Value.int .u8))) := World.ownsRow_made w #[] 0 (Nat.le_refl _) (by unfold maxLen; omega) rfl
    clear hc hr'
    go_enter Tryz.func66, Tryz.ntmps66
    go_wp2_with (at_builtin; go_must (refine wpList_append_reads rfl (.tmp 5) (.tmp 6) rfl w.heap.size _ _ 0 [] rfl HM.out _ zs rfl HR.out (by omega) (by simp) ?_))
    intro v' w1 hown hg
    have hb : Below w.heap.size w w1 := ((Below.refl w.heap.size w).alloc (Nat.le_refl _) _).grown hg (by simp) (fun q hq => by simp [Value.ownBlock] at hq; omega)
    go_wp2_with fail
    go_ret
    exact ⟨_, rfl, by simpa using hown, hb⟩

/-- 'append(nil, make([]byte, n)...)'. -/
theorem wpList_append_zeros {ops : Array Oper} {rest : List Oper} {o : Oper} {a : Act} {Q : Exit → Act → World → Prop} (hgd : o.guard = none) (s x : Operand)
    (ho : o.op = .call { callee := .builtin .append, args := #[s, x], argTypes := #[42, 3] })
    (w : World) (n : Nat) (hs : a.eval s = .slice none 0 0) (hx : a.eval x = .int .i64 n) (h0 : 0 < n) (h63 : n ≤ 1000000000)
    (h : ∀ cap w', n ≤ cap → w'.ownsRow w.heap.size 5 1 (.slice (some ⟨w.heap.size, 0, none⟩) 0 cap) 0 [] → Below w.heap.size w w' → wpList Tryz.prog ops Q rest (a.put o.dst (.slice (some ⟨w.heap.size, 0, none⟩) n cap)) w') :
    wpList Tryz.prog ops Q (o :: rest) a w := by
  obtain ⟨i0, hi, hz0, hz1, hz2⟩ := info_parts infoB1
  have hrun := Lib.run_append_nil_zeros (P := Tryz.prog) w 42 3 o.type 5 i0 (.int .u8 0) .i64 .i64 Tryz.underlying42 Tryz.underlying3 hi hz0 n h0 (by omega) (by omega) (by rw [hz2]; omega)
  refine wpList_plain hgd fun K hK => ?_
  unfold Oper.wp execOp
  simp only [ho, resolve, invoke, builtin, Sem.run_bind, Sem.run_pure, Result.andThen_ok, List.map_toArray, List.map_cons, List.map_nil, hs, hx, hrun]
  refine hK _ _ (h _ _ ?_ ?_ ?_)
  · exact grownCap_ge _ _ _ _
  · refine ⟨by simp, Or.inr ⟨_, _, _, rfl, Nat.le_refl _, heap_alloc_new _ _, Nat.zero_le _, grownCap_le_maxLen _ _ _ _ (by unfold maxLen; omega), ?_, by simp⟩⟩
    have := grownCap_ge w n 0 5
    simp [size_zeroCells, Value.cells]
    omega
  · exact ((Below.refl _ w).drew).alloc (Nat.le_refl _) _


def catLen (els : List (Value × List Int)) (k : Nat) : Nat := ((els.take k).map Prod.snd).flatten.length
theorem catLen_succ (els : List (Value × List Int)) (k : Nat) (h : k < els.length) : catLen els (k + 1) = catLen els k + els[k].2.length := by
  unfold catLen
  rw [List.take_add_one, List.getElem?_eq_getElem h, List.map_append, List.flatten_append, List.length_append]
  congr 1
  simp
theorem catLen_le (els : List (Value × List Int)) (k : Nat) : catLen els k ≤ (els.map Prod.snd).flatten.length := by
  unfold catLen
  rw [List.map_take]
  conv => rhs; rw [← List.take_append_drop k (els.map Prod.snd)]
  rw [List.flatten_append, List.length_append]
  omega
theorem cat_succ (els : List (Value × List Int)) (k : Nat) (h : k < els.length) : ((els.take (k + 1)).map Prod.snd).flatten = ((els.take k).map Prod.snd).flatten ++ els[k].2 := by
  rw [List.take_add_one, List.getElem?_eq_getElem h, List.map_append, List.flatten_append]
  congr 1
  simp

end
end Go.Proofs.YtfnmjlnpfoclbaaGreat
